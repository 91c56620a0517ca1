/- Texts of the proof: ShoR9, ShoRA, ShoRB, ShoRC, ShoRD, ShoRE, ShoRF, ShoRG, ShoRH, ShoRI, ShoRJ, ShoRK, ShoRL, ShoRM, ShS7, ShoSA, ShoSB, ShoSC, ShoT1, ShoT2, ShoT3, ShoT4, ShoU1. -/
import Derived.Test.YtngfpadeebpoeaaGreatDoorP0
import Derived.Test.YtngfpadeebpoeaaGreatDoorP1
import Derived.Test.YtngfpadeebpoeaaGreatDoorP2
import Derived.Test.YtngfpadeebpoeaaGreatDoorP3
import Derived.Test.YtngfpadeebpoeaaGreatDoorP4
import Derived.Test.YtngfpadeebpoeaaGreatDoorP5
set_option linter.all false
set_option maxRecDepth 100000
namespace Go.Proofs.YtngfpadeebpoeaaGreatDoor
open Go.AM
theorem aqs {α:Type} {l:List α} {q:α→Bool} (h:∀ (i:Nat) (x:α),l[i]?=some x→q x=false):l.any q=false:=by
 rw [a0d];intro ha;obtain ⟨s,hs,hq⟩:=ui.1 ha;obtain ⟨i,hi,rfl⟩:=pu hs;rw [h i _ (ah hi)] at hq;cases hq
theorem aft {α:Type} {l:List α} {q:α→Bool} {i:Nat} {x:α} (hx:l[i]?=some x) (h:q x=true):l.any q=true:=ui.2 ⟨x,ak hx,h⟩
theorem amq {H:Heap} {m:Nat} {c:List V} (h:m < H.length):jm (H.set m (.cells 0 c)) m 0=some c:=by
 unfold jm;rw [kg h];rfl
def bfm (A:Heap) (q:Nat) (t:Option St):Prop:=∃ C' a b k,t=some (.ret,iw 99 [(4,.ref q 0 0),(5,bl true)],C')∧jm C' q 0=some [Iz a,Iz b,Iz k]∧Ext A C'
section
variable {CT:Nat→Option CFun}
set_option maxHeartbeats 1000000 in
theorem rf_l0 (h:R6T CT) (base:Nat) {A C0:Heap} {p q:Nat} (hb:base≤A.length) (hA:Ext A C0) (hq1:A.length≤q) (hq2:q < C0.length) {fv:V} {fs:List FunD} (hp:jm C0 p 0=some [fv]) (hq:jm C0 q 0=some [Iz 0,Iz 0,Iz 0]) (hr:sj A fv fs) (hs:Small fs) {i b:Nat} {f:FunD} {B:BlkD} (hf:fs[i]?=some f) (hB:f.blocks[b]?=some B) {n:Nat} (h29:n=2∨n=9) (c0:Int):
 (B.code.any (ofI n)=false∧∃ C' c',itW (evC (dn CT) itW base ag6) [] C0.length (iw 99 [(1,.s (.int .u8 n)),(2,.ref p 0 0),(4,.ref q 0 0),(6,.s (.int .i64 c0)),(7,Iz i),(8,Iz b),(9,Iz 0)]) C0=some (.ext 4,iw 99 [(1,.s (.int .u8 n)),(2,.ref p 0 0),(4,.ref q 0 0),(6,.s (.int .i64 c')),(7,Iz i),(8,Iz b),(9,Iz B.code.length),(78,bl false)],C')∧Ext C0 C')∨(B.code.any (ofI n)=true∧bfm A q (itW (evC (dn CT) itW base ag6) [] C0.length (iw 99 [(1,.s (.int .u8 n)),(2,.ref p 0 0),(4,.ref q 0 0),(6,.s (.int .i64 c0)),(7,Iz i),(8,Iz b),(9,Iz 0)]) C0)):=by
 have hfo:=hr.one;have hmf:=ak hf;have hmB:=ak hB;obtain ⟨a,r,a1,hrr,ld,a3⟩:=hr.at2 hf;obtain ⟨pv,bv,rfl,p1,p2,p3,hbv⟩:=id hrr;have hpo:=p1.one;have hbo:=hbv.one;obtain ⟨c,c1,c2⟩:=a3 2 _ rfl;obtain ⟨b1,rb,b2,hbb,_,b3⟩:=hbv.at2 hB;obtain ⟨cv,rfl,hcv⟩:=id hbb;obtain ⟨d,d1,d2⟩:=b3 1 _ rfl
 rcases aja (S:=Heap × Int) B.code.length (fun _ s=>Ext C0 s.1) (fun k=>∀ x,B.code[k]?=some x→ofI n x=false) (fun k s=>itW (evC (dn CT) itW base ag6) [] C0.length (iw 99 [(1,.s (.int .u8 n)),(2,.ref p 0 0),(4,.ref q 0 0),(6,.s (.int .i64 s.2)),(7,Iz i),(8,Iz b),(9,Iz k)]) s.1) (fun t=>B.code.any (ofI n)=true∧bfm A q t) (by
  intro k ⟨C,cn⟩ hk hE;dsimp only at hE
  have hlt':((k:Int) < ((B.code.length:Nat):Int)):=by omega
  have hwk:=w64 (n:=k) (by have:=hs.nc f hmf B hmB;omega)
  have hEA:Ext A C:=hA.trans hE
  have hbC:base≤C.length:=by have:=hEA.le;omega
  have hgp:=cz hp hE;have ldf:=ld C hEA;have cc3:=c2 C hEA;have d3:=d2 C hEA;have hpl:=(zi hcv hEA).len;have hx:B.code[k]?=some (B.code[k]):=ah hk;obtain ⟨x,hxe⟩:∃ x,B.code[k]=x:=⟨_,rfl⟩;rw [hxe] at hx;have hmx:=ak hx
  obtain ⟨H1,f1,x1⟩:=bc4 h base (A:=C) hbC hfo (nm:=f.name) (pv:=pv) (bv:=bv) hpo (wz hbv hEA) (k:=k) hB hx cn (by have:=hs.xs f hmf B hmB x hmx;omega) (by have:=hs.ls f hmf B hmB x hmx;omega) h29
  simp only [Iz,Sb,bl] at f1 ldf;cases e:ofI n x with
  | false=>
    rw [e] at f1
    refine .inl ⟨fun y hy=>by rw [hx] at hy;cases hy;exact e,(trim C0.length (iw 99 [(1,.s (.int .u8 n)),(2,.ref p 0 0),(4,.ref q 0 0),(6,.s (.int .i64 (IntKind.i64.wrap (cn+1)))),(7,Iz i),(8,Iz b),(9,Iz (k+1:Nat))]) H1,IntKind.i64.wrap (cn+1)),?_,(hE.trans x1).trim (af _) _⟩
    rw [dw];simp only [Iz,Sb,bl,ajh,aa,simprocAttr,hgp,a1,ldf,c1,cc3,b2,d1,d3,hpl,hlt',f1,hwk]
  | true=>
    rw [e] at f1;have hqH:=cz hq (hE.trans x1)
    have hbq:base≤q:=by omega
    refine .inr ⟨aft hx e,trim C0.length (iw 99 [(4,.ref q 0 0),(5,bl true)]) (H1.set q (.cells 0 [Iz i,Iz b,Iz k])),i,b,k,?_,aa3 (amq (by have:=(hE.trans x1).le;omega)) hq2,((hEA.trans x1).set hq1 _).trim hA.le _⟩
    simp only [Iz] at hqH;rw [dw]
    simp only [Iz,Sb,bl,ajh,aa,simprocAttr,hgp,a1,ldf,c1,cc3,b2,d1,d3,hpl,hlt',f1,hqH,hbq]) (C0,c0) (Ext.refl _) with ⟨e1,⟨C,cn⟩,e2,e3⟩ | ⟨e1,e2⟩
 ·refine .inl ⟨aqs (fun i x hx=>e1 i (ae.1 hx).1 x hx),trim C0.length (iw 99 [(1,.s (.int .u8 n)),(2,.ref p 0 0),(4,.ref q 0 0),(6,.s (.int .i64 cn)),(7,Iz i),(8,Iz b),(9,Iz B.code.length),(78,bl false)]) C,cn,?_,e3.trim (af _) _⟩;dsimp only at e2 e3;rw [ry] at e2;refine e2.trans ?_;have hEA:Ext A C:=hA.trans e3;have hgp:=cz hp e3;have cc3:=c2 C hEA;have d3:=d2 C hEA;have hpl:=(zi hcv hEA).len;rw [dw];simp only [Iz,bl,ajh,aa,simprocAttr,hgp,a1,c1,cc3,b2,d1,d3,hpl,jo]
 ·refine .inr ⟨e1,?_⟩;dsimp only at e2;rw [ry] at e2;exact e2
end
def a5v (n:Nat) (B:BlkD):Bool:=ofB n B || B.code.any (ofI n)
def a0a (n:Nat) (f:FunD):Bool:=ofF n f || f.blocks.any (a5v n)
section
variable {CT:Nat→Option CFun}
set_option maxHeartbeats 1000000 in
theorem rf_l1 (h:R6T CT) (base:Nat) {A C0:Heap} {p q:Nat} (hb:base≤A.length) (hA:Ext A C0) (hq1:A.length≤q) (hq2:q < C0.length) {fv:V} {fs:List FunD} (hp:jm C0 p 0=some [fv]) (hq:jm C0 q 0=some [Iz 0,Iz 0,Iz 0]) (hr:sj A fv fs) (hs:Small fs) {i:Nat} {f:FunD} (hf:fs[i]?=some f) {n:Nat} (h29:n=2∨n=9) (c0:Int):
 (f.blocks.any (a5v n)=false∧∃ C' c',itW (evC (dn CT) itW base ag5) [] C0.length (iw 99 [(1,.s (.int .u8 n)),(2,.ref p 0 0),(4,.ref q 0 0),(6,.s (.int .i64 c0)),(7,Iz i),(8,Iz 0)]) C0=some (.ext 2,iw 99 [(1,.s (.int .u8 n)),(2,.ref p 0 0),(4,.ref q 0 0),(6,.s (.int .i64 c')),(7,Iz i),(8,Iz f.blocks.length),(52,bl false)],C')∧Ext C0 C')∨(f.blocks.any (a5v n)=true∧bfm A q (itW (evC (dn CT) itW base ag5) [] C0.length (iw 99 [(1,.s (.int .u8 n)),(2,.ref p 0 0),(4,.ref q 0 0),(6,.s (.int .i64 c0)),(7,Iz i),(8,Iz 0)]) C0)):=by
 have hfo:=hr.one;have hmf:=ak hf;obtain ⟨a,r,a1,hrr,ld,a3⟩:=hr.at2 hf;obtain ⟨pv,bv,rfl,p1,p2,p3,hbv⟩:=id hrr;have hpo:=p1.one;have hbo:=hbv.one;obtain ⟨c,c1,c2⟩:=a3 2 _ rfl
 rcases aja (S:=Heap × Int) f.blocks.length (fun _ s=>Ext C0 s.1) (fun k=>∀ x,f.blocks[k]?=some x→a5v n x=false) (fun k s=>itW (evC (dn CT) itW base ag5) [] C0.length (iw 99 [(1,.s (.int .u8 n)),(2,.ref p 0 0),(4,.ref q 0 0),(6,.s (.int .i64 s.2)),(7,Iz i),(8,Iz k)]) s.1) (fun t=>f.blocks.any (a5v n)=true∧bfm A q t) (by
  intro b ⟨C,cn⟩ hk hE;dsimp only at hE
  have hlt':((b:Int) < ((f.blocks.length:Nat):Int)):=by omega
  have hwk:=w64 (n:=b) (by have:=hs.nb f hmf;omega)
  have hEA:Ext A C:=hA.trans hE
  have hbC:base≤C.length:=by have:=hEA.le;omega
  have hgp:=cz hp hE;have ldf:=ld C hEA;have cc3:=c2 C hEA;have hpl:=(wz hbv hEA).len;have hx:f.blocks[b]?=some (f.blocks[b]):=ah hk;obtain ⟨B,hxe⟩:∃ x,f.blocks[b]=x:=⟨_,rfl⟩;rw [hxe] at hx;obtain ⟨H1,f1,x1⟩:=bc5 h base (A:=C) hbC (nm:=f.name) (pv:=pv) (bv:=bv) hpo (wz hbv hEA) hx h29;have hE1:=hE.trans x1;simp only [Iz,Sb,bl] at f1 ldf;cases e:ofB n B with
  | true=>
    rw [e] at f1;have hqH:=cz hq hE1
    have hbq:base≤q:=by omega
    refine .inr ⟨aft hx (by unfold a5v;rw [e];rfl),trim C0.length (iw 99 [(4,.ref q 0 0),(5,bl true)]) (H1.set q (.cells 0 [Iz i,Iz b,Iz 0])),i,b,0,?_,aa3 (amq (by have:=hE1.le;omega)) hq2,((hEA.trans x1).set hq1 _).trim hA.le _⟩
    simp only [Iz] at hqH;rw [dw];simp only [Iz,Sb,bl,ajh,aa,simprocAttr,hgp,a1,ldf,c1,cc3,hpl,hlt',f1,hqH,hbq]
  | false=>
    rw [e] at f1
    have hab:a5v n B=B.code.any (ofI n):=by unfold a5v;rw [e];rfl
    rcases rf_l0 h base (A:=A) (C0:=H1) hb (hEA.trans x1) hq1 (by have:=hE1.le;omega) (cz hp hE1) (cz hq hE1) hr hs hf hx h29 cn with ⟨g1,C',c',g2,g3⟩ | ⟨g1,C',za,zb,zk,g2,g3,g4⟩
    ·refine .inl ⟨fun y hy=>by rw [hx] at hy;cases hy;rw [hab];exact g1,(trim C0.length (iw 99 [(1,.s (.int .u8 n)),(2,.ref p 0 0),(4,.ref q 0 0),(6,.s (.int .i64 c')),(7,Iz i),(8,Iz (b+1:Nat))]) C',c'),?_,(hE1.trans g3).trim (af _) _⟩
     simp only [Iz,bl] at g2;rw [dw];simp only [Iz,Sb,bl,ajh,aa,simprocAttr,hgp,a1,ldf,c1,cc3,hpl,hlt',f1,g2,hwk]
    ·refine .inr ⟨aft hx (by rw [hab];exact g1),trim C0.length (iw 99 [(4,.ref q 0 0),(5,bl true)]) C',za,zb,zk,?_,aa3 g3 hq2,g4.trim hA.le _⟩
     simp only [Iz,bl] at g2;rw [dw]
     simp only [Iz,Sb,bl,ajh,aa,simprocAttr,hgp,a1,ldf,c1,cc3,hpl,hlt',f1,g2]) (C0,c0) (Ext.refl _) with ⟨e1,⟨C,cn⟩,e2,e3⟩ | ⟨e1,e2⟩
 ·refine .inl ⟨aqs (fun i x hx=>e1 i (ae.1 hx).1 x hx),trim C0.length (iw 99 [(1,.s (.int .u8 n)),(2,.ref p 0 0),(4,.ref q 0 0),(6,.s (.int .i64 cn)),(7,Iz i),(8,Iz f.blocks.length),(52,bl false)]) C,cn,?_,e3.trim (af _) _⟩;dsimp only at e2 e3;rw [ry] at e2;refine e2.trans ?_;have hEA:Ext A C:=hA.trans e3;have hgp:=cz hp e3;have cc3:=c2 C hEA;have hpl:=(wz hbv hEA).len;rw [dw];simp only [Iz,bl,ajh,aa,simprocAttr,hgp,a1,c1,cc3,hpl,jo]
 ·refine .inr ⟨e1,?_⟩;dsimp only at e2;rw [ry] at e2;exact e2
set_option maxHeartbeats 1000000 in
theorem rf_l2 (h:R6T CT) (base:Nat) {A C0:Heap} {p q:Nat} (hb:base≤A.length) (hA:Ext A C0) (hq1:A.length≤q) (hq2:q < C0.length) {fv:V} {fs:List FunD} (hp:jm C0 p 0=some [fv]) (hq:jm C0 q 0=some [Iz 0,Iz 0,Iz 0]) (hr:sj A fv fs) (hs:Small fs) {n:Nat} (h29:n=2∨n=9) (c0:Int):
 (fs.any (a0a n)=false∧∃ C' c',itW (evC (dn CT) itW base ag4) [] C0.length (iw 99 [(1,.s (.int .u8 n)),(2,.ref p 0 0),(4,.ref q 0 0),(6,.s (.int .i64 c0)),(7,Iz 0)]) C0=some (.ext 0,iw 99 [(1,.s (.int .u8 n)),(2,.ref p 0 0),(4,.ref q 0 0),(6,.s (.int .i64 c')),(7,Iz fs.length),(35,bl false)],C')∧Ext C0 C')∨(fs.any (a0a n)=true∧bfm A q (itW (evC (dn CT) itW base ag4) [] C0.length (iw 99 [(1,.s (.int .u8 n)),(2,.ref p 0 0),(4,.ref q 0 0),(6,.s (.int .i64 c0)),(7,Iz 0)]) C0)):=by
 have hfo:=hr.one
 rcases aja (S:=Heap × Int) fs.length (fun _ s=>Ext C0 s.1) (fun k=>∀ x,fs[k]?=some x→a0a n x=false) (fun k s=>itW (evC (dn CT) itW base ag4) [] C0.length (iw 99 [(1,.s (.int .u8 n)),(2,.ref p 0 0),(4,.ref q 0 0),(6,.s (.int .i64 s.2)),(7,Iz k)]) s.1) (fun t=>fs.any (a0a n)=true∧bfm A q t) (by
  intro i ⟨C,cn⟩ hk hE;dsimp only at hE
  have hlt':((i:Int) < ((fs.length:Nat):Int)):=by omega
  have hwk:=w64 (n:=i) (by have:=hs.n;omega)
  have hEA:Ext A C:=hA.trans hE
  have hbC:base≤C.length:=by have:=hEA.le;omega
  have hgp:=cz hp hE;have hrC:=hr.ext hEA;have hpl:=RdL.len hrC;have hx:fs[i]?=some (fs[i]):=ah hk;obtain ⟨f,hxe⟩:∃ x,fs[i]=x:=⟨_,rfl⟩;rw [hxe] at hx;have hmf:=ak hx
  obtain ⟨H1,f1,x1⟩:=bhh h base (A:=C) hbC hrC hx (by have:=hs.ps f hmf;omega) h29
  have hE1:=hE.trans x1;simp only [Iz,Sb,bl] at f1;cases e:ofF n f with
  | true=>
    rw [e] at f1;have hqH:=cz hq hE1
    have hbq:base≤q:=by omega
    refine .inr ⟨aft hx (by unfold a0a;rw [e];rfl),trim C0.length (iw 99 [(4,.ref q 0 0),(5,bl true)]) (H1.set q (.cells 0 [Iz i,Iz 0,Iz 0])),i,0,0,?_,aa3 (amq (by have:=hE1.le;omega)) hq2,((hEA.trans x1).set hq1 _).trim hA.le _⟩
    simp only [Iz] at hqH;rw [dw];simp only [Iz,Sb,bl,ajh,aa,simprocAttr,hgp,hpl,hlt',f1,hqH,hbq]
  | false=>
    rw [e] at f1
    have hab:a0a n f=f.blocks.any (a5v n):=by unfold a0a;rw [e];rfl
    rcases rf_l1 h base (A:=A) (C0:=H1) hb (hEA.trans x1) hq1 (by have:=hE1.le;omega) (cz hp hE1) (cz hq hE1) hr hs hx h29 cn with ⟨g1,C',c',g2,g3⟩ | ⟨g1,C',za,zb,zk,g2,g3,g4⟩
    ·refine .inl ⟨fun y hy=>by rw [hx] at hy;cases hy;rw [hab];exact g1,(trim C0.length (iw 99 [(1,.s (.int .u8 n)),(2,.ref p 0 0),(4,.ref q 0 0),(6,.s (.int .i64 c')),(7,Iz (i+1:Nat))]) C',c'),?_,(hE1.trans g3).trim (af _) _⟩
     simp only [Iz,bl] at g2;rw [dw];simp only [Iz,Sb,bl,ajh,aa,simprocAttr,hgp,hpl,hlt',f1,g2,hwk]
    ·refine .inr ⟨aft hx (by rw [hab];exact g1),trim C0.length (iw 99 [(4,.ref q 0 0),(5,bl true)]) C',za,zb,zk,?_,aa3 g3 hq2,g4.trim hA.le _⟩
     simp only [Iz,bl] at g2;rw [dw]
     simp only [Iz,Sb,bl,ajh,aa,simprocAttr,hgp,hpl,hlt',f1,g2]) (C0,c0) (Ext.refl _) with ⟨e1,⟨C,cn⟩,e2,e3⟩ | ⟨e1,e2⟩
 ·refine .inl ⟨aqs (fun i x hx=>e1 i (ae.1 hx).1 x hx),trim C0.length (iw 99 [(1,.s (.int .u8 n)),(2,.ref p 0 0),(4,.ref q 0 0),(6,.s (.int .i64 cn)),(7,Iz fs.length),(35,bl false)]) C,cn,?_,e3.trim (af _) _⟩;dsimp only at e2 e3;rw [ry] at e2;refine e2.trans ?_;have hEA:Ext A C:=hA.trans e3;have hgp:=cz hp e3;have hpl:=RdL.len (hr.ext hEA);rw [dw];simp only [Iz,bl,ajh,aa,simprocAttr,hgp,hpl,jo]
 ·refine .inr ⟨e1,?_⟩;dsimp only at e2;rw [ry] at e2;exact e2
end
theorem a5u {fs:List FunD} {n:Nat} (h29:n=2∨n=9):(qh fs n).isSome=fs.any (a0a n):=by
 suffices main:qh fs n=none↔fs.any (a0a n)=false by
  cases e:qh fs n with
  | none=>rw [main.1 e];rfl
  | some t=>
    cases e2:fs.any (a0a n) with
    | true=>rfl
    | false=>rw [main.2 e2] at e;cases e
 have key:∀ {α:Type} {l:List α} {q:α→Bool},l.any q=false↔∀ (i:Nat) (x:α),l[i]?=some x→q x=false:=fun {α l q}=>⟨fun h i x hx=>(by
  cases e:q x with
  | false=>rfl
  | true=>
    rw [aft hx e] at h;cases h),aqs⟩
 rcases h29 with rfl | rfl
 ·show ags bnF fs 0=none↔_;rw [yh,key];refine forall_congr' fun i=>forall_congr' fun f=>imp_congr_right fun _=>?_;unfold bnF a0a
  have e1:ofF 2 f=((f.ps.any fun s=>!mh s) || !mh f.name):=rfl
  rw [e1,Bool.or_comm (f.ps.any _)]
  cases (!mh f.name || f.ps.any fun s=>!mh s) with
  | true=>simp
  | false=>
    rw [d9,if_neg (by decide),yh,key]
    refine forall_congr' fun b=>forall_congr' fun B=>imp_congr_right fun _=>?_;unfold bfl a5v;have e2:ofB 2 B=!mh B.label:=rfl;rw [e2];cases (!mh B.label) with
    | true=>simp
    | false=>
      rw [d9,if_neg (by decide),yh,key]
      refine forall_congr' fun k=>forall_congr' fun x=>imp_congr_right fun _=>?_;unfold bnI;have e3:ofI 2 x=bnB (bnA (shp x.op) x) (shp x.op) x:=bg6 x;rw [e3];cases bnB (bnA (shp x.op) x) (shp x.op) x <;> simp
 ·show aj2 (fun _=>fun _ _ _ x=>biG x) fs=none↔_;unfold aj2;rw [yh,key];refine forall_congr' fun i=>forall_congr' fun f=>imp_congr_right fun _=>?_;unfold giF a0a;have e1:ofF 9 f=false:=rfl;rw [e1,d9,yh,key];refine forall_congr' fun b=>forall_congr' fun B=>imp_congr_right fun _=>?_;unfold giB a5v;have e2:ofB 9 B=false:=rfl;rw [e2,d9,yh,key];refine forall_congr' fun k=>forall_congr' fun x=>imp_congr_right fun _=>?_;unfold giI;have e3:ofI 9 x=biG x:=bg7 x;rw [e3];cases e:biG x <;> simp [e]
section
variable {CT:Nat→Option CFun}
theorem jf3 (base:Nat) (H:Heap) {v1 v2 v4:V}:qb (dn CT) itW base R25_3t3 [11,23,24,25,26,27,28] (iw 99 [(1,v1),(2,v2),(4,v4),(25,V.s (Value.bool false)),(27,und)]) H=some (.nrm,iw 99 [(1,v1),(2,v2),(4,v4),(29,V.s (Value.bool false))],H):=by
 unfold qb;rw [evC_ops,show mi (dn CT) base R25_3t3 (iw 99 [(1,v1),(2,v2),(4,v4),(25,V.s (Value.bool false)),(27,und)]) H=some (iw 99 [(1,v1),(2,v2),(4,v4),(25,V.s (Value.bool false)),(27,und),(28,und),(29,V.s (Value.bool false))],H) from rfl,aca];rfl
theorem aow (h:R6T CT) (hT:CT bdr=some (.code aj1)) (base:Nat) {A:Heap} (hb:base≤A.length) {fv:V} {fs:List FunD} (hr:sj A fv fs) (hs:Small fs) {n:Nat} (h29:n=2∨n=9):
 ∃ H' a b k,dn CT (.fn bdr [] []) [.agg [fv],.s (.int .u8 n)] base A=some (.tup [.agg [Iz a,Iz b,Iz k],bl (qh fs n).isSome],H')∧Ext A H':=by
 have hfo:=hr.one;rw [a5u h29];obtain ⟨A1,hA1⟩:∃ A1,A ++ [Ob.cells 0 [fv]]=A1:=⟨_,rfl⟩
 have l1:A1.length=A.length+1:=by rw [← hA1,eu]
 obtain ⟨A2,hA2⟩:∃ A2,A1 ++ [Ob.cells 0 [Iz 0,Iz 0,Iz 0]]=A2:=⟨_,rfl⟩
 have l2:A2.length=A.length+2:=by rw [← hA2,eu,l1]
 have e1:Ext A A1:=hA1 ▸ Ext.app _ _;have e2:Ext A1 A2:=hA2 ▸ Ext.app _ _;have e12:=e1.trans e2;have hg1:jm A2 A.length 0=some [fv]:=cz (hA1 ▸ dh A 0 _) e2
 have hg2:jm A2 (A.length+1) 0=some [Iz 0,Iz 0,Iz 0]:=by rw [← l1,← hA2];exact dh A1 0 _
 have n1:(((n:Nat):Int) == 1)=false:=by rcases h29 with rfl | rfl <;> rfl
 have n4:(((n:Nat):Int) == 4)=false:=by rcases h29 with rfl | rfl <;> rfl
 rcases rf_l2 h base (A:=A) (C0:=A2) hb e12 (p:=A.length) (q:=A.length+1) (by omega) (by omega) hg1 hg2 hr hs h29 0 with ⟨g1,C',c',g2,g3⟩ | ⟨g1,C',za,zb,zk,g2,g3,g4⟩
 ·have hqC:=cz hg2 g3
  have hbq:base≤A.length+1:=by omega
  have hset:C'.set (A.length+1) (.cells 0 [Iz 0,Iz 0,Iz 0])=C':=by
   have hm:=acb hqC
   have:C'[A.length+1]?=some (.cells 0 [Iz 0,Iz 0,Iz 0]):=by
    unfold jm at hqC;split at hqC <;> simp_all
   rw [ah hm] at this;rw [← ic this];exact List.set_getElem_self hm
  have xR:aac C' true 3 (.ref (A.length+1) 0 0)=some (.agg [Iz 0,Iz 0,Iz 0]):=by
   have e:aac C' true 3 (.ref (A.length+1) 0 0)=tu C' true 3 (.ref (A.length+1) 0 0):=rfl;rw [e,r9,hqC];rfl
  refine ⟨C',0,0,0,gp (c:=aj1) (k:=2) hT rfl (by decide) alo ?_,e12.trans g3⟩
  rw [g1];simp only [Iz,bl] at g2 hA2 hqC hset xR;rw [l2] at g2;simp only [Iz,Sb,bl,aj1,ajh,aa,simprocAttr,jf3,jl,gu,ji,jk,hfo,hA1,l1,hA2,l2,n1,n4,g2,hqC,hbq,hset,xR]
 ·have xR:aac C' true 3 (.ref (A.length+1) 0 0)=some (.agg [Iz za,Iz zb,Iz zk]):=by
   have e:aac C' true 3 (.ref (A.length+1) 0 0)=tu C' true 3 (.ref (A.length+1) 0 0):=rfl;rw [e,r9,g3];rfl
  refine ⟨C',za,zb,zk,gp (c:=aj1) (k:=2) hT rfl (by decide) alo ?_,g4⟩
  rw [g1];simp only [Iz,bl] at g2 hA2 xR;rw [l2] at g2;simp only [Iz,Sb,bl,aj1,ajh,aa,simprocAttr,jf3,jl,gu,ji,jk,hfo,hA1,l1,hA2,l2,n1,n4,g2,xR]
end
def a6g (n:Nat):ByteArray:=⟨#[UInt8.ofNat (48+n)]⟩
theorem a0u (H:Heap) {n:Nat} (hn:n < 10):aea H (.subStr (.c (.s (.string ⟨#[48,49,50,51,52,53,54,55,56,57]⟩))) (some (.t 1)) (some (.t 2))) (some [.s (.string ⟨#[48,49,50,51,52,53,54,55,56,57]⟩),.s (.int .i64 (n:Nat)),.s (.int .i64 (n+1:Nat))])=some (.s (.string (a6g n))):=by
 rcases n with _ | _ | _ | _ | _ | _ | _ | _ | _ | _ | n
 all_goals first | rfl | omega
theorem bgt:¬ ((10:Int)=0):=by decide
section
variable {CT:Nat→Option CFun}
theorem ata (hT:CT avu=some (.code ag0)) {n:Nat} (hn:n < 10) (base:Nat) (H:Heap):dn CT (.fn avu [] []) [.s (.int .i64 n)] base H=some (Sb (a6g n),H):=by
 refine oo (c:=ag0) hT (by simp [ag0]) ?_
 have hlt:((n:Int) < 10):=by omega
 have hw:IntKind.i64.wrap ((n:Int)+1)=((n+1:Nat):Int):=w64 (n:=n) (by omega)
 simp only [Sb,ag0,bip,aa,simprocAttr,hlt,hw,a0u H hn]
theorem bel (hT:CT avu=some (.code ag0)) {n:Nat} (hn:10≤n) (hn2:n < 100) (base:Nat) (H:Heap):dn CT (.fn avu [] []) [.s (.int .i64 n)] base H=some (Sb (a6g (n / 10) ++ a6g (n % 10)),H):=by
 refine oo (c:=ag0) hT (by simp [ag0]) ?_
 have hlt:¬ ((n:Int) < 10):=by omega
 have h1:=ata hT (n:=n / 10) (by omega) base H
 have w1:IntKind.i64.wrap ((n:Int).tdiv 10)=((n / 10:Nat):Int):=by
  rw [show (10:Int)=((10:Nat):Int) from rfl,← Int.ofNat_tdiv];rw [IntKind.wrap_i64];omega
 have w2:(n:Int).tmod 10=((n % 10:Nat):Int):=by
  rw [show (10:Int)=((10:Nat):Int) from rfl,← Int.ofNat_tmod]
 have w3:IntKind.i64.wrap (((n % 10:Nat):Int)+1)=((n % 10+1:Nat):Int):=w64 (n:=n % 10) (by omega)
 have hd:∀ k,(a6g k).size=1:=fun k=>rfl
 have hlen:¬ ((((a6g (n / 10)).size+(a6g (n % 10)).size:Nat):Int) > IntKind.i64.max):=by
  have e2:IntKind.i64.max=9223372036854775807:=by decide
  rw [hd,hd,e2];omega
 simp only [Sb] at h1
 simp only [Sb,ag0,bip,aa,simprocAttr,hlt,h1,bgt,w1,w2,w3,a0u H (n:=n % 10) (by omega),hlen]
def an7 (n:Int):ByteArray:=if n < 10 then a6g n.toNat else a6g (n.toNat / 10) ++ a6g (n.toNat % 10)
theorem aqg (hT:CT avu=some (.code ag0)) {n:Int} (h0:0≤n) (h1:n < 100) (base:Nat) (H:Heap):dn CT (.fn avu [] []) [.s (.int .i64 n)] base H=some (Sb (an7 n),H):=by
 obtain ⟨m,rfl⟩:=bke h0;unfold an7;rw [abk];by_cases h:(m:Int) < 10
 ·rw [if_pos h]
  exact ata hT (by omega) base H
 ·rw [if_neg h]
  exact bel hT (by omega) (by omega) base H
end
theorem awk {n:Int} (h0:0≤n) (h1:n < 100):an7 n=⟨(Lib.decDigits n.toNat).toArray⟩:=by
 obtain ⟨m,rfl⟩:=bke h0
 have h:∀ k:Fin 100,an7 (k.val:Int)=⟨(Lib.decDigits k.val).toArray⟩:=by decide +kernel
 exact h ⟨m,by omega⟩
theorem inter_snoc {α:Type} (sep:List α) (x:List α):∀ l:List (List α),l≠[]→sep.intercalate (l ++ [x])=sep.intercalate l ++ sep ++ x
 | [],h=>absurd rfl h
 | [a],_=>by simp [List.intercalate]
 | a :: b :: l,_=>by
   have ih:=inter_snoc sep x (b :: l) (by simp)
   have e:∀ m:List (List α),sep.intercalate (a :: b :: m)=a ++ sep ++ sep.intercalate (b :: m):=fun m=>by simp [List.intercalate]
   rw [bn,bn,e,e,show b :: (l ++ [x])=b :: l ++ [x] from rfl,ih];simp only [jh]
def atw (xs:List ByteArray):Nat→ByteArray
 | 0=>⟨#[40]⟩
 | k+1=>(if k=0 then ⟨#[40]⟩ else atw xs k ++ bCm) ++ xs.getD k ⟨#[]⟩
theorem awy {xs:List ByteArray} (h:∀ s∈xs,s.size≤200):∀ k,k≤xs.length→(atw xs k).size≤1+202 * k:=by
 intro k
 induction k with
 | zero=>intro _;exact af _
 | succ k ih=>
   intro hk
   have h1:=ih (by omega)
   have h2:=h _ (ak (nk (show k < xs.length by omega) (⟨#[]⟩:ByteArray)))
   have e1:(⟨#[40]⟩:ByteArray).size=1:=rfl;have e2:bCm.size=2:=rfl;unfold atw;split
   ·rw [ed];omega
   ·rw [ed,ed];omega
theorem a5x (xs:List ByteArray):∀ k,k≤xs.length→(atw xs k).data.toList=40 :: bCm.data.toList.intercalate ((xs.take k).map (·.data.toList)):=by
 intro k
 induction k with
 | zero=>intro _;rfl
 | succ k ih=>
   intro hk
   have h1:=ih (by omega)
   have hx:=nk (show k < xs.length by omega) (⟨#[]⟩:ByteArray)
   rw [ut,hx,acu];unfold atw;by_cases h0:k=0
   ·subst h0;rw [if_pos rfl,yz,x9];simp [List.intercalate]
   ·have hne:(xs.take k).map (·.data.toList)≠[]:=by
     intro e;have:=congrArg List.length e;rw [sw,wy,gy] at this;omega
    rw [if_neg h0,yz,yz,x9,x9,h1];show _=40 :: bCm.data.toList.intercalate (_ ++ [_]);rw [inter_snoc _ _ _ hne];simp only [bn]
theorem atn (xs:List ByteArray):atw xs xs.length ++ ⟨#[41]⟩=ug xs:=by
 have h:=a5x xs xs.length (af _);rw [ky] at h;unfold ug abo
 congr 1
 apply bkh;apply wu;rw [h,yz,x9];rfl
section
variable {CT:Nat→Option CFun}
theorem ls_l0 (base:Nat) {D:Heap} {v:V} {xs:List ByteArray} (q1:Rd D v (xs.map Sb)) (q2:aa7 v) (hs:∀ s∈xs,s.size≤200) (hn:xs.length≤20):
 itW (evC (dn CT) itW base aj9) [] D.length (iw 23 [(0,v),(3,Sb ⟨#[40]⟩),(4,Iz 0)]) D=some (.ext 0,iw 23 [(0,v),(3,Sb (atw xs xs.length)),(4,Iz xs.length),(8,bl false)],D):=by
 have hpl:=qf q1
 have h:=a3k xs.length (fun k=>itW (evC (dn CT) itW base aj9) [] D.length (iw 23 [(0,v),(3,Sb (atw xs k)),(4,Iz k)]) D) (fun k hk=>by
  have hlt':((k:Int) < ((xs.length:Nat):Int)):=by omega
  have hwk:=w64 (n:=k) (by omega)
  obtain ⟨y,y1,y2⟩:=ab0 q1 q2 hk
  have hz:=awy hs k (by omega)
  have h2:=hs _ (ak (nk hk (⟨#[]⟩:ByteArray)));have e2:bCm.size=2:=rfl
  have c1:(((atw xs k).size+(xs.getD k ⟨#[]⟩).size:Nat):Int) > IntKind.i64.max↔False:=by
   rw [yn (by omega)]
  have c2:((((atw xs k).size+bCm.size:Nat):Int) > IntKind.i64.max)=False:=yn (by omega)
  have c3:((((atw xs k ++ bCm).size+(xs.getD k ⟨#[]⟩).size:Nat):Int) > IntKind.i64.max)=False:=yn (by rw [ed];omega)
  have c4:((((⟨#[40]⟩:ByteArray).size+(xs.getD k ⟨#[]⟩).size:Nat):Int) > IntKind.i64.max)=False:=yn (by have:(⟨#[40]⟩:ByteArray).size=1:=rfl;omega)
  cases k with
  | zero=>
    have e:atw xs (0+1)=(⟨#[40]⟩:ByteArray) ++ xs.getD 0 ⟨#[]⟩:=rfl;have e0:atw xs 0=⟨#[40]⟩:=rfl
    have g0:¬ (((0:Nat):Int) > 0):=by decide
    rw [e,e0];simp only [ry] at hlt' y1 hwk g0;rw [dw];simp only [Iz,Sb,bl,bau,aa,reduceIte,reduceCtorEq,Nat.reduceEqDiff,Nat.reduceLT,Nat.reduceLeDiff,Nat.reduceBEq,Nat.reduceAdd,Nat.reduceMul,hpl,hlt',y1,y2,c4,g0,hwk,mr rfl]
  | succ j=>
    have e:atw xs (j+1+1)=(atw xs (j+1) ++ bCm) ++ xs.getD (j+1) ⟨#[]⟩:=rfl
    have g0:(((j+1:Nat):Int) > 0):=by omega
    simp only [bCm] at c2 c3 e;rw [e];rw [dw];simp only [Iz,Sb,bl,bau,aa,reduceIte,reduceCtorEq,Nat.reduceEqDiff,Nat.reduceLT,Nat.reduceLeDiff,Nat.reduceBEq,Nat.reduceAdd,Nat.reduceMul,hpl,hlt',y1,y2,c2,c3,g0,hwk,mr rfl]) 0 (gq _)
 rw [ry] at h;refine h.trans ?_;rw [dw];simp only [Iz,Sb,bl,bau,aa,reduceIte,reduceCtorEq,Nat.reduceEqDiff,Nat.reduceLT,Nat.reduceLeDiff,Nat.reduceBEq,Nat.reduceAdd,Nat.reduceMul,hpl,jo,mr rfl]
theorem ap3 (hT:CT bdq=some (.code apr)) (base:Nat) {D:Heap} {v:V} {xs:List ByteArray} (q1:Rd D v (xs.map Sb)) (q2:aa7 v) (hs:∀ s∈xs,s.size≤200) (hn:xs.length≤20):
 dn CT (.fn bdq [] []) [v] base D=some (Sb (ug xs),D):=by
 have f0:=ls_l0 (CT:=CT) base q1 q2 hs hn;have hz:=awy hs xs.length (af _)
 have c1:((((atw xs xs.length).size+(⟨#[41]⟩:ByteArray).size:Nat):Int) > IntKind.i64.max)=False:=yn (by have:(⟨#[41]⟩:ByteArray).size=1:=rfl;omega)
 refine oo (c:=apr) hT (by simp [apr]) ?_
 rw [← atn];simp only [Iz,Sb,bl] at f0;simp only [Iz,Sb,bl,apr,bau,aa,simprocAttr,f0,c1]
end
theorem szA {a b:ByteArray} {m n:Nat} (h:a.size≤m) (k:b.size≤n):(a ++ b).size≤m+n:=by
 rw [ed];omega
theorem zq {a b:ByteArray} {m n:Nat} (h:a.size≤m) (k:b.size≤n) (hm:m+n≤4611686018427387904):(((a.size+b.size:Nat):Int) > IntKind.i64.max)=False:=yn (by omega)
def preB (x:InsD):ByteArray:=bif (x.d.data.toList == []) then ⟨#[]⟩ else x.d ++ ⟨#[32,61,32]⟩
theorem awj {n:Int}:(an7 n).size≤2:=by
 unfold an7;split
 ·exact (show (1:Nat)≤2 by decide)
 ·rw [ed]
  exact (show (2:Nat)≤2 by decide)
theorem awv {xs:List ByteArray} (hn:xs.length≤20) (h:∀ s∈xs,s.size≤200):(ug xs).size≤5000:=by
 rw [← atn,ed];have:=awy h xs.length (af _);have e:(⟨#[41]⟩:ByteArray).size=1:=rfl;omega
structure L6T (CT:Nat→Option CFun):Prop where
 dec:CT avu=some (.code ag0)
 list:CT bdq=some (.code apr)
 line:CT afv=some (.code uo)
section
variable {CT:Nat→Option CFun}
theorem ln_1 (h:L6T CT) (base:Nat) {A:Heap} {r:List V} {x:InsD} (hr:p9 A r x) (hx:SmI x) (ho:x.op=1) (hk:0≤x.k∧x.k < 100):∃ H',dn CT (.fn afv [] []) [.agg r] base A=some (Sb ((preB x ++ (⟨#[97,108,108,111,99,97,32]⟩:ByteArray)) ++ (an7 x.k)),H')∧Ext A H':=by
 obtain ⟨av,lv,rfl,q1,q2,q3,q4,_⟩:=hr;obtain ⟨D,hD⟩:∃ D,A ++ [Ob.cells 0 (jg x av lv)]=D:=⟨_,rfl⟩;have eD:Ext A D:=hD ▸ Ext.app _ _;have hg:jm D A.length 0=some (jg x av lv):=hD ▸ dh A 0 _
 have lD:D.length=A.length+1:=by rw [← hD,eu]
 have hav:=q1.one;have hlv:=q3.one
 have o1:(x.op == 1:Bool)=true:=by rw [ho];rfl
 have o2:(x.op == 2:Bool)=false:=by rw [ho];rfl
 have o3:(x.op == 3:Bool)=false:=by rw [ho];rfl
 have o4:(x.op == 4:Bool)=false:=by rw [ho];rfl
 have o5:(x.op == 5:Bool)=false:=by rw [ho];rfl
 have o7:(x.op == 7:Bool)=false:=by rw [ho];rfl
 have o8:(x.op == 8:Bool)=false:=by rw [ho];rfl
 have o9:(x.op == 9:Bool)=false:=by rw [ho];rfl
 have o10:(x.op == 10:Bool)=false:=by rw [ho];rfl
 have o11:(x.op == 11:Bool)=false:=by rw [ho];rfl
 have o12:(x.op == 12:Bool)=false:=by rw [ho];rfl
 have o13:(x.op == 13:Bool)=false:=by rw [ho];rfl
 have o14:(x.op == 14:Bool)=false:=by rw [ho];rfl
 refine ⟨D,gp (c:=uo) (k:=1) h.line rfl (by decide) qo ?_,eD⟩
 simp only [jg,Sb] at hD hg;have fd:=aqg h.dec hk.1 hk.2 base D;have sD:=awj (n:=x.k);simp only [Sb] at fd;unfold preB;cases hd:(x.d.data.toList == []:Bool) with
 | true=>
   obtain ⟨P,hP⟩:∃ P:ByteArray,(⟨#[]⟩:ByteArray)=P:=⟨_,rfl⟩
   have sP:P.size≤203:=by rw [← hP];exact gq _
   have k0:(((P.size+(⟨#[97,108,108,111,99,97,32]⟩:ByteArray).size:Nat):Int) > IntKind.i64.max)=False:=zq sP (af 7) (by decide)
   have k1:((((P ++ (⟨#[97,108,108,111,99,97,32]⟩:ByteArray)).size+(an7 x.k).size:Nat):Int) > IntKind.i64.max)=False:=zq (szA sP (af 7)) sD (by decide)
   rw [← hP] at k0 k1;simp only [Iz,Sb,bl,jg,uo,aax,aa,simprocAttr,hav,hlv,hD,lD,hg,hd,o1,o2,o3,o4,o5,o7,o8,o9,o10,o11,o12,o13,o14,fd,k0,k1,cond_true]
 | false=>
   obtain ⟨P,hP⟩:∃ P:ByteArray,x.d ++ (⟨#[32,61,32]⟩:ByteArray)=P:=⟨_,rfl⟩
   have sP:P.size≤203:=by rw [← hP];exact szA hx.d (show (⟨#[32,61,32]⟩:ByteArray).size≤3 from af 3)
   have kd:(((x.d.size+(⟨#[32,61,32]⟩:ByteArray).size:Nat):Int) > IntKind.i64.max)=False:=zq hx.d (af 3) (by decide)
   have k0:(((P.size+(⟨#[97,108,108,111,99,97,32]⟩:ByteArray).size:Nat):Int) > IntKind.i64.max)=False:=zq sP (af 7) (by decide)
   have k1:((((P ++ (⟨#[97,108,108,111,99,97,32]⟩:ByteArray)).size+(an7 x.k).size:Nat):Int) > IntKind.i64.max)=False:=zq (szA sP (af 7)) sD (by decide)
   simp only [Iz,Sb,bl,jg,uo,aax,aa,simprocAttr,hav,hlv,hD,lD,hg,hd,o1,o2,o3,o4,o5,o7,o8,o9,o10,o11,o12,o13,o14,fd,k0,k1,kd,hP,cond_false]
theorem ln_2 (h:L6T CT) (base:Nat) {A:Heap} {r:List V} {x:InsD} (hr:p9 A r x) (hx:SmI x) (ho:x.op=2) (hk:0≤x.k∧x.k < 100):∃ H',dn CT (.fn afv [] []) [.agg r] base A=some (Sb ((preB x ++ (⟨#[109,97,108,108,111,99,32]⟩:ByteArray)) ++ (an7 x.k)),H')∧Ext A H':=by
 obtain ⟨av,lv,rfl,q1,q2,q3,q4,_⟩:=hr;obtain ⟨D,hD⟩:∃ D,A ++ [Ob.cells 0 (jg x av lv)]=D:=⟨_,rfl⟩;have eD:Ext A D:=hD ▸ Ext.app _ _;have hg:jm D A.length 0=some (jg x av lv):=hD ▸ dh A 0 _
 have lD:D.length=A.length+1:=by rw [← hD,eu]
 have hav:=q1.one;have hlv:=q3.one
 have o1:(x.op == 1:Bool)=false:=by rw [ho];rfl
 have o2:(x.op == 2:Bool)=true:=by rw [ho];rfl
 have o3:(x.op == 3:Bool)=false:=by rw [ho];rfl
 have o4:(x.op == 4:Bool)=false:=by rw [ho];rfl
 have o5:(x.op == 5:Bool)=false:=by rw [ho];rfl
 have o7:(x.op == 7:Bool)=false:=by rw [ho];rfl
 have o8:(x.op == 8:Bool)=false:=by rw [ho];rfl
 have o9:(x.op == 9:Bool)=false:=by rw [ho];rfl
 have o10:(x.op == 10:Bool)=false:=by rw [ho];rfl
 have o11:(x.op == 11:Bool)=false:=by rw [ho];rfl
 have o12:(x.op == 12:Bool)=false:=by rw [ho];rfl
 have o13:(x.op == 13:Bool)=false:=by rw [ho];rfl
 have o14:(x.op == 14:Bool)=false:=by rw [ho];rfl
 refine ⟨D,gp (c:=uo) (k:=1) h.line rfl (by decide) qo ?_,eD⟩
 simp only [jg,Sb] at hD hg;have fd:=aqg h.dec hk.1 hk.2 base D;have sD:=awj (n:=x.k);simp only [Sb] at fd;unfold preB;cases hd:(x.d.data.toList == []:Bool) with
 | true=>
   obtain ⟨P,hP⟩:∃ P:ByteArray,(⟨#[]⟩:ByteArray)=P:=⟨_,rfl⟩
   have sP:P.size≤203:=by rw [← hP];exact gq _
   have k0:(((P.size+(⟨#[109,97,108,108,111,99,32]⟩:ByteArray).size:Nat):Int) > IntKind.i64.max)=False:=zq sP (af 7) (by decide)
   have k1:((((P ++ (⟨#[109,97,108,108,111,99,32]⟩:ByteArray)).size+(an7 x.k).size:Nat):Int) > IntKind.i64.max)=False:=zq (szA sP (af 7)) sD (by decide)
   rw [← hP] at k0 k1;simp only [Iz,Sb,bl,jg,uo,aax,aa,simprocAttr,hav,hlv,hD,lD,hg,hd,o1,o2,o3,o4,o5,o7,o8,o9,o10,o11,o12,o13,o14,fd,k0,k1,cond_true]
 | false=>
   obtain ⟨P,hP⟩:∃ P:ByteArray,x.d ++ (⟨#[32,61,32]⟩:ByteArray)=P:=⟨_,rfl⟩
   have sP:P.size≤203:=by rw [← hP];exact szA hx.d (show (⟨#[32,61,32]⟩:ByteArray).size≤3 from af 3)
   have kd:(((x.d.size+(⟨#[32,61,32]⟩:ByteArray).size:Nat):Int) > IntKind.i64.max)=False:=zq hx.d (af 3) (by decide)
   have k0:(((P.size+(⟨#[109,97,108,108,111,99,32]⟩:ByteArray).size:Nat):Int) > IntKind.i64.max)=False:=zq sP (af 7) (by decide)
   have k1:((((P ++ (⟨#[109,97,108,108,111,99,32]⟩:ByteArray)).size+(an7 x.k).size:Nat):Int) > IntKind.i64.max)=False:=zq (szA sP (af 7)) sD (by decide)
   simp only [Iz,Sb,bl,jg,uo,aax,aa,simprocAttr,hav,hlv,hD,lD,hg,hd,o1,o2,o3,o4,o5,o7,o8,o9,o10,o11,o12,o13,o14,fd,k0,k1,kd,hP,cond_false]
theorem ln_3 (h:L6T CT) (base:Nat) {A:Heap} {r:List V} {x:InsD} (hr:p9 A r x) (hx:SmI x) (ho:x.op=3):∃ H',dn CT (.fn afv [] []) [.agg r] base A=some (Sb (preB x ++ (⟨#[110,117,108,108]⟩:ByteArray)),H')∧Ext A H':=by
 obtain ⟨av,lv,rfl,q1,q2,q3,q4,_⟩:=hr;obtain ⟨D,hD⟩:∃ D,A ++ [Ob.cells 0 (jg x av lv)]=D:=⟨_,rfl⟩;have eD:Ext A D:=hD ▸ Ext.app _ _;have hg:jm D A.length 0=some (jg x av lv):=hD ▸ dh A 0 _
 have lD:D.length=A.length+1:=by rw [← hD,eu]
 have hav:=q1.one;have hlv:=q3.one
 have o1:(x.op == 1:Bool)=false:=by rw [ho];rfl
 have o2:(x.op == 2:Bool)=false:=by rw [ho];rfl
 have o3:(x.op == 3:Bool)=true:=by rw [ho];rfl
 have o4:(x.op == 4:Bool)=false:=by rw [ho];rfl
 have o5:(x.op == 5:Bool)=false:=by rw [ho];rfl
 have o7:(x.op == 7:Bool)=false:=by rw [ho];rfl
 have o8:(x.op == 8:Bool)=false:=by rw [ho];rfl
 have o9:(x.op == 9:Bool)=false:=by rw [ho];rfl
 have o10:(x.op == 10:Bool)=false:=by rw [ho];rfl
 have o11:(x.op == 11:Bool)=false:=by rw [ho];rfl
 have o12:(x.op == 12:Bool)=false:=by rw [ho];rfl
 have o13:(x.op == 13:Bool)=false:=by rw [ho];rfl
 have o14:(x.op == 14:Bool)=false:=by rw [ho];rfl
 refine ⟨D,gp (c:=uo) (k:=1) h.line rfl (by decide) qo ?_,eD⟩
 simp only [jg,Sb] at hD hg;unfold preB;cases hd:(x.d.data.toList == []:Bool) with
 | true=>
   obtain ⟨P,hP⟩:∃ P:ByteArray,(⟨#[]⟩:ByteArray)=P:=⟨_,rfl⟩
   have sP:P.size≤203:=by rw [← hP];exact gq _
   have k0:(((P.size+(⟨#[110,117,108,108]⟩:ByteArray).size:Nat):Int) > IntKind.i64.max)=False:=zq sP (af 4) (by decide)
   rw [← hP] at k0;simp only [Iz,Sb,bl,jg,uo,aax,aa,simprocAttr,hav,hlv,hD,lD,hg,hd,o1,o2,o3,o4,o5,o7,o8,o9,o10,o11,o12,o13,o14,k0,cond_true]
 | false=>
   obtain ⟨P,hP⟩:∃ P:ByteArray,x.d ++ (⟨#[32,61,32]⟩:ByteArray)=P:=⟨_,rfl⟩
   have sP:P.size≤203:=by rw [← hP];exact szA hx.d (show (⟨#[32,61,32]⟩:ByteArray).size≤3 from af 3)
   have kd:(((x.d.size+(⟨#[32,61,32]⟩:ByteArray).size:Nat):Int) > IntKind.i64.max)=False:=zq hx.d (af 3) (by decide)
   have k0:(((P.size+(⟨#[110,117,108,108]⟩:ByteArray).size:Nat):Int) > IntKind.i64.max)=False:=zq sP (af 4) (by decide)
   simp only [Iz,Sb,bl,jg,uo,aax,aa,simprocAttr,hav,hlv,hD,lD,hg,hd,o1,o2,o3,o4,o5,o7,o8,o9,o10,o11,o12,o13,o14,k0,kd,hP,cond_false]
theorem ln_4 (h:L6T CT) (base:Nat) {A:Heap} {r:List V} {x:InsD} (hr:p9 A r x) (hx:SmI x) (ho:x.op=4):∃ H',dn CT (.fn afv [] []) [.agg r] base A=some (Sb ((preB x ++ (⟨#[97,100,100,114,32]⟩:ByteArray)) ++ x.f),H')∧Ext A H':=by
 obtain ⟨av,lv,rfl,q1,q2,q3,q4,_⟩:=hr;obtain ⟨D,hD⟩:∃ D,A ++ [Ob.cells 0 (jg x av lv)]=D:=⟨_,rfl⟩;have eD:Ext A D:=hD ▸ Ext.app _ _;have hg:jm D A.length 0=some (jg x av lv):=hD ▸ dh A 0 _
 have lD:D.length=A.length+1:=by rw [← hD,eu]
 have hav:=q1.one;have hlv:=q3.one
 have o1:(x.op == 1:Bool)=false:=by rw [ho];rfl
 have o2:(x.op == 2:Bool)=false:=by rw [ho];rfl
 have o3:(x.op == 3:Bool)=false:=by rw [ho];rfl
 have o4:(x.op == 4:Bool)=true:=by rw [ho];rfl
 have o5:(x.op == 5:Bool)=false:=by rw [ho];rfl
 have o7:(x.op == 7:Bool)=false:=by rw [ho];rfl
 have o8:(x.op == 8:Bool)=false:=by rw [ho];rfl
 have o9:(x.op == 9:Bool)=false:=by rw [ho];rfl
 have o10:(x.op == 10:Bool)=false:=by rw [ho];rfl
 have o11:(x.op == 11:Bool)=false:=by rw [ho];rfl
 have o12:(x.op == 12:Bool)=false:=by rw [ho];rfl
 have o13:(x.op == 13:Bool)=false:=by rw [ho];rfl
 have o14:(x.op == 14:Bool)=false:=by rw [ho];rfl
 refine ⟨D,gp (c:=uo) (k:=1) h.line rfl (by decide) qo ?_,eD⟩
 simp only [jg,Sb] at hD hg;unfold preB;cases hd:(x.d.data.toList == []:Bool) with
 | true=>
   obtain ⟨P,hP⟩:∃ P:ByteArray,(⟨#[]⟩:ByteArray)=P:=⟨_,rfl⟩
   have sP:P.size≤203:=by rw [← hP];exact gq _
   have k0:(((P.size+(⟨#[97,100,100,114,32]⟩:ByteArray).size:Nat):Int) > IntKind.i64.max)=False:=zq sP (af 5) (by decide)
   have k1:((((P ++ (⟨#[97,100,100,114,32]⟩:ByteArray)).size+x.f.size:Nat):Int) > IntKind.i64.max)=False:=zq (szA sP (af 5)) hx.f (by decide)
   rw [← hP] at k0 k1;simp only [Iz,Sb,bl,jg,uo,aax,aa,simprocAttr,hav,hlv,hD,lD,hg,hd,o1,o2,o3,o4,o5,o7,o8,o9,o10,o11,o12,o13,o14,k0,k1,cond_true]
 | false=>
   obtain ⟨P,hP⟩:∃ P:ByteArray,x.d ++ (⟨#[32,61,32]⟩:ByteArray)=P:=⟨_,rfl⟩
   have sP:P.size≤203:=by rw [← hP];exact szA hx.d (show (⟨#[32,61,32]⟩:ByteArray).size≤3 from af 3)
   have kd:(((x.d.size+(⟨#[32,61,32]⟩:ByteArray).size:Nat):Int) > IntKind.i64.max)=False:=zq hx.d (af 3) (by decide)
   have k0:(((P.size+(⟨#[97,100,100,114,32]⟩:ByteArray).size:Nat):Int) > IntKind.i64.max)=False:=zq sP (af 5) (by decide)
   have k1:((((P ++ (⟨#[97,100,100,114,32]⟩:ByteArray)).size+x.f.size:Nat):Int) > IntKind.i64.max)=False:=zq (szA sP (af 5)) hx.f (by decide)
   simp only [Iz,Sb,bl,jg,uo,aax,aa,simprocAttr,hav,hlv,hD,lD,hg,hd,o1,o2,o3,o4,o5,o7,o8,o9,o10,o11,o12,o13,o14,k0,k1,kd,hP,cond_false]
theorem ln_5 (h:L6T CT) (base:Nat) {A:Heap} {r:List V} {x:InsD} (hr:p9 A r x) (hx:SmI x) (ho:x.op=5):∃ H',dn CT (.fn afv [] []) [.agg r] base A=some (Sb ((preB x ++ (⟨#[99,111,112,121,32]⟩:ByteArray)) ++ x.a),H')∧Ext A H':=by
 obtain ⟨av,lv,rfl,q1,q2,q3,q4,_⟩:=hr;obtain ⟨D,hD⟩:∃ D,A ++ [Ob.cells 0 (jg x av lv)]=D:=⟨_,rfl⟩;have eD:Ext A D:=hD ▸ Ext.app _ _;have hg:jm D A.length 0=some (jg x av lv):=hD ▸ dh A 0 _
 have lD:D.length=A.length+1:=by rw [← hD,eu]
 have hav:=q1.one;have hlv:=q3.one
 have o1:(x.op == 1:Bool)=false:=by rw [ho];rfl
 have o2:(x.op == 2:Bool)=false:=by rw [ho];rfl
 have o3:(x.op == 3:Bool)=false:=by rw [ho];rfl
 have o4:(x.op == 4:Bool)=false:=by rw [ho];rfl
 have o5:(x.op == 5:Bool)=true:=by rw [ho];rfl
 have o7:(x.op == 7:Bool)=false:=by rw [ho];rfl
 have o8:(x.op == 8:Bool)=false:=by rw [ho];rfl
 have o9:(x.op == 9:Bool)=false:=by rw [ho];rfl
 have o10:(x.op == 10:Bool)=false:=by rw [ho];rfl
 have o11:(x.op == 11:Bool)=false:=by rw [ho];rfl
 have o12:(x.op == 12:Bool)=false:=by rw [ho];rfl
 have o13:(x.op == 13:Bool)=false:=by rw [ho];rfl
 have o14:(x.op == 14:Bool)=false:=by rw [ho];rfl
 refine ⟨D,gp (c:=uo) (k:=1) h.line rfl (by decide) qo ?_,eD⟩
 simp only [jg,Sb] at hD hg;unfold preB;cases hd:(x.d.data.toList == []:Bool) with
 | true=>
   obtain ⟨P,hP⟩:∃ P:ByteArray,(⟨#[]⟩:ByteArray)=P:=⟨_,rfl⟩
   have sP:P.size≤203:=by rw [← hP];exact gq _
   have k0:(((P.size+(⟨#[99,111,112,121,32]⟩:ByteArray).size:Nat):Int) > IntKind.i64.max)=False:=zq sP (af 5) (by decide)
   have k1:((((P ++ (⟨#[99,111,112,121,32]⟩:ByteArray)).size+x.a.size:Nat):Int) > IntKind.i64.max)=False:=zq (szA sP (af 5)) hx.a (by decide)
   rw [← hP] at k0 k1;simp only [Iz,Sb,bl,jg,uo,aax,aa,simprocAttr,hav,hlv,hD,lD,hg,hd,o1,o2,o3,o4,o5,o7,o8,o9,o10,o11,o12,o13,o14,k0,k1,cond_true]
 | false=>
   obtain ⟨P,hP⟩:∃ P:ByteArray,x.d ++ (⟨#[32,61,32]⟩:ByteArray)=P:=⟨_,rfl⟩
   have sP:P.size≤203:=by rw [← hP];exact szA hx.d (show (⟨#[32,61,32]⟩:ByteArray).size≤3 from af 3)
   have kd:(((x.d.size+(⟨#[32,61,32]⟩:ByteArray).size:Nat):Int) > IntKind.i64.max)=False:=zq hx.d (af 3) (by decide)
   have k0:(((P.size+(⟨#[99,111,112,121,32]⟩:ByteArray).size:Nat):Int) > IntKind.i64.max)=False:=zq sP (af 5) (by decide)
   have k1:((((P ++ (⟨#[99,111,112,121,32]⟩:ByteArray)).size+x.a.size:Nat):Int) > IntKind.i64.max)=False:=zq (szA sP (af 5)) hx.a (by decide)
   simp only [Iz,Sb,bl,jg,uo,aax,aa,simprocAttr,hav,hlv,hD,lD,hg,hd,o1,o2,o3,o4,o5,o7,o8,o9,o10,o11,o12,o13,o14,k0,k1,kd,hP,cond_false]
theorem ln_7 (h:L6T CT) (base:Nat) {A:Heap} {r:List V} {x:InsD} (hr:p9 A r x) (hx:SmI x) (ho:x.op=7) (hk:0≤x.k∧x.k < 100):∃ H',dn CT (.fn afv [] []) [.agg r] base A=some (Sb ((((preB x ++ (⟨#[102,105,101,108,100,32]⟩:ByteArray)) ++ x.a) ++ (⟨#[32]⟩:ByteArray)) ++ (an7 x.k)),H')∧Ext A H':=by
 obtain ⟨av,lv,rfl,q1,q2,q3,q4,_⟩:=hr;obtain ⟨D,hD⟩:∃ D,A ++ [Ob.cells 0 (jg x av lv)]=D:=⟨_,rfl⟩;have eD:Ext A D:=hD ▸ Ext.app _ _;have hg:jm D A.length 0=some (jg x av lv):=hD ▸ dh A 0 _
 have lD:D.length=A.length+1:=by rw [← hD,eu]
 have hav:=q1.one;have hlv:=q3.one
 have o1:(x.op == 1:Bool)=false:=by rw [ho];rfl
 have o2:(x.op == 2:Bool)=false:=by rw [ho];rfl
 have o3:(x.op == 3:Bool)=false:=by rw [ho];rfl
 have o4:(x.op == 4:Bool)=false:=by rw [ho];rfl
 have o5:(x.op == 5:Bool)=false:=by rw [ho];rfl
 have o7:(x.op == 7:Bool)=true:=by rw [ho];rfl
 have o8:(x.op == 8:Bool)=false:=by rw [ho];rfl
 have o9:(x.op == 9:Bool)=false:=by rw [ho];rfl
 have o10:(x.op == 10:Bool)=false:=by rw [ho];rfl
 have o11:(x.op == 11:Bool)=false:=by rw [ho];rfl
 have o12:(x.op == 12:Bool)=false:=by rw [ho];rfl
 have o13:(x.op == 13:Bool)=false:=by rw [ho];rfl
 have o14:(x.op == 14:Bool)=false:=by rw [ho];rfl
 refine ⟨D,gp (c:=uo) (k:=1) h.line rfl (by decide) qo ?_,eD⟩
 simp only [jg,Sb] at hD hg;have fd:=aqg h.dec hk.1 hk.2 (A.length+1) D;have sD:=awj (n:=x.k);simp only [Sb] at fd;unfold preB;cases hd:(x.d.data.toList == []:Bool) with
 | true=>
   obtain ⟨P,hP⟩:∃ P:ByteArray,(⟨#[]⟩:ByteArray)=P:=⟨_,rfl⟩
   have sP:P.size≤203:=by rw [← hP];exact gq _
   have k0:(((P.size+(⟨#[102,105,101,108,100,32]⟩:ByteArray).size:Nat):Int) > IntKind.i64.max)=False:=zq sP (af 6) (by decide)
   have k1:((((P ++ (⟨#[102,105,101,108,100,32]⟩:ByteArray)).size+x.a.size:Nat):Int) > IntKind.i64.max)=False:=zq (szA sP (af 6)) hx.a (by decide)
   have k2:(((((P ++ (⟨#[102,105,101,108,100,32]⟩:ByteArray)) ++ x.a).size+(⟨#[32]⟩:ByteArray).size:Nat):Int) > IntKind.i64.max)=False:=zq (szA (szA sP (af 6)) hx.a) (af 1) (by decide)
   have k3:((((((P ++ (⟨#[102,105,101,108,100,32]⟩:ByteArray)) ++ x.a) ++ (⟨#[32]⟩:ByteArray)).size+(an7 x.k).size:Nat):Int) > IntKind.i64.max)=False:=zq (szA (szA (szA sP (af 6)) hx.a) (af 1)) sD (by decide)
   rw [← hP] at k0 k1 k2 k3;simp only [Iz,Sb,bl,jg,uo,aax,aa,simprocAttr,hav,hlv,hD,lD,hg,hd,o1,o2,o3,o4,o5,o7,o8,o9,o10,o11,o12,o13,o14,fd,k0,k1,k2,k3,cond_true]
 | false=>
   obtain ⟨P,hP⟩:∃ P:ByteArray,x.d ++ (⟨#[32,61,32]⟩:ByteArray)=P:=⟨_,rfl⟩
   have sP:P.size≤203:=by rw [← hP];exact szA hx.d (show (⟨#[32,61,32]⟩:ByteArray).size≤3 from af 3)
   have kd:(((x.d.size+(⟨#[32,61,32]⟩:ByteArray).size:Nat):Int) > IntKind.i64.max)=False:=zq hx.d (af 3) (by decide)
   have k0:(((P.size+(⟨#[102,105,101,108,100,32]⟩:ByteArray).size:Nat):Int) > IntKind.i64.max)=False:=zq sP (af 6) (by decide)
   have k1:((((P ++ (⟨#[102,105,101,108,100,32]⟩:ByteArray)).size+x.a.size:Nat):Int) > IntKind.i64.max)=False:=zq (szA sP (af 6)) hx.a (by decide)
   have k2:(((((P ++ (⟨#[102,105,101,108,100,32]⟩:ByteArray)) ++ x.a).size+(⟨#[32]⟩:ByteArray).size:Nat):Int) > IntKind.i64.max)=False:=zq (szA (szA sP (af 6)) hx.a) (af 1) (by decide)
   have k3:((((((P ++ (⟨#[102,105,101,108,100,32]⟩:ByteArray)) ++ x.a) ++ (⟨#[32]⟩:ByteArray)).size+(an7 x.k).size:Nat):Int) > IntKind.i64.max)=False:=zq (szA (szA (szA sP (af 6)) hx.a) (af 1)) sD (by decide)
   simp only [Iz,Sb,bl,jg,uo,aax,aa,simprocAttr,hav,hlv,hD,lD,hg,hd,o1,o2,o3,o4,o5,o7,o8,o9,o10,o11,o12,o13,o14,fd,k0,k1,k2,k3,kd,hP,cond_false]
theorem ln_8 (h:L6T CT) (base:Nat) {A:Heap} {r:List V} {x:InsD} (hr:p9 A r x) (hx:SmI x) (ho:x.op=8):∃ H',dn CT (.fn afv [] []) [.agg r] base A=some (Sb ((preB x ++ (⟨#[108,111,97,100,32]⟩:ByteArray)) ++ x.a),H')∧Ext A H':=by
 obtain ⟨av,lv,rfl,q1,q2,q3,q4,_⟩:=hr;obtain ⟨D,hD⟩:∃ D,A ++ [Ob.cells 0 (jg x av lv)]=D:=⟨_,rfl⟩;have eD:Ext A D:=hD ▸ Ext.app _ _;have hg:jm D A.length 0=some (jg x av lv):=hD ▸ dh A 0 _
 have lD:D.length=A.length+1:=by rw [← hD,eu]
 have hav:=q1.one;have hlv:=q3.one
 have o1:(x.op == 1:Bool)=false:=by rw [ho];rfl
 have o2:(x.op == 2:Bool)=false:=by rw [ho];rfl
 have o3:(x.op == 3:Bool)=false:=by rw [ho];rfl
 have o4:(x.op == 4:Bool)=false:=by rw [ho];rfl
 have o5:(x.op == 5:Bool)=false:=by rw [ho];rfl
 have o7:(x.op == 7:Bool)=false:=by rw [ho];rfl
 have o8:(x.op == 8:Bool)=true:=by rw [ho];rfl
 have o9:(x.op == 9:Bool)=false:=by rw [ho];rfl
 have o10:(x.op == 10:Bool)=false:=by rw [ho];rfl
 have o11:(x.op == 11:Bool)=false:=by rw [ho];rfl
 have o12:(x.op == 12:Bool)=false:=by rw [ho];rfl
 have o13:(x.op == 13:Bool)=false:=by rw [ho];rfl
 have o14:(x.op == 14:Bool)=false:=by rw [ho];rfl
 refine ⟨D,gp (c:=uo) (k:=1) h.line rfl (by decide) qo ?_,eD⟩
 simp only [jg,Sb] at hD hg;unfold preB;cases hd:(x.d.data.toList == []:Bool) with
 | true=>
   obtain ⟨P,hP⟩:∃ P:ByteArray,(⟨#[]⟩:ByteArray)=P:=⟨_,rfl⟩
   have sP:P.size≤203:=by rw [← hP];exact gq _
   have k0:(((P.size+(⟨#[108,111,97,100,32]⟩:ByteArray).size:Nat):Int) > IntKind.i64.max)=False:=zq sP (af 5) (by decide)
   have k1:((((P ++ (⟨#[108,111,97,100,32]⟩:ByteArray)).size+x.a.size:Nat):Int) > IntKind.i64.max)=False:=zq (szA sP (af 5)) hx.a (by decide)
   rw [← hP] at k0 k1;simp only [Iz,Sb,bl,jg,uo,aax,aa,simprocAttr,hav,hlv,hD,lD,hg,hd,o1,o2,o3,o4,o5,o7,o8,o9,o10,o11,o12,o13,o14,k0,k1,cond_true]
 | false=>
   obtain ⟨P,hP⟩:∃ P:ByteArray,x.d ++ (⟨#[32,61,32]⟩:ByteArray)=P:=⟨_,rfl⟩
   have sP:P.size≤203:=by rw [← hP];exact szA hx.d (show (⟨#[32,61,32]⟩:ByteArray).size≤3 from af 3)
   have kd:(((x.d.size+(⟨#[32,61,32]⟩:ByteArray).size:Nat):Int) > IntKind.i64.max)=False:=zq hx.d (af 3) (by decide)
   have k0:(((P.size+(⟨#[108,111,97,100,32]⟩:ByteArray).size:Nat):Int) > IntKind.i64.max)=False:=zq sP (af 5) (by decide)
   have k1:((((P ++ (⟨#[108,111,97,100,32]⟩:ByteArray)).size+x.a.size:Nat):Int) > IntKind.i64.max)=False:=zq (szA sP (af 5)) hx.a (by decide)
   simp only [Iz,Sb,bl,jg,uo,aax,aa,simprocAttr,hav,hlv,hD,lD,hg,hd,o1,o2,o3,o4,o5,o7,o8,o9,o10,o11,o12,o13,o14,k0,k1,kd,hP,cond_false]
theorem ln_9 (h:L6T CT) (base:Nat) {A:Heap} {r:List V} {x:InsD} (hr:p9 A r x) (hx:SmI x) (ho:x.op=9):∃ H',dn CT (.fn afv [] []) [.agg r] base A=some (Sb ((((⟨#[115,116,111,114,101,32]⟩:ByteArray) ++ x.a) ++ (⟨#[44,32]⟩:ByteArray)) ++ x.b),H')∧Ext A H':=by
 obtain ⟨av,lv,rfl,q1,q2,q3,q4,_⟩:=hr;obtain ⟨D,hD⟩:∃ D,A ++ [Ob.cells 0 (jg x av lv)]=D:=⟨_,rfl⟩;have eD:Ext A D:=hD ▸ Ext.app _ _;have hg:jm D A.length 0=some (jg x av lv):=hD ▸ dh A 0 _
 have lD:D.length=A.length+1:=by rw [← hD,eu]
 have hav:=q1.one;have hlv:=q3.one
 have o1:(x.op == 1:Bool)=false:=by rw [ho];rfl
 have o2:(x.op == 2:Bool)=false:=by rw [ho];rfl
 have o3:(x.op == 3:Bool)=false:=by rw [ho];rfl
 have o4:(x.op == 4:Bool)=false:=by rw [ho];rfl
 have o5:(x.op == 5:Bool)=false:=by rw [ho];rfl
 have o7:(x.op == 7:Bool)=false:=by rw [ho];rfl
 have o8:(x.op == 8:Bool)=false:=by rw [ho];rfl
 have o9:(x.op == 9:Bool)=true:=by rw [ho];rfl
 have o10:(x.op == 10:Bool)=false:=by rw [ho];rfl
 have o11:(x.op == 11:Bool)=false:=by rw [ho];rfl
 have o12:(x.op == 12:Bool)=false:=by rw [ho];rfl
 have o13:(x.op == 13:Bool)=false:=by rw [ho];rfl
 have o14:(x.op == 14:Bool)=false:=by rw [ho];rfl
 refine ⟨D,gp (c:=uo) (k:=1) h.line rfl (by decide) qo ?_,eD⟩
 simp only [jg,Sb] at hD hg
 skip
 cases hd:(x.d.data.toList == []:Bool) with
 | true=>
   obtain ⟨P,hP⟩:∃ P:ByteArray,(⟨#[]⟩:ByteArray)=P:=⟨_,rfl⟩
   have sP:P.size≤203:=by rw [← hP];exact gq _
   have k0:((((⟨#[115,116,111,114,101,32]⟩:ByteArray).size+x.a.size:Nat):Int) > IntKind.i64.max)=False:=zq (af 6) hx.a (by decide)
   have k1:(((((⟨#[115,116,111,114,101,32]⟩:ByteArray) ++ x.a).size+(⟨#[44,32]⟩:ByteArray).size:Nat):Int) > IntKind.i64.max)=False:=zq (szA (af 6) hx.a) (af 2) (by decide)
   have k2:((((((⟨#[115,116,111,114,101,32]⟩:ByteArray) ++ x.a) ++ (⟨#[44,32]⟩:ByteArray)).size+x.b.size:Nat):Int) > IntKind.i64.max)=False:=zq (szA (szA (af 6) hx.a) (af 2)) hx.b (by decide)
   simp only [Iz,Sb,bl,jg,uo,aax,aa,simprocAttr,hav,hlv,hD,lD,hg,hd,o1,o2,o3,o4,o5,o7,o8,o9,o10,o11,o12,o13,o14,k0,k1,k2,cond_true]
 | false=>
   obtain ⟨P,hP⟩:∃ P:ByteArray,x.d ++ (⟨#[32,61,32]⟩:ByteArray)=P:=⟨_,rfl⟩
   have sP:P.size≤203:=by rw [← hP];exact szA hx.d (show (⟨#[32,61,32]⟩:ByteArray).size≤3 from af 3)
   have kd:(((x.d.size+(⟨#[32,61,32]⟩:ByteArray).size:Nat):Int) > IntKind.i64.max)=False:=zq hx.d (af 3) (by decide)
   have k0:((((⟨#[115,116,111,114,101,32]⟩:ByteArray).size+x.a.size:Nat):Int) > IntKind.i64.max)=False:=zq (af 6) hx.a (by decide)
   have k1:(((((⟨#[115,116,111,114,101,32]⟩:ByteArray) ++ x.a).size+(⟨#[44,32]⟩:ByteArray).size:Nat):Int) > IntKind.i64.max)=False:=zq (szA (af 6) hx.a) (af 2) (by decide)
   have k2:((((((⟨#[115,116,111,114,101,32]⟩:ByteArray) ++ x.a) ++ (⟨#[44,32]⟩:ByteArray)).size+x.b.size:Nat):Int) > IntKind.i64.max)=False:=zq (szA (szA (af 6) hx.a) (af 2)) hx.b (by decide)
   simp only [Iz,Sb,bl,jg,uo,aax,aa,simprocAttr,hav,hlv,hD,lD,hg,hd,o1,o2,o3,o4,o5,o7,o8,o9,o10,o11,o12,o13,o14,k0,k1,k2,kd,hP,cond_false]
theorem ln_10 (h:L6T CT) (base:Nat) {A:Heap} {r:List V} {x:InsD} (hr:p9 A r x) (hx:SmI x) (ho:x.op=10):∃ H',dn CT (.fn afv [] []) [.agg r] base A=some (Sb (((preB x ++ (⟨#[99,97,108,108,32]⟩:ByteArray)) ++ x.f) ++ (ug x.xs)),H')∧Ext A H':=by
 obtain ⟨av,lv,rfl,q1,q2,q3,q4,_⟩:=hr;obtain ⟨D,hD⟩:∃ D,A ++ [Ob.cells 0 (jg x av lv)]=D:=⟨_,rfl⟩;have eD:Ext A D:=hD ▸ Ext.app _ _;have hg:jm D A.length 0=some (jg x av lv):=hD ▸ dh A 0 _
 have lD:D.length=A.length+1:=by rw [← hD,eu]
 have hav:=q1.one;have hlv:=q3.one
 have o1:(x.op == 1:Bool)=false:=by rw [ho];rfl
 have o2:(x.op == 2:Bool)=false:=by rw [ho];rfl
 have o3:(x.op == 3:Bool)=false:=by rw [ho];rfl
 have o4:(x.op == 4:Bool)=false:=by rw [ho];rfl
 have o5:(x.op == 5:Bool)=false:=by rw [ho];rfl
 have o7:(x.op == 7:Bool)=false:=by rw [ho];rfl
 have o8:(x.op == 8:Bool)=false:=by rw [ho];rfl
 have o9:(x.op == 9:Bool)=false:=by rw [ho];rfl
 have o10:(x.op == 10:Bool)=true:=by rw [ho];rfl
 have o11:(x.op == 11:Bool)=false:=by rw [ho];rfl
 have o12:(x.op == 12:Bool)=false:=by rw [ho];rfl
 have o13:(x.op == 13:Bool)=false:=by rw [ho];rfl
 have o14:(x.op == 14:Bool)=false:=by rw [ho];rfl
 refine ⟨D,gp (c:=uo) (k:=1) h.line rfl (by decide) qo ?_,eD⟩
 simp only [jg,Sb] at hD hg;have fa:=ap3 h.list (A.length+1) (q1.ext eD) q2 hx.xs hx.nx;have sA:=awv hx.nx hx.xs;simp only [Sb] at fa;unfold preB;cases hd:(x.d.data.toList == []:Bool) with
 | true=>
   obtain ⟨P,hP⟩:∃ P:ByteArray,(⟨#[]⟩:ByteArray)=P:=⟨_,rfl⟩
   have sP:P.size≤203:=by rw [← hP];exact gq _
   have k0:(((P.size+(⟨#[99,97,108,108,32]⟩:ByteArray).size:Nat):Int) > IntKind.i64.max)=False:=zq sP (af 5) (by decide)
   have k1:((((P ++ (⟨#[99,97,108,108,32]⟩:ByteArray)).size+x.f.size:Nat):Int) > IntKind.i64.max)=False:=zq (szA sP (af 5)) hx.f (by decide)
   have k2:(((((P ++ (⟨#[99,97,108,108,32]⟩:ByteArray)) ++ x.f).size+(ug x.xs).size:Nat):Int) > IntKind.i64.max)=False:=zq (szA (szA sP (af 5)) hx.f) sA (by decide)
   rw [← hP] at k0 k1 k2;simp only [Iz,Sb,bl,jg,uo,aax,aa,simprocAttr,hav,hlv,hD,lD,hg,hd,o1,o2,o3,o4,o5,o7,o8,o9,o10,o11,o12,o13,o14,fa,k0,k1,k2,cond_true]
 | false=>
   obtain ⟨P,hP⟩:∃ P:ByteArray,x.d ++ (⟨#[32,61,32]⟩:ByteArray)=P:=⟨_,rfl⟩
   have sP:P.size≤203:=by rw [← hP];exact szA hx.d (show (⟨#[32,61,32]⟩:ByteArray).size≤3 from af 3)
   have kd:(((x.d.size+(⟨#[32,61,32]⟩:ByteArray).size:Nat):Int) > IntKind.i64.max)=False:=zq hx.d (af 3) (by decide)
   have k0:(((P.size+(⟨#[99,97,108,108,32]⟩:ByteArray).size:Nat):Int) > IntKind.i64.max)=False:=zq sP (af 5) (by decide)
   have k1:((((P ++ (⟨#[99,97,108,108,32]⟩:ByteArray)).size+x.f.size:Nat):Int) > IntKind.i64.max)=False:=zq (szA sP (af 5)) hx.f (by decide)
   have k2:(((((P ++ (⟨#[99,97,108,108,32]⟩:ByteArray)) ++ x.f).size+(ug x.xs).size:Nat):Int) > IntKind.i64.max)=False:=zq (szA (szA sP (af 5)) hx.f) sA (by decide)
   simp only [Iz,Sb,bl,jg,uo,aax,aa,simprocAttr,hav,hlv,hD,lD,hg,hd,o1,o2,o3,o4,o5,o7,o8,o9,o10,o11,o12,o13,o14,fa,k0,k1,k2,kd,hP,cond_false]
theorem ln_11 (h:L6T CT) (base:Nat) {A:Heap} {r:List V} {x:InsD} (hr:p9 A r x) (hx:SmI x) (ho:x.op=11):∃ H',dn CT (.fn afv [] []) [.agg r] base A=some (Sb (((preB x ++ (⟨#[105,99,97,108,108,32]⟩:ByteArray)) ++ x.a) ++ (ug x.xs)),H')∧Ext A H':=by
 obtain ⟨av,lv,rfl,q1,q2,q3,q4,_⟩:=hr;obtain ⟨D,hD⟩:∃ D,A ++ [Ob.cells 0 (jg x av lv)]=D:=⟨_,rfl⟩;have eD:Ext A D:=hD ▸ Ext.app _ _;have hg:jm D A.length 0=some (jg x av lv):=hD ▸ dh A 0 _
 have lD:D.length=A.length+1:=by rw [← hD,eu]
 have hav:=q1.one;have hlv:=q3.one
 have o1:(x.op == 1:Bool)=false:=by rw [ho];rfl
 have o2:(x.op == 2:Bool)=false:=by rw [ho];rfl
 have o3:(x.op == 3:Bool)=false:=by rw [ho];rfl
 have o4:(x.op == 4:Bool)=false:=by rw [ho];rfl
 have o5:(x.op == 5:Bool)=false:=by rw [ho];rfl
 have o7:(x.op == 7:Bool)=false:=by rw [ho];rfl
 have o8:(x.op == 8:Bool)=false:=by rw [ho];rfl
 have o9:(x.op == 9:Bool)=false:=by rw [ho];rfl
 have o10:(x.op == 10:Bool)=false:=by rw [ho];rfl
 have o11:(x.op == 11:Bool)=true:=by rw [ho];rfl
 have o12:(x.op == 12:Bool)=false:=by rw [ho];rfl
 have o13:(x.op == 13:Bool)=false:=by rw [ho];rfl
 have o14:(x.op == 14:Bool)=false:=by rw [ho];rfl
 refine ⟨D,gp (c:=uo) (k:=1) h.line rfl (by decide) qo ?_,eD⟩
 simp only [jg,Sb] at hD hg;have fa:=ap3 h.list (A.length+1) (q1.ext eD) q2 hx.xs hx.nx;have sA:=awv hx.nx hx.xs;simp only [Sb] at fa;unfold preB;cases hd:(x.d.data.toList == []:Bool) with
 | true=>
   obtain ⟨P,hP⟩:∃ P:ByteArray,(⟨#[]⟩:ByteArray)=P:=⟨_,rfl⟩
   have sP:P.size≤203:=by rw [← hP];exact gq _
   have k0:(((P.size+(⟨#[105,99,97,108,108,32]⟩:ByteArray).size:Nat):Int) > IntKind.i64.max)=False:=zq sP (af 6) (by decide)
   have k1:((((P ++ (⟨#[105,99,97,108,108,32]⟩:ByteArray)).size+x.a.size:Nat):Int) > IntKind.i64.max)=False:=zq (szA sP (af 6)) hx.a (by decide)
   have k2:(((((P ++ (⟨#[105,99,97,108,108,32]⟩:ByteArray)) ++ x.a).size+(ug x.xs).size:Nat):Int) > IntKind.i64.max)=False:=zq (szA (szA sP (af 6)) hx.a) sA (by decide)
   rw [← hP] at k0 k1 k2;simp only [Iz,Sb,bl,jg,uo,aax,aa,simprocAttr,hav,hlv,hD,lD,hg,hd,o1,o2,o3,o4,o5,o7,o8,o9,o10,o11,o12,o13,o14,fa,k0,k1,k2,cond_true]
 | false=>
   obtain ⟨P,hP⟩:∃ P:ByteArray,x.d ++ (⟨#[32,61,32]⟩:ByteArray)=P:=⟨_,rfl⟩
   have sP:P.size≤203:=by rw [← hP];exact szA hx.d (show (⟨#[32,61,32]⟩:ByteArray).size≤3 from af 3)
   have kd:(((x.d.size+(⟨#[32,61,32]⟩:ByteArray).size:Nat):Int) > IntKind.i64.max)=False:=zq hx.d (af 3) (by decide)
   have k0:(((P.size+(⟨#[105,99,97,108,108,32]⟩:ByteArray).size:Nat):Int) > IntKind.i64.max)=False:=zq sP (af 6) (by decide)
   have k1:((((P ++ (⟨#[105,99,97,108,108,32]⟩:ByteArray)).size+x.a.size:Nat):Int) > IntKind.i64.max)=False:=zq (szA sP (af 6)) hx.a (by decide)
   have k2:(((((P ++ (⟨#[105,99,97,108,108,32]⟩:ByteArray)) ++ x.a).size+(ug x.xs).size:Nat):Int) > IntKind.i64.max)=False:=zq (szA (szA sP (af 6)) hx.a) sA (by decide)
   simp only [Iz,Sb,bl,jg,uo,aax,aa,simprocAttr,hav,hlv,hD,lD,hg,hd,o1,o2,o3,o4,o5,o7,o8,o9,o10,o11,o12,o13,o14,fa,k0,k1,k2,kd,hP,cond_false]
theorem ln_12 (h:L6T CT) (base:Nat) {A:Heap} {r:List V} {x:InsD} (hr:p9 A r x) (hx:SmI x) (ho:x.op=12) (hl:x.ls.length=2):∃ H',dn CT (.fn afv [] []) [.agg r] base A=some (Sb ((((⟨#[98,114,32]⟩:ByteArray) ++ (x.ls.getD 0 ⟨#[]⟩)) ++ (⟨#[32]⟩:ByteArray)) ++ (x.ls.getD 1 ⟨#[]⟩)),H')∧Ext A H':=by
 obtain ⟨av,lv,rfl,q1,q2,q3,q4,_⟩:=hr;obtain ⟨D,hD⟩:∃ D,A ++ [Ob.cells 0 (jg x av lv)]=D:=⟨_,rfl⟩;have eD:Ext A D:=hD ▸ Ext.app _ _;have hg:jm D A.length 0=some (jg x av lv):=hD ▸ dh A 0 _
 have lD:D.length=A.length+1:=by rw [← hD,eu]
 have hav:=q1.one;have hlv:=q3.one
 have o1:(x.op == 1:Bool)=false:=by rw [ho];rfl
 have o2:(x.op == 2:Bool)=false:=by rw [ho];rfl
 have o3:(x.op == 3:Bool)=false:=by rw [ho];rfl
 have o4:(x.op == 4:Bool)=false:=by rw [ho];rfl
 have o5:(x.op == 5:Bool)=false:=by rw [ho];rfl
 have o7:(x.op == 7:Bool)=false:=by rw [ho];rfl
 have o8:(x.op == 8:Bool)=false:=by rw [ho];rfl
 have o9:(x.op == 9:Bool)=false:=by rw [ho];rfl
 have o10:(x.op == 10:Bool)=false:=by rw [ho];rfl
 have o11:(x.op == 11:Bool)=false:=by rw [ho];rfl
 have o12:(x.op == 12:Bool)=true:=by rw [ho];rfl
 have o13:(x.op == 13:Bool)=false:=by rw [ho];rfl
 have o14:(x.op == 14:Bool)=false:=by rw [ho];rfl
 refine ⟨D,gp (c:=uo) (k:=1) h.line rfl (by decide) qo ?_,eD⟩
 simp only [jg,Sb] at hD hg
 have s0:=hx.ls _ (ak (nk (show 0 < x.ls.length by omega) (⟨#[]⟩:ByteArray)))
 obtain ⟨y0,y1,y2⟩:=ab0 (q3.ext eD) q4 (show 0 < x.ls.length by omega)
 simp only [ry] at y1
 have s1:=hx.ls _ (ak (nk (show 1 < x.ls.length by omega) (⟨#[]⟩:ByteArray)))
 obtain ⟨z0,z1,z2⟩:=ab0 (q3.ext eD) q4 (show 1 < x.ls.length by omega)
 rw [show ((1:Nat):Int)=1 from rfl] at z1
 skip
 cases hd:(x.d.data.toList == []:Bool) with
 | true=>
   obtain ⟨P,hP⟩:∃ P:ByteArray,(⟨#[]⟩:ByteArray)=P:=⟨_,rfl⟩
   have sP:P.size≤203:=by rw [← hP];exact gq _
   have k0:((((⟨#[98,114,32]⟩:ByteArray).size+(x.ls.getD 0 ⟨#[]⟩).size:Nat):Int) > IntKind.i64.max)=False:=zq (af 3) s0 (by decide)
   have k1:(((((⟨#[98,114,32]⟩:ByteArray) ++ (x.ls.getD 0 ⟨#[]⟩)).size+(⟨#[32]⟩:ByteArray).size:Nat):Int) > IntKind.i64.max)=False:=zq (szA (af 3) s0) (af 1) (by decide)
   have k2:((((((⟨#[98,114,32]⟩:ByteArray) ++ (x.ls.getD 0 ⟨#[]⟩)) ++ (⟨#[32]⟩:ByteArray)).size+(x.ls.getD 1 ⟨#[]⟩).size:Nat):Int) > IntKind.i64.max)=False:=zq (szA (szA (af 3) s0) (af 1)) s1 (by decide)
   simp only [Iz,Sb,bl,jg,uo,aax,aa,simprocAttr,hav,hlv,hD,lD,hg,hd,o1,o2,o3,o4,o5,o7,o8,o9,o10,o11,o12,o13,o14,y1,y2,z1,z2,k0,k1,k2,cond_true]
 | false=>
   obtain ⟨P,hP⟩:∃ P:ByteArray,x.d ++ (⟨#[32,61,32]⟩:ByteArray)=P:=⟨_,rfl⟩
   have sP:P.size≤203:=by rw [← hP];exact szA hx.d (show (⟨#[32,61,32]⟩:ByteArray).size≤3 from af 3)
   have kd:(((x.d.size+(⟨#[32,61,32]⟩:ByteArray).size:Nat):Int) > IntKind.i64.max)=False:=zq hx.d (af 3) (by decide)
   have k0:((((⟨#[98,114,32]⟩:ByteArray).size+(x.ls.getD 0 ⟨#[]⟩).size:Nat):Int) > IntKind.i64.max)=False:=zq (af 3) s0 (by decide)
   have k1:(((((⟨#[98,114,32]⟩:ByteArray) ++ (x.ls.getD 0 ⟨#[]⟩)).size+(⟨#[32]⟩:ByteArray).size:Nat):Int) > IntKind.i64.max)=False:=zq (szA (af 3) s0) (af 1) (by decide)
   have k2:((((((⟨#[98,114,32]⟩:ByteArray) ++ (x.ls.getD 0 ⟨#[]⟩)) ++ (⟨#[32]⟩:ByteArray)).size+(x.ls.getD 1 ⟨#[]⟩).size:Nat):Int) > IntKind.i64.max)=False:=zq (szA (szA (af 3) s0) (af 1)) s1 (by decide)
   simp only [Iz,Sb,bl,jg,uo,aax,aa,simprocAttr,hav,hlv,hD,lD,hg,hd,o1,o2,o3,o4,o5,o7,o8,o9,o10,o11,o12,o13,o14,y1,y2,z1,z2,k0,k1,k2,kd,hP,cond_false]
theorem ln_13 (h:L6T CT) (base:Nat) {A:Heap} {r:List V} {x:InsD} (hr:p9 A r x) (hx:SmI x) (ho:x.op=13) (hl:x.ls.length=1):∃ H',dn CT (.fn afv [] []) [.agg r] base A=some (Sb ((⟨#[103,111,116,111,32]⟩:ByteArray) ++ (x.ls.getD 0 ⟨#[]⟩)),H')∧Ext A H':=by
 obtain ⟨av,lv,rfl,q1,q2,q3,q4,_⟩:=hr;obtain ⟨D,hD⟩:∃ D,A ++ [Ob.cells 0 (jg x av lv)]=D:=⟨_,rfl⟩;have eD:Ext A D:=hD ▸ Ext.app _ _;have hg:jm D A.length 0=some (jg x av lv):=hD ▸ dh A 0 _
 have lD:D.length=A.length+1:=by rw [← hD,eu]
 have hav:=q1.one;have hlv:=q3.one
 have o1:(x.op == 1:Bool)=false:=by rw [ho];rfl
 have o2:(x.op == 2:Bool)=false:=by rw [ho];rfl
 have o3:(x.op == 3:Bool)=false:=by rw [ho];rfl
 have o4:(x.op == 4:Bool)=false:=by rw [ho];rfl
 have o5:(x.op == 5:Bool)=false:=by rw [ho];rfl
 have o7:(x.op == 7:Bool)=false:=by rw [ho];rfl
 have o8:(x.op == 8:Bool)=false:=by rw [ho];rfl
 have o9:(x.op == 9:Bool)=false:=by rw [ho];rfl
 have o10:(x.op == 10:Bool)=false:=by rw [ho];rfl
 have o11:(x.op == 11:Bool)=false:=by rw [ho];rfl
 have o12:(x.op == 12:Bool)=false:=by rw [ho];rfl
 have o13:(x.op == 13:Bool)=true:=by rw [ho];rfl
 have o14:(x.op == 14:Bool)=false:=by rw [ho];rfl
 refine ⟨D,gp (c:=uo) (k:=1) h.line rfl (by decide) qo ?_,eD⟩
 simp only [jg,Sb] at hD hg
 have s0:=hx.ls _ (ak (nk (show 0 < x.ls.length by omega) (⟨#[]⟩:ByteArray)))
 obtain ⟨y0,y1,y2⟩:=ab0 (q3.ext eD) q4 (show 0 < x.ls.length by omega)
 simp only [ry] at y1
 skip
 cases hd:(x.d.data.toList == []:Bool) with
 | true=>
   obtain ⟨P,hP⟩:∃ P:ByteArray,(⟨#[]⟩:ByteArray)=P:=⟨_,rfl⟩
   have sP:P.size≤203:=by rw [← hP];exact gq _
   have k0:((((⟨#[103,111,116,111,32]⟩:ByteArray).size+(x.ls.getD 0 ⟨#[]⟩).size:Nat):Int) > IntKind.i64.max)=False:=zq (af 5) s0 (by decide)
   simp only [Iz,Sb,bl,jg,uo,aax,aa,simprocAttr,hav,hlv,hD,lD,hg,hd,o1,o2,o3,o4,o5,o7,o8,o9,o10,o11,o12,o13,o14,y1,y2,k0,cond_true]
 | false=>
   obtain ⟨P,hP⟩:∃ P:ByteArray,x.d ++ (⟨#[32,61,32]⟩:ByteArray)=P:=⟨_,rfl⟩
   have sP:P.size≤203:=by rw [← hP];exact szA hx.d (show (⟨#[32,61,32]⟩:ByteArray).size≤3 from af 3)
   have kd:(((x.d.size+(⟨#[32,61,32]⟩:ByteArray).size:Nat):Int) > IntKind.i64.max)=False:=zq hx.d (af 3) (by decide)
   have k0:((((⟨#[103,111,116,111,32]⟩:ByteArray).size+(x.ls.getD 0 ⟨#[]⟩).size:Nat):Int) > IntKind.i64.max)=False:=zq (af 5) s0 (by decide)
   simp only [Iz,Sb,bl,jg,uo,aax,aa,simprocAttr,hav,hlv,hD,lD,hg,hd,o1,o2,o3,o4,o5,o7,o8,o9,o10,o11,o12,o13,o14,y1,y2,k0,kd,hP,cond_false]
end
def apa (P:ByteArray) (x:InsD):Nat→ByteArray
 | 0=>P
 | k+1=>(((if k=0 then P else apa P x k ++ bCm) ++ x.ls.getD k ⟨#[]⟩) ++ atl) ++ x.xs.getD k ⟨#[]⟩
theorem awz {P:ByteArray} {x:InsD} (hP:P.size≤300) (hx:SmI x) (he:x.xs.length=x.ls.length):∀ k,k≤x.ls.length→(apa P x k).size≤300+404 * k:=by
 intro k
 induction k with
 | zero=>intro _;exact hP
 | succ k ih=>
   intro hk
   have h1:=ih (by omega)
   have h2:=hx.ls _ (ak (nk (show k < x.ls.length by omega) (⟨#[]⟩:ByteArray)))
   have h3:=hx.xs _ (ak (nk (show k < x.xs.length by omega) (⟨#[]⟩:ByteArray)))
   have e1:atl.size=2:=rfl;have e2:bCm.size=2:=rfl;unfold apa;split
   ·simp only [ed];omega
   ·simp only [ed];omega
section
variable {CT:Nat→Option CFun}
theorem bg8 (base:Nat) {D:Heap} {p:Nat} {x:InsD} {av lv:V} (hg:jm D p 0=some (jg x av lv)) (q1:Rd D av (x.xs.map Sb)) (q2:aa7 av) (q3:Rd D lv (x.ls.map Sb)) (q4:aa7 lv) (hx:SmI x) (he:x.xs.length=x.ls.length) {P:ByteArray} (hP:P.size≤300):
 itW (evC (dn CT) itW base aj8) [] D.length (iw 154 [(1,.ref p 0 0),(3,Sb P),(4,Iz 0)]) D=some (.ext 1,iw 154 [(1,.ref p 0 0),(3,Sb (apa P x x.ls.length)),(4,Iz x.ls.length),(131,bl false)],D):=by
 have hpl:=qf q3;have hn:=hx.nl;simp only [jg] at hg
 have h:=a3k x.ls.length (fun k=>itW (evC (dn CT) itW base aj8) [] D.length (iw 154 [(1,.ref p 0 0),(3,Sb (apa P x k)),(4,Iz k)]) D) (fun k hk=>by
  have hlt':((k:Int) < ((x.ls.length:Nat):Int)):=by omega
  have hwk:=w64 (n:=k) (by omega)
  obtain ⟨y,y1,y2⟩:=ab0 q3 q4 hk
  obtain ⟨z,z1,z2⟩:=ab0 q1 q2 (show k < x.xs.length by omega)
  have sz:=awz hP hx he k (by omega)
  have h2:=hx.ls _ (ak (nk (show k < x.ls.length by omega) (⟨#[]⟩:ByteArray)))
  have h3:=hx.xs _ (ak (nk (show k < x.xs.length by omega) (⟨#[]⟩:ByteArray)))
  have e1:atl.size=2:=rfl;have e2:bCm.size=2:=rfl;cases k with
  | zero=>
    have e:apa P x (0+1)=((P ++ x.ls.getD 0 ⟨#[]⟩) ++ atl) ++ x.xs.getD 0 ⟨#[]⟩:=rfl;have e0:apa P x 0=P:=rfl
    have g0:¬ (((0:Nat):Int) > 0):=by decide
    have c1:(((P.size+(x.ls.getD 0 ⟨#[]⟩).size:Nat):Int) > IntKind.i64.max)=False:=yn (by omega)
    have c2:((((P ++ x.ls.getD 0 ⟨#[]⟩).size+atl.size:Nat):Int) > IntKind.i64.max)=False:=yn (by simp only [ed];omega)
    have c3:(((((P ++ x.ls.getD 0 ⟨#[]⟩) ++ atl).size+(x.xs.getD 0 ⟨#[]⟩).size:Nat):Int) > IntKind.i64.max)=False:=yn (by simp only [ed];omega)
    simp only [atl] at c2 c3 e;rw [e,e0];simp only [ry] at hlt' y1 z1 hwk g0;rw [dw];simp only [Iz,Sb,bl,aax,aa,reduceIte,reduceCtorEq,Nat.reduceEqDiff,Nat.reduceLT,Nat.reduceLeDiff,Nat.reduceBEq,Nat.reduceAdd,Nat.reduceMul,hg,hpl,hlt',y1,y2,z1,z2,c1,c2,c3,g0,hwk,mr rfl]
  | succ j=>
    have e:apa P x (j+1+1)=(((apa P x (j+1) ++ bCm) ++ x.ls.getD (j+1) ⟨#[]⟩) ++ atl) ++ x.xs.getD (j+1) ⟨#[]⟩:=rfl
    have g0:(((j+1:Nat):Int) > 0):=by omega
    have c0:((((apa P x (j+1)).size+bCm.size:Nat):Int) > IntKind.i64.max)=False:=yn (by omega)
    have c1:((((apa P x (j+1) ++ bCm).size+(x.ls.getD (j+1) ⟨#[]⟩).size:Nat):Int) > IntKind.i64.max)=False:=yn (by simp only [ed];omega)
    have c2:(((((apa P x (j+1) ++ bCm) ++ x.ls.getD (j+1) ⟨#[]⟩).size+atl.size:Nat):Int) > IntKind.i64.max)=False:=yn (by simp only [ed];omega)
    have c3:((((((apa P x (j+1) ++ bCm) ++ x.ls.getD (j+1) ⟨#[]⟩) ++ atl).size+(x.xs.getD (j+1) ⟨#[]⟩).size:Nat):Int) > IntKind.i64.max)=False:=yn (by simp only [ed];omega)
    simp only [atl,bCm] at c0 c1 c2 c3 e;rw [e];rw [dw];simp only [Iz,Sb,bl,aax,aa,reduceIte,reduceCtorEq,Nat.reduceEqDiff,Nat.reduceLT,Nat.reduceLeDiff,Nat.reduceBEq,Nat.reduceAdd,Nat.reduceMul,hg,hpl,hlt',y1,y2,z1,z2,c0,c1,c2,c3,g0,hwk,mr rfl]) 0 (gq _)
 rw [ry] at h;refine h.trans ?_;rw [dw];simp only [Iz,Sb,bl,aax,aa,reduceIte,reduceCtorEq,Nat.reduceEqDiff,Nat.reduceLT,Nat.reduceLeDiff,Nat.reduceBEq,Nat.reduceAdd,Nat.reduceMul,hg,hpl,jo,mr rfl]
theorem ln_14 (h:L6T CT) (base:Nat) {A:Heap} {r:List V} {x:InsD} (hr:p9 A r x) (hx:SmI x) (ho:x.op=14):∃ H',dn CT (.fn afv [] []) [.agg r] base A=some (Sb (bif (x.a.data.toList == []) then (⟨#[114,101,116]⟩:ByteArray) else (⟨#[114,101,116,32]⟩:ByteArray) ++ x.a),H')∧Ext A H':=by
 obtain ⟨av,lv,rfl,q1,q2,q3,q4,_⟩:=hr;obtain ⟨D,hD⟩:∃ D,A ++ [Ob.cells 0 (jg x av lv)]=D:=⟨_,rfl⟩;have eD:Ext A D:=hD ▸ Ext.app _ _;have hg:jm D A.length 0=some (jg x av lv):=hD ▸ dh A 0 _
 have lD:D.length=A.length+1:=by rw [← hD,eu]
 have hav:=q1.one;have hlv:=q3.one
 have o1:(x.op == 1:Bool)=false:=by rw [ho];rfl
 have o2:(x.op == 2:Bool)=false:=by rw [ho];rfl
 have o3:(x.op == 3:Bool)=false:=by rw [ho];rfl
 have o4:(x.op == 4:Bool)=false:=by rw [ho];rfl
 have o5:(x.op == 5:Bool)=false:=by rw [ho];rfl
 have o7:(x.op == 7:Bool)=false:=by rw [ho];rfl
 have o8:(x.op == 8:Bool)=false:=by rw [ho];rfl
 have o9:(x.op == 9:Bool)=false:=by rw [ho];rfl
 have o10:(x.op == 10:Bool)=false:=by rw [ho];rfl
 have o11:(x.op == 11:Bool)=false:=by rw [ho];rfl
 have o12:(x.op == 12:Bool)=false:=by rw [ho];rfl
 have o13:(x.op == 13:Bool)=false:=by rw [ho];rfl
 have o14:(x.op == 14:Bool)=true:=by rw [ho];rfl
 refine ⟨D,gp (c:=uo) (k:=1) h.line rfl (by decide) qo ?_,eD⟩
 simp only [jg,Sb] at hD hg
 have k0:((((⟨#[114,101,116,32]⟩:ByteArray).size+x.a.size:Nat):Int) > IntKind.i64.max)=False:=zq (show (⟨#[114,101,116,32]⟩:ByteArray).size≤4 from af 4) hx.a (by decide)
 have kd:(((x.d.size+(⟨#[32,61,32]⟩:ByteArray).size:Nat):Int) > IntKind.i64.max)=False:=zq hx.d (show (⟨#[32,61,32]⟩:ByteArray).size≤3 from af 3) (by decide)
 cases hd:(x.d.data.toList == []:Bool) <;> cases ha:(x.a.data.toList == []:Bool) <;> simp only [Iz,Sb,bl,jg,uo,aax,aa,simprocAttr,hav,hlv,hD,lD,hg,hd,o1,o2,o3,o4,o5,o7,o8,o9,o10,o11,o12,o13,o14,ha,k0,kd,cond_true,cond_false]
theorem ln_6 (h:L6T CT) (base:Nat) {A:Heap} {r:List V} {x:InsD} (hr:p9 A r x) (hx:SmI x) (ho:x.op=6) (he:x.xs.length=x.ls.length):∃ H',dn CT (.fn afv [] []) [.agg r] base A=some (Sb (apa (preB x ++ (⟨#[112,104,105,32,91]⟩:ByteArray)) x x.ls.length ++ (⟨#[93]⟩:ByteArray)),H')∧Ext A H':=by
 obtain ⟨av,lv,rfl,q1,q2,q3,q4,_⟩:=hr;obtain ⟨D,hD⟩:∃ D,A ++ [Ob.cells 0 (jg x av lv)]=D:=⟨_,rfl⟩;have eD:Ext A D:=hD ▸ Ext.app _ _;have hg:jm D A.length 0=some (jg x av lv):=hD ▸ dh A 0 _
 have lD:D.length=A.length+1:=by rw [← hD,eu]
 have hav:=q1.one;have hlv:=q3.one
 have o1:(x.op == 1:Bool)=false:=by rw [ho];rfl
 have o2:(x.op == 2:Bool)=false:=by rw [ho];rfl
 have o3:(x.op == 3:Bool)=false:=by rw [ho];rfl
 have o4:(x.op == 4:Bool)=false:=by rw [ho];rfl
 have o5:(x.op == 5:Bool)=false:=by rw [ho];rfl
 have o7:(x.op == 7:Bool)=false:=by rw [ho];rfl
 have o8:(x.op == 8:Bool)=false:=by rw [ho];rfl
 have o9:(x.op == 9:Bool)=false:=by rw [ho];rfl
 have o10:(x.op == 10:Bool)=false:=by rw [ho];rfl
 have o11:(x.op == 11:Bool)=false:=by rw [ho];rfl
 have o12:(x.op == 12:Bool)=false:=by rw [ho];rfl
 have o13:(x.op == 13:Bool)=false:=by rw [ho];rfl
 have o14:(x.op == 14:Bool)=false:=by rw [ho];rfl
 refine ⟨D,gp (c:=uo) (k:=1) h.line rfl (by decide) qo ?_,eD⟩
 simp only [jg,Sb] at hD hg
 have kd:(((x.d.size+(⟨#[32,61,32]⟩:ByteArray).size:Nat):Int) > IntKind.i64.max)=False:=zq hx.d (show (⟨#[32,61,32]⟩:ByteArray).size≤3 from af 3) (by decide)
 have sp:(⟨#[112,104,105,32,91]⟩:ByteArray).size=5:=rfl;have sb:(⟨#[93]⟩:ByteArray).size=1:=rfl;have hn:=hx.nl;have go:∀ P:ByteArray,P.size≤203→preB x=P→True:=fun _ _ _=>trivial;unfold preB;cases hd:(x.d.data.toList == []:Bool) with
 | true=>
   obtain ⟨Q,hQ⟩:∃ Q:ByteArray,(⟨#[]⟩:ByteArray) ++ (⟨#[112,104,105,32,91]⟩:ByteArray)=Q:=⟨_,rfl⟩
   have sQ:Q.size≤300:=by rw [← hQ,ed,sp];exact (show 0+5≤300 by decide)
   have k0:((((⟨#[]⟩:ByteArray).size+(⟨#[112,104,105,32,91]⟩:ByteArray).size:Nat):Int) > IntKind.i64.max)=False:=yn (show 0+5≤4611686018427387904 by decide)
   have fl:=bg8 (CT:=CT) base hg (q1.ext eD) q2 (q3.ext eD) q4 hx he sQ;have hz:=awz sQ hx he x.ls.length (af _)
   have k1:((((apa Q x x.ls.length).size+(⟨#[93]⟩:ByteArray).size:Nat):Int) > IntKind.i64.max)=False:=yn (by omega)
   rw [lD] at fl;simp only [Iz,Sb,bl] at fl;simp only [Iz,Sb,bl,jg,uo,aax,aa,simprocAttr,hav,hlv,hD,lD,hg,hd,o1,o2,o3,o4,o5,o7,o8,o9,o10,o11,o12,o13,o14,hQ,k0,fl,k1,cond_true]
 | false=>
   obtain ⟨P,hP⟩:∃ P:ByteArray,x.d ++ (⟨#[32,61,32]⟩:ByteArray)=P:=⟨_,rfl⟩
   have sP:P.size≤203:=by rw [← hP];exact szA hx.d (show (⟨#[32,61,32]⟩:ByteArray).size≤3 from af 3)
   obtain ⟨Q,hQ⟩:∃ Q:ByteArray,P ++ (⟨#[112,104,105,32,91]⟩:ByteArray)=Q:=⟨_,rfl⟩
   have sQ:Q.size≤300:=by rw [← hQ,ed,sp];omega
   have k0:(((P.size+(⟨#[112,104,105,32,91]⟩:ByteArray).size:Nat):Int) > IntKind.i64.max)=False:=yn (by omega)
   have fl:=bg8 (CT:=CT) base hg (q1.ext eD) q2 (q3.ext eD) q4 hx he sQ;have hz:=awz sQ hx he x.ls.length (af _)
   have k1:((((apa Q x x.ls.length).size+(⟨#[93]⟩:ByteArray).size:Nat):Int) > IntKind.i64.max)=False:=yn (by omega)
   rw [lD] at fl;simp only [Iz,Sb,bl] at fl;simp only [Iz,Sb,bl,jg,uo,aax,aa,simprocAttr,hav,hlv,hD,lD,hg,hd,o1,o2,o3,o4,o5,o7,o8,o9,o10,o11,o12,o13,o14,kd,hP,hQ,k0,fl,k1,cond_false]
end
theorem aat {a b:ByteArray} (h:a.data.toList=b.data.toList):a=b:=bkh (wu h)
theorem w2 (a b:ByteArray):(ko [a,b]).data.toList=a.data.toList ++ 32 :: b.data.toList:=by
 simp [ko,abo,Lib.join,List.intercalate,bSp]
theorem w3 (a b c:ByteArray):(ko [a,b,c]).data.toList=a.data.toList ++ 32 :: (b.data.toList ++ 32 :: c.data.toList):=by
 simp [ko,abo,Lib.join,List.intercalate,bSp]
theorem lc (a b:ByteArray):(a ++ b).data.toList=a.data.toList ++ b.data.toList:=by
 rw [yz,x9]
theorem yx (x:InsD):aad x=preB x ++ l8 x:=by
 unfold aad preB;have hs:x.d.size=x.d.data.toList.length:=rfl;cases h:(x.d.data.toList == []:Bool) with
 | true=>
   have h0:x.d.size=0:=by rw [hs,eq_of_beq h];rfl
   rw [if_pos h0,cond_true];apply aat;rw [lc];rfl
 | false=>
   have h0:¬ x.d.size=0:=fun e=>by
    rw [hs,akt] at e;rw [e] at h;cases h
   rw [if_neg h0,cond_false];apply aat;rw [w3,lc,lc];simp
theorem axx {x:InsD} (hb:biG x=false) (hd:(shp x.op).d=false):preB x=⟨#[]⟩:=by
 unfold biG bi1 at hb;simp only [jq] at hb;have h:=hb.1.1.1.1.1.1.1.2;rw [hd,kv,ig,Bool.not_eq_false'] at h;unfold preB;rw [h,cond_true]
theorem tx_1 {x:InsD} (ho:x.op=1) (hk:0≤x.k∧x.k < 100):((preB x ++ (⟨#[97,108,108,111,99,97,32]⟩:ByteArray)) ++ (an7 x.k))=aad x:=by
 have ef:l8 x=ko [xh,itB x.k]:=by unfold l8;simp [ho]
 rw [yx,ef];have ek:an7 x.k=itB x.k:=awk hk.1 hk.2;rw [ek];apply aat;simp [lc,w2,w3,xh,xe,ae8,ac4,ac2,aah,ac0,aaf,xz,ac3,aag,bBr,ac1]
theorem tx_2 {x:InsD} (ho:x.op=2) (hk:0≤x.k∧x.k < 100):((preB x ++ (⟨#[109,97,108,108,111,99,32]⟩:ByteArray)) ++ (an7 x.k))=aad x:=by
 have ef:l8 x=ko [xe,itB x.k]:=by unfold l8;simp [ho]
 rw [yx,ef];have ek:an7 x.k=itB x.k:=awk hk.1 hk.2;rw [ek];apply aat;simp [lc,w2,w3,xh,xe,ae8,ac4,ac2,aah,ac0,aaf,xz,ac3,aag,bBr,ac1]
theorem tx_3 {x:InsD} (ho:x.op=3):(preB x ++ (⟨#[110,117,108,108]⟩:ByteArray))=aad x:=by
 have ef:l8 x=ae8:=by unfold l8;simp [ho]
 rw [yx,ef];apply aat;simp [lc,w2,w3,xh,xe,ae8,ac4,ac2,aah,ac0,aaf,xz,ac3,aag,bBr,ac1]
theorem tx_4 {x:InsD} (ho:x.op=4):((preB x ++ (⟨#[97,100,100,114,32]⟩:ByteArray)) ++ x.f)=aad x:=by
 have ef:l8 x=ko [ac4,x.f]:=by unfold l8;simp [ho]
 rw [yx,ef];apply aat;simp [lc,w2,w3,xh,xe,ae8,ac4,ac2,aah,ac0,aaf,xz,ac3,aag,bBr,ac1]
theorem tx_5 {x:InsD} (ho:x.op=5):((preB x ++ (⟨#[99,111,112,121,32]⟩:ByteArray)) ++ x.a)=aad x:=by
 have ef:l8 x=ko [ac2,x.a]:=by unfold l8;simp [ho]
 rw [yx,ef];apply aat;simp [lc,w2,w3,xh,xe,ae8,ac4,ac2,aah,ac0,aaf,xz,ac3,aag,bBr,ac1]
theorem tx_7 {x:InsD} (ho:x.op=7) (hk:0≤x.k∧x.k < 100):((((preB x ++ (⟨#[102,105,101,108,100,32]⟩:ByteArray)) ++ x.a) ++ (⟨#[32]⟩:ByteArray)) ++ (an7 x.k))=aad x:=by
 have ef:l8 x=ko [aah,x.a,itB x.k]:=by unfold l8;simp [ho]
 rw [yx,ef];have ek:an7 x.k=itB x.k:=awk hk.1 hk.2;rw [ek];apply aat;simp [lc,w2,w3,xh,xe,ae8,ac4,ac2,aah,ac0,aaf,xz,ac3,aag,bBr,ac1]
theorem tx_8 {x:InsD} (ho:x.op=8):((preB x ++ (⟨#[108,111,97,100,32]⟩:ByteArray)) ++ x.a)=aad x:=by
 have ef:l8 x=ko [ac0,x.a]:=by unfold l8;simp [ho]
 rw [yx,ef];apply aat;simp [lc,w2,w3,xh,xe,ae8,ac4,ac2,aah,ac0,aaf,xz,ac3,aag,bBr,ac1]
theorem tx_9 {x:InsD} (ho:x.op=9) (hb:biG x=false):((((⟨#[115,116,111,114,101,32]⟩:ByteArray) ++ x.a) ++ (⟨#[44,32]⟩:ByteArray)) ++ x.b)=aad x:=by
 have ef:l8 x=ko [aaf,x.a ++ xz,x.b]:=by unfold l8;simp [ho]
 rw [yx,ef]
 rw [axx hb (by rw [ho];rfl)]
 apply aat;simp [lc,w2,w3,xh,xe,ae8,ac4,ac2,aah,ac0,aaf,xz,ac3,aag,bBr,ac1]
theorem tx_10 {x:InsD} (ho:x.op=10):(((preB x ++ (⟨#[99,97,108,108,32]⟩:ByteArray)) ++ x.f) ++ (ug x.xs))=aad x:=by
 have ef:l8 x=ko [ac3,x.f ++ ug x.xs]:=by unfold l8;simp [ho]
 rw [yx,ef];apply aat;simp [lc,w2,w3,xh,xe,ae8,ac4,ac2,aah,ac0,aaf,xz,ac3,aag,bBr,ac1]
theorem tx_11 {x:InsD} (ho:x.op=11):(((preB x ++ (⟨#[105,99,97,108,108,32]⟩:ByteArray)) ++ x.a) ++ (ug x.xs))=aad x:=by
 have ef:l8 x=ko [aag,x.a ++ ug x.xs]:=by unfold l8;simp [ho]
 rw [yx,ef];apply aat;simp [lc,w2,w3,xh,xe,ae8,ac4,ac2,aah,ac0,aaf,xz,ac3,aag,bBr,ac1]
theorem tx_12 {x:InsD} (ho:x.op=12) (hb:biG x=false):((((⟨#[98,114,32]⟩:ByteArray) ++ (x.ls.getD 0 ⟨#[]⟩)) ++ (⟨#[32]⟩:ByteArray)) ++ (x.ls.getD 1 ⟨#[]⟩))=aad x:=by
 have ef:l8 x=ko [bBr,x.ls.getD 0 ⟨#[]⟩,x.ls.getD 1 ⟨#[]⟩]:=by unfold l8;simp [ho]
 rw [yx,ef]
 rw [axx hb (by rw [ho];rfl)]
 apply aat;simp [lc,w2,w3,xh,xe,ae8,ac4,ac2,aah,ac0,aaf,xz,ac3,aag,bBr,ac1]
theorem tx_13 {x:InsD} (ho:x.op=13) (hb:biG x=false):((⟨#[103,111,116,111,32]⟩:ByteArray) ++ (x.ls.getD 0 ⟨#[]⟩))=aad x:=by
 have ef:l8 x=ko [ac1,x.ls.getD 0 ⟨#[]⟩]:=by unfold l8;simp [ho]
 rw [yx,ef]
 rw [axx hb (by rw [ho];rfl)]
 apply aat;simp [lc,w2,w3,xh,xe,ae8,ac4,ac2,aah,ac0,aaf,xz,ac3,aag,bBr,ac1]
theorem tx_14 {x:InsD} (ho:x.op=14) (hb:biG x=false) (h:x.a.data.toList=[]∨Wd x.a.data.toList):(bif (x.a.data.toList == []) then (⟨#[114,101,116]⟩:ByteArray) else (⟨#[114,101,116,32]⟩:ByteArray) ++ x.a)=aad x:=by
 have ef:l8 x=bcf x:=by unfold l8;simp [ho]
 rw [yx,ef,axx hb (by rw [ho];rfl)]
 apply aat;rw [lc];show _=[] ++ (bcf x).data.toList;rw [cu];unfold bcf;rw [uq]
 rcases h with h | h
 ·rw [h,aq1,h];show (⟨#[114,101,116]⟩:ByteArray).data.toList=_;unfold Lib.trimSuffix Lib.hasSuffix az9;decide
 ·have hne:(x.a.data.toList == []:Bool)=false:=by
   rw [a0d];intro e;exact h.1 (eq_of_beq e)
  rw [hne,cond_false]
  have hg:GB (ko [az9,x.a]):=.two (.lit (by decide)) (.w h)
  have:Lib.trimSuffix (ko [az9,x.a]).data.toList [32]=(ko [az9,x.a]).data.toList:=by
   unfold Lib.trimSuffix;rw [if_neg];intro hs;unfold Lib.hasSuffix at hs;obtain ⟨t,ht⟩:=List.isSuffixOf_iff_suffix.1 hs;have hl:=(GL.goodL hg).la;rw [← ht] at hl;simp at hl
  rw [this,aq1,lc];rfl
theorem a5y (P:ByteArray) (x:InsD):∀ k,(apa P x k).data.toList=P.data.toList ++ bCm.data.toList.intercalate ((prL x k).map (·.data.toList)):=by
 intro k
 induction k with
 | zero=>simp [apa,prL,List.intercalate]
 | succ k ih=>
   rw [axg,acu];unfold apa;by_cases h0:k=0
   ·subst h0;rw [if_pos rfl,lc,lc,lc];have e:prL x 0=[]:=rfl;rw [e];simp [List.intercalate,pairT,lc]
   ·have hne:(prL x k).map (·.data.toList)≠[]:=by
     intro e;have:=congrArg List.length e;rw [sw,ai7,gy] at this;exact h0 this
    rw [if_neg h0,lc,lc,lc,lc,ih];show _=P.data.toList ++ bCm.data.toList.intercalate (_ ++ [_]);rw [inter_snoc _ _ _ hne];simp [pairT,lc]
theorem tx_6 {x:InsD} (ho:x.op=6):(apa (preB x ++ (⟨#[112,104,105,32,91]⟩:ByteArray)) x x.ls.length ++ (⟨#[93]⟩:ByteArray))=aad x:=by
 have ef:l8 x=ko [a6i,aed x]:=by unfold l8;simp [ho]
 rw [yx,ef];apply aat
 have ej:(abo (prL x x.ls.length) bCm).data.toList=bCm.data.toList.intercalate ((prL x x.ls.length).map (·.data.toList)):=by
  unfold abo;rw [uq];rfl
 rw [lc,a5y,lc,lc,w2];unfold aed;rw [lc,lc,ej];simp [a6i]
section
variable {CT:Nat→Option CFun}
theorem a2l (h:L6T CT) (base:Nat) {A:Heap} {r:List V} {x:InsD} (hr:p9 A r x) (hx:SmI x) (ht:TI x) (hb:biG x=false):∃ H',dn CT (.fn afv [] []) [.agg r] base A=some (Sb (aad x),H')∧Ext A H':=by
 have hk:=ht.fo.k
 rcases ht.fo.op with ho | ho | ho | ho | ho | ho | ho | ho | ho | ho | ho | ho | ho | ho
 ·rw [← tx_1 ho (hk (by omega))]
  exact ln_1 h base hr hx ho (hk (by omega))
 ·rw [← tx_2 ho (hk (by omega))]
  exact ln_2 h base hr hx ho (hk (by omega))
 ·rw [← tx_3 ho];exact ln_3 h base hr hx ho
 ·rw [← tx_4 ho];exact ln_4 h base hr hx ho
 ·rw [← tx_5 ho];exact ln_5 h base hr hx ho
 ·rw [← tx_6 ho];exact ln_6 h base hr hx ho (ht.fo.phi ho)
 ·rw [← tx_7 ho (hk (by omega))]
  exact ln_7 h base hr hx ho (hk (by omega))
 ·rw [← tx_8 ho];exact ln_8 h base hr hx ho
 ·rw [← tx_9 ho hb];exact ln_9 h base hr hx ho
 ·rw [← tx_10 ho];exact ln_10 h base hr hx ho
 ·rw [← tx_11 ho];exact ln_11 h base hr hx ho
 ·rw [← tx_12 ho hb];exact ln_12 h base hr hx ho (ht.fo.br ho)
 ·rw [← tx_13 ho hb];exact ln_13 h base hr hx ho (ht.fo.go ho)
 ·rw [← tx_14 ho hb (ht.r ho)];exact ln_14 h base hr hx ho
end
def txT (T:ByteArray) (l:List UInt8):ByteArray:=⟨(T.data.toList ++ l).toArray⟩
theorem abh (T:ByteArray) (l:List UInt8):(txT T l).data.toList=T.data.toList ++ l:=by
 unfold txT;rw [uq]
theorem aub (T:ByteArray):txT T []=T:=aat (by rw [abh,oz])
theorem aj4 (T:ByteArray) (l:List UInt8):(txT T l).size=T.size+l.length:=by
 have e:∀ b:ByteArray,b.size=b.data.toList.length:=fun _=>rfl;rw [e,abh,az,← e]
section
variable {CT:Nat→Option CFun}
set_option maxHeartbeats 1000000 in
theorem pr_l0 (h:L6T CT) (base:Nat) {C0:Heap} {q:Nat} {nm pv bv:V} {bs:List BlkD} (hg:jm C0 q 0=some [nm,pv,bv]) (hbv:RdL 2 aay C0 bv bs) {b:Nat} {B:BlkD} (hB:bs[b]?=some B) (hn:B.code.length < 2 ^ 20) (hx:∀ x∈B.code,SmI x∧TI x∧biG x=false) {T:ByteArray} (hM:T.size+(aaw B.code).length≤1152921504606846976) {v1:V} {n9:Int}:
 ∃ C',itW (evC (dn CT) itW base akf) [] C0.length (iw 96 [(1,v1),(8,Sb T),(9,Iz n9),(10,.ref q 0 0),(11,Iz b),(12,Iz 0)]) C0=some (.ext 4,iw 96 [(1,v1),(8,Sb (txT T (aaw B.code))),(9,Iz n9),(10,.ref q 0 0),(11,Iz b),(12,Iz B.code.length),(73,bl false)],C')∧Ext C0 C':=by
 obtain ⟨b1,rb,b2,hbb,_,b3⟩:=hbv.at2 hB;obtain ⟨cv,rfl,hcv⟩:=id hbb;obtain ⟨d,d1,d2⟩:=b3 1 _ rfl
 obtain ⟨C,e2,e3⟩:=aco B.code.length (fun _ C=>Ext C0 C) (fun k C=>itW (evC (dn CT) itW base akf) [] C0.length (iw 96 [(1,v1),(8,Sb (txT T (aaw (B.code.take k)))),(9,Iz n9),(10,.ref q 0 0),(11,Iz b),(12,Iz k)]) C) (by
  intro k C hk hE
  have hlt':((k:Int) < ((B.code.length:Nat):Int)):=by omega
  have hwk:=w64 (n:=k) (by omega)
  have g:=cz hg hE;have d3:=d2 C hE;have hpl:=(zi hcv hE).len;have hxk:B.code[k]?=some (B.code[k]):=ah hk;obtain ⟨x,hxe⟩:∃ x,B.code[k]=x:=⟨_,rfl⟩;rw [hxe] at hxk;obtain ⟨m1,m2,m3⟩:=hx x (ak hxk);obtain ⟨y,re,y1,y2,y3,_⟩:=hcv.at2 hxk;have ly:=y3 C hE;obtain ⟨H1,f1,x1⟩:=a2l h base (y2.ext hE) m1 m2 m3;have hln:(lnI x).data.toList=((⟨#[32,32]⟩:ByteArray).data.toList ++ (aad x).data.toList) ++ [10]:=ahk _ _;have hsu:=aje hxk;have hle:=ax1 (l:=B.code) (k+1);rw [hsu,az,hln,az,az] at hle;have s2:(⟨#[32,32]⟩:ByteArray).data.toList.length=2:=rfl;have s1:(⟨#[10]⟩:ByteArray).data.toList.length=1:=rfl;have sz:∀ z:ByteArray,z.size=z.data.toList.length:=fun _=>rfl;obtain ⟨S,hS⟩:∃ S,txT T (aaw (B.code.take k))=S:=⟨_,rfl⟩
  have hSz:S.size=T.size+(aaw (B.code.take k)).length:=by rw [← hS,aj4]
  have k0:(((S.size+(⟨#[32,32]⟩:ByteArray).size:Nat):Int) > IntKind.i64.max)=False:=yn (by rw [sz ⟨#[32,32]⟩];omega)
  have k1:((((S ++ (⟨#[32,32]⟩:ByteArray)).size+(aad x).size:Nat):Int) > IntKind.i64.max)=False:=yn (by rw [ed,sz ⟨#[32,32]⟩,sz (aad x)];omega)
  have k2:(((((S ++ (⟨#[32,32]⟩:ByteArray)) ++ aad x).size+(⟨#[10]⟩:ByteArray).size:Nat):Int) > IntKind.i64.max)=False:=yn (by rw [ed,ed,sz ⟨#[32,32]⟩,sz (aad x),sz ⟨#[10]⟩];omega)
  have hT:((S ++ (⟨#[32,32]⟩:ByteArray)) ++ aad x) ++ (⟨#[10]⟩:ByteArray)=txT T (aaw (B.code.take (k+1))):=by
   apply aat;rw [hsu,hln,lc,lc,lc,← hS,abh,abh];simp
  refine ⟨trim C0.length (iw 96 [(1,v1),(8,Sb (txT T (aaw (B.code.take (k+1))))),(9,Iz n9),(10,.ref q 0 0),(11,Iz b),(12,Iz (k+1:Nat))]) H1,?_,(hE.trans x1).trim (af _) _⟩;rw [hS];simp only [Sb] at f1;rw [dw];simp only [Iz,Sb,bl,an9,aa,simprocAttr,g,b2,d1,d3,hpl,hlt',y1,ly,f1,k0,k1,k2,hT,hwk]) 0 C0 (gq _) (Ext.refl _)
 rw [ry] at e2;have e0:aaw (B.code.take 0)=[]:=rfl;rw [e0,aub,ky] at e2;refine ⟨trim C0.length (iw 96 [(1,v1),(8,Sb (txT T (aaw B.code))),(9,Iz n9),(10,.ref q 0 0),(11,Iz b),(12,Iz B.code.length),(73,bl false)]) C,e2.trans ?_,e3.trim (af _) _⟩;have g:=cz hg e3;have d3:=d2 C e3;have hpl:=(zi hcv e3).len;rw [dw];simp only [Iz,Sb,bl,an9,aa,simprocAttr,g,b2,d1,d3,hpl,jo]
end
section
variable {CT:Nat→Option CFun}
set_option maxHeartbeats 1000000 in
theorem pr_l1 (h:L6T CT) (base:Nat) {C0:Heap} {q:Nat} {nm pv bv:V} {bs:List BlkD} (hg:jm C0 q 0=some [nm,pv,bv]) (hbv:RdL 2 aay C0 bv bs) (hn:bs.length < 2 ^ 20) (hx:∀ b∈bs,b.code.length < 2 ^ 20∧∀ x∈b.code,SmI x∧TI x∧biG x=false) {T:ByteArray} (hM:T.size+(aaq bs).length≤1152921504606846976) {v1:V} {n9:Int}:
 ∃ C',itW (evC (dn CT) itW base ake) [] C0.length (iw 96 [(1,v1),(8,Sb T),(9,Iz n9),(10,.ref q 0 0),(11,Iz 0)]) C0=some (.ext 2,iw 96 [(1,v1),(8,Sb (txT T (aaq bs))),(9,Iz n9),(10,.ref q 0 0),(11,Iz bs.length),(53,bl false)],C')∧Ext C0 C':=by
 obtain ⟨C,e2,e3⟩:=aco bs.length (fun _ C=>Ext C0 C) (fun k C=>itW (evC (dn CT) itW base ake) [] C0.length (iw 96 [(1,v1),(8,Sb (txT T (aaq (bs.take k)))),(9,Iz n9),(10,.ref q 0 0),(11,Iz k)]) C) (by
  intro k C hk hE
  have hlt':((k:Int) < ((bs.length:Nat):Int)):=by omega
  have hwk:=w64 (n:=k) (by omega)
  have g:=cz hg hE;have hpl:=(wz hbv hE).len;have hxk:bs[k]?=some (bs[k]):=ah hk;obtain ⟨B,hxe⟩:∃ x,bs[k]=x:=⟨_,rfl⟩;rw [hxe] at hxk;obtain ⟨m1,m2⟩:=hx B (ak hxk);obtain ⟨y,re,y1,y2,_,y3⟩:=hbv.at2 hxk;obtain ⟨cv,rfl,hcv⟩:=id y2;obtain ⟨d,d1,d2⟩:=y3 0 _ rfl;have d3:=d2 C hE;have hln:(lnB B).data.toList=(B.label.data.toList ++ (⟨#[58]⟩:ByteArray).data.toList) ++ [10]:=ahk _ _;have hsu:=ajg hxk;have hbk:a6h B=(lnB B).data.toList ++ aaw B.code:=rfl;have hle:=ax3 (l:=bs) (k+1);have s58:(⟨#[58]⟩:ByteArray).data.toList.length=1:=rfl;rw [hsu,hbk,az,az,hln,az,az,s58] at hle;simp only [fq,gy] at hle;have s2:(⟨#[58,10]⟩:ByteArray).size=2:=rfl;have sz:B.label.size=B.label.data.toList.length:=rfl;obtain ⟨S,hS⟩:∃ S,txT T (aaq (bs.take k))=S:=⟨_,rfl⟩
  have hSz:S.size=T.size+(aaq (bs.take k)).length:=by rw [← hS,aj4]
  have k0:(((S.size+B.label.size:Nat):Int) > IntKind.i64.max)=False:=yn (by omega)
  have k1:((((S ++ B.label).size+(⟨#[58,10]⟩:ByteArray).size:Nat):Int) > IntKind.i64.max)=False:=yn (by rw [ed];omega)
  obtain ⟨R,hR⟩:∃ R,(S ++ B.label) ++ (⟨#[58,10]⟩:ByteArray)=R:=⟨_,rfl⟩
  have hRz:R.size=S.size+B.label.size+2:=by rw [← hR,ed,ed,s2]
  obtain ⟨C',f1,x1⟩:=pr_l0 h base (C0:=C) g (wz hbv hE) hxk m1 m2 (T:=R) (by omega) (v1:=v1) (n9:=n9)
  have hT:txT R (aaw B.code)=txT T (aaq (bs.take (k+1))):=by
   apply aat;rw [hsu,hbk,hln,abh,abh,← hR,lc,lc,← hS,abh];simp
  rw [hT] at f1;refine ⟨trim C0.length (iw 96 [(1,v1),(8,Sb (txT T (aaq (bs.take (k+1))))),(9,Iz n9),(10,.ref q 0 0),(11,Iz (k+1:Nat))]) C',?_,(hE.trans x1).trim (af _) _⟩;rw [hS];simp only [Sb,Iz,bl] at f1;rw [dw];simp only [Iz,Sb,bl,an9,aa,simprocAttr,g,y1,d1,d3,hpl,hlt',k0,k1,hR,f1,hwk]) 0 C0 (gq _) (Ext.refl _)
 rw [ry] at e2;have e0:aaq (bs.take 0)=[]:=rfl;rw [e0,aub,ky] at e2;refine ⟨trim C0.length (iw 96 [(1,v1),(8,Sb (txT T (aaq bs))),(9,Iz n9),(10,.ref q 0 0),(11,Iz bs.length),(53,bl false)]) C,e2.trans ?_,e3.trim (af _) _⟩;have g:=cz hg e3;have hpl:=(wz hbv e3).len;rw [dw];simp only [Iz,Sb,bl,an9,aa,simprocAttr,g,hpl,jo]
end
theorem asw (f:FunD):a3x f=(⟨#[102,117,110,99,32]⟩:ByteArray).data.toList ++ (f.name.data.toList ++ ((ug f.ps).data.toList ++ ((⟨#[32,123,10]⟩:ByteArray).data.toList ++ (aaq f.blocks ++ (⟨#[125,10]⟩:ByteArray).data.toList)))):=by
 unfold a3x lnF lnE amn;rw [ahl,ahl,w3,lc];simp [az6]
section
variable {CT:Nat→Option CFun}
set_option maxHeartbeats 1000000 in
theorem pr_l2 (h:L6T CT) (base:Nat) {C0:Heap} (hb:base≤C0.length) {p:Nat} {fv:V} {fs:List FunD} (hg:jm C0 p 0=some [fv]) (hr:sj C0 fv fs) (hs:Small fs) (hf:∀ f∈fs,SmF f) (hx:∀ f∈fs,∀ b∈f.blocks,∀ x∈b.code,SmI x∧TI x∧biG x=false) (hM:(uf fs).length≤140737488355328):
 ∃ C',itW (evC (dn CT) itW base akd) [] C0.length (iw 96 [(1,.ref p 0 0),(8,Sb ⟨#[]⟩),(9,Iz 0)]) C0=some (.ext 0,iw 96 [(1,.ref p 0 0),(8,Sb (txT ⟨#[]⟩ (uf fs))),(9,Iz fs.length),(31,bl false)],C')∧Ext C0 C':=by
 obtain ⟨C,e2,e3⟩:=aco fs.length (fun _ C=>Ext C0 C) (fun k C=>itW (evC (dn CT) itW base akd) [] C0.length (iw 96 [(1,.ref p 0 0),(8,Sb (txT ⟨#[]⟩ (uf (fs.take k)))),(9,Iz k)]) C) (by
  intro k C hk hE
  have hlt':((k:Int) < ((fs.length:Nat):Int)):=by omega
  have hwk:=w64 (n:=k) (by have:=hs.n;omega)
  have hbC:base≤C.length:=by have:=hE.le;omega
  have g:=cz hg hE;have hpl:=RdL.len (hr.ext hE);have hxk:fs[k]?=some (fs[k]):=ah hk;obtain ⟨f,hxe⟩:∃ x,fs[k]=x:=⟨_,rfl⟩;rw [hxe] at hxk;have hmf:=ak hxk;have sf:=hf f hmf;obtain ⟨y,re,y1,y2,y3,_⟩:=hr.at2 hxk;obtain ⟨pv,bv,rfl,u1,u2,u3,u4⟩:=y2;have o1:=u1.one;have o2:=u4.one;have ly:=y3 C hE;obtain ⟨C1,hC1⟩:∃ X,C ++ [Ob.cells 0 [Sb f.name,pv,bv]]=X:=⟨_,rfl⟩
  have l1:C1.length=C.length+1:=by rw [← hC1,eu]
  have x1:Ext C C1:=hC1 ▸ Ext.app _ _;have k6:jm C1 C.length 0=some [Sb f.name,pv,bv]:=hC1 ▸ dh C 0 _;have hE1:=hE.trans x1;have fl:=ap3 h.list (C.length+1) (D:=C1) (u1.ext hE1) u2 sf.ps sf.np;have zz1:jm (C ++ [Ob.cells 0 [V.s (.string ⟨#[]⟩),.s (.slice none 0 0),.s (.slice none 0 0)]]) C.length 0=some [V.s (.string ⟨#[]⟩),.s (.slice none 0 0),.s (.slice none 0 0)]:=dh C 0 _;have ss1:∀ o,(C ++ [Ob.cells 0 [V.s (.string ⟨#[]⟩),.s (.slice none 0 0),.s (.slice none 0 0)]]).set C.length o=C ++ [o]:=fun o=>ny C _ _;have hsu:=ai5 hxk;have hle:=axe (l:=fs) (k+1);have sa:=awv sf.np sf.ps;have sn:=sf.n;have za:(ug f.ps).size=(ug f.ps).data.toList.length:=rfl;have zn:f.name.size=f.name.data.toList.length:=rfl;have z1:(⟨#[102,117,110,99,32]⟩:ByteArray).size=5:=rfl;have z2:(⟨#[32,123,10]⟩:ByteArray).size=3:=rfl;have z3:(⟨#[125,10]⟩:ByteArray).size=2:=rfl;rw [hsu,asw,az,az,az,az,az,az] at hle;obtain ⟨S,hS⟩:∃ S,txT ⟨#[]⟩ (uf (fs.take k))=S:=⟨_,rfl⟩
  have hSz:S.size=(uf (fs.take k)).length:=by
   rw [← hS,aj4];exact om _
  have k0:(((S.size+(⟨#[102,117,110,99,32]⟩:ByteArray).size:Nat):Int) > IntKind.i64.max)=False:=yn (by omega)
  have k1:((((S ++ (⟨#[102,117,110,99,32]⟩:ByteArray)).size+f.name.size:Nat):Int) > IntKind.i64.max)=False:=yn (by rw [ed];omega)
  have k2:(((((S ++ (⟨#[102,117,110,99,32]⟩:ByteArray)) ++ f.name).size+(ug f.ps).size:Nat):Int) > IntKind.i64.max)=False:=yn (by rw [ed,ed];omega)
  have k3:((((((S ++ (⟨#[102,117,110,99,32]⟩:ByteArray)) ++ f.name) ++ ug f.ps).size+(⟨#[32,123,10]⟩:ByteArray).size:Nat):Int) > IntKind.i64.max)=False:=yn (by rw [ed,ed,ed];omega)
  obtain ⟨R,hR⟩:∃ R,(((S ++ (⟨#[102,117,110,99,32]⟩:ByteArray)) ++ f.name) ++ ug f.ps) ++ (⟨#[32,123,10]⟩:ByteArray)=R:=⟨_,rfl⟩
  have hRz:R.size=S.size+5+f.name.size+(ug f.ps).size+3:=by rw [← hR];simp only [ed,z1,z2]
  obtain ⟨C',f1,x2⟩:=pr_l1 h base (C0:=C1) k6 (wz u4 hE1) (hs.nb f hmf) (fun b hb=>⟨hs.nc f hmf b hb,hx f hmf b hb⟩) (T:=R) (by omega) (v1:=.ref p 0 0) (n9:=k)
  have k4:((((txT R (aaq f.blocks)).size+(⟨#[125,10]⟩:ByteArray).size:Nat):Int) > IntKind.i64.max)=False:=yn (by rw [aj4];omega)
  have hT:txT R (aaq f.blocks) ++ (⟨#[125,10]⟩:ByteArray)=txT ⟨#[]⟩ (uf (fs.take (k+1))):=by
   apply aat;rw [hsu,asw,lc,abh,abh,← hR,lc,lc,lc,lc,← hS,abh];simp only [jh]
  refine ⟨trim C0.length (iw 96 [(1,.ref p 0 0),(8,Sb (txT ⟨#[]⟩ (uf (fs.take (k+1))))),(9,Iz (k+1:Nat))]) C',?_,(hE1.trans x2).trim (af _) _⟩;rw [hS];rw [l1] at f1;simp only [Sb,Iz,bl] at f1 fl ly hC1 k6;rw [dw];simp only [Iz,Sb,bl,an9,aa,simprocAttr,g,y1,ly,hpl,hlt',zz1,ss1,hbC,o1,o2,hC1,l1,k6,fl,k0,k1,k2,k3,hR,f1,k4,hT,hwk]) 0 C0 (gq _) (Ext.refl _)
 rw [ry] at e2;have e0:uf (fs.take 0)=[]:=rfl;rw [e0,aub,ky] at e2;refine ⟨trim C0.length (iw 96 [(1,.ref p 0 0),(8,Sb (txT ⟨#[]⟩ (uf fs))),(9,Iz fs.length),(31,bl false)]) C,e2.trans ?_,e3.trim (af _) _⟩;have g:=cz hg e3;have hpl:=RdL.len (hr.ext e3);rw [dw];simp only [Iz,Sb,bl,an9,aa,simprocAttr,g,hpl,jo]
end
structure P6T (CT:Nat→Option CFun):Prop where
 R:R6T CT
 L:L6T CT
 first:CT bdr=some (.code aj1)
 print:CT bhw=some (.code ahf)
section
variable {CT:Nat→Option CFun}
set_option maxHeartbeats 1000000 in
theorem ay1 (h:P6T CT) (base:Nat) {A:Heap} (hb:base≤A.length) {fv:V} {fs:List FunD} (hr:sj A fv fs) (hs:Small fs) (hok:qh fs 2=none→qh fs 9=none→(∀ f∈fs,SmF f)∧(∀ f∈fs,∀ b∈f.blocks,∀ x∈b.code,SmI x∧TI x∧biG x=false)∧(uf fs).length≤140737488355328):
 ∃ H',dn CT (.fn bhw [] []) [.agg [fv]] base A=some (bif (qh fs 2).isSome || (qh fs 9).isSome then .tup [Sb ⟨#[]⟩,Iz 5] else if 1048576 < (uf fs).length then .tup [Sb ⟨#[]⟩,Iz 2] else .tup [Sb ⟨(uf fs).toArray⟩,Iz 0],H')∧Ext A H':=by
 have hfo:=hr.one;obtain ⟨A1,hA1⟩:∃ A1,A ++ [Ob.cells 0 [fv]]=A1:=⟨_,rfl⟩
 have l1:A1.length=A.length+1:=by rw [← hA1,eu]
 have e1:Ext A A1:=hA1 ▸ Ext.app _ _;have g1:jm A1 A.length 0=some [fv]:=hA1 ▸ dh A 0 _
 obtain ⟨B1,a1,b1,c1,f1,x1⟩:=aow h.R h.first base (A:=A1) (by omega) (hr.ext e1) hs (n:=2) (.inl rfl)
 obtain ⟨B2,hB2⟩:∃ X,B1 ++ [Ob.cells 0 [Iz a1,Iz b1,Iz c1]]=X:=⟨_,rfl⟩;have x2:Ext B1 B2:=hB2 ▸ Ext.app _ _;have m1:=x1.le
 have l2:B2.length=B1.length+1:=by rw [← hB2,eu]
 have g2:=cz g1 (x1.trans x2);have eB2:=e1.trans (x1.trans x2)
 obtain ⟨B3,a2,b2,c2,f2,x3⟩:=aow h.R h.first base (A:=B2) (by omega) (hr.ext eB2) hs (n:=9) (.inr rfl)
 obtain ⟨B4,hB4⟩:∃ X,B3 ++ [Ob.cells 0 [Iz a2,Iz b2,Iz c2]]=X:=⟨_,rfl⟩;have x4:Ext B3 B4:=hB4 ▸ Ext.app _ _;have m3:=x3.le
 have l4:B4.length=B3.length+1:=by rw [← hB4,eu]
 have eB4:=eB2.trans (x3.trans x4);have g4:=cz g2 (x3.trans x4);have zz1:jm (B1 ++ [Ob.cells 0 [V.s (.int .i64 0),.s (.int .i64 0),.s (.int .i64 0)]]) B1.length 0=some [V.s (.int .i64 0),.s (.int .i64 0),.s (.int .i64 0)]:=dh B1 0 _;have ss1:∀ o,(B1 ++ [Ob.cells 0 [V.s (.int .i64 0),.s (.int .i64 0),.s (.int .i64 0)]]).set B1.length o=B1 ++ [o]:=fun o=>ny B1 _ _;have zz3:jm (B3 ++ [Ob.cells 0 [V.s (.int .i64 0),.s (.int .i64 0),.s (.int .i64 0)]]) B3.length 0=some [V.s (.int .i64 0),.s (.int .i64 0),.s (.int .i64 0)]:=dh B3 0 _;have ss3:∀ o,(B3 ++ [Ob.cells 0 [V.s (.int .i64 0),.s (.int .i64 0),.s (.int .i64 0)]]).set B3.length o=B3 ++ [o]:=fun o=>ny B3 _ _
 have q1:base≤B1.length:=by omega
 have q3:base≤B3.length:=by omega
 simp only [Iz,bl] at f1 f2 hB2 hB4;have e22:((2:Nat):Int)=2:=rfl;have e99:((9:Nat):Int)=9:=rfl;rw [e22] at f1;rw [e99] at f2;cases n2:(qh fs 2).isSome with
 | true=>
   rw [n2] at f1
   refine ⟨B4,gp (c:=ahf) (k:=1) h.print rfl (by decide) agh ?_,eB4⟩
   cases n9:(qh fs 9).isSome <;> (rw [n9] at f2;simp only [Iz,Sb,bl,ahf,an9,aa,simprocAttr,hfo,hA1,l1,g1,f1,zz1,ss1,q1,hB2,l2,g2,f2,zz3,ss3,q3,hB4,iq,cond_true])
 | false=>
   rw [n2] at f1;cases n9:(qh fs 9).isSome with
   | true=>
     rw [n9] at f2
     refine ⟨B4,gp (c:=ahf) (k:=1) h.print rfl (by decide) agh ?_,eB4⟩
     simp only [Iz,Sb,bl,ahf,an9,aa,simprocAttr,hfo,hA1,l1,g1,f1,zz1,ss1,q1,hB2,l2,g2,f2,zz3,ss3,q3,hB4,d9,cond_true]
   | false=>
     rw [n9] at f2
     obtain ⟨sf,sx,sl⟩:=hok (by cases e:qh fs 2 with | none=>rfl | some t=>rw [e] at n2;cases n2) (by cases e:qh fs 9 with | none=>rfl | some t=>rw [e] at n9;cases n9)
     obtain ⟨C',f3,x5⟩:=pr_l2 h.L base (C0:=B4) (by omega) g4 (hr.ext eB4) hs sf sx sl
     have hT:txT ⟨#[]⟩ (uf fs)=⟨(uf fs).toArray⟩:=rfl;rw [hT,l4] at f3
     have hz:(⟨(uf fs).toArray⟩:ByteArray).size=(uf fs).length:=by
      have:(⟨(uf fs).toArray⟩:ByteArray).size=(⟨(uf fs).toArray⟩:ByteArray).data.toList.length:=rfl;rw [this,uq]
     refine ⟨C',gp (c:=ahf) (k:=1) h.print rfl (by decide) agh ?_,eB4.trans x5⟩
     simp only [Sb,Iz,bl] at f3;by_cases hl:1048576 < (uf fs).length
     ·have hl':(((uf fs).length:Nat):Int) > 1048576:=by omega
      rw [if_pos hl];simp only [Iz,Sb,bl,ahf,an9,aa,simprocAttr,hfo,hA1,l1,g1,f1,zz1,ss1,q1,hB2,l2,g2,f2,zz3,ss3,q3,hB4,l4,f3,hz,hl',d9,cond_false]
     ·have hl':¬ (((uf fs).length:Nat):Int) > 1048576:=by omega
      rw [if_neg hl];simp only [Iz,Sb,bl,ahf,an9,aa,simprocAttr,hfo,hA1,l1,g1,f1,zz1,ss1,q1,hB2,l2,g2,f2,zz3,ss3,q3,hB4,l4,f3,hz,hl',d9,cond_false]
end
abbrev k_f3:Nat:=3
def K3_0:List Nat:=[0] ++ List.range' 2 37
def R3_0t1:LO:=[q 2 (.move (.c (.s (.bool false))))]
def R3_0:LO:=⟨some 1,.box (.t 0),none⟩ :: R3_0t1
def R3_1t1:LO:=[⟨some 9,.call (.c (.fn 7 [] [])) [.t 8],none⟩]
def R3_1p0:LO:=[q 8 (.load true 1 (.t 1))]
def R3_1:LO:=R3_1p0 ++ R3_1t1
def R3_2t1:LO:=[oM 2 10]
def R3_2:LO:=⟨some 10,.call (.c (.fn 8 [] [])) [],none⟩ :: R3_2t1
def R3_3t3:LO:=[⟨none,.store 1 (.t 3) (.t 12),none⟩]
def R3_3t2:LO:=⟨some 3,.alloc [.s (.slice none 0 0)],none⟩ :: R3_3t3
def R3_3t1:LO:=⟨some 12,.call (.c (.fn 9 [] [])) [.t 11],none⟩ :: R3_3t2
def R3_3p0:LO:=[q 11 (.load true 1 (.t 1))]
def R3_3:LO:=R3_3p0 ++ R3_3t1
def R3_4t2:LO:=[oM 13 15,q 16 (.extract (.t 13) 0),q 17 (.extract (.t 13) 1),oM 4 16,oM 5 17]
def R3_4t1:LO:=⟨some 15,.call (.c (.fn 10 [] [])) [.t 14],none⟩ :: R3_4t2
def R3_4p0:LO:=[q 14 (.load true 1 (.t 3))]
def R3_4:LO:=R3_4p0 ++ R3_4t1
def R3_5t2:LO:=[oM 18 20,q 21 (.extract (.t 18) 0),q 22 (.extract (.t 18) 1),oM 6 21,oM 7 22]
def R3_5t1:LO:=⟨some 20,.call (.c (.fn 11 [] [])) [.t 19],none⟩ :: R3_5t2
def R3_5p0:LO:=[q 19 (.load true 1 (.t 1))]
def R3_5:LO:=R3_5p0 ++ R3_5t1
def R3_6t6:LO:=[q 38 (.pick (.t 36) (.t 37) (.c (.s (.bool false)))),oM 2 38]
def R3_6t5:LO:=⟨some 37,.call (.c (.fn 8 [] [])) [],some (36,true)⟩ :: R3_6t6
def R3_6p4:LO:=[q 35 (.pick (.t 31) (.t 34) (.c (.s (.bool false)))),oM 36 35]
def R3_6t4:LO:=R3_6p4 ++ R3_6t5
def R3_6t3:LO:=⟨some 34,.call (.c (.fn 12 [] [])) [.t 32,.t 33],some (31,true)⟩ :: R3_6t4
def R3_6t2:LO:=⟨some 33,.load true 1 (.t 1),some (31,true)⟩ :: R3_6t3
def R3_6t1:LO:=⟨some 32,.load true 1 (.t 3),some (31,true)⟩ :: R3_6t2
def R3_6p0:LO:=[oM 23 4,oM 24 6,q 25 (.bin .eql (.t 23) (.t 24)),oM 26 25,gM 27 5 26 true,gM 28 7 26 true,qg 29 (.bin .eql (.t 27) (.t 28)) 26 true,q 30 (.pick (.t 26) (.t 29) (.c (.s (.bool false)))),oM 31 30]
def R3_6:LO:=R3_6p0 ++ R3_6t1
def a1f:ACFun:={ ntmps:=39,results:=[.tmp 2],body:=
 (.seq (.region R3_0 [] K3_0)
 (.seq (.seq (.region R3_1 [] [8])
 (.cond (.t 9)
 (.seq (.region R3_2 [] [1,9,10])
 .ret)
 .skip))
 (.seq (.region R3_3 [] [9,11,12])
 (.seq (.region R3_4 [] [13,14,15,16,17])
 (.seq (.region R3_5 [] [18,19,20,21,22])
 (.seq (.region R3_6 [] [1,3,4,5,6,7,23,24,25,26,27,28,29,30,31,32,33,34,35,36,37,38])
 .ret)))))) }
theorem aof:l9 (List.range' 1 (a1f.ntmps - 1)) a1f.body=true:=by kernel_rfl
abbrev k_f9:Nat:=9
def K9_0:List Nat:=[0] ++ List.range' 3 90
def R9_0t1:LO:=[⟨some 2,.alloc [.s (.slice none 0 0)],none⟩]
def R9_0p0:LO:=[⟨some 1,.box (.t 0),none⟩]
def R9_0:LO:=R9_0p0 ++ R9_0t1
def K9_0p0:List Nat:=[0] ++ List.range' 2 91
theorem X9_0 (call:ni) (it:zt) (base:Nat) (f:List V) (H:Heap):evC call it base (.region R9_0 [] K9_0) f H=abl call it base (.region R9_0t1 [] K9_0) (akk [] R9_0p0 K9_0p0 (mi call base [⟨some 1,.box (.t 0),none⟩] f H)):=(abu call it base R9_0p0 R9_0t1 (kc:=K9_0p0) (by kernel_rfl) f H).trans (by rw [zh];rfl)
def R9_1:LO:=[⟨some 3,.alloc [.s (.slice none 0 0)],none⟩]
def R9_2:LO:=[q 4 (.move (.c (.s (.int .i64 0))))]
def R9_3:LO:=[oM 11 4,oF 12 0 1,oL 13 12,q 14 (.lenS .s (.t 13)),q 15 (.bin .lss (.t 11) (.t 14))]
def R9_4t2:LO:=[⟨none,.store 3 (.t 5) (.t 22),none⟩]
def R9_4t1:LO:=⟨some 5,.alloc [.s (.string ⟨#[]⟩),.s (.slice none 0 0),.s (.slice none 0 0)],none⟩ :: R9_4t2
def R9_4p0:LO:=[oF 18 0 1,oL 19 18,oM 20 4,q 21 (.indexAddr 3 (.t 19) (.t 20)),q 22 (.load true 3 (.t 21))]
def R9_4:LO:=R9_4p0 ++ R9_4t1
def R9_5t6:LO:=[⟨none,.store 3 (.t 6) (.t 29),none⟩]
def R9_5t5:LO:=⟨some 6,.alloc [.s (.string ⟨#[]⟩),.s (.slice none 0 0),.s (.slice none 0 0)],none⟩ :: R9_5t6
def R9_5p4:LO:=[q 29 (.build [.s (.string ⟨#[]⟩),.s (.slice none 0 0),.s (.slice none 0 0)] [(0,1),(1,1),(2,1)] [(0,.t 24),(1,.t 28)])]
def R9_5t4:LO:=R9_5p4 ++ R9_5t5
def R9_5t3:LO:=⟨some 28,.appR 1 16 (.t 25) (.t 27),none⟩ :: R9_5t4
def R9_5p2:LO:=[oF 26 1 5,oL 27 26]
def R9_5t2:LO:=R9_5p2 ++ R9_5t3
def R9_5t1:LO:=⟨some 25,.buildSl 1 0 [] [],none⟩ :: R9_5t2
def R9_5p0:LO:=[oF 23 0 5,oL 24 23]
def R9_5:LO:=R9_5p0 ++ R9_5t1
def R9_6:LO:=[q 7 (.move (.c (.s (.int .i64 0))))]
def R9_7:LO:=[oM 30 7,oF 31 2 5,oL 32 31,q 33 (.lenS .s (.t 32)),q 34 (.bin .lss (.t 30) (.t 33))]
def R9_8t2:LO:=[⟨none,.store 2 (.t 8) (.t 43),none⟩]
def R9_8t1:LO:=⟨some 8,.alloc [.s (.string ⟨#[]⟩),.s (.slice none 0 0)],none⟩ :: R9_8t2
def R9_8p0:LO:=[oF 37 2 5,oL 38 37,oM 39 7,q 40 (.indexAddr 2 (.t 38) (.t 39)),oF 41 0 40,oL 42 41,q 43 (.build [.s (.string ⟨#[]⟩),.s (.slice none 0 0)] [(0,1),(1,1)] [(0,.t 42)])]
def R9_8:LO:=R9_8p0 ++ R9_8t1
def R9_9:LO:=[q 9 (.move (.c (.s (.int .i64 0))))]
def R9_10:LO:=[oM 44 9,oF 45 2 5,oL 46 45,oM 47 7,q 48 (.indexAddr 2 (.t 46) (.t 47)),oF 49 1 48,oL 50 49,q 51 (.lenS .s (.t 50)),q 52 (.bin .lss (.t 44) (.t 51))]
def R9_11t2:LO:=[⟨none,.store 8 (.t 10) (.t 63),none⟩]
def R9_11t1:LO:=⟨some 10,.alloc [.s (.int .u8 0),.s (.string ⟨#[]⟩),.s (.string ⟨#[]⟩),.s (.string ⟨#[]⟩),.s (.int .i64 0),.s (.string ⟨#[]⟩),.s (.slice none 0 0),.s (.slice none 0 0)],none⟩ :: R9_11t2
def R9_11p0:LO:=[oF 55 2 5,oL 56 55,oM 57 7,q 58 (.indexAddr 2 (.t 56) (.t 57)),oF 59 1 58,oL 60 59,oM 61 9,q 62 (.indexAddr 8 (.t 60) (.t 61)),q 63 (.load true 8 (.t 62))]
def R9_11:LO:=R9_11p0 ++ R9_11t1
def R9_12t4:LO:=[⟨none,.store 1 (.t 68) (.t 67),none⟩]
def R9_12p3:LO:=[oF 68 6 10]
def R9_12t3:LO:=R9_12p3 ++ R9_12t4
def R9_12t2:LO:=⟨some 67,.append 1 16 (.t 64) (.t 66),none⟩ :: R9_12t3
def R9_12p1:LO:=[oF 65 6 10,oL 66 65]
def R9_12t1:LO:=R9_12p1 ++ R9_12t2
def R9_12:LO:=⟨some 64,.buildSl 1 0 [] [],none⟩ :: R9_12t1
def R9_13t4:LO:=[⟨none,.store 1 (.t 73) (.t 72),none⟩]
def R9_13p3:LO:=[oF 73 7 10]
def R9_13t3:LO:=R9_13p3 ++ R9_13t4
def R9_13t2:LO:=⟨some 72,.append 1 16 (.t 69) (.t 71),none⟩ :: R9_13t3
def R9_13p1:LO:=[oF 70 7 10,oL 71 70]
def R9_13t1:LO:=R9_13p1 ++ R9_13t2
def R9_13:LO:=⟨some 69,.buildSl 1 0 [] [],none⟩ :: R9_13t1
def R9_14t4:LO:=[⟨none,.store 1 (.t 79) (.t 78),none⟩]
def R9_14p3:LO:=[oF 79 1 8]
def R9_14t3:LO:=R9_14p3 ++ R9_14t4
def R9_14t2:LO:=⟨some 78,.append 8 128 (.t 75) (.t 77),none⟩ :: R9_14t3
def R9_14t1:LO:=⟨some 77,.buildSl 8 1 [.s (.int .u8 0),.s (.string ⟨#[]⟩),.s (.string ⟨#[]⟩),.s (.string ⟨#[]⟩),.s (.int .i64 0),.s (.string ⟨#[]⟩),.s (.slice none 0 0),.s (.slice none 0 0)] [(0,.t 76)],none⟩ :: R9_14t2
def R9_14p0:LO:=[oF 74 1 8,oL 75 74,q 76 (.load true 8 (.t 10))]
def R9_14:LO:=R9_14p0 ++ R9_14t1
def R9_15:LO:=[oM 53 9,q 54 (.bin .add (.t 53) (.c (.s (.int .i64 1)))),oM 9 54]
def ak8:ACode:=
 (.seq (.seq (.regionE R9_10 [44,45,46,47,48,49,50,51] [52])
 (.cond (.t 52)
 .skip
 (.exit 4)))
 (.seq (.block 5
 (.seq (.region R9_11 [] [52,55,56,57,58,59,60,61,62,63])
 (.seq (.region R9_12 [] [64,65,66,67,68])
 (.seq (.region R9_13 [] [69,70,71,72,73])
 (.region R9_14 [] [10,74,75,76,77,78,79])))))
 (.regionE R9_15 [53,54] [9])))
def apl:ACode:=ak8
def R9_16t4:LO:=[⟨none,.store 1 (.t 85) (.t 84),none⟩]
def R9_16p3:LO:=[oF 85 2 6]
def R9_16t3:LO:=R9_16p3 ++ R9_16t4
def R9_16t2:LO:=⟨some 84,.append 2 40 (.t 81) (.t 83),none⟩ :: R9_16t3
def R9_16t1:LO:=⟨some 83,.buildSl 2 1 [.s (.string ⟨#[]⟩),.s (.slice none 0 0)] [(0,.t 82)],none⟩ :: R9_16t2
def R9_16p0:LO:=[oF 80 2 6,oL 81 80,q 82 (.load true 2 (.t 8))]
def R9_16:LO:=R9_16p0 ++ R9_16t1
def R9_17:LO:=[oM 35 7,q 36 (.bin .add (.t 35) (.c (.s (.int .i64 1)))),oM 7 36]
def ak7:ACode:=
 (.seq (.seq (.regionE R9_7 [30,31,32,33] [34])
 (.cond (.t 34)
 .skip
 (.exit 2)))
 (.seq (.block 3
 (.seq (.region R9_8 [] [34,37,38,39,40,41,42,43])
 (.seq (.seq (.regionE R9_9 [] [9])
 (.block 4
 (.loop [] apl)))
 (.region R9_16 [] [8,9,52,80,81,82,83,84,85]))))
 (.regionE R9_17 [35,36] [7])))
def apk:ACode:=ak7
def R9_18t4:LO:=[⟨none,.store 1 (.t 91) (.t 90),none⟩]
def R9_18p3:LO:=[oF 91 0 3]
def R9_18t3:LO:=R9_18p3 ++ R9_18t4
def R9_18t2:LO:=⟨some 90,.append 3 64 (.t 87) (.t 89),none⟩ :: R9_18t3
def R9_18t1:LO:=⟨some 89,.buildSl 3 1 [.s (.string ⟨#[]⟩),.s (.slice none 0 0),.s (.slice none 0 0)] [(0,.t 88)],none⟩ :: R9_18t2
def R9_18p0:LO:=[oF 86 0 3,oL 87 86,q 88 (.load true 3 (.t 6))]
def R9_18:LO:=R9_18p0 ++ R9_18t1
def R9_19:LO:=[oM 16 4,q 17 (.bin .add (.t 16) (.c (.s (.int .i64 1)))),oM 4 17]
def ak6:ACode:=
 (.seq (.seq (.regionE R9_3 [11,12,13,14] [15])
 (.cond (.t 15)
 .skip
 (.exit 0)))
 (.seq (.block 1
 (.seq (.region R9_4 [] [15,18,19,20,21,22])
 (.seq (.region R9_5 [] [23,24,25,26,27,28,29])
 (.seq (.seq (.regionE R9_6 [] [7])
 (.block 2
 (.loop [] apk)))
 (.region R9_18 [] [5,6,7,34,86,87,88,89,90,91])))))
 (.regionE R9_19 [16,17] [4])))
def apj:ACode:=ak6
def R9_20t1:LO:=[⟨none,.store 1 (.t 2) (.t 92),none⟩]
def R9_20p0:LO:=[q 92 (.load true 1 (.t 3))]
def R9_20:LO:=R9_20p0 ++ R9_20t1
def a6e:ACFun:={ ntmps:=93,results:=[.cell 2 true 1],body:=
 (.seq (.region R9_0 [] K9_0)
 (.seq (.region R9_1 [] [])
 (.seq (.seq (.regionE R9_2 [] [4])
 (.block 0
 (.loop [] apj)))
 (.seq (.region R9_20 [] [1,3,4,15,92])
 .ret)))) }
theorem ayv:l9 (List.range' 1 (a6e.ntmps - 1)) a6e.body=true:=by kernel_rfl
abbrev bhv:Nat:=12
def K12_0:List Nat:=[0,1] ++ List.range' 4 104
def R12_0t2:LO:=[q 4 (.move (.c (.s (.bool false))))]
def R12_0t1:LO:=⟨some 3,.box (.t 1),none⟩ :: R12_0t2
def R12_0p0:LO:=[⟨some 2,.box (.t 0),none⟩]
def R12_0:LO:=R12_0p0 ++ R12_0t1
def K12_0p0:List Nat:=[0] ++ List.range' 3 105
theorem X12_0 (call:ni) (it:zt) (base:Nat) (f:List V) (H:Heap):evC call it base (.region R12_0 [] K12_0) f H=abl call it base (.region R12_0t1 [] K12_0) (akk [] R12_0p0 K12_0p0 (mi call base [⟨some 2,.box (.t 0),none⟩] f H)):=(abu call it base R12_0p0 R12_0t1 (kc:=K12_0p0) (by kernel_rfl) f H).trans (by rw [zh];rfl)
def R12_1:LO:=[oF 12 0 2,oL 13 12,q 14 (.lenS .s (.t 13)),oF 15 0 3,oL 16 15,q 17 (.lenS .s (.t 16)),q 18 (.bin .neq (.t 14) (.t 17))]
def R12_2:LO:=[q 4 (.move (.c (.s (.bool false))))]
def R12_3:LO:=[q 5 (.move (.c (.s (.int .i64 0))))]
def R12_4:LO:=[oM 19 5,oF 20 0 2,oL 21 20,q 22 (.lenS .s (.t 21)),q 23 (.bin .lss (.t 19) (.t 22))]
def R12_5t2:LO:=[⟨none,.store 3 (.t 6) (.t 30),none⟩]
def R12_5t1:LO:=⟨some 6,.alloc [.s (.string ⟨#[]⟩),.s (.slice none 0 0),.s (.slice none 0 0)],none⟩ :: R12_5t2
def R12_5p0:LO:=[oF 26 0 2,oL 27 26,oM 28 5,q 29 (.indexAddr 3 (.t 27) (.t 28)),q 30 (.load true 3 (.t 29))]
def R12_5:LO:=R12_5p0 ++ R12_5t1
def R12_6t2:LO:=[⟨none,.store 3 (.t 7) (.t 35),none⟩]
def R12_6t1:LO:=⟨some 7,.alloc [.s (.string ⟨#[]⟩),.s (.slice none 0 0),.s (.slice none 0 0)],none⟩ :: R12_6t2
def R12_6p0:LO:=[oF 31 0 3,oL 32 31,oM 33 5,q 34 (.indexAddr 3 (.t 32) (.t 33)),q 35 (.load true 3 (.t 34))]
def R12_6:LO:=R12_6p0 ++ R12_6t1
def R12_7t6:LO:=[qg 47 (.un .not (.t 46)) 41 false,q 48 (.pick (.t 41) (.c (.s (.bool true))) (.t 47)),oM 49 48,gF 50 2 6 49 false,gL 51 50 49 false,qg 52 (.lenS .s (.t 51)) 49 false,gF 53 2 7 49 false,gL 54 53 49 false,qg 55 (.lenS .s (.t 54)) 49 false,qg 56 (.bin .neq (.t 52) (.t 55)) 49 false,q 57 (.pick (.t 49) (.c (.s (.bool true))) (.t 56))]
def R12_7t5:LO:=⟨some 46,.call (.c (.fn 28 [] [])) [.t 43,.t 45],some (41,false)⟩ :: R12_7t6
def R12_7t4:LO:=⟨some 45,.load false 1 (.t 44),some (41,false)⟩ :: R12_7t5
def R12_7t3:LO:=⟨some 44,.fieldAddr 1 (.t 7),some (41,false)⟩ :: R12_7t4
def R12_7t2:LO:=⟨some 43,.load false 1 (.t 42),some (41,false)⟩ :: R12_7t3
def R12_7t1:LO:=⟨some 42,.fieldAddr 1 (.t 6),some (41,false)⟩ :: R12_7t2
def R12_7p0:LO:=[oF 36 0 6,oL 37 36,oF 38 0 7,oL 39 38,q 40 (.bin .neq (.t 37) (.t 39)),oM 41 40]
def R12_7:LO:=R12_7p0 ++ R12_7t1
def R12_8:LO:=[q 4 (.move (.c (.s (.bool false))))]
def R12_9:LO:=[q 8 (.move (.c (.s (.int .i64 0))))]
def R12_10:LO:=[oM 58 8,oF 59 2 6,oL 60 59,q 61 (.lenS .s (.t 60)),q 62 (.bin .lss (.t 58) (.t 61))]
def R12_11t2:LO:=[⟨none,.store 2 (.t 9) (.t 69),none⟩]
def R12_11t1:LO:=⟨some 9,.alloc [.s (.string ⟨#[]⟩),.s (.slice none 0 0)],none⟩ :: R12_11t2
def R12_11p0:LO:=[oF 65 2 6,oL 66 65,oM 67 8,q 68 (.indexAddr 2 (.t 66) (.t 67)),q 69 (.load true 2 (.t 68))]
def R12_11:LO:=R12_11p0 ++ R12_11t1
def R12_12t2:LO:=[⟨none,.store 2 (.t 10) (.t 74),none⟩]
def R12_12t1:LO:=⟨some 10,.alloc [.s (.string ⟨#[]⟩),.s (.slice none 0 0)],none⟩ :: R12_12t2
def R12_12p0:LO:=[oF 70 2 7,oL 71 70,oM 72 8,q 73 (.indexAddr 2 (.t 71) (.t 72)),q 74 (.load true 2 (.t 73))]
def R12_12:LO:=R12_12p0 ++ R12_12t1
def R12_13:LO:=[oF 75 0 9,oL 76 75,oF 77 0 10,oL 78 77,q 79 (.bin .neq (.t 76) (.t 78)),oM 80 79,gF 81 1 9 80 false,gL 82 81 80 false,qg 83 (.lenS .s (.t 82)) 80 false,gF 84 1 10 80 false,gL 85 84 80 false,qg 86 (.lenS .s (.t 85)) 80 false,qg 87 (.bin .neq (.t 83) (.t 86)) 80 false,q 88 (.pick (.t 80) (.c (.s (.bool true))) (.t 87))]
def R12_14:LO:=[q 4 (.move (.c (.s (.bool false))))]
def R12_15:LO:=[q 11 (.move (.c (.s (.int .i64 0))))]
def R12_16:LO:=[oM 89 11,oF 90 1 9,oL 91 90,q 92 (.lenS .s (.t 91)),q 93 (.bin .lss (.t 89) (.t 92))]
def R12_17t2:LO:=[q 107 (.un .not (.t 106))]
def R12_17t1:LO:=⟨some 106,.call (.c (.fn 29 [] [])) [.t 100,.t 105],none⟩ :: R12_17t2
def R12_17p0:LO:=[oF 96 1 9,oL 97 96,oM 98 11,q 99 (.indexAddr 8 (.t 97) (.t 98)),q 100 (.load true 8 (.t 99)),oF 101 1 10,oL 102 101,oM 103 11,q 104 (.indexAddr 8 (.t 102) (.t 103)),q 105 (.load true 8 (.t 104))]
def R12_17:LO:=R12_17p0 ++ R12_17t1
def R12_18:LO:=[q 4 (.move (.c (.s (.bool false))))]
def R12_19:LO:=[oM 94 11,q 95 (.bin .add (.t 94) (.c (.s (.int .i64 1)))),oM 11 95]
def aix:ACode:=
 (.seq (.seq (.regionE R12_16 [89,90,91,92] [93])
 (.cond (.t 93)
 .skip
 (.exit 4)))
 (.seq (.block 5
 (.seq (.region R12_17 [] [93,96,97,98,99,100,101,102,103,104,105,106])
 (.cond (.t 107)
 (.seq (.regionE R12_18 [2,3,5,6,7,8,9,10,11,107] [4])
 .ret)
 .skip)))
 (.regionE R12_19 [94,95,107] [11])))
def akc:ACode:=aix
def R12_20:LO:=[oM 63 8,q 64 (.bin .add (.t 63) (.c (.s (.int .i64 1)))),oM 8 64]
def aiw:ACode:=
 (.seq (.seq (.regionE R12_10 [58,59,60,61] [62])
 (.cond (.t 62)
 .skip
 (.exit 2)))
 (.seq (.block 3
 (.seq (.region R12_11 [] [62,65,66,67,68,69])
 (.seq (.region R12_12 [] [70,71,72,73,74])
 (.seq (.seq (.regionE R12_13 [75,76,77,78,79,80,81,82,83,84,85,86,87] [88])
 (.cond (.t 88)
 (.seq (.regionE R12_14 [2,3,5,6,7,8,9,10,88] [4])
 .ret)
 .skip))
 (.seq (.regionE R12_15 [88] [11])
 (.block 4
 (.loop [] akc)))))))
 (.regionE R12_20 [9,10,11,63,64,93] [8])))
def akb:ACode:=aiw
def R12_21:LO:=[oM 24 5,q 25 (.bin .add (.t 24) (.c (.s (.int .i64 1)))),oM 5 25]
def aiv:ACode:=
 (.seq (.seq (.regionE R12_4 [19,20,21,22] [23])
 (.cond (.t 23)
 .skip
 (.exit 0)))
 (.seq (.block 1
 (.seq (.region R12_5 [] [23,26,27,28,29,30])
 (.seq (.region R12_6 [] [31,32,33,34,35])
 (.seq (.seq (.region R12_7 [] [36,37,38,39,40,41,42,43,44,45,46,47,48,49,50,51,52,53,54,55,56])
 (.cond (.t 57)
 (.seq (.regionE R12_8 [2,3,5,6,7,57] [4])
 .ret)
 .skip))
 (.seq (.regionE R12_9 [57] [8])
 (.block 2
 (.loop [] akb)))))))
 (.regionE R12_21 [6,7,8,24,25,62] [5])))
def aka:ACode:=aiv
def R12_22:LO:=[q 4 (.move (.c (.s (.bool true))))]
def apv:ACFun:={ ntmps:=108,results:=[.tmp 4],body:=
 (.seq (.region R12_0 [] K12_0)
 (.seq (.seq (.regionE R12_1 [12,13,14,15,16,17] [18])
 (.cond (.t 18)
 (.seq (.regionE R12_2 [2,3,18] [4])
 .ret)
 .skip))
 (.seq (.seq (.regionE R12_3 [18] [5])
 (.block 0
 (.loop [] aka)))
 (.seq (.regionE R12_22 [2,3,5,23] [4])
 .ret)))) }
theorem avh:l9 (List.range' 2 (apv.ntmps - 2)) apv.body=true:=by kernel_rfl
abbrev a8x:Nat:=28
def K28_0:List Nat:=List.range' 2 24
theorem au8:y5 K28_0 (si 26 [] 2)=[]:=by kernel_rfl
def R28_0:LO:=[q 4 (.move (.c (.s (.bool false))))]
def R28_1:LO:=[oM 6 0,q 7 (.lenS .s (.t 6)),oM 8 1,q 9 (.lenS .s (.t 8)),q 10 (.bin .neq (.t 7) (.t 9))]
def R28_2:LO:=[q 4 (.move (.c (.s (.bool false))))]
def R28_3:LO:=[q 5 (.move (.c (.s (.int .i64 0))))]
def R28_4:LO:=[oM 11 5,oM 12 0,q 13 (.lenS .s (.t 12)),q 14 (.bin .lss (.t 11) (.t 13))]
def R28_5:LO:=[oM 17 0,oM 18 5,q 19 (.indexAddr 1 (.t 17) (.t 18)),oL 20 19,oM 21 1,oM 22 5,q 23 (.indexAddr 1 (.t 21) (.t 22)),oL 24 23,q 25 (.bin .neq (.t 20) (.t 24))]
def R28_6:LO:=[q 4 (.move (.c (.s (.bool false))))]
def R28_7:LO:=[oM 15 5,q 16 (.bin .add (.t 15) (.c (.s (.int .i64 1)))),oM 5 16]
def ain:ACode:=
 (.seq (.seq (.regionE R28_4 [11,12,13] [14])
 (.cond (.t 14)
 .skip
 (.exit 0)))
 (.seq (.block 1
 (.seq (.regionE R28_5 [14,17,18,19,20,21,22,23,24] [25])
 (.cond (.t 25)
 (.seq (.regionE R28_6 [0,1,5,25] [4])
 .ret)
 .skip)))
 (.regionE R28_7 [15,16,25] [5])))
def aj7:ACode:=ain
def R28_8:LO:=[q 4 (.move (.c (.s (.bool true))))]
def an0:ACFun:={ ntmps:=26,results:=[.tmp 4],body:=
 (.seq (.regionE R28_0 K28_0 [])
 (.seq (.seq (.regionE R28_1 [6,7,8,9] [10])
 (.cond (.t 10)
 (.seq (.regionE R28_2 [0,1,10] [4])
 .ret)
 .skip))
 (.seq (.seq (.regionE R28_3 [10] [5])
 (.block 0
 (.loop [] aj7)))
 (.seq (.regionE R28_8 [0,1,5,14] [4])
 .ret)))) }
abbrev bdp:Nat:=29
def K29_0:List Nat:=[0,1] ++ List.range' 4 55
def R29_0t2:LO:=[q 4 (.move (.c (.s (.bool false))))]
def R29_0t1:LO:=⟨some 3,.box (.t 1),none⟩ :: R29_0t2
def R29_0p0:LO:=[⟨some 2,.box (.t 0),none⟩]
def R29_0:LO:=R29_0p0 ++ R29_0t1
def K29_0p0:List Nat:=[0] ++ List.range' 3 56
theorem X29_0 (call:ni) (it:zt) (base:Nat) (f:List V) (H:Heap):evC call it base (.region R29_0 [] K29_0) f H=abl call it base (.region R29_0t1 [] K29_0) (akk [] R29_0p0 K29_0p0 (mi call base [⟨some 2,.box (.t 0),none⟩] f H)):=(abu call it base R29_0p0 R29_0t1 (kc:=K29_0p0) (by kernel_rfl) f H).trans (by rw [zh];rfl)
def R29_1t12:LO:=[q 58 (.pick (.t 52) (.t 57) (.c (.s (.bool false)))),oM 4 58]
def R29_1t11:LO:=⟨some 57,.call (.c (.fn 28 [] [])) [.t 54,.t 56],some (52,true)⟩ :: R29_1t12
def R29_1t10:LO:=⟨some 56,.load false 1 (.t 55),some (52,true)⟩ :: R29_1t11
def R29_1t9:LO:=⟨some 55,.fieldAddr 7 (.t 3),some (52,true)⟩ :: R29_1t10
def R29_1t8:LO:=⟨some 54,.load false 1 (.t 53),some (52,true)⟩ :: R29_1t9
def R29_1t7:LO:=⟨some 53,.fieldAddr 7 (.t 2),some (52,true)⟩ :: R29_1t8
def R29_1p6:LO:=[q 51 (.pick (.t 45) (.t 50) (.c (.s (.bool false)))),oM 52 51]
def R29_1t6:LO:=R29_1p6 ++ R29_1t7
def R29_1t5:LO:=⟨some 50,.call (.c (.fn 28 [] [])) [.t 47,.t 49],some (45,true)⟩ :: R29_1t6
def R29_1t4:LO:=⟨some 49,.load false 1 (.t 48),some (45,true)⟩ :: R29_1t5
def R29_1t3:LO:=⟨some 48,.fieldAddr 6 (.t 3),some (45,true)⟩ :: R29_1t4
def R29_1t2:LO:=⟨some 47,.load false 1 (.t 46),some (45,true)⟩ :: R29_1t3
def R29_1t1:LO:=⟨some 46,.fieldAddr 6 (.t 2),some (45,true)⟩ :: R29_1t2
def R29_1p0:LO:=[oF 5 0 2,oL 6 5,oF 7 0 3,oL 8 7,q 9 (.bin .eql (.t 6) (.t 8)),oM 10 9,gF 11 1 2 10 true,gL 12 11 10 true,gF 13 1 3 10 true,gL 14 13 10 true,qg 15 (.bin .eql (.t 12) (.t 14)) 10 true,q 16 (.pick (.t 10) (.t 15) (.c (.s (.bool false)))),oM 17 16,gF 18 2 2 17 true,gL 19 18 17 true,gF 20 2 3 17 true,gL 21 20 17 true,qg 22 (.bin .eql (.t 19) (.t 21)) 17 true,q 23 (.pick (.t 17) (.t 22) (.c (.s (.bool false)))),oM 24 23,gF 25 3 2 24 true,gL 26 25 24 true,gF 27 3 3 24 true,gL 28 27 24 true,qg 29 (.bin .eql (.t 26) (.t 28)) 24 true,q 30 (.pick (.t 24) (.t 29) (.c (.s (.bool false)))),oM 31 30,gF 32 4 2 31 true,gL 33 32 31 true,gF 34 4 3 31 true,gL 35 34 31 true,qg 36 (.bin .eql (.t 33) (.t 35)) 31 true,q 37 (.pick (.t 31) (.t 36) (.c (.s (.bool false)))),oM 38 37,gF 39 5 2 38 true,gL 40 39 38 true,gF 41 5 3 38 true,gL 42 41 38 true,qg 43 (.bin .eql (.t 40) (.t 42)) 38 true,q 44 (.pick (.t 38) (.t 43) (.c (.s (.bool false)))),oM 45 44]
def R29_1:LO:=R29_1p0 ++ R29_1t1
def anz:ACFun:={ ntmps:=59,results:=[.tmp 4],body:=
 (.seq (.region R29_0 [] K29_0)
 (.seq (.region R29_1 [] [2,3,5,6,7,8,9,10,11,12,13,14,15,16,17,18,19,20,21,22,23,24,25,26,27,28,29,30,31,32,33,34,35,36,37,38,39,40,41,42,43,44,45,46,47,48,49,50,51,52,53,54,55,56,57,58])
 .ret)) }
theorem au7:l9 (List.range' 2 (anz.ntmps - 2)) anz.body=true:=by kernel_rfl
def a_f3:=ai (hP R3_0 [0,2,3,4,5,6,7,8,9,10,11,12,13,14,15,16,17,18,19,20,21,22,23,24,25,26,27,28,29,30,31,32,33,34,35,36,37,38] K3_0) (ai (hV R3_0t1 K3_0 [] 3 [] [] [.cc (.s (.bool false))]) (ai (hQ K3_0 0) (ai (hK K3_0 1) (ai (hQ K3_0 2) (ai (hU R3_1 [] [8] [8] 9 [] [(8,.op (.load true 1 (.t 0)) [.t 1])] [sb []]) (ai (hX R3_1t1 [8]) (ai (hP R3_2 [1,9] [1,9,10]) (ai (hV R3_2t1 [1,9,10] [2] 3 [] [(2,.t 10)] [.tt 10]) (ai (hU R3_3 [9] [11] [9,11,12] 12 [] [(11,.op (.load true 1 (.t 0)) [.t 1])] [sb []]) (ai (hP R3_3t1 [11] [9,11,12]) (ai (hP R3_3t2 [] [9,11,12]) (ai (hX R3_3t3 [9,11,12]) (ai (hU R3_4 [] [14] [13,14,15,16,17] 15 [] [(14,.op (.load true 1 (.t 0)) [.t 3])] [sb []]) (ai (hP R3_4t1 [14] [13,14,15,16,17]) (ai (hV R3_4t2 [13,14,15,16,17] [4,5] 18 [] [(4,.op (.extract (.t 0) 0) [.t 15]),(5,.op (.extract (.t 0) 1) [.t 15])] [.tt 15,sb [],.sub 1 [] [],sb [],.sub 1 [] []]) (ai (hU R3_5 [] [19] [18,19,20,21,22] 20 [] [(19,.op (.load true 1 (.t 0)) [.t 1])] [sb []]) (ai (hP R3_5t1 [19] [18,19,20,21,22]) (ai (hV R3_5t2 [18,19,20,21,22] [6,7] 23 [] [(6,.op (.extract (.t 0) 0) [.t 20]),(7,.op (.extract (.t 0) 1) [.t 20])] [.tt 20,sb [],.sub 1 [] [],sb [],.sub 1 [] []]) (ai (hU R3_6 [4,5,6,7,23,24,25,26,27,28,29,30] [31] [1,3,4,5,6,7,23,24,25,26,27,28,29,30,31,32,33,34,35,36,37,38] 32 [] [(31,.pick (.op (.bin .eql (.t 0) (.t 1)) [.t 4,.t 6]) (.op (.bin .eql (.t 0) (.t 1)) [.t 5,.t 7]) (.c (.s (.bool false))))] [.tt 4,.tt 6,sb [0],sb [0],.sub 0 [1,0] [26],.sub 0 [1,1] [26],.sub 0 [1] [26],sb [],sb []]) (ai (hP R3_6t1 [3] [1,3,4,5,6,7,23,24,25,26,27,28,29,30,31,32,33,34,35,36,37,38]) (ai (hP R3_6t2 [1] [1,3,4,5,6,7,23,24,25,26,27,28,29,30,31,32,33,34,35,36,37,38]) (ai (hP R3_6t3 [32,33] [1,3,4,5,6,7,23,24,25,26,27,28,29,30,31,32,33,34,35,36,37,38]) (ai (hU R3_6t4 [31,34,35] [36] [1,3,4,5,6,7,23,24,25,26,27,28,29,30,31,32,33,34,35,36,37,38] 37 [] [(36,.pick (.t 31) (.t 34) (.c (.s (.bool false))))] [sb [],sb []]) (ai (hP R3_6t5 [] [1,3,4,5,6,7,23,24,25,26,27,28,29,30,31,32,33,34,35,36,37,38]) ((hV R3_6t6 [1,3,4,5,6,7,23,24,25,26,27,28,29,30,31,32,33,34,35,36,37,38] [2] 39 [] [(2,.pick (.t 36) (.t 37) (.c (.s (.bool false))))] [sb [],sb []]))))))))))))))))))))))))))
def bev:=ai (hQ K9_0p0 0) (ai (hK K9_0p0 1) (ai (hQ K9_0p0 2) (ai X9_0 (ai (hX R9_0t1 K9_0) (ai (hQ K9_0 0) (ai (hK K9_0 1) (ai (hK K9_0 2) (ai (hX R9_1 []) (ai (hT R9_2 [] [4] 5 [] [(4,.c (.s (.int .i64 0)))] [.cc (.s (.int .i64 0))]) (ai (hT R9_3 [11,12,13,14] [15] 16 [] [(15,.op (.bin .lss (.t 0) (.t 1)) [.t 4,.op (.lenS .s (.t 0)) [eL (eF 0 (.t 1))]])] [.tt 4,sb [1,0,0],sb [1,0],sb [1],sb []]) (ai (hU R9_4 [15,18,19,20,21] [22] [15,18,19,20,21,22] 23 [] [(22,.op (.load true 3 (.t 0)) [.op (.indexAddr 3 (.t 0) (.t 1)) [eL (eF 0 (.t 1)),.t 4]])] [sb [0,0,0],sb [0,0],.tt 4,sb [0],sb []]) (ai (hP R9_4t1 [] [15,18,19,20,21,22]) (ai (hX R9_4t2 [15,18,19,20,21,22]) (ai (hU R9_5 [23] [24] [23,24,25,26,27,28,29] 25 [] [(24,eL (eF 0 (.t 5)))] [sb [0],sb []]) (ai (hP R9_5t1 [] [23,24,25,26,27,28,29]) (ai (hU R9_5t2 [26] [27] [23,24,25,26,27,28,29] 28 [] [(27,eL (eF 1 (.t 5)))] [sb [0],sb []]) (ai (hP R9_5t3 [25,27] [23,24,25,26,27,28,29]) (ai (hU R9_5t4 [24,28] [29] [23,24,25,26,27,28,29] 30 [] [(29,.op (.build [.s (.string ⟨#[]⟩),.s (.slice none 0 0),.s (.slice none 0 0)] [(0,1),(1,1),(2,1)] [(0,.t 0),(1,.t 1)]) [.t 24,.t 28])] [sb []]) (ai (hP R9_5t5 [] [23,24,25,26,27,28,29]) (ai (hX R9_5t6 [23,24,25,26,27,28,29]) (ai (hT R9_6 [] [7] 8 [] [(7,.c (.s (.int .i64 0)))] [.cc (.s (.int .i64 0))]) (ai (hT R9_7 [30,31,32,33] [34] 35 [] [(34,.op (.bin .lss (.t 0) (.t 1)) [.t 7,.op (.lenS .s (.t 0)) [eL (eF 2 (.t 5))]])] [.tt 7,sb [1,0,0],sb [1,0],sb [1],sb []]) (ai (hU R9_8 [34,37,38,39,40,41,42] [43] [34,37,38,39,40,41,42,43] 44 [] [(43,.op (.build [.s (.string ⟨#[]⟩),.s (.slice none 0 0)] [(0,1),(1,1)] [(0,.t 0)]) [eL (eF 0 (.op (.indexAddr 2 (.t 0) (.t 1)) [eL (eF 2 (.t 5)),.t 7]))])] [sb [0,0,0,0,0],sb [0,0,0,0],.tt 7,sb [0,0,0],sb [0,0],sb [0],sb []]) (ai (hP R9_8t1 [] [34,37,38,39,40,41,42,43]) (ai (hX R9_8t2 [34,37,38,39,40,41,42,43]) (ai (hT R9_9 [] [9] 10 [] [(9,.c (.s (.int .i64 0)))] [.cc (.s (.int .i64 0))]) (ai (hT R9_10 [44,45,46,47,48,49,50,51] [52] 53 [] [(52,.op (.bin .lss (.t 0) (.t 1)) [.t 9,.op (.lenS .s (.t 0)) [eL (eF 1 (.op (.indexAddr 2 (.t 0) (.t 1)) [eL (eF 2 (.t 5)),.t 7]))]])] [.tt 9,sb [1,0,0,0,0,0],sb [1,0,0,0,0],.tt 7,sb [1,0,0,0],sb [1,0,0],sb [1,0],sb [1],sb []]) (ai (hU R9_11 [52,55,56,57,58,59,60,61,62] [63] [52,55,56,57,58,59,60,61,62,63] 64 [] [(63,.op (.load true 8 (.t 0)) [.op (.indexAddr 8 (.t 0) (.t 1)) [eL (eF 1 (.op (.indexAddr 2 (.t 0) (.t 1)) [eL (eF 2 (.t 5)),.t 7])),.t 9]])] [sb [0,0,0,0,0,0],sb [0,0,0,0,0],.tt 7,sb [0,0,0,0],sb [0,0,0],sb [0,0],.tt 9,sb [0],sb []]) (ai (hP R9_11t1 [] [52,55,56,57,58,59,60,61,62,63]) (ai (hX R9_11t2 [52,55,56,57,58,59,60,61,62,63]) (ai (hP R9_12 [] [64,65,66,67,68]) (ai (hU R9_12t1 [65] [66] [64,65,66,67,68] 67 [] [(66,eL (eF 6 (.t 10)))] [sb [0],sb []]) (ai (hP R9_12t2 [64,66] [64,65,66,67,68]) (ai (hU R9_12t3 [] [68] [64,65,66,67,68] 69 [] [(68,eF 6 (.t 10))] [sb []]) (ai (hX R9_12t4 [64,65,66,67,68]) (ai (hP R9_13 [] [69,70,71,72,73]) (ai (hU R9_13t1 [70] [71] [69,70,71,72,73] 72 [] [(71,eL (eF 7 (.t 10)))] [sb [0],sb []]) (ai (hP R9_13t2 [69,71] [69,70,71,72,73]) (ai (hU R9_13t3 [] [73] [69,70,71,72,73] 74 [] [(73,eF 7 (.t 10))] [sb []]) (ai (hX R9_13t4 [69,70,71,72,73]) (ai (hU R9_14 [10,74] [75,76] [10,74,75,76,77,78,79] 77 [] [(75,eL (eF 1 (.t 8))),(76,.op (.load true 8 (.t 0)) [.t 10])] [sb [0],sb [],.sub 1 [] []]) (ai (hP R9_14t1 [76] [10,74,75,76,77,78,79]) (ai (hP R9_14t2 [75,77] [10,74,75,76,77,78,79]) (ai (hU R9_14t3 [] [79] [10,74,75,76,77,78,79] 80 [] [(79,eF 1 (.t 8))] [sb []]) (ai (hX R9_14t4 [10,74,75,76,77,78,79]) (ai (hT R9_15 [53,54] [9] 55 [] [(9,.op (.bin .add (.t 0) (.c (.s (.int .i64 1)))) [.t 9,.c (.s (.int .i64 1))])] [.tt 9,sb [],sb []]) (ai (hE apl ak8) (ai (hU R9_16 [8,9,52,80] [81,82] [8,9,52,80,81,82,83,84,85] 83 [] [(81,eL (eF 2 (.t 6))),(82,.op (.load true 2 (.t 0)) [.t 8])] [sb [0],sb [],.sub 1 [] []]) (ai (hP R9_16t1 [82] [8,9,52,80,81,82,83,84,85]) (ai (hP R9_16t2 [81,83] [8,9,52,80,81,82,83,84,85]) (ai (hU R9_16t3 [] [85] [8,9,52,80,81,82,83,84,85] 86 [] [(85,eF 2 (.t 6))] [sb []]) (ai (hX R9_16t4 [8,9,52,80,81,82,83,84,85]) (ai (hT R9_17 [35,36] [7] 37 [] [(7,.op (.bin .add (.t 0) (.c (.s (.int .i64 1)))) [.t 7,.c (.s (.int .i64 1))])] [.tt 7,sb [],sb []]) (ai (hE apk ak7) (ai (hU R9_18 [5,6,7,34,86] [87,88] [5,6,7,34,86,87,88,89,90,91] 89 [] [(87,eL (eF 0 (.t 3))),(88,.op (.load true 3 (.t 0)) [.t 6])] [sb [0],sb [],.sub 1 [] []]) (ai (hP R9_18t1 [88] [5,6,7,34,86,87,88,89,90,91]) (ai (hP R9_18t2 [87,89] [5,6,7,34,86,87,88,89,90,91]) (ai (hU R9_18t3 [] [91] [5,6,7,34,86,87,88,89,90,91] 92 [] [(91,eF 0 (.t 3))] [sb []]) (ai (hX R9_18t4 [5,6,7,34,86,87,88,89,90,91]) (ai (hT R9_19 [16,17] [4] 18 [] [(4,.op (.bin .add (.t 0) (.c (.s (.int .i64 1)))) [.t 4,.c (.s (.int .i64 1))])] [.tt 4,sb [],sb []]) (ai (hE apj ak6) (ai (hU R9_20 [1,3,4,15] [92] [1,3,4,15,92] 93 [] [(92,.op (.load true 1 (.t 0)) [.t 3])] [sb []]) (ai (hX R9_20t1 [1,3,4,15,92]) (ai ak7.eq_1 (ai ak8.eq_1 (ak6.eq_1))))))))))))))))))))))))))))))))))))))))))))))))))))))))))))))))))
def aw0:=ai (hQ K12_0p0 0) (ai (hK K12_0p0 1) (ai (hK K12_0p0 2) (ai (hQ K12_0p0 3) (ai (hQ K12_0p0 4) (ai X12_0 (ai (hP R12_0t1 [1] K12_0) (ai (hV R12_0t2 K12_0 [] 5 [] [] [.cc (.s (.bool false))]) (ai (hQ K12_0 0) (ai (hQ K12_0 1) (ai (hK K12_0 2) (ai (hK K12_0 3) (ai (hQ K12_0 4) (ai (hT R12_1 [12,13,14,15,16,17] [18] 19 [] [(18,.op (.bin .neq (.t 0) (.t 1)) [.op (.lenS .s (.t 0)) [eL (eF 0 (.t 2))],.op (.lenS .s (.t 0)) [eL (eF 0 (.t 3))]])] [sb [0,0,0],sb [0,0],sb [0],sb [1,0,0],sb [1,0],sb [1],sb []]) (ai (hT R12_2 [2,3,18] [4] 5 [] [(4,.c (.s (.bool false)))] [.cc (.s (.bool false))]) (ai (hT R12_3 [18] [5] 6 [] [(5,.c (.s (.int .i64 0)))] [.cc (.s (.int .i64 0))]) (ai (hT R12_4 [19,20,21,22] [23] 24 [] [(23,.op (.bin .lss (.t 0) (.t 1)) [.t 5,.op (.lenS .s (.t 0)) [eL (eF 0 (.t 2))]])] [.tt 5,sb [1,0,0],sb [1,0],sb [1],sb []]) (ai (hU R12_5 [23,26,27,28,29] [30] [23,26,27,28,29,30] 31 [] [(30,.op (.load true 3 (.t 0)) [.op (.indexAddr 3 (.t 0) (.t 1)) [eL (eF 0 (.t 2)),.t 5]])] [sb [0,0,0],sb [0,0],.tt 5,sb [0],sb []]) (ai (hP R12_5t1 [] [23,26,27,28,29,30]) (ai (hX R12_5t2 [23,26,27,28,29,30]) (ai (hU R12_6 [31,32,33,34] [35] [31,32,33,34,35] 36 [] [(35,.op (.load true 3 (.t 0)) [.op (.indexAddr 3 (.t 0) (.t 1)) [eL (eF 0 (.t 3)),.t 5]])] [sb [0,0,0],sb [0,0],.tt 5,sb [0],sb []]) (ai (hP R12_6t1 [] [31,32,33,34,35]) (ai (hX R12_6t2 [31,32,33,34,35]) (ai (hU R12_7 [36,37,38,39,40] [41] [36,37,38,39,40,41,42,43,44,45,46,47,48,49,50,51,52,53,54,55,56] 42 [] [(41,.op (.bin .neq (.t 0) (.t 1)) [eL (eF 0 (.t 6)),eL (eF 0 (.t 7))])] [sb [0,0],sb [0],sb [1,0],sb [1],sb [],sb []]) (ai (hP R12_7t1 [] [36,37,38,39,40,41,42,43,44,45,46,47,48,49,50,51,52,53,54,55,56]) (ai (hP R12_7t2 [42] [36,37,38,39,40,41,42,43,44,45,46,47,48,49,50,51,52,53,54,55,56]) (ai (hP R12_7t3 [] [36,37,38,39,40,41,42,43,44,45,46,47,48,49,50,51,52,53,54,55,56]) (ai (hP R12_7t4 [44] [36,37,38,39,40,41,42,43,44,45,46,47,48,49,50,51,52,53,54,55,56]) (ai (hP R12_7t5 [43,45] [36,37,38,39,40,41,42,43,44,45,46,47,48,49,50,51,52,53,54,55,56]) (ai (hV R12_7t6 [36,37,38,39,40,41,42,43,44,45,46,47,48,49,50,51,52,53,54,55,56] [57] 58 [] [(57,.pick (.pick (.t 41) (.c (.s (.bool true))) (.op (.un .not (.t 0)) [.t 46])) (.c (.s (.bool true))) (.op (.bin .neq (.t 0) (.t 1)) [.op (.lenS .s (.t 0)) [eL (eF 2 (.t 6))],.op (.lenS .s (.t 0)) [eL (eF 2 (.t 7))]]))] [.sub 0 [0,2] [41],sb [0],sb [0],.sub 0 [2,0,0,0] [49],.sub 0 [2,0,0] [49],.sub 0 [2,0] [49],.sub 0 [2,1,0,0] [49],.sub 0 [2,1,0] [49],.sub 0 [2,1] [49],.sub 0 [2] [49],sb []]) (ai (hT R12_8 [2,3,5,6,7,57] [4] 5 [] [(4,.c (.s (.bool false)))] [.cc (.s (.bool false))]) (ai (hT R12_9 [57] [8] 9 [] [(8,.c (.s (.int .i64 0)))] [.cc (.s (.int .i64 0))]) (ai (hT R12_10 [58,59,60,61] [62] 63 [] [(62,.op (.bin .lss (.t 0) (.t 1)) [.t 8,.op (.lenS .s (.t 0)) [eL (eF 2 (.t 6))]])] [.tt 8,sb [1,0,0],sb [1,0],sb [1],sb []]) (ai (hU R12_11 [62,65,66,67,68] [69] [62,65,66,67,68,69] 70 [] [(69,.op (.load true 2 (.t 0)) [.op (.indexAddr 2 (.t 0) (.t 1)) [eL (eF 2 (.t 6)),.t 8]])] [sb [0,0,0],sb [0,0],.tt 8,sb [0],sb []]) (ai (hP R12_11t1 [] [62,65,66,67,68,69]) (ai (hX R12_11t2 [62,65,66,67,68,69]) (ai (hU R12_12 [70,71,72,73] [74] [70,71,72,73,74] 75 [] [(74,.op (.load true 2 (.t 0)) [.op (.indexAddr 2 (.t 0) (.t 1)) [eL (eF 2 (.t 7)),.t 8]])] [sb [0,0,0],sb [0,0],.tt 8,sb [0],sb []]) (ai (hP R12_12t1 [] [70,71,72,73,74]) (ai (hX R12_12t2 [70,71,72,73,74]) (ai (hT R12_13 [75,76,77,78,79,80,81,82,83,84,85,86,87] [88] 89 [] [(88,.pick (.op (.bin .neq (.t 0) (.t 1)) [eL (eF 0 (.t 9)),eL (eF 0 (.t 10))]) (.c (.s (.bool true))) (.op (.bin .neq (.t 0) (.t 1)) [.op (.lenS .s (.t 0)) [eL (eF 1 (.t 9))],.op (.lenS .s (.t 0)) [eL (eF 1 (.t 10))]]))] [sb [0,0,0],sb [0,0],sb [0,1,0],sb [0,1],sb [0],sb [0],.sub 0 [2,0,0,0] [80],.sub 0 [2,0,0] [80],.sub 0 [2,0] [80],.sub 0 [2,1,0,0] [80],.sub 0 [2,1,0] [80],.sub 0 [2,1] [80],.sub 0 [2] [80],sb []]) (ai (hT R12_14 [2,3,5,6,7,8,9,10,88] [4] 5 [] [(4,.c (.s (.bool false)))] [.cc (.s (.bool false))]) (ai (hT R12_15 [88] [11] 12 [] [(11,.c (.s (.int .i64 0)))] [.cc (.s (.int .i64 0))]) (ai (hT R12_16 [89,90,91,92] [93] 94 [] [(93,.op (.bin .lss (.t 0) (.t 1)) [.t 11,.op (.lenS .s (.t 0)) [eL (eF 1 (.t 9))]])] [.tt 11,sb [1,0,0],sb [1,0],sb [1],sb []]) (ai (hU R12_17 [93,96,97,98,99,101,102,103,104] [100,105] [93,96,97,98,99,100,101,102,103,104,105,106] 106 [] [(100,.op (.load true 8 (.t 0)) [.op (.indexAddr 8 (.t 0) (.t 1)) [eL (eF 1 (.t 9)),.t 11]]),(105,.op (.load true 8 (.t 0)) [.op (.indexAddr 8 (.t 0) (.t 1)) [eL (eF 1 (.t 10)),.t 11]])] [sb [0,0,0],sb [0,0],.tt 11,sb [0],sb [],.sub 1 [0,0,0] [],.sub 1 [0,0] [],.tt 11,.sub 1 [0] [],.sub 1 [] []]) (ai (hP R12_17t1 [100,105] [93,96,97,98,99,100,101,102,103,104,105,106]) (ai (hV R12_17t2 [93,96,97,98,99,100,101,102,103,104,105,106] [107] 108 [] [(107,.op (.un .not (.t 0)) [.t 106])] [sb []]) (ai (hT R12_18 [2,3,5,6,7,8,9,10,11,107] [4] 5 [] [(4,.c (.s (.bool false)))] [.cc (.s (.bool false))]) (ai (hT R12_19 [94,95,107] [11] 96 [] [(11,.op (.bin .add (.t 0) (.c (.s (.int .i64 1)))) [.t 11,.c (.s (.int .i64 1))])] [.tt 11,sb [],sb []]) (ai (hE akc aix) (ai (hT R12_20 [9,10,11,63,64,93] [8] 65 [] [(8,.op (.bin .add (.t 0) (.c (.s (.int .i64 1)))) [.t 8,.c (.s (.int .i64 1))])] [.tt 8,sb [],sb []]) (ai (hE akb aiw) (ai (hT R12_21 [6,7,8,24,25,62] [5] 26 [] [(5,.op (.bin .add (.t 0) (.c (.s (.int .i64 1)))) [.t 5,.c (.s (.int .i64 1))])] [.tt 5,sb [],sb []]) (ai (hE aka aiv) (ai (hT R12_22 [2,3,5,23] [4] 5 [] [(4,.c (.s (.bool true)))] [.cc (.s (.bool true))]) (ai aiw.eq_1 (ai aix.eq_1 (aiv.eq_1))))))))))))))))))))))))))))))))))))))))))))))))))))))))
def bex:=ai (hT R28_0 K28_0 [] 5 [] [] [.cc (.s (.bool false))]) (ai au8 (ai (hK K28_0 0) (ai (hK K28_0 1) (ai (hT R28_1 [6,7,8,9] [10] 11 [] [(10,.op (.bin .neq (.t 0) (.t 1)) [.op (.lenS .s (.t 0)) [.t 0],.op (.lenS .s (.t 0)) [.t 1]])] [.tt 0,sb [0],.tt 1,sb [1],sb []]) (ai (hT R28_2 [0,1,10] [4] 5 [] [(4,.c (.s (.bool false)))] [.cc (.s (.bool false))]) (ai (hT R28_3 [10] [5] 6 [] [(5,.c (.s (.int .i64 0)))] [.cc (.s (.int .i64 0))]) (ai (hT R28_4 [11,12,13] [14] 15 [] [(14,.op (.bin .lss (.t 0) (.t 1)) [.t 5,.op (.lenS .s (.t 0)) [.t 0]])] [.tt 5,.tt 0,sb [1],sb []]) (ai (hT R28_5 [14,17,18,19,20,21,22,23,24] [25] 26 [] [(25,.op (.bin .neq (.t 0) (.t 1)) [eL (.op (.indexAddr 1 (.t 0) (.t 1)) [.t 0,.t 5]),eL (.op (.indexAddr 1 (.t 0) (.t 1)) [.t 1,.t 5])])] [.tt 0,.tt 5,sb [0,0],sb [0],.tt 1,.tt 5,sb [1,0],sb [1],sb []]) (ai (hT R28_6 [0,1,5,25] [4] 5 [] [(4,.c (.s (.bool false)))] [.cc (.s (.bool false))]) (ai (hT R28_7 [15,16,25] [5] 17 [] [(5,.op (.bin .add (.t 0) (.c (.s (.int .i64 1)))) [.t 5,.c (.s (.int .i64 1))])] [.tt 5,sb [],sb []]) (ai (hE aj7 ain) (ai (hT R28_8 [0,1,5,14] [4] 5 [] [(4,.c (.s (.bool true)))] [.cc (.s (.bool true))]) (ain.eq_1)))))))))))))
def a_f29:=ai (hQ K29_0p0 0) (ai (hK K29_0p0 1) (ai (hK K29_0p0 2) (ai (hQ K29_0p0 3) (ai (hQ K29_0p0 4) (ai X29_0 (ai (hP R29_0t1 [1] K29_0) (ai (hV R29_0t2 K29_0 [] 5 [] [] [.cc (.s (.bool false))]) (ai (hQ K29_0 0) (ai (hQ K29_0 1) (ai (hK K29_0 2) (ai (hK K29_0 3) (ai (hQ K29_0 4) (ai (hU R29_1 [5,6,7,8,9,10,11,12,13,14,15,16,17,18,19,20,21,22,23,24,25,26,27,28,29,30,31,32,33,34,35,36,37,38,39,40,41,42,43,44] [45] [2,3,5,6,7,8,9,10,11,12,13,14,15,16,17,18,19,20,21,22,23,24,25,26,27,28,29,30,31,32,33,34,35,36,37,38,39,40,41,42,43,44,45,46,47,48,49,50,51,52,53,54,55,56,57,58] 46 [] [(45,.pick (.pick (.pick (.pick (.pick (.op (.bin .eql (.t 0) (.t 1)) [eL (eF 0 (.t 2)),eL (eF 0 (.t 3))]) (.op (.bin .eql (.t 0) (.t 1)) [eL (eF 1 (.t 2)),eL (eF 1 (.t 3))]) (.c (.s (.bool false)))) (.op (.bin .eql (.t 0) (.t 1)) [eL (eF 2 (.t 2)),eL (eF 2 (.t 3))]) (.c (.s (.bool false)))) (.op (.bin .eql (.t 0) (.t 1)) [eL (eF 3 (.t 2)),eL (eF 3 (.t 3))]) (.c (.s (.bool false)))) (.op (.bin .eql (.t 0) (.t 1)) [eL (eF 4 (.t 2)),eL (eF 4 (.t 3))]) (.c (.s (.bool false)))) (.op (.bin .eql (.t 0) (.t 1)) [eL (eF 5 (.t 2)),eL (eF 5 (.t 3))]) (.c (.s (.bool false))))] [sb [0,0,0,0,0,0,0],sb [0,0,0,0,0,0],sb [0,0,0,0,0,1,0],sb [0,0,0,0,0,1],sb [0,0,0,0,0],sb [0,0,0,0,0],.sub 0 [0,0,0,0,1,0,0] [10],.sub 0 [0,0,0,0,1,0] [10],.sub 0 [0,0,0,0,1,1,0] [10],.sub 0 [0,0,0,0,1,1] [10],.sub 0 [0,0,0,0,1] [10],sb [0,0,0,0],sb [0,0,0,0],.sub 0 [0,0,0,1,0,0] [17],.sub 0 [0,0,0,1,0] [17],.sub 0 [0,0,0,1,1,0] [17],.sub 0 [0,0,0,1,1] [17],.sub 0 [0,0,0,1] [17],sb [0,0,0],sb [0,0,0],.sub 0 [0,0,1,0,0] [24],.sub 0 [0,0,1,0] [24],.sub 0 [0,0,1,1,0] [24],.sub 0 [0,0,1,1] [24],.sub 0 [0,0,1] [24],sb [0,0],sb [0,0],.sub 0 [0,1,0,0] [31],.sub 0 [0,1,0] [31],.sub 0 [0,1,1,0] [31],.sub 0 [0,1,1] [31],.sub 0 [0,1] [31],sb [0],sb [0],.sub 0 [1,0,0] [38],.sub 0 [1,0] [38],.sub 0 [1,1,0] [38],.sub 0 [1,1] [38],.sub 0 [1] [38],sb [],sb []]) (ai (hP R29_1t1 [] [2,3,5,6,7,8,9,10,11,12,13,14,15,16,17,18,19,20,21,22,23,24,25,26,27,28,29,30,31,32,33,34,35,36,37,38,39,40,41,42,43,44,45,46,47,48,49,50,51,52,53,54,55,56,57,58]) (ai (hP R29_1t2 [46] [2,3,5,6,7,8,9,10,11,12,13,14,15,16,17,18,19,20,21,22,23,24,25,26,27,28,29,30,31,32,33,34,35,36,37,38,39,40,41,42,43,44,45,46,47,48,49,50,51,52,53,54,55,56,57,58]) (ai (hP R29_1t3 [] [2,3,5,6,7,8,9,10,11,12,13,14,15,16,17,18,19,20,21,22,23,24,25,26,27,28,29,30,31,32,33,34,35,36,37,38,39,40,41,42,43,44,45,46,47,48,49,50,51,52,53,54,55,56,57,58]) (ai (hP R29_1t4 [48] [2,3,5,6,7,8,9,10,11,12,13,14,15,16,17,18,19,20,21,22,23,24,25,26,27,28,29,30,31,32,33,34,35,36,37,38,39,40,41,42,43,44,45,46,47,48,49,50,51,52,53,54,55,56,57,58]) (ai (hP R29_1t5 [47,49] [2,3,5,6,7,8,9,10,11,12,13,14,15,16,17,18,19,20,21,22,23,24,25,26,27,28,29,30,31,32,33,34,35,36,37,38,39,40,41,42,43,44,45,46,47,48,49,50,51,52,53,54,55,56,57,58]) (ai (hU R29_1t6 [45,50,51] [52] [2,3,5,6,7,8,9,10,11,12,13,14,15,16,17,18,19,20,21,22,23,24,25,26,27,28,29,30,31,32,33,34,35,36,37,38,39,40,41,42,43,44,45,46,47,48,49,50,51,52,53,54,55,56,57,58] 53 [] [(52,.pick (.t 45) (.t 50) (.c (.s (.bool false))))] [sb [],sb []]) (ai (hP R29_1t7 [2] [2,3,5,6,7,8,9,10,11,12,13,14,15,16,17,18,19,20,21,22,23,24,25,26,27,28,29,30,31,32,33,34,35,36,37,38,39,40,41,42,43,44,45,46,47,48,49,50,51,52,53,54,55,56,57,58]) (ai (hP R29_1t8 [53] [2,3,5,6,7,8,9,10,11,12,13,14,15,16,17,18,19,20,21,22,23,24,25,26,27,28,29,30,31,32,33,34,35,36,37,38,39,40,41,42,43,44,45,46,47,48,49,50,51,52,53,54,55,56,57,58]) (ai (hP R29_1t9 [3] [2,3,5,6,7,8,9,10,11,12,13,14,15,16,17,18,19,20,21,22,23,24,25,26,27,28,29,30,31,32,33,34,35,36,37,38,39,40,41,42,43,44,45,46,47,48,49,50,51,52,53,54,55,56,57,58]) (ai (hP R29_1t10 [55] [2,3,5,6,7,8,9,10,11,12,13,14,15,16,17,18,19,20,21,22,23,24,25,26,27,28,29,30,31,32,33,34,35,36,37,38,39,40,41,42,43,44,45,46,47,48,49,50,51,52,53,54,55,56,57,58]) (ai (hP R29_1t11 [54,56] [2,3,5,6,7,8,9,10,11,12,13,14,15,16,17,18,19,20,21,22,23,24,25,26,27,28,29,30,31,32,33,34,35,36,37,38,39,40,41,42,43,44,45,46,47,48,49,50,51,52,53,54,55,56,57,58]) ((hV R29_1t12 [2,3,5,6,7,8,9,10,11,12,13,14,15,16,17,18,19,20,21,22,23,24,25,26,27,28,29,30,31,32,33,34,35,36,37,38,39,40,41,42,43,44,45,46,47,48,49,50,51,52,53,54,55,56,57,58] [4] 59 [] [(4,.pick (.t 52) (.t 57) (.c (.s (.bool false))))] [sb [],sb []]))))))))))))))))))))))))))
theorem bi4:qi Tryz.prog PX0 28=some (false,an0.ntmps,an0.results,an0.body.bare):=by kernel_rfl
theorem bi0:qi Tryz.prog PX0 29=some (false,anz.ntmps,anz.results,anz.body.bare):=by kernel_rfl
theorem bi5:qi Tryz.prog PX0 12=some (false,apv.ntmps,apv.results,apv.body.bare):=by kernel_rfl
theorem SA7_9:qi Tryz.prog PX0 9=some (false,a6e.ntmps,a6e.results,a6e.body.bare):=by kernel_rfl
theorem SA7_3:qi Tryz.prog PX0 3=some (false,a1f.ntmps,a1f.results,a1f.body.bare):=by kernel_rfl
section
variable {CT:Nat→Option CFun}
theorem st_l0 (base:Nat) {D:Heap} {v w:V} {l:List ByteArray} (q1:Rd D v (l.map Sb)) (q2:aa7 v) (r1:Rd D w (l.map Sb)) (r2:aa7 w) (hn:l.length < 2 ^ 62):
 itW (evC (dn CT) itW base aj7) [] D.length (iw 26 [(0,v),(1,w),(5,Iz 0)]) D=some (.ext 0,iw 26 [(0,v),(1,w),(5,Iz l.length),(14,bl false)],D):=by
 have hpl:=qf q1
 have h:=a3k l.length (fun k=>itW (evC (dn CT) itW base aj7) [] D.length (iw 26 [(0,v),(1,w),(5,Iz k)]) D) (fun k hk=>by
  have hlt':((k:Int) < ((l.length:Nat):Int)):=by omega
  have hwk:=w64 (n:=k) (by omega)
  obtain ⟨y,y1,y2⟩:=ab0 q1 q2 hk;obtain ⟨z,z1,z2⟩:=ab0 r1 r2 hk;have e:((l.getD k ⟨#[]⟩).data.toList == (l.getD k ⟨#[]⟩).data.toList)=true:=beq_self_eq_true _;rw [dw];simp only [Iz,Sb,bl,bex,aa,simprocAttr,hpl,hlt',y1,y2,z1,z2,e,hwk,mr rfl]) 0 (gq _)
 rw [ry] at h;refine h.trans ?_;rw [dw];simp only [Iz,Sb,bl,bex,aa,simprocAttr,hpl,jo,mr rfl]
theorem ak5 (hT:CT a8x=some (.code an0)) (base:Nat) {D:Heap} {v w:V} {l:List ByteArray} (q1:Rd D v (l.map Sb)) (q2:aa7 v) (r1:Rd D w (l.map Sb)) (r2:aa7 w) (hn:l.length < 2 ^ 62):
 dn CT (.fn a8x [] []) [v,w] base D=some (bl true,D):=by
 have f0:=st_l0 (CT:=CT) base q1 q2 r1 r2 hn;have hp1:=qf q1;have hp2:=qf r1;have e:(((l.length:Nat):Int) == ((l.length:Nat):Int))=true:=beq_self_eq_true _
 refine oo (c:=an0) hT (by simp [an0]) ?_
 simp only [Iz,Sb,bl] at f0;simp only [Iz,Sb,bl,an0,bex,aa,simprocAttr,hp1,hp2,e,f0]
theorem a1d (hS:CT a8x=some (.code an0)) (hT:CT bdp=some (.code anz)) (base:Nat) {A:Heap} {r s:List V} {x:InsD} (hr:p9 A r x) (hs:p9 A s x) (hn1:x.xs.length < 2 ^ 62) (hn2:x.ls.length < 2 ^ 62):
 ∃ H',dn CT (.fn bdp [] []) [.agg r,.agg s] base A=some (bl true,H')∧Ext A H':=by
 obtain ⟨av,lv,rfl,q1,q2,q3,q4,_⟩:=hr;obtain ⟨aw,lw,rfl,p1,p2,p3,p4,_⟩:=hs;obtain ⟨D1,hD1⟩:∃ D,A ++ [Ob.cells 0 (jg x av lv)]=D:=⟨_,rfl⟩;obtain ⟨D,hD⟩:∃ D,D1 ++ [Ob.cells 0 (jg x aw lw)]=D:=⟨_,rfl⟩
 have l1:D1.length=A.length+1:=by rw [← hD1,eu]
 have e1:Ext A D1:=hD1 ▸ Ext.app _ _;have e2:Ext D1 D:=hD ▸ Ext.app _ _;have e:=e1.trans e2;have hg1:jm D A.length 0=some (jg x av lv):=cz (hD1 ▸ dh A 0 _) e2
 have hg2:jm D (A.length+1) 0=some (jg x aw lw):=by rw [← l1,← hD];exact dh D1 0 _
 have f1:=ak5 hS base (q1.ext e) q2 (p1.ext e) p2 hn1;have f2:=ak5 hS base (q3.ext e) q4 (p3.ext e) p4 hn2;have b0:(x.op == x.op:Bool)=true:=beq_self_eq_true _;have b1:(x.d.data.toList == x.d.data.toList:Bool)=true:=beq_self_eq_true _;have b2:(x.a.data.toList == x.a.data.toList:Bool)=true:=beq_self_eq_true _;have b3:(x.b.data.toList == x.b.data.toList:Bool)=true:=beq_self_eq_true _;have b4:(x.k == x.k:Bool)=true:=beq_self_eq_true _;have b5:(x.f.data.toList == x.f.data.toList:Bool)=true:=beq_self_eq_true _;have o1:=q1.one;have o2:=q3.one;have o3:=p1.one;have o4:=p3.one
 refine ⟨D,gp (c:=anz) (k:=2) hT rfl (by decide) au7 ?_,e⟩
 simp only [jg,Sb] at hD1 hD hg1 hg2;simp only [bl] at f1 f2;simp only [Iz,Sb,bl,jg,anz,a_f29,aa,simprocAttr,o1,o2,o3,o4,hD1,l1,hD,hg1,hg2,b0,b1,b2,b3,b4,b5,f1,f2]
end
structure SamT (CT:Nat→Option CFun):Prop where
 texts:CT a8x=some (.code an0)
 instr:CT bdp=some (.code anz)
 same:CT bhv=some (.code apv)
section
variable {CT:Nat→Option CFun}
set_option maxHeartbeats 1000000 in
theorem sm_l0 (h:SamT CT) (base:Nat) {C0:Heap} (hb:base≤C0.length) {z9 z10:Nat} {lb cv cw:V} {l:List InsD} (hg9:jm C0 z9 0=some [lb,cv]) (hg10:jm C0 z10 0=some [lb,cw]) (hc:RdL 8 p9 C0 cv l) (hd:RdL 8 p9 C0 cw l) (hn:l.length < 2 ^ 20) (hx:∀ x∈l,x.xs.length < 2 ^ 20∧x.ls.length < 2 ^ 20) {v2 v3 v6 v7:V} {n5 n8:Int}:
 ∃ C',itW (evC (dn CT) itW base akc) [] C0.length (iw 108 [(2,v2),(3,v3),(5,Iz n5),(6,v6),(7,v7),(8,Iz n8),(9,.ref z9 0 0),(10,.ref z10 0 0),(11,Iz 0)]) C0=some (.ext 4,iw 108 [(2,v2),(3,v3),(5,Iz n5),(6,v6),(7,v7),(8,Iz n8),(9,.ref z9 0 0),(10,.ref z10 0 0),(11,Iz l.length),(93,bl false)],C')∧Ext C0 C':=by
 obtain ⟨C,e2,e3⟩:=aco l.length (fun _ C=>Ext C0 C) (fun k C=>itW (evC (dn CT) itW base akc) [] C0.length (iw 108 [(2,v2),(3,v3),(5,Iz n5),(6,v6),(7,v7),(8,Iz n8),(9,.ref z9 0 0),(10,.ref z10 0 0),(11,Iz k)]) C) (by
  intro k C hk hE
  have hlt':((k:Int) < ((l.length:Nat):Int)):=by omega
  have hwk:=w64 (n:=k) (by omega)
  have g9:=cz hg9 hE;have g10:=cz hg10 hE;have hpl:=(zi hc hE).len;have hxk:l[k]?=some (l[k]):=ah hk;obtain ⟨x,hxe⟩:∃ x,l[k]=x:=⟨_,rfl⟩;rw [hxe] at hxk;have hmx:=hx x (ak hxk);obtain ⟨y,re,y1,y2,y3,_⟩:=hc.at2 hxk;obtain ⟨z,rf,z1,z2,z3,_⟩:=hd.at2 hxk;have ly:=y3 C hE;have lz:=z3 C hE
  obtain ⟨H1,f1,x1⟩:=a1d h.texts h.instr base (y2.ext hE) (z2.ext hE) (by omega) (by omega)
  refine ⟨trim C0.length (iw 108 [(2,v2),(3,v3),(5,Iz n5),(6,v6),(7,v7),(8,Iz n8),(9,.ref z9 0 0),(10,.ref z10 0 0),(11,Iz (k+1:Nat))]) H1,?_,(hE.trans x1).trim (af _) _⟩;simp only [bl] at f1;rw [dw];simp only [Iz,bl,aw0,aa,simprocAttr,g9,g10,hpl,hlt',y1,z1,ly,lz,f1,hwk]) 0 C0 (gq _) (Ext.refl _)
 rw [ry] at e2;refine ⟨trim C0.length (iw 108 [(2,v2),(3,v3),(5,Iz n5),(6,v6),(7,v7),(8,Iz n8),(9,.ref z9 0 0),(10,.ref z10 0 0),(11,Iz l.length),(93,bl false)]) C,e2.trans ?_,e3.trim (af _) _⟩;have g9:=cz hg9 e3;have hpl:=(zi hc e3).len;rw [dw];simp only [Iz,bl,aw0,aa,simprocAttr,g9,hpl,jo]
set_option maxHeartbeats 1000000 in
theorem sm_l1 (h:SamT CT) (base:Nat) {C0:Heap} (hb:base≤C0.length) {q6 q7:Nat} {nm pv pw bv bw:V} {l:List BlkD} (hg6:jm C0 q6 0=some [nm,pv,bv]) (hg7:jm C0 q7 0=some [nm,pw,bw]) (hc:RdL 2 aay C0 bv l) (hd:RdL 2 aay C0 bw l) (hn:l.length < 2 ^ 20) (hx:∀ b∈l,b.code.length < 2 ^ 20∧∀ x∈b.code,x.xs.length < 2 ^ 20∧x.ls.length < 2 ^ 20) {v2 v3:V} {n5:Int}:
 ∃ C',itW (evC (dn CT) itW base akb) [] C0.length (iw 108 [(2,v2),(3,v3),(5,Iz n5),(6,.ref q6 0 0),(7,.ref q7 0 0),(8,Iz 0)]) C0=some (.ext 2,iw 108 [(2,v2),(3,v3),(5,Iz n5),(6,.ref q6 0 0),(7,.ref q7 0 0),(8,Iz l.length),(62,bl false)],C')∧Ext C0 C':=by
 obtain ⟨C,e2,e3⟩:=aco l.length (fun _ C=>Ext C0 C) (fun k C=>itW (evC (dn CT) itW base akb) [] C0.length (iw 108 [(2,v2),(3,v3),(5,Iz n5),(6,.ref q6 0 0),(7,.ref q7 0 0),(8,Iz k)]) C) (by
  intro k C hk hE
  have hlt':((k:Int) < ((l.length:Nat):Int)):=by omega
  have hwk:=w64 (n:=k) (by omega)
  have hbC:base≤C.length:=by have:=hE.le;omega
  have g6:=cz hg6 hE;have hpl:=(wz hc hE).len;have hxk:l[k]?=some (l[k]):=ah hk;obtain ⟨B,hxe⟩:∃ x,l[k]=x:=⟨_,rfl⟩;rw [hxe] at hxk;obtain ⟨hmc,hmx⟩:=hx B (ak hxk);obtain ⟨y,re,y1,y2,y3,_⟩:=hc.at2 hxk;obtain ⟨z,rf,z1,z2,z3,_⟩:=hd.at2 hxk;obtain ⟨cv,rfl,hcv⟩:=y2;obtain ⟨cw,rfl,hcw⟩:=z2;have hco:=hcv.one;have hcw1:=hcw.one;obtain ⟨C1,hC1⟩:∃ X,C ++ [Ob.cells 0 [Sb B.label,cv]]=X:=⟨_,rfl⟩;obtain ⟨C2,hC2⟩:∃ X,C1 ++ [Ob.cells 0 [Sb B.label,cw]]=X:=⟨_,rfl⟩
  have l1:C1.length=C.length+1:=by rw [← hC1,eu]
  have l2:C2.length=C.length+2:=by rw [← hC2,eu,l1]
  have x1:Ext C C1:=hC1 ▸ Ext.app _ _;have x2:Ext C1 C2:=hC2 ▸ Ext.app _ _;have ly:=y3 C hE;have lz:=z3 C1 (hE.trans x1);have g7:=cz hg7 (hE.trans x1);have k9:jm C2 C.length 0=some [Sb B.label,cv]:=cz (hC1 ▸ dh C 0 _) x2
  have k10:jm C2 (C.length+1) 0=some [Sb B.label,cw]:=by rw [← l1,← hC2];exact dh C1 0 _
  have hE2:=hE.trans (x1.trans x2)
  obtain ⟨C',f1,x3⟩:=sm_l0 h base (C0:=C2) (by omega) (v2:=v2) (v3:=v3) (v6:=.ref q6 0 0) (v7:=.ref q7 0 0) (n5:=n5) (n8:=k) k9 k10 (zi hcv hE2) (zi hcw hE2) hmc hmx
  have c1l:=(zi hcv hE2).len;have c2l:=(zi hcw hE2).len;have zz1:jm (C ++ [Ob.cells 0 [V.s (.string ⟨#[]⟩),.s (.slice none 0 0)]]) C.length 0=some [V.s (.string ⟨#[]⟩),.s (.slice none 0 0)]:=dh C 0 _
  have zz2:jm (C1 ++ [Ob.cells 0 [V.s (.string ⟨#[]⟩),.s (.slice none 0 0)]]) (C.length+1) 0=some [V.s (.string ⟨#[]⟩),.s (.slice none 0 0)]:=by rw [← l1];exact dh C1 0 _
  have ss1:∀ o,(C ++ [Ob.cells 0 [V.s (.string ⟨#[]⟩),.s (.slice none 0 0)]]).set C.length o=C ++ [o]:=fun o=>ny C _ _
  have ss2:∀ o,(C1 ++ [Ob.cells 0 [V.s (.string ⟨#[]⟩),.s (.slice none 0 0)]]).set (C.length+1) o=C1 ++ [o]:=fun o=>by rw [← l1];exact ny C1 _ _
  have hb1:base≤C.length+1:=by omega
  have b1:(B.label.data.toList == B.label.data.toList:Bool)=true:=beq_self_eq_true _;have b2:(((B.code.length:Nat):Int) == ((B.code.length:Nat):Int))=true:=beq_self_eq_true _;refine ⟨trim C0.length (iw 108 [(2,v2),(3,v3),(5,Iz n5),(6,.ref q6 0 0),(7,.ref q7 0 0),(8,Iz (k+1:Nat))]) C',?_,(hE2.trans x3).trim (af _) _⟩;rw [l2] at f1;simp only [bl,Iz,Sb] at f1 ly lz hC1 hC2 k9 k10;rw [dw];simp only [Iz,Sb,bl,aw0,aa,simprocAttr,g6,g7,hpl,hlt',y1,z1,ly,lz,zz1,zz2,ss1,ss2,hbC,hb1,hco,hcw1,hC1,l1,hC2,l2,k9,k10,c1l,c2l,b1,b2,f1,hwk]) 0 C0 (gq _) (Ext.refl _)
 rw [ry] at e2;refine ⟨trim C0.length (iw 108 [(2,v2),(3,v3),(5,Iz n5),(6,.ref q6 0 0),(7,.ref q7 0 0),(8,Iz l.length),(62,bl false)]) C,e2.trans ?_,e3.trim (af _) _⟩;have g6:=cz hg6 e3;have hpl:=(wz hc e3).len;rw [dw];simp only [Iz,bl,aw0,aa,simprocAttr,g6,hpl,jo]
end
section
variable {CT:Nat→Option CFun}
set_option maxHeartbeats 1000000 in
theorem sm_l2 (h:SamT CT) (base:Nat) {C0:Heap} (hb:base≤C0.length) {p2 p3:Nat} {fv fw:V} {fs:List FunD} (hg2:jm C0 p2 0=some [fv]) (hg3:jm C0 p3 0=some [fw]) (hc:sj C0 fv fs) (hd:sj C0 fw fs) (hs:Small fs):
 ∃ C',itW (evC (dn CT) itW base aka) [] C0.length (iw 108 [(2,.ref p2 0 0),(3,.ref p3 0 0),(5,Iz 0)]) C0=some (.ext 0,iw 108 [(2,.ref p2 0 0),(3,.ref p3 0 0),(5,Iz fs.length),(23,bl false)],C')∧Ext C0 C':=by
 obtain ⟨C,e2,e3⟩:=aco fs.length (fun _ C=>Ext C0 C) (fun k C=>itW (evC (dn CT) itW base aka) [] C0.length (iw 108 [(2,.ref p2 0 0),(3,.ref p3 0 0),(5,Iz k)]) C) (by
  intro k C hk hE
  have hlt':((k:Int) < ((fs.length:Nat):Int)):=by omega
  have hwk:=w64 (n:=k) (by have:=hs.n;omega)
  have hbC:base≤C.length:=by have:=hE.le;omega
  have g2:=cz hg2 hE;have hpl:=RdL.len (hc.ext hE);have hxk:fs[k]?=some (fs[k]):=ah hk;obtain ⟨f,hxe⟩:∃ x,fs[k]=x:=⟨_,rfl⟩;rw [hxe] at hxk;have hmf:=ak hxk;obtain ⟨y,re,y1,y2,y3,_⟩:=hc.at2 hxk;obtain ⟨z,rf,z1,z2,z3,_⟩:=hd.at2 hxk;obtain ⟨pv,bv,rfl,u1,u2,u3,u4⟩:=y2;obtain ⟨pw,bw,rfl,w1,w2,w3,w4⟩:=z2;have o1:=u1.one;have o2:=u4.one;have o3:=w1.one;have o4:=w4.one;obtain ⟨C1,hC1⟩:∃ X,C ++ [Ob.cells 0 [Sb f.name,pv,bv]]=X:=⟨_,rfl⟩;obtain ⟨C2,hC2⟩:∃ X,C1 ++ [Ob.cells 0 [Sb f.name,pw,bw]]=X:=⟨_,rfl⟩
  have l1:C1.length=C.length+1:=by rw [← hC1,eu]
  have l2:C2.length=C.length+2:=by rw [← hC2,eu,l1]
  have x1:Ext C C1:=hC1 ▸ Ext.app _ _;have x2:Ext C1 C2:=hC2 ▸ Ext.app _ _;have ly:=y3 C hE;have lz:=z3 C1 (hE.trans x1);have g3:=cz hg3 (hE.trans x1);have k6:jm C2 C.length 0=some [Sb f.name,pv,bv]:=cz (hC1 ▸ dh C 0 _) x2
  have k7:jm C2 (C.length+1) 0=some [Sb f.name,pw,bw]:=by rw [← l1,← hC2];exact dh C1 0 _
  have hE2:=hE.trans (x1.trans x2)
  have ft:=ak5 h.texts base (D:=C2) (u1.ext hE2) u2 (w1.ext hE2) w2 (by have:=hs.ps f hmf;omega)
  obtain ⟨C',f1,x3⟩:=sm_l1 h base (C0:=C2) (by omega) (v2:=.ref p2 0 0) (v3:=.ref p3 0 0) (n5:=k) k6 k7 (wz u4 hE2) (wz w4 hE2) (hs.nb f hmf) (fun b hb=>⟨hs.nc f hmf b hb,fun x hx=>⟨hs.xs f hmf b hb x hx,hs.ls f hmf b hb x hx⟩⟩)
  have c1l:=(wz u4 hE2).len;have c2l:=(wz w4 hE2).len;have zz1:jm (C ++ [Ob.cells 0 [V.s (.string ⟨#[]⟩),.s (.slice none 0 0),.s (.slice none 0 0)]]) C.length 0=some [V.s (.string ⟨#[]⟩),.s (.slice none 0 0),.s (.slice none 0 0)]:=dh C 0 _
  have zz2:jm (C1 ++ [Ob.cells 0 [V.s (.string ⟨#[]⟩),.s (.slice none 0 0),.s (.slice none 0 0)]]) (C.length+1) 0=some [V.s (.string ⟨#[]⟩),.s (.slice none 0 0),.s (.slice none 0 0)]:=by rw [← l1];exact dh C1 0 _
  have ss1:∀ o,(C ++ [Ob.cells 0 [V.s (.string ⟨#[]⟩),.s (.slice none 0 0),.s (.slice none 0 0)]]).set C.length o=C ++ [o]:=fun o=>ny C _ _
  have ss2:∀ o,(C1 ++ [Ob.cells 0 [V.s (.string ⟨#[]⟩),.s (.slice none 0 0),.s (.slice none 0 0)]]).set (C.length+1) o=C1 ++ [o]:=fun o=>by rw [← l1];exact ny C1 _ _
  have hb1:base≤C.length+1:=by omega
  have b1:(f.name.data.toList == f.name.data.toList:Bool)=true:=beq_self_eq_true _;have b2:(((f.blocks.length:Nat):Int) == ((f.blocks.length:Nat):Int))=true:=beq_self_eq_true _;refine ⟨trim C0.length (iw 108 [(2,.ref p2 0 0),(3,.ref p3 0 0),(5,Iz (k+1:Nat))]) C',?_,(hE2.trans x3).trim (af _) _⟩;rw [l2] at f1;simp only [bl,Iz,Sb] at f1 ly lz hC1 hC2 k6 k7 ft;rw [dw];simp only [Iz,Sb,bl,aw0,aa,simprocAttr,g2,g3,hpl,hlt',y1,z1,ly,lz,zz1,zz2,ss1,ss2,hbC,hb1,o1,o2,o3,o4,hC1,l1,hC2,l2,k6,k7,c1l,c2l,b1,b2,ft,f1,hwk]) 0 C0 (gq _) (Ext.refl _)
 rw [ry] at e2;refine ⟨trim C0.length (iw 108 [(2,.ref p2 0 0),(3,.ref p3 0 0),(5,Iz fs.length),(23,bl false)]) C,e2.trans ?_,e3.trim (af _) _⟩;have g2:=cz hg2 e3;have hpl:=RdL.len (hc.ext e3);rw [dw];simp only [Iz,bl,aw0,aa,simprocAttr,g2,hpl,jo]
theorem a7a (h:SamT CT) (base:Nat) {A:Heap} (hb:base≤A.length) {fv fw:V} {fs:List FunD} (hc:sj A fv fs) (hd:sj A fw fs) (hs:Small fs):
 ∃ H',dn CT (.fn bhv [] []) [.agg [fv],.agg [fw]] base A=some (bl true,H')∧Ext A H':=by
 have o1:=hc.one;have o2:=hd.one;obtain ⟨C1,hC1⟩:∃ X,A ++ [Ob.cells 0 [fv]]=X:=⟨_,rfl⟩;obtain ⟨C2,hC2⟩:∃ X,C1 ++ [Ob.cells 0 [fw]]=X:=⟨_,rfl⟩
 have l1:C1.length=A.length+1:=by rw [← hC1,eu]
 have l2:C2.length=A.length+2:=by rw [← hC2,eu,l1]
 have x1:Ext A C1:=hC1 ▸ Ext.app _ _;have x2:Ext C1 C2:=hC2 ▸ Ext.app _ _;have e:=x1.trans x2;have g2:jm C2 A.length 0=some [fv]:=cz (hC1 ▸ dh A 0 _) x2
 have g3:jm C2 (A.length+1) 0=some [fw]:=by rw [← l1,← hC2];exact dh C1 0 _
 have p1:=RdL.len (hc.ext e);have p2:=RdL.len (hd.ext e);have b2:(((fs.length:Nat):Int) == ((fs.length:Nat):Int))=true:=beq_self_eq_true _
 obtain ⟨C',f1,x3⟩:=sm_l2 h base (C0:=C2) (by omega) g2 g3 (hc.ext e) (hd.ext e) hs
 refine ⟨C',gp (c:=apv) (k:=2) h.same rfl (by decide) avh ?_,e.trans x3⟩
 rw [l2] at f1;simp only [bl,Iz] at f1;simp only [Iz,Sb,bl,apv,aw0,aa,simprocAttr,o1,o2,hC1,l1,hC2,l2,g2,g3,p1,p2,b2,f1]
end
theorem aff {L q g id g' n w:Nat} {H:Heap} {c:List V} (hc:jm H q g=some c) (hq:q < L) (hv:V.sl id g' 0 n w∈c) (hid:L≤id) (fr:List V):trim L fr H=H:=by
 rcases ayd L fr H with e | ⟨_,_,h⟩
 ·exact e
 ·have:=h q g c hq hc _ hv;simp only [og,decide_eq_true_eq] at this;omega
theorem aj3.of {m:Nat} {C H:Heap} {v:V} {l:List V} (h:aj3 m C v l) (hk:∀ id,m≤id→id < C.length→H[id]?=C[id]?):aj3 m H v l:=by
 rcases h with h | ⟨id,g,c,rfl,h2,h3,h4,h5⟩
 ·exact .inl h
 ·refine .inr ⟨id,g,c,rfl,?_,h3,h4,h5⟩;unfold jm at h2 ⊢;rw [hk id h5 (acb h2)];exact h2
theorem apc.append2 {m w:Nat} {H:Heap} {v:V} {R:List (List V)} (h:apc m w H v R) {base bytes:Nat} (hb:base≤m) (hm:m≤H.length) {S:List (List V)} (hS:∀ r∈S,r.length=w) (h0:S≠[]) {x:V} (hx:elems H w x=some (S.length,S.flatten)) (ho:S.flatten.all V.one=true) (hs:(R.length+S.length) * bytes≤2 ^ 47):
 ∃ id g n H',qx H base w bytes v x=some (.sl id g 0 n w,H')∧apc m w H' (.sl id g 0 n w) (R ++ S)∧m≤id∧H.length≤H'.length∧(∀ i,i < H.length→(∀ g n,v≠.sl i g 0 n w)→H'[i]?=H[i]?)∧((∃ g n,v=.sl id g 0 n w)∨R=[]∧H.length≤id):=by
 obtain ⟨v',H',a1,a2,a3,a4⟩:=h.append hb hm hS h0 hx ho hs
 have hv:∃ id g n,v'=.sl id g 0 n w∧m≤id:=by
  have a2':=a2
  obtain ⟨_,⟨e,_⟩ | ⟨id,g,e,_,k⟩⟩:=a2'
  ·exact absurd (List.append_eq_nil_iff.1 e).2 h0
  ·exact ⟨id,g,_,e,k⟩
 obtain ⟨id,g,n,rfl,k⟩:=hv;refine ⟨id,g,n,H',a1,a2,k,a3,a4,?_⟩;have hh:=h
 obtain ⟨_,⟨rfl,rfl⟩ | ⟨id',g',rfl,hc,_⟩⟩:=hh
 ·right;refine ⟨rfl,?_⟩;have hn:¬ S.length=0:=fun e=>h0 (jr e)
  have hs':S.length * bytes≤2 ^ 47:=by simpa using hs
  simp only [qx,hx,ho,if_true,abw,hn,if_false,hs'] at a1;obtain ⟨e1,_⟩:=bkt (ic a1);cases e1;exact af _
 ·left;have hlt:=acb hc
  have hbi:base≤id':=by omega
  have hl:=ap9 R h.1;have hn:¬ S.length=0:=fun e=>h0 (jr e)
  have h2:0+R.length * w≤R.flatten.length:=by omega
  simp only [qx,hx,ho,if_true,true_and,hbi,hc,h2,hn,if_false,hs,pg] at a1;obtain ⟨e1,_⟩:=bkt (ic a1);cases e1;exact ⟨_,_,rfl⟩
structure Grow {α:Type} (A C0:Heap) (q w:Nat) (P:Heap→List V→α→Prop) (xs:List α) (C:Heap) (v:V):Prop where
 ext:Ext A C
 len:C0.length≤C.length
 old:∀ id,id < C0.length→id≠q→C[id]?=C0[id]?
 rows:∃ R,apc C0.length w C v R∧R.length=xs.length∧∀ (i:Nat) (x:α),xs[i]?=some x→∃ r:List V,R[i]?=some r∧∀ H',Ext A H'→(∀ id,C0.length≤id→id < C.length→(∀ g n,v≠.sl id g 0 n w)→H'[id]?=C[id]?)→P H' r x
theorem Grow.start {α:Type} {A C0:Heap} (h:Ext A C0) (q w:Nat) (P:Heap→List V→α→Prop):Grow A C0 q w P [] C0 abw:=⟨h,af _,fun _ _ _=>rfl,[],apc.start _ _ _,rfl,fun i x hx=>by simp at hx⟩
theorem Grow.done {α:Type} {A C0:Heap} {q w:Nat} {P:Heap→List V→α→Prop} {xs:List α} {C:Heap} {v:V} (h:Grow A C0 q w P xs C v) (hn:xs.length < 2 ^ 63):∀ H',Ext A H'→(∀ id,C0.length≤id→id < C.length→H'[id]?=C[id]?)→RdL w P H' v xs:=by
 intro H' hA hk;obtain ⟨R,h1,h2,h3⟩:=h.rows
 have hv:apc C0.length w H' v R:=h1.keep fun id g n e=>by
  obtain ⟨_,⟨_,rfl⟩ | ⟨id',g',rfl,hc,hm⟩⟩:=h1
  ·cases e
  ·cases e;exact hk _ hm (acb hc)
 refine ⟨R,hv.rd,h2,hn,fun i x hx=>?_⟩;obtain ⟨r,r1,r2⟩:=h3 i x hx;exact ⟨r,r1,r2 H' hA fun id i1 i2 _=>hk id i1 i2⟩
theorem Grow.step {α:Type} {A C0:Heap} {q w:Nat} {P:Heap→List V→α→Prop} {xs:List α} {C:Heap} {v:V} (h:Grow A C0 q w P xs C v) {base bytes:Nat} (hb:base≤C0.length) {C1:Heap} (e1:Ext C C1) {r:List V} {x:α} (hr:r.length=w) (ho:r.all V.one=true)
 (hP:∀ H',Ext A H'→(∀ id,C.length≤id→id < C1.length→H'[id]?=C1[id]?)→P H' r x) (hs:(xs.length+1) * bytes≤2 ^ 47) (hq1:A.length≤q) (hq2:q < C0.length):
 ∃ id g n C3,qx (C1 ++ [.cells 0 r]) base w bytes v (.sl C1.length 0 0 1 w)=some (.sl id g 0 n w,C3)∧C3[q]?=C1[q]?∧C0.length≤id∧∀ ob,Grow A C0 q w P (xs ++ [x]) (C3.set q ob) (.sl id g 0 n w):=by
 obtain ⟨R,h1,h2,h3⟩:=h.rows;have hle:=e1.le;have hlen:=h.len;obtain ⟨H,hH⟩:∃ H,C1 ++ [Ob.cells 0 r]=H:=⟨_,rfl⟩
 have lH:H.length=C1.length+1:=by rw [← hH];simp
 have eH:Ext C H:=e1.trans (hH ▸ Ext.app _ _)
 have hC:∀ i,i < C.length→H[i]?=C[i]?:=fun i hi=>by
  obtain ⟨G,rfl⟩:=eH;exact ag hi
 have hC1:∀ i,i < C1.length→H[i]?=C1[i]?:=fun i hi=>by
  rw [← hH];exact ag hi
 have hacc:apc C0.length w H v R:=h1.keep fun id g n e=>hC id (h1.lt id g n e)
 have hel:elems H w (.sl C1.length 0 0 1 w)=some ([r].length,[r].flatten):=(RdW.sl (R:=[r]) (by rw [← hH];simpa using dh C1 0 r) (fun y hy=>by rw [ng.1 hy];exact hr)).el
 obtain ⟨id,g,n,C3,a1,a2,a3,a4,a5,a6⟩:=apc.append2 hacc hb (by omega) (S:=[r]) (fun y hy=>by rw [ng.1 hy];exact hr) (by simp) hel (by simpa using ho) (by rw [h2];exact hs)
 have hvid:∀ i g n,v=.sl i g 0 n w→C0.length≤i:=fun i g n e=>by
  obtain ⟨_,⟨_,rfl⟩ | ⟨id',g',rfl,hc,hm⟩⟩:=h1
  ·cases e
  ·cases e;exact hm
 have hold:∀ i,i < C0.length→C3[i]?=C[i]?:=fun i hi=>by
  rw [a5 i (by omega) (fun g n e=>by have:=hvid i g n e;omega),hC i (by omega)]
 refine ⟨id,g,n,C3,hH ▸ a1,?_,a3,fun ob=>⟨?_,?_,fun i hi hne=>?_,R ++ [r],?_,by simp [h2],fun i y hy=>?_⟩⟩
 ·rw [hold q hq2];obtain ⟨G,rfl⟩:=e1
  exact (ag (by omega)).symm
 ·have:Ext A C3:=Ext.of_get (by have:=h.ext.le;omega) fun i hi=>by
   rw [hold i (by omega)]
   obtain ⟨G,hG⟩:=h.ext;rw [hG];exact ag hi
  exact this.set hq1 ob
 ·rw [pz];omega
 ·rw [bq (su hne),hold i hi];exact h.old i hi hne
 ·refine a2.keep fun i g' n' e=>?_;cases e
  rw [bq (by omega)]
 ·by_cases hi:i < xs.length
  ·rw [ag hi] at hy;obtain ⟨r0,r1,r2⟩:=h3 i y hy
   refine ⟨r0,by rw [ag (by omega)];exact r1,fun H' hA hk=>r2 H' hA fun j j1 j2 j3=>?_⟩
   rw [hk j j1 (by rw [pz];omega) (fun g' n' e=>by
    cases e
    rcases a6 with ⟨g2,n2,e⟩ | ⟨e,_⟩
    ·exact j3 g2 n2 e
    ·rw [e] at h2;simp at h2;omega),bq (by omega),a5 j (by omega) j3,hC j j2]
  ·have hil:i=xs.length:=by
    have:=(ae.1 hy).1;simp at this;omega
   subst hil;rw [bg (af _),a6c] at hy;cases hy
   refine ⟨r,by rw [bg (by omega),h2,a6c];rfl,fun H' hA hk=>hP H' hA fun j j1 j2=>?_⟩
   have hvj:∀ g' n',v≠.sl j g' 0 n' w:=fun g' n' e=>by
    have:=h1.lt j g' n' e;omega
   rw [hk j (by omega) (by rw [pz];omega) (fun g' n' e=>by
    cases e
    rcases a6 with ⟨g2,n2,e⟩ | ⟨_,e⟩
    ·exact hvj g2 n2 e
    ·omega),bq (by omega),a5 j (by omega) hvj,hC1 j j2]
theorem a4z {base bytes:Nat} {H:Heap} {v:V} {l:List ByteArray} (h:Rd H v (l.map Sb)) (hs:l.length * bytes≤2 ^ 47):
 ∃ w H',qx H base 1 bytes .esl v=some (w,H')∧Ext H H'∧aj3 H.length H' w (l.map Sb):=by
 have ho:(l.map Sb).all V.one=true:=by
  rw [List.all_map];exact bi.2 fun x _=>rfl
 by_cases h0:l.length=0
 ·have hl:l=[]:=jr h0;subst hl;refine ⟨.esl,H,?_,Ext.refl _,.inl ⟨rfl,.inr rfl⟩⟩;have h2:=h.2;simp only [lh] at h2;simp only [qx,h2,vz,if_true,gy,lh]
 ·have hn:¬ (l.map Sb).length=0:=by rwa [sw]
  have hs':(l.map Sb).length * bytes≤2 ^ 47:=by rwa [sw]
  refine ⟨.sl H.length 0 0 (l.map Sb).length 1,H ++ [.cells 0 (l.map Sb)],?_,Ext.app _ _,.inr ⟨H.length,0,l.map Sb,rfl,dh H 0 _,af _,ky,af _⟩⟩;simp only [qx,h.2,ho,if_true,hn,if_false,hs']
theorem aj3.cells1 {m:Nat} {H:Heap} {v:V} {l:List V} (h:aj3 m H v l):v.cells=[v]:=by
 rcases h with ⟨_,rfl | rfl⟩ | ⟨id,g,c,rfl,_⟩ <;> rfl
section
variable {CT:Nat→Option CFun}
theorem ow_l0 (base:Nat) {A C0:Heap} (hb:base≤A.length) (hA:Ext A C0) {p q5 q6 q8 w2 w3 i b:Nat} {nm lb:ByteArray} {pv bv:V} {bs:List BlkD} (h5:jm C0 q5 0=some [Sb nm,pv,bv]) (hbv:RdL 2 aay A bv bs) (hne:q5≠q8) (h5l:q5 < C0.length) (hq1:A.length≤q8) (hq2:q8 < C0.length) {B:BlkD} (hB:bs[b]?=some B) (hls:∀ x∈B.code,x.ls.length < 2 ^ 20) (hxn:∀ x∈B.code,x.xs.length < 2 ^ 20) (hz:jm C0 q8 0=some [Sb lb,abw]) (hn:B.code.length < 2 ^ 20):
 ∃ C v,itW (evC (dn CT) itW base apl) [] C0.length (iw 93 [(1,.ref p 0 0),(2,.ref w2 0 0),(3,.ref w3 0 0),(4,Iz i),(5,.ref q5 0 0),(6,.ref q6 0 0),(7,Iz b),(8,.ref q8 0 0),(9,Iz 0)]) C0=some (.ext 4,iw 93 [(1,.ref p 0 0),(2,.ref w2 0 0),(3,.ref w3 0 0),(4,Iz i),(5,.ref q5 0 0),(6,.ref q6 0 0),(7,Iz b),(8,.ref q8 0 0),(9,Iz B.code.length),(52,bl false)],C)∧Grow A C0 q8 8 p9 B.code C v∧jm C q8 0=some [Sb lb,v]:=by
 obtain ⟨b1,rb,b2,hbb,_,b3⟩:=hbv.at2 hB;obtain ⟨cv,rfl,hcv⟩:=id hbb;obtain ⟨d,d1,d2⟩:=b3 1 _ rfl
 obtain ⟨C,e2,v,e3,e4⟩:=aco B.code.length (fun k C=>∃ v,Grow A C0 q8 8 p9 (B.code.take k) C v∧jm C q8 0=some [Sb lb,v]∧(C.length=C0.length∨∃ id g n,v=.sl id g 0 n 8∧C0.length≤id)) (fun k C=>itW (evC (dn CT) itW base apl) [] C0.length (iw 93 [(1,.ref p 0 0),(2,.ref w2 0 0),(3,.ref w3 0 0),(4,Iz i),(5,.ref q5 0 0),(6,.ref q6 0 0),(7,Iz b),(8,.ref q8 0 0),(9,Iz k)]) C) (by
  intro k C hk ⟨v,e3,e4,e5⟩
  have hlt':((k:Int) < ((B.code.length:Nat):Int)):=by omega
  have hwk:=w64 (n:=k) (by omega)
  have hEA:Ext A C:=e3.ext
  have hbC0:base≤C0.length:=by have:=hA.le;omega
  have hbC:base≤C.length:=by have:=e3.len;omega
  have hbq:base≤q8:=by omega
  have hgg:∀ c,jm (C ++ [Ob.cells 0 c]) C.length 0=some c:=fun c=>dh C 0 c;have hss:∀ c d,(C ++ [c]).set C.length d=C ++ [d]:=fun c d=>ny C c d;have eC:∀ c,Ext C (C ++ [Ob.cells 0 c]):=fun c=>Ext.app _ _
  have g5:jm C q5 0=some [Sb nm,pv,bv]:=by
   unfold jm at h5 ⊢;rw [e3.old q5 h5l hne];exact h5
  have d3:=d2 C hEA;have hpl:=(zi hcv hEA).len;have hkx:=nk hk a3o;obtain ⟨x,hxe⟩:∃ x,B.code.getD k a3o=x:=⟨_,rfl⟩;rw [hxe] at hkx;have hmem:=ak hkx;obtain ⟨y,re,g1,hee,g2,_⟩:=hcv.at2 hkx;have ldx:=g2 C hEA;obtain ⟨av,lv,rfl,q1,q2,q3,q4,z5,z6⟩:=id hee;have hav:=q1.one;have hlv:=q3.one;obtain ⟨C2,hC2⟩:∃ C2,C ++ [Ob.cells 0 (jg x av lv)]=C2:=⟨_,rfl⟩
  have lC2:C2.length=C.length+1:=by rw [← hC2];simp
  have eC2:Ext C C2:=hC2 ▸ eC _;have hzC2:jm C2 C.length 0=some (jg x av lv):=hC2 ▸ hgg _;obtain ⟨C3,hC3⟩:∃ C3,C2 ++ [Ob.cells 0 []]=C3:=⟨_,rfl⟩
  have lC3:C3.length=C.length+2:=by rw [← hC3];simp [lC2]
  have eC3:Ext C2 C3:=hC3 ▸ Ext.app _ _
  obtain ⟨w6,C4,a1,a2,a3⟩:=a4z (base:=base) (bytes:=16) (q1.ext (hEA.trans (eC2.trans eC3))) (by have:=hxn x hmem;omega)
  have hzC3:jm C3 C.length 0=some (jg x av lv):=cz hzC2 eC3;have hzC4:jm C4 C.length 0=some (jg x av lv):=cz hzC3 a2;have h6:=a3.one;have k6:=aj3.cells1 a3;obtain ⟨C5,hC5⟩:∃ C5,C4.set C.length (.cells 0 (jg x w6 lv))=C5:=⟨_,rfl⟩
  have lC5:C5.length=C4.length:=by rw [← hC5,pz]
  have eC5:Ext C C5:=hC5 ▸ (eC2.trans (eC3.trans a2)).set (af _) _;have hzC5:jm C5 C.length 0=some (jg x w6 lv):=hC5 ▸ yf hzC4;obtain ⟨C6,hC6⟩:∃ C6,C5 ++ [Ob.cells 0 []]=C6:=⟨_,rfl⟩
  have lC6:C6.length=C4.length+1:=by rw [← hC6];simp [lC5]
  have eC6:Ext C5 C6:=hC6 ▸ Ext.app _ _
  obtain ⟨w7,C7,a4,a5,a6⟩:=a4z (base:=base) (bytes:=16) (q3.ext (hEA.trans (eC5.trans eC6))) (by have:=hls x hmem;omega)
  have hzC6:jm C6 C.length 0=some (jg x w6 lv):=cz hzC5 eC6;have hzC7:jm C7 C.length 0=some (jg x w6 lv):=cz hzC6 a5;have h7:=a6.one;have k7:=aj3.cells1 a6;obtain ⟨C8,hC8⟩:∃ C8,C7.set C.length (.cells 0 (jg x w6 w7))=C8:=⟨_,rfl⟩
  have lC8:C8.length=C7.length:=by rw [← hC8,pz]
  have eC8:Ext C C8:=hC8 ▸ (eC5.trans (eC6.trans a5)).set (af _) _;have hzC8:jm C8 C.length 0=some (jg x w6 w7):=hC8 ▸ yf hzC7;have le4:=a2.le;have le7:=a5.le
  have o6:aj3 C3.length C8 w6 (x.xs.map Sb):=aj3.of a3 fun j j1 j2=>by
   rw [← hC8,bq (by omega)]
   obtain ⟨G,rfl⟩:=eC6.trans a5
   rw [ag (by omega),← hC5,bq (by omega)]
  have o7:aj3 C6.length C8 w7 (x.ls.map Sb):=aj3.of a6 fun j j1 j2=>by
   rw [← hC8,bq (by omega)]
  obtain ⟨id4,g4,n4,C9,st1,st2,st3,st4⟩:=e3.step (base:=base) (bytes:=128) hbC0 eC8 (r:=jg x w6 w7) (x:=x) rfl (by simp only [jg,ql,vz,h6,h7,xn];rfl) (fun H' hA' hk'=>⟨w6,w7,rfl,(aj3.of o6 fun j j1 j2=>hk' j (by omega) j2).rd,(aj3.of o6 fun j j1 j2=>hk' j (by omega) j2).wide,(aj3.of o7 fun j j1 j2=>hk' j (by omega) j2).rd,(aj3.of o7 fun j j1 j2=>hk' j (by omega) j2).wide,z5,z6⟩) (by rw [wy];omega) hq1 hq2
  have hcq:jm C9 q8 0=some [Sb lb,v]:=by
   unfold jm at e4 ⊢;rw [st2];obtain ⟨G,rfl⟩:=eC8
   rw [ag (by have:=e3.len;omega)]
   exact e4
  obtain ⟨E,hE⟩:∃ E,C9.set q8 (.cells 0 [Sb lb,(.sl id4 g4 0 n4 8)])=E:=⟨_,rfl⟩;have hg:=st4 (.cells 0 [Sb lb,(.sl id4 g4 0 n4 8)]);have hset:=yf (c':=[Sb lb,(.sl id4 g4 0 n4 8)]) hcq;rw [hE] at hg hset
  have htr:=aff hset hq2 (id:=id4) (g':=g4) (n:=n4) (w:=8) (by simp) st3 (iw 93 [(1,.ref p 0 0),(2,.ref w2 0 0),(3,.ref w3 0 0),(4,Iz i),(5,.ref q5 0 0),(6,.ref q6 0 0),(7,Iz b),(8,.ref q8 0 0),(9,Iz (k+1:Nat))])
  refine ⟨E,?_,.sl id4 g4 0 n4 8,?_,hset,.inr ⟨id4,g4,n4,rfl,st3⟩⟩
  ·have ldz:tu C8 true 8 (.ref C.length 0 0)=some (.agg (jg x w6 w7)):=by rw [r9,hzC8];rfl
   have h9:jm C8 q8 0=some [Sb lb,v]:=by
    obtain ⟨G,rfl⟩:=eC8;exact acp e4
   have hvo:v.one=true:=by
    obtain ⟨R,w1,_⟩:=e3.rows;exact w1.rd.one
   have hb4:base≤C4.length:=by omega
   have hb5:base≤C5.length:=by omega
   have hb7:base≤C7.length:=by omega
   rw [dw];simp only [jg,Sb,Iz,bl,abw] at ldx hC2 hC3 a1 hC5 hC6 a4 hC8 hzC2 hzC3 hzC4 hzC5 hzC6 hzC7 hzC8 ldz h9 st1 hcq hE htr g5 d3;simp only [Iz,bl,bev,aa,simprocAttr,g5,b2,d1,d3,hpl,g1,hlt',ldx,hbC,hgg,hss,hav,hlv,h6,h7,k6,k7,di,hC2,lC2,hC3,lC3,a1,hzC3,hzC4,hC5,hzC5,hC6,lC6,a4,hzC6,hzC7,hC8,hzC8,ldz,h9,hvo,st1,hcq,hbq,qz,ql,vz,xn,di,and_self,if_true,bn,cu,aai,pg,hE,htr,hwk]
  ·rw [ut,hkx];exact hg) 0 C0 (gq _) ⟨abw,Grow.start hA _ _ _,hz,.inl rfl⟩
 obtain ⟨e4,e5⟩:=e4;have hEA:Ext A C:=e3.ext
 have g5:jm C q5 0=some [Sb nm,pv,bv]:=by
  unfold jm at h5 ⊢;rw [e3.old q5 h5l hne];exact h5
 have d3:=d2 C hEA;have hpl:=(zi hcv hEA).len
 have htr:trim C0.length (iw 93 [(1,.ref p 0 0),(2,.ref w2 0 0),(3,.ref w3 0 0),(4,Iz i),(5,.ref q5 0 0),(6,.ref q6 0 0),(7,Iz b),(8,.ref q8 0 0),(9,Iz B.code.length),(52,bl false)]) C=C:=by
  rcases e5 with e5 | ⟨id,g,n,rfl,h⟩
  ·exact mr e5
  ·exact aff e4 hq2 (id:=id) (g':=g) (n:=n) (w:=8) (by simp) h _
 rw [ky] at e3;refine ⟨C,v,?_,e3,e4⟩;rw [ry] at e2;refine e2.trans ?_;rw [dw];simp only [Iz,bl] at htr;simp only [Sb] at g5 d3;simp only [Iz,bl,bev,aa,simprocAttr,g5,b2,d1,d3,hpl,jo,htr]
end
section
variable {CT:Nat→Option CFun}
theorem ow_l1 (base:Nat) {A C0:Heap} (hb:base≤A.length) (hA:Ext A C0) {p q5 q6 w2 w3 i:Nat} {nm n6:ByteArray} {pv bv pw:V} {bs:List BlkD} (h5:jm C0 q5 0=some [Sb nm,pv,bv]) (hbv:RdL 2 aay A bv bs) (hne:q5≠q6) (h5l:q5 < C0.length) (hq1:A.length≤q6) (hq2:q6 < C0.length) (hpw:pw.one=true) (hls:∀ B∈bs,∀ x∈B.code,x.ls.length < 2 ^ 20) (hxn:∀ B∈bs,∀ x∈B.code,x.xs.length < 2 ^ 20) (hnc:∀ B∈bs,B.code.length < 2 ^ 20) (hz:jm C0 q6 0=some [Sb n6,pw,abw]) (hn:bs.length < 2 ^ 20):
 ∃ C v,itW (evC (dn CT) itW base apk) [] C0.length (iw 93 [(1,.ref p 0 0),(2,.ref w2 0 0),(3,.ref w3 0 0),(4,Iz i),(5,.ref q5 0 0),(6,.ref q6 0 0),(7,Iz 0)]) C0=some (.ext 2,(iw 93 [(1,.ref p 0 0),(2,.ref w2 0 0),(3,.ref w3 0 0),(4,Iz i),(5,.ref q5 0 0),(6,.ref q6 0 0),(7,Iz bs.length),(34,bl false)]),C)∧Grow A C0 q6 2 aay bs C v∧jm C q6 0=some [Sb n6,pw,v]:=by
 obtain ⟨C,e2,v,e3,e4⟩:=aco bs.length (fun k C=>∃ v,Grow A C0 q6 2 aay (bs.take k) C v∧jm C q6 0=some [Sb n6,pw,v]∧(C.length=C0.length∨∃ id g n,v=.sl id g 0 n 2∧C0.length≤id)) (fun k C=>itW (evC (dn CT) itW base apk) [] C0.length (iw 93 [(1,.ref p 0 0),(2,.ref w2 0 0),(3,.ref w3 0 0),(4,Iz i),(5,.ref q5 0 0),(6,.ref q6 0 0),(7,Iz k)]) C) (by
  intro k C hk ⟨v,e3,e4,e5⟩
  have hlt':((k:Int) < ((bs.length:Nat):Int)):=by omega
  have hwk:=w64 (n:=k) (by omega)
  have hEA:Ext A C:=e3.ext
  have hbC0:base≤C0.length:=by have:=hA.le;omega
  have hbC:base≤C.length:=by have:=e3.len;omega
  have hbq:base≤q6:=by omega
  have hgg:∀ c,jm (C ++ [Ob.cells 0 c]) C.length 0=some c:=fun c=>dh C 0 c;have hss:∀ c d,(C ++ [c]).set C.length d=C ++ [d]:=fun c d=>ny C c d;have eC:∀ c,Ext C (C ++ [Ob.cells 0 c]):=fun c=>Ext.app _ _
  have g5:jm C q5 0=some [Sb nm,pv,bv]:=by
   unfold jm at h5 ⊢;rw [e3.old q5 h5l hne];exact h5
  have hpl:=(wz hbv hEA).len;have hkx:=nk hk a5q;obtain ⟨B,hBe⟩:∃ B,bs.getD k a5q=B:=⟨_,rfl⟩;rw [hBe] at hkx;have hmem:=ak hkx;obtain ⟨b1,rb,b2,hbb,_,b3⟩:=hbv.at2 hkx;obtain ⟨cv,rfl,hcv⟩:=id hbb;obtain ⟨d,d1,d2⟩:=b3 0 _ rfl;have d3:=d2 C hEA;obtain ⟨C2,hC2⟩:∃ C2,C ++ [Ob.cells 0 [Sb B.label,abw]]=C2:=⟨_,rfl⟩
  have lC2:C2.length=C.length+1:=by rw [← hC2];simp
  have eC2:Ext C C2:=hC2 ▸ eC _;have hzC2:jm C2 C.length 0=some [Sb B.label,abw]:=hC2 ▸ hgg _
  obtain ⟨C3,v6,i1,i2,i3⟩:=ow_l0 (CT:=CT) base (A:=A) (C0:=C2) hb (hEA.trans eC2) (p:=p) (q5:=q5) (q6:=q6) (q8:=C.length) (w2:=w2) (w3:=w3) (i:=i) (b:=k) (cz g5 eC2) hbv (by have:=e3.len;omega) (by have:=e3.len;omega) (by have:=e3.ext.le;omega) (by omega) hkx (hls B hmem) (hxn B hmem) hzC2 (hnc B hmem)
  have eC3:Ext C C3:=Ext.of_get (by have:=i2.len;omega) fun j hj=>by
   rw [i2.old j (by omega) (by omega)]
   obtain ⟨G,rfl⟩:=eC2;exact ag hj
  have h6:v6.one=true:=by
   obtain ⟨R,w1,_⟩:=i2.rows;exact w1.rd.one
  obtain ⟨id4,g4,n4,C4,st1,st2,st3,st4⟩:=e3.step (base:=base) (bytes:=40) hbC0 eC3 (r:=[Sb B.label,v6]) (x:=B) rfl (by simp only [ql,vz,h6,xn];rfl) (fun H' hA' hk'=>⟨v6,rfl,i2.done (by have:=hnc B hmem;omega) H' hA' fun j j1 j2=>hk' j (by omega) j2⟩) (by rw [wy];omega) hq1 hq2
  have hcq:jm C4 q6 0=some [Sb n6,pw,v]:=by
   unfold jm at e4 ⊢;rw [st2];obtain ⟨G,rfl⟩:=eC3
   rw [ag (by have:=e3.len;omega)]
   exact e4
  obtain ⟨E,hE⟩:∃ E,C4.set q6 (.cells 0 [Sb n6,pw,(.sl id4 g4 0 n4 2)])=E:=⟨_,rfl⟩;have hg:=st4 (.cells 0 [Sb n6,pw,(.sl id4 g4 0 n4 2)]);have hset:=yf (c':=[Sb n6,pw,(.sl id4 g4 0 n4 2)]) hcq;rw [hE] at hg hset
  have htr:=aff hset hq2 (id:=id4) (g':=g4) (n:=n4) (w:=2) (by simp) st3 (iw 93 [(1,.ref p 0 0),(2,.ref w2 0 0),(3,.ref w3 0 0),(4,Iz i),(5,.ref q5 0 0),(6,.ref q6 0 0),(7,Iz (k+1:Nat))])
  refine ⟨E,?_,.sl id4 g4 0 n4 2,?_,hset,.inr ⟨id4,g4,n4,rfl,st3⟩⟩
  ·have ldz:tu C3 true 2 (.ref C.length 0 0)=some (.agg [Sb B.label,v6]):=by rw [r9,i3];rfl
   have h9:jm C3 q6 0=some [Sb n6,pw,v]:=by
    obtain ⟨G,rfl⟩:=eC3;exact acp e4
   have hvo:v.one=true:=by
    obtain ⟨R,w1,_⟩:=e3.rows;exact w1.rd.one
   rw [dw];simp only [Sb,Iz,bl,abw,lC2] at hC2 i1 i3 ldz h9 st1 hcq hE htr d3 g5;simp only [Iz,bl,bev,aa,simprocAttr,g5,hpl,b2,d1,d3,hlt',hbC,hgg,hss,hC2,lC2,i1,i3,h6,ldz,h9,hvo,hpw,st1,hcq,hbq,qz,ql,vz,xn,di,and_self,if_true,bn,cu,aai,pg,hE,htr,hwk]
  ·rw [ut,hkx];exact hg) 0 C0 (gq _) ⟨abw,Grow.start hA _ _ _,hz,.inl rfl⟩
 obtain ⟨e4,e5⟩:=e4;have hEA:Ext A C:=e3.ext
 have g5:jm C q5 0=some [Sb nm,pv,bv]:=by
  unfold jm at h5 ⊢;rw [e3.old q5 h5l hne];exact h5
 have hpl:=(wz hbv hEA).len
 have htr:trim C0.length (iw 93 [(1,.ref p 0 0),(2,.ref w2 0 0),(3,.ref w3 0 0),(4,Iz i),(5,.ref q5 0 0),(6,.ref q6 0 0),(7,Iz bs.length),(34,bl false)]) C=C:=by
  rcases e5 with e5 | ⟨id,g,n,rfl,h⟩
  ·exact mr e5
  ·exact aff e4 hq2 (id:=id) (g':=g) (n:=n) (w:=2) (by simp) h _
 rw [ky] at e3;refine ⟨C,v,?_,e3,e4⟩;rw [ry] at e2;refine e2.trans ?_;rw [dw];simp only [Iz,bl] at htr;simp only [Sb] at g5;simp only [Iz,bl,bev,aa,simprocAttr,g5,hpl,jo,htr]
theorem ow_l2 (base:Nat) {A C0:Heap} (hb:base≤A.length) (hA:Ext A C0) {p:Nat} {fv:V} {fs:List FunD} (hp:jm A p 0=some [fv]) (hr:sj A fv fs) {w3:Nat} (hq1:A.length≤w3) (hq2:w3 < C0.length) {w2:Nat} (hs:Small fs) (hz:jm C0 w3 0=some [abw]):
 ∃ C v,itW (evC (dn CT) itW base apj) [] C0.length (iw 93 [(1,.ref p 0 0),(2,.ref w2 0 0),(3,.ref w3 0 0),(4,Iz 0)]) C0=some (.ext 0,(iw 93 [(1,.ref p 0 0),(2,.ref w2 0 0),(3,.ref w3 0 0),(4,Iz fs.length),(15,bl false)]),C)∧Grow A C0 w3 3 agr fs C v∧jm C w3 0=some [v]:=by
 have hn:=hs.n
 obtain ⟨C,e2,v,e3,e4⟩:=aco fs.length (fun k C=>∃ v,Grow A C0 w3 3 agr (fs.take k) C v∧jm C w3 0=some [v]∧(C.length=C0.length∨∃ id g n,v=.sl id g 0 n 3∧C0.length≤id)) (fun k C=>itW (evC (dn CT) itW base apj) [] C0.length (iw 93 [(1,.ref p 0 0),(2,.ref w2 0 0),(3,.ref w3 0 0),(4,Iz k)]) C) (by
  intro k C hk ⟨v,e3,e4,e5⟩
  have hlt':((k:Int) < ((fs.length:Nat):Int)):=by omega
  have hwk:=w64 (n:=k) (by omega)
  have hEA:Ext A C:=e3.ext
  have hbC0:base≤C0.length:=by have:=hA.le;omega
  have hbC:base≤C.length:=by have:=e3.len;omega
  have hbq:base≤w3:=by omega
  have hgg:∀ c,jm (C ++ [Ob.cells 0 c]) C.length 0=some c:=fun c=>dh C 0 c;have hss:∀ c d,(C ++ [c]).set C.length d=C ++ [d]:=fun c d=>ny C c d;have eC:∀ c,Ext C (C ++ [Ob.cells 0 c]):=fun c=>Ext.app _ _;have hgp:=cz hp hEA;have hpl:=(sj.ext hr hEA).len;have hkx:=nk hk a3y;obtain ⟨f,hfe⟩:∃ f,fs.getD k a3y=f:=⟨_,rfl⟩;rw [hfe] at hkx;have hmem:=ak hkx;obtain ⟨a,r,a1,hrr,a2,a3⟩:=hr.at2 hkx;have ldf:=a2 C hEA;obtain ⟨pv,bv,rfl,p1,p2,p3,hbv⟩:=id hrr;have hpo:=p1.one;have hbo:=hbv.one;obtain ⟨C2,hC2⟩:∃ C2,C ++ [Ob.cells 0 [Sb f.name,pv,bv]]=C2:=⟨_,rfl⟩
  have lC2:C2.length=C.length+1:=by rw [← hC2];simp
  have eC2:Ext C C2:=hC2 ▸ eC _;have hzC2:jm C2 C.length 0=some [Sb f.name,pv,bv]:=hC2 ▸ hgg _;obtain ⟨C3,hC3⟩:∃ C3,C2 ++ [Ob.cells 0 []]=C3:=⟨_,rfl⟩
  have lC3:C3.length=C.length+2:=by rw [← hC3];simp [lC2]
  have eC3:Ext C2 C3:=hC3 ▸ Ext.app _ _;have hzC3:=cz hzC2 eC3
  obtain ⟨wp,C4,a4,a5,a6⟩:=a4z (base:=C3.length) (bytes:=16) (p1.ext (hEA.trans (eC2.trans eC3))) (by have:=hs.ps f hmem;omega)
  have le4:=a5.le;have ho:=a6.one;have kp:=aj3.cells1 a6
  have hbC4:base≤C4.length:=by omega
  obtain ⟨C5,hC5⟩:∃ C5,C4 ++ [Ob.cells 0 [Sb f.name,wp,abw]]=C5:=⟨_,rfl⟩
  have lC5:C5.length=C4.length+1:=by rw [← hC5];simp
  have eC5:Ext C4 C5:=hC5 ▸ Ext.app _ _;have hzC5:jm C5 C4.length 0=some [Sb f.name,wp,abw]:=hC5 ▸ dh C4 0 _;have e25:Ext C2 C5:=eC3.trans (a5.trans eC5);have gg4:∀ c,jm (C4 ++ [Ob.cells 0 c]) C4.length 0=some c:=fun c=>dh C4 0 c;have ss4:∀ c d,(C4 ++ [c]).set C4.length d=C4 ++ [d]:=fun c d=>ny C4 c d
  obtain ⟨C6,v6,i1,i2,i3⟩:=ow_l1 (CT:=CT) base (A:=A) (C0:=C5) hb (hEA.trans (eC2.trans e25)) (p:=p) (q5:=C.length) (q6:=C4.length) (w2:=w2) (w3:=w3) (i:=k) (cz hzC2 e25) hbv (by omega) (by omega) (by have:=hEA.le;omega) (by omega) ho (fun B hB x hx=>hs.ls f hmem B hB x hx) (hs.xs f hmem) (hs.nc f hmem) hzC5 (hs.nb f hmem)
  have eC6:Ext C C6:=Ext.of_get (by have:=i2.len;omega) fun j hj=>by
   rw [i2.old j (by omega) (by omega)]
   obtain ⟨G,rfl⟩:=eC2.trans e25;exact ag hj
  have h6:v6.one=true:=by
   obtain ⟨R,w1,_⟩:=i2.rows;exact w1.rd.one
  obtain ⟨id4,g4,n4,C9,st1,st2,st3,st4⟩:=e3.step (base:=base) (bytes:=64) hbC0 eC6 (r:=[Sb f.name,wp,v6]) (x:=f) rfl (by simp only [ql,vz,ho,h6,xn];rfl) (fun H' hA' hk'=>by
   have hw:aj3 C3.length H' wp (f.ps.map Sb):=aj3.of a6 fun j m1 m2=>by
    rw [hk' j (by omega) (by have:=i2.len;omega),i2.old j (by omega) (by omega),← hC5]
    exact ag m2
   exact ⟨wp,v6,rfl,hw.rd,hw.wide,p3,i2.done (by have:=hs.nb f hmem;omega) H' hA' fun j m1 m2=>hk' j (by omega) m2⟩) (by rw [wy];omega) hq1 hq2
  have hcq:jm C9 w3 0=some [v]:=by
   unfold jm at e4 ⊢;rw [st2];obtain ⟨G,rfl⟩:=eC6
   rw [ag (by have:=e3.len;omega)]
   exact e4
  obtain ⟨E,hE⟩:∃ E,C9.set w3 (.cells 0 [(.sl id4 g4 0 n4 3)])=E:=⟨_,rfl⟩;have hg:=st4 (.cells 0 [(.sl id4 g4 0 n4 3)]);have hset:=yf (c':=[(.sl id4 g4 0 n4 3)]) hcq;rw [hE] at hg hset
  have htr:=aff hset hq2 (id:=id4) (g':=g4) (n:=n4) (w:=3) (by simp) st3 (iw 93 [(1,.ref p 0 0),(2,.ref w2 0 0),(3,.ref w3 0 0),(4,Iz (k+1:Nat))])
  refine ⟨E,?_,.sl id4 g4 0 n4 3,?_,hset,.inr ⟨id4,g4,n4,rfl,st3⟩⟩
  ·have ldz:tu C6 true 3 (.ref C4.length 0 0)=some (.agg [Sb f.name,wp,v6]):=by rw [r9,i3];rfl
   have h9:jm C6 w3 0=some [v]:=by
    obtain ⟨G,rfl⟩:=eC6;exact acp e4
   have hvo:v.one=true:=by
    obtain ⟨R,w1,_⟩:=e3.rows;exact w1.rd.one
   rw [dw];simp only [Sb,Iz,bl,abw,lC3] at ldf hC2 hC3 a4 hC5 hzC2 hzC3 i1 i3 ldz h9 st1 hcq hE htr;simp only [Iz,bl,bev,aa,simprocAttr,hgp,hpl,a1,ldf,hlt',hbC,hbC4,hgg,hss,gg4,ss4,hpo,hbo,hC2,hzC2,hzC3,lC2,hC3,lC3,a4,ho,kp,hC5,i1,i3,h6,ldz,h9,hvo,st1,hcq,hbq,qz,ql,vz,xn,di,and_self,if_true,bn,cu,aai,pg,hE,htr,hwk]
  ·rw [ut,hkx];exact hg) 0 C0 (gq _) ⟨abw,Grow.start hA _ _ _,hz,.inl rfl⟩
 obtain ⟨e4,e5⟩:=e4;have hEA:Ext A C:=e3.ext;have hgp:=cz hp hEA;have hpl:=(sj.ext hr hEA).len
 have htr:trim C0.length (iw 93 [(1,.ref p 0 0),(2,.ref w2 0 0),(3,.ref w3 0 0),(4,Iz fs.length),(15,bl false)]) C=C:=by
  rcases e5 with e5 | ⟨id,g,n,rfl,h⟩
  ·exact mr e5
  ·exact aff e4 hq2 (id:=id) (g':=g) (n:=n) (w:=3) (by simp) h _
 rw [ky] at e3;refine ⟨C,v,?_,e3,e4⟩;rw [ry] at e2;refine e2.trans ?_;rw [dw];simp only [Iz,bl] at htr;simp only [Iz,bl,bev,aa,simprocAttr,hgp,hpl,jo,htr]
theorem bcl (hT:CT k_f9=some (.code a6e)) (base:Nat) {A:Heap} (hb:base≤A.length) {fv:V} {fs:List FunD} (hr:sj A fv fs) (hs:Small fs):
 ∃ v H',dn CT (.fn k_f9 [] []) [.agg [fv]] base A=some (.agg [v],H')∧Ext A H'∧sj H' v fs:=by
 have hfo:=hr.one;obtain ⟨A1,hA1⟩:∃ A1,A ++ [Ob.cells 0 [fv]]=A1:=⟨_,rfl⟩
 have l1:A1.length=A.length+1:=by rw [← hA1,eu]
 obtain ⟨A2,hA2⟩:∃ A2,A1 ++ [Ob.cells 0 [abw]]=A2:=⟨_,rfl⟩
 have l2:A2.length=A.length+2:=by rw [← hA2,eu,l1]
 obtain ⟨A3,hA3⟩:∃ A3,A2 ++ [Ob.cells 0 [abw]]=A3:=⟨_,rfl⟩
 have l3:A3.length=A.length+3:=by rw [← hA3,eu,l2]
 have e1:Ext A A1:=hA1 ▸ Ext.app _ _;have e2:Ext A1 A2:=hA2 ▸ Ext.app _ _;have e3:Ext A2 A3:=hA3 ▸ Ext.app _ _;have x1:jm A1 A.length 0=some [fv]:=hA1 ▸ dh A 0 _
 have x2:jm A3 (A.length+1) 0=some [abw]:=cz (by rw [← l1,← hA2];exact dh A1 0 _) e3
 have x4:jm A3 (A.length+2) 0=some [abw]:=by rw [← l2,← hA3];exact dh A2 0 _
 obtain ⟨C,v,i1,i2,i3⟩:=ow_l2 (CT:=CT) base (A:=A1) (C0:=A3) (by omega) (e2.trans e3) (p:=A.length) x1 (hr.ext e1) (w3:=A.length+2) (by omega) (by omega) (w2:=A.length+1) hs x4
 have hv:v.one=true:=by
  obtain ⟨R,w1,_⟩:=i2.rows;exact w1.rd.one
 have x2C:jm C (A.length+1) 0=some [abw]:=by
  unfold jm at x2 ⊢
  rw [i2.old _ (by omega) (by omega)]
  exact x2
 have hb1:base≤A.length+1:=by omega
 obtain ⟨R,w1,_⟩:=i2.rows
 have hcell:v.cells=[v]:=by
  obtain ⟨_,⟨_,rfl⟩ | ⟨id,g,rfl,_⟩⟩:=w1 <;> rfl
 obtain ⟨E,hE⟩:∃ E,C.set (A.length+1) (.cells 0 [v])=E:=⟨_,rfl⟩;have hset:=yf (c':=[v]) x2C;rw [hE] at hset
 have eE:Ext A E:=hE ▸ (e1.trans i2.ext).set (by omega) _
 have ld4:tu C true 1 (.ref (A.length+2) 0 0)=some (.agg [v]):=by rw [r9,i3];rfl
 have ldE:aac E true 1 (.ref (A.length+1) 0 0)=some (.agg [v]):=by
  show tu _ true 1 _=_;rw [r9,hset];rfl
 refine ⟨v,E,gp (c:=a6e) (k:=1) hT rfl (by decide) ayv ?_,eE,?_⟩
 ·simp only [Iz,bl,abw,l3,ry] at hA2 hA3 i1 x2C;simp only [Iz,bl,abw,a6e,bev,aa,simprocAttr,hfo,di,hA1,l1,hA2,l2,hA3,l3,i1,ld4,x2C,hb1,hv,hcell,hE,qz,ql,vz,xn,di,and_self,if_true,bn,cu,aai,pg];rw [ldE];rfl
 ·refine i2.done (by have:=hs.n;omega) E ?_ fun j j1 j2=>?_
  ·exact hE ▸ i2.ext.set (by omega) _
  ·rw [← hE,bq (by omega)]
end
section
variable {CT:Nat→Option CFun}
theorem ben {fs:List FunD} (hL:Light fs) (h2:qh fs 2=none) (h9:qh fs 9=none):∀ f∈fs,∀ b∈f.blocks,∀ x∈b.code,SmI x∧TI x∧biG x=false:=by
 intro f hf b hb x hx;have tf:=TF.of h2 h9 f hf;obtain ⟨i,hi⟩:=pq.1 hf;obtain ⟨j,hj⟩:=pq.1 hb;obtain ⟨k,hk⟩:=pq.1 hx;exact ⟨SmI.of (((hL.f f hf).2.2.2.2 b hb).2.2 x hx),(tf.b b hb).2 x hx,bbb (show aj2 (fun _=>fun _ _ _ x=>biG x) fs=none from h9) hi hj hk⟩
set_option maxHeartbeats 1000000 in
theorem ay0 (h:LawT CT) (h6:P6T CT) (hS:SamT CT) (hO:CT k_f9=some (.code a6e)) (hT:CT k_f3=some (.code a1f)) (base:Nat) {A:Heap} (hb:base≤A.length) {fv:V} {fs:List FunD} (hr:sj A fv fs):
 ∃ H',dn CT (.fn k_f3 [] []) [.agg [fv]] base A=some (.s (.bool true),H'):=by
 have hfo:=hr.one;obtain ⟨A1,hA1⟩:∃ A1,A ++ [Ob.cells 0 [fv]]=A1:=⟨_,rfl⟩
 have l1:A1.length=A.length+1:=by rw [← hA1,eu]
 have e1:Ext A A1:=hA1 ▸ Ext.app _ _;have x1:jm A1 A.length 0=some [fv]:=hA1 ▸ dh A 0 _
 have ld:∀ {B:Heap},Ext A1 B→tu B true 1 (.ref A.length 0 0)=some (.agg [fv]):=fun e=>by rw [r9,cz x1 e];rfl
 have ld1:=ld (Ext.refl A1)
 obtain ⟨b,H1,hh,hE1,hlt⟩:=a3s h.long h.heavy base (A:=A1) (by omega) (hr.ext e1)
 cases b with
 | true=>
   obtain ⟨H2,ht,hE2⟩:=aq5 h.P h.tells base (A:=H1) (by have:=hE1.le;omega)
   refine ⟨H2,gp (c:=a1f) (k:=1) hT rfl (by decide) aof ?_⟩
   simp only [Iz,bl,a1f,a_f3,aa,simprocAttr,hfo,di,hA1,ld1,hh,ht]
 | false=>
   have hL:=hlt rfl;have hsm:=hL.small;have ld2:=ld hE1;have hrP:=hr.ext (e1.trans hE1)
   have hb1:base≤H1.length:=by have:=hE1.le;omega
   obtain ⟨w,H2,ho,hE2,hrw⟩:=bcl hO base (A:=H1) hb1 hrP hsm;have hwo:=hrw.one;obtain ⟨H3,hH3⟩:∃ X,H2 ++ [Ob.cells 0 [w]]=X:=⟨_,rfl⟩
   have l3:H3.length=H2.length+1:=by rw [← hH3,eu]
   have e3:Ext H2 H3:=hH3 ▸ Ext.app _ _;have x3:jm H3 H2.length 0=some [w]:=hH3 ▸ dh H2 0 _;have hgg:∀ c,jm (H2 ++ [Ob.cells 0 c]) H2.length 0=some c:=fun c=>dh H2 0 c;have hss:∀ c d,(H2 ++ [c]).set H2.length d=H2 ++ [d]:=fun c d=>ny H2 c d
   have ldw:∀ {B:Heap},Ext H3 B→tu B true 1 (.ref H2.length 0 0)=some (.agg [w]):=fun e=>by rw [r9,cz x3 e];rfl
   have hb2:base≤H2.length:=by have:=hE2.le;omega
   have hb3:base≤H3.length:=by omega
   have ld3:=ldw (Ext.refl H3);have E13:Ext A1 H3:=hE1.trans (hE2.trans e3)
   obtain ⟨pv,H4,hp,hE4,hpv⟩:∃ pv H4,dn CT (.fn a2x [] []) [.agg [w]] base H3=some (pv,H4)∧Ext H3 H4∧pv=(bif (qh fs 2).isSome || (qh fs 9).isSome then .tup [Sb ⟨#[]⟩,Iz 5] else if 1048576 < (uf fs).length then .tup [Sb ⟨#[]⟩,Iz 2] else .tup [Sb ⟨(uf fs).toArray⟩,Iz 0]):=by
    by_cases hbad:(qh fs 2).isSome=true∨(qh fs 9).isSome=true
    ·obtain ⟨H4,hp,hE4⟩:=a1t h.P base hb3 (hrw.ext e3) hsm hbad;refine ⟨_,H4,hp,hE4,?_⟩
     have:((qh fs 2).isSome || (qh fs 9).isSome)=true:=by rw [l6];exact hbad
     rw [this];rfl
    ·have h2:qh fs 2=none:=by
      cases e:qh fs 2 with
      | none=>rfl
      | some t=>exact absurd (.inl (by rw [e];rfl)) hbad
     have h9:qh fs 9=none:=by
      cases e:qh fs 9 with
      | none=>rfl
      | some t=>exact absurd (.inr (by rw [e];rfl)) hbad
     have htf:=TF.of h2 h9;obtain ⟨H4,hp,hE4⟩:=axf h.P base hb3 (hrw.ext e3) hsm h2 h9 (SmF.of hL htf) (ama hL htf);refine ⟨_,H4,hp,hE4,?_⟩;rw [h2,h9];rfl
   have hb4:base≤H4.length:=by have:=hE4.le;omega
   have ld4:=ld (E13.trans hE4);obtain ⟨H5,hq,hE5⟩:=ay1 h6 base hb4 (hr.ext (e1.trans (E13.trans hE4))) hsm (fun h2 h9=>⟨SmF.of hL (TF.of h2 h9),ben hL h2 h9,ama hL (TF.of h2 h9)⟩);rw [← hpv] at hq;have ld5:=ld (E13.trans (hE4.trans hE5));have ldw5:=ldw (hE4.trans hE5)
   have hb5:base≤H5.length:=by have:=hE5.le;omega
   obtain ⟨H6,hs,hE6⟩:=a7a hS base hb5 (hrw.ext (e3.trans (hE4.trans hE5))) (hr.ext (e1.trans (E13.trans (hE4.trans hE5)))) hsm
   obtain ⟨H7,ht,hE7⟩:=aq5 h.P h.tells base (A:=H6) (by have:=hE6.le;omega)
   obtain ⟨t,n,rfl⟩:∃ (t:ByteArray) (n:Int),pv=.tup [Sb t,Iz n]:=by
    rw [hpv]
    cases (qh fs 2).isSome || (qh fs 9).isSome with
    | true=>exact ⟨_,_,rfl⟩
    | false=>
      by_cases hc:1048576 < (uf fs).length
      ·rw [if_pos hc];exact ⟨_,_,rfl⟩
      ·rw [if_neg hc];exact ⟨_,_,rfl⟩
   have q1:(t.data.toList == t.data.toList)=true:=beq_self_eq_true _;have q2:(n == n)=true:=beq_self_eq_true _
   refine ⟨H7,gp (c:=a1f) (k:=1) hT rfl (by decide) aof ?_⟩
   simp only [Sb,Iz,bl] at hp hq hs;simp only [Iz,Sb,bl,a1f,a_f3,aa,simprocAttr,hfo,hwo,di,hA1,ld1,hh,ld2,ho,hgg,hss,hb2,hH3,l3,ld3,hp,ld4,hq,q1,q2,ld5,ldw5,hs,ht]
end
end Go.Proofs.YtngfpadeebpoeaaGreatDoor
