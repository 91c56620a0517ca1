/- Texts of the proof: RdsA, TokP6, RdsB, AmJ, AmV, AmR, RdX, RdJ1, RdJ2, RdJ3, RdY1, TokP4, RdB1, RdS8, RdB2. -/
import Derived.Test.YtbocmenkkjbigaaDoorP0
import Derived.Test.YtbocmenkkjbigaaDoorP1
import Derived.Test.YtbocmenkkjbigaaDoorP2
import Derived.Test.YtbocmenkkjbigaaDoorP3
import Derived.Test.YtbocmenkkjbigaaDoorP4
import Derived.Shelf.Small.Strs
import Derived.Shelf.Strconv.Atoi
import Derived.ProofKit
import Derived.OpenShut
import Derived.ChangeArms
import Derived.FnData
import Derived.DataReads
import Derived.ChangeOld
import Derived.LaidMore
import Derived.Stop.Joined
import Derived.SevenTiedAt
import Derived.Test.YtbocmenkkjbigaaDoorRows
import Derived.Test.YtbocmenkkjbigaaDoorCards
import Derived.Test.YtbocmenkkjbigaaDoorTie
set_option linter.all false
set_option maxRecDepth 100000
namespace Go.Proofs.YtbocmenkkjbigaaDoor
open Go.AM
theorem w63 {n:Nat} (h:n+1 < 2 ^ 63):IntKind.i64.wrap ((n:Int)+1)=((n+1:Nat):Int):=by rw [IntKind.wrap_i64];omega
theorem ag4 {H H':Heap} {v:V} {l:List InsD} (h:RdL 8 ac6 H v l) (k:Ext H H'):RdL 8 ac6 H' v l:=RdL.ext (P:=ac6) ac6.ext h k
theorem ag5 {H H':Heap} {v:V} {l:List BlkD} (h:RdL 2 aga H v l) (k:Ext H H'):RdL 2 aga H' v l:=RdL.ext (P:=aga) aga.ext h k
theorem RdL.lt {α:Type} {w:Nat} {P:Heap→List V→α→Prop} {H:Heap} {v:V} {l:List α} (h:RdL w P H v l):l.length < 2 ^ 63:=by obtain ⟨_,_,_,h,_⟩:=h;exact h
structure SamT (CT:Nat→Option CFun):Prop where
 texts:CT a8v=some (.code alr)
 same:CT bcu=some (.code alu)
section
variable {CT:Nat→Option CFun}
theorem st_l0 (base:Nat) {D:Heap} {v w:V} {l:List ByteArray} (q1:Rd D v (l.map Sb)) (q2:ah2 v) (r1:Rd D w (l.map Sb)) (r2:ah2 w) (hn:l.length < 2 ^ 63):
 itW (evC (fe CT) itW base ah4) [] D.length (gq 26 [(0,v),(1,w),(5,Iz 0)]) D=some (.ext 0,gq 26 [(0,v),(1,w),(5,Iz l.length),(14,bl false)],D):=by
 have hpl:=aud q1
 have h:=bcv l.length (fun k=>itW (evC (fe CT) itW base ah4) [] D.length (gq 26 [(0,v),(1,w),(5,Iz k)]) D) (fun k hk=>by
  have hlt':((k:Int) < ((l.length:Nat):Int)):=by omega
  have hwk:=w63 (n:=k) (by omega)
  obtain ⟨y,y1,y2⟩:=bdh q1 q2 hk;obtain ⟨z,z1,z2⟩:=bdh r1 r2 hk;have e:((l.getD k ⟨#[]⟩).data.toList == (l.getD k ⟨#[]⟩).data.toList)=true:=jq _;rw [ma];simp only [Iz,Sb,bl,a9z,aa,reduceIte,reduceCtorEq,Nat.reduceEqDiff,Nat.reduceLT,Nat.reduceLeDiff,Nat.reduceBEq,Nat.reduceAdd,Nat.reduceMul,hpl,hlt',y1,y2,z1,z2,e,hwk,ada rfl]) 0 (jd _)
 rw [a0d] at h;refine h.trans ?_;rw [ma];simp only [Iz,Sb,bl,a9z,aa,reduceIte,reduceCtorEq,Nat.reduceEqDiff,Nat.reduceLT,Nat.reduceLeDiff,Nat.reduceBEq,Nat.reduceAdd,Nat.reduceMul,hpl,yl,ada rfl]
theorem air (hT:CT a8v=some (.code alr)) (base:Nat) {D:Heap} {v w:V} {l:List ByteArray} (q1:Rd D v (l.map Sb)) (q2:ah2 v) (r1:Rd D w (l.map Sb)) (r2:ah2 w) (hn:l.length < 2 ^ 63):
 fe CT (.fn a8v [] []) [v,w] base D=some (bl true,D):=by
 have f0:=st_l0 (CT:=CT) base q1 q2 r1 r2 hn;have hp1:=aud q1;have hp2:=aud r1;have e:(((l.length:Nat):Int) == ((l.length:Nat):Int))=true:=jq _
 refine nz (c:=alr) hT (by simp [alr]) ?_
 simp only [Iz,Sb,bl] at f0;simp only [Iz,Sb,bl,alr,a9z,aa,reduceIte,reduceCtorEq,Nat.reduceEqDiff,Nat.reduceLT,Nat.reduceLeDiff,Nat.reduceBEq,Nat.reduceAdd,Nat.reduceMul,hp1,hp2,e,f0]
set_option maxHeartbeats 1000000 in
theorem sm_l0 (h:SamT CT) (base:Nat) {C0:Heap} (hb:base≤C0.length) {z9 z10:Nat} {lb cv cw:V} {l:List InsD} (hg9:getC C0 z9 0=some [lb,cv]) (hg10:getC C0 z10 0=some [lb,cw]) (hc:RdL 8 ac6 C0 cv l) (hd:RdL 8 ac6 C0 cw l) {v2 v3 v6 v7:V} {n5 n8:Int}:
 ∃ C',itW (evC (fe CT) itW base ah7) [] C0.length (gq 164 [(2,v2),(3,v3),(5,Iz n5),(6,v6),(7,v7),(8,Iz n8),(9,.ref z9 0 0),(10,.ref z10 0 0),(11,Iz 0)]) C0=some (.ext 4,(gq 164 [(2,v2),(3,v3),(5,Iz n5),(6,v6),(7,v7),(8,Iz n8),(9,.ref z9 0 0),(10,.ref z10 0 0),(11,Iz l.length),(95,bl false)]),C')∧Ext C0 C':=by
 have hn:=hc.lt
 obtain ⟨C,e2,e3⟩:=ati l.length (fun _ C=>Ext C0 C) (fun k C=>itW (evC (fe CT) itW base ah7) [] C0.length (gq 164 [(2,v2),(3,v3),(5,Iz n5),(6,v6),(7,v7),(8,Iz n8),(9,.ref z9 0 0),(10,.ref z10 0 0),(11,Iz k)]) C) (by
  intro k C hk hE
  have hlt':((k:Int) < ((l.length:Nat):Int)):=by omega
  have hwk:=w63 (n:=k) (by omega)
  have hbC:base≤C.length:=by have:=hE.le;omega
  have g9:=il hg9 hE;have g10:=il hg10 hE;have hpl:=(ag4 hc hE).len;have hxk:l[k]?=some (l[k]):=List.getElem?_eq_getElem hk;obtain ⟨x,hxe⟩:∃ x,l[k]=x:=⟨_,rfl⟩;rw [hxe] at hxk;obtain ⟨y,re,y1,y2,y3,_⟩:=hc.at2 hxk;obtain ⟨z,rf,z1,z2,z3,_⟩:=hd.at2 hxk;have ly:=y3 C hE;have lz:=z3 C hE;obtain ⟨av,lv,rfl,q1,q2,q3,q4,n1,n2⟩:=y2;obtain ⟨aw,lw,rfl,p1,p2,p3,p4,_⟩:=z2;obtain ⟨D1,hD1⟩:∃ D,C ++ [Ob.cells 0 (uz x av lv)]=D:=⟨_,rfl⟩;obtain ⟨D,hD⟩:∃ D,D1 ++ [Ob.cells 0 (uz x aw lw)]=D:=⟨_,rfl⟩
  have l1:D1.length=C.length+1:=by rw [← hD1,jk]
  have e1:Ext C D1:=hD1 ▸ Ext.app _ _;have e2:Ext D1 D:=hD ▸ Ext.app _ _;have hE2:=hE.trans (e1.trans e2);have hg1:getC D C.length 0=some (uz x av lv):=il (hD1 ▸ jb C 0 _) e2
  have hg2:getC D (C.length+1) 0=some (uz x aw lw):=by rw [← l1,← hD];exact jb D1 0 _
  have f1:=air h.texts base (q1.ext hE2) q2 (p1.ext hE2) p2 n1;have f2:=air h.texts base (q3.ext hE2) q4 (p3.ext hE2) p4 n2;have b0:(x.op == x.op:Bool)=true:=jq _;have b1:(x.d.data.toList == x.d.data.toList:Bool)=true:=jq _;have b2:(x.a.data.toList == x.a.data.toList:Bool)=true:=jq _;have b3:(x.b.data.toList == x.b.data.toList:Bool)=true:=jq _;have b4:(x.k == x.k:Bool)=true:=jq _;have b5:(x.f.data.toList == x.f.data.toList:Bool)=true:=jq _;have o1:=q1.one;have o2:=q3.one;have o3:=p1.one;have o4:=p3.one;obtain ⟨Z1,hZ1⟩:∃ X,C ++ [Ob.cells 0 z8]=X:=⟨_,rfl⟩;obtain ⟨Z2,hZ2⟩:∃ X,Z1 ++ [Ob.cells 0 z8]=X:=⟨_,rfl⟩
  have lZ1:Z1.length=C.length+1:=by rw [← hZ1,jk]
  have lZ2:Z2.length=C.length+2:=by rw [← hZ2,jk,lZ1]
  have zz1:getC Z2 C.length 0=some z8:=il (hZ1 ▸ jb C 0 _) (hZ2 ▸ Ext.app _ _)
  have ss1:Z2.set C.length (Ob.cells 0 (uz x av lv))=D1 ++ [Ob.cells 0 z8]:=by
   rw [← hZ2,xn _ _ (by omega),← hZ1,qb,hD1]
  have zz2:getC (D1 ++ [Ob.cells 0 z8]) (C.length+1) 0=some z8:=by rw [← l1];exact jb D1 0 _
  have ss2:(D1 ++ [Ob.cells 0 z8]).set (C.length+1) (Ob.cells 0 (uz x aw lw))=D:=by rw [← l1,qb,hD]
  have hb1:base≤C.length+1:=by omega
  refine ⟨trim C0.length (gq 164 [(2,v2),(3,v3),(5,Iz n5),(6,v6),(7,v7),(8,Iz n8),(9,.ref z9 0 0),(10,.ref z10 0 0),(11,Iz (k+1:Nat))]) D,?_,hE2.trim (af _) _⟩;simp only [bl] at f1 f2;simp only [uz,Sb,z8,nu] at hZ1 hZ2 zz1 ss1 zz2 ss2 hg1 hg2 ly lz;rw [ma];simp only [Iz,Sb,bl,asr,aa,reduceIte,reduceCtorEq,Nat.reduceEqDiff,Nat.reduceLT,Nat.reduceLeDiff,Nat.reduceBEq,Nat.reduceAdd,Nat.reduceMul,g9,g10,hpl,hlt',y1,z1,ly,lz,hZ1,lZ1,hZ2,zz1,ss1,zz2,ss2,hbC,hb1,o1,o2,o3,o4,ic,jg,iw,wh,nk,ja,aj,dh,dz,fq,hg1,hg2,b0,b1,b2,b3,b4,b5,f1,f2,hwk]) 0 C0 (jd _) (Ext.refl _)
 rw [a0d] at e2;refine ⟨trim C0.length (gq 164 [(2,v2),(3,v3),(5,Iz n5),(6,v6),(7,v7),(8,Iz n8),(9,.ref z9 0 0),(10,.ref z10 0 0),(11,Iz l.length),(95,bl false)]) C,e2.trans ?_,e3.trim (af _) _⟩;have g9:=il hg9 e3;have hpl:=(ag4 hc e3).len;rw [ma];simp only [Iz,bl,asr,aa,reduceIte,reduceCtorEq,Nat.reduceEqDiff,Nat.reduceLT,Nat.reduceLeDiff,Nat.reduceBEq,Nat.reduceAdd,Nat.reduceMul,g9,hpl,yl]
set_option maxHeartbeats 1000000 in
theorem sm_l1 (h:SamT CT) (base:Nat) {C0:Heap} (hb:base≤C0.length) {q6 q7:Nat} {nm pv pw bv bw:V} {l:List BlkD} (hg6:getC C0 q6 0=some [nm,pv,bv]) (hg7:getC C0 q7 0=some [nm,pw,bw]) (hc:RdL 2 aga C0 bv l) (hd:RdL 2 aga C0 bw l) {v2 v3:V} {n5:Int}:
 ∃ C',itW (evC (fe CT) itW base ah6) [] C0.length (gq 164 [(2,v2),(3,v3),(5,Iz n5),(6,.ref q6 0 0),(7,.ref q7 0 0),(8,Iz 0)]) C0=some (.ext 2,(gq 164 [(2,v2),(3,v3),(5,Iz n5),(6,.ref q6 0 0),(7,.ref q7 0 0),(8,Iz l.length),(64,bl false)]),C')∧Ext C0 C':=by
 have hn:=hc.lt
 obtain ⟨C,e2,e3⟩:=ati l.length (fun _ C=>Ext C0 C) (fun k C=>itW (evC (fe CT) itW base ah6) [] C0.length (gq 164 [(2,v2),(3,v3),(5,Iz n5),(6,.ref q6 0 0),(7,.ref q7 0 0),(8,Iz k)]) C) (by
  intro k C hk hE
  have hlt':((k:Int) < ((l.length:Nat):Int)):=by omega
  have hwk:=w63 (n:=k) (by omega)
  have hbC:base≤C.length:=by have:=hE.le;omega
  have g6:=il hg6 hE;have g7:=il hg7 hE;have hpl:=(ag5 hc hE).len;have hxk:l[k]?=some (l[k]):=List.getElem?_eq_getElem hk;obtain ⟨B,hxe⟩:∃ x,l[k]=x:=⟨_,rfl⟩;rw [hxe] at hxk;obtain ⟨y,re,y1,y2,y3,_⟩:=hc.at2 hxk;obtain ⟨z,rf,z1,z2,z3,_⟩:=hd.at2 hxk;obtain ⟨cv,rfl,hcv⟩:=y2;obtain ⟨cw,rfl,hcw⟩:=z2;have hco:=hcv.one;have hcw1:=hcw.one;obtain ⟨C1,hC1⟩:∃ X,C ++ [Ob.cells 0 [Sb B.label,cv]]=X:=⟨_,rfl⟩;obtain ⟨C2,hC2⟩:∃ X,C1 ++ [Ob.cells 0 [Sb B.label,cw]]=X:=⟨_,rfl⟩
  have l1:C1.length=C.length+1:=by rw [← hC1,jk]
  have l2:C2.length=C.length+2:=by rw [← hC2,jk,l1]
  have x1:Ext C C1:=hC1 ▸ Ext.app _ _;have x2:Ext C1 C2:=hC2 ▸ Ext.app _ _;have ly:=y3 C hE;have lz:=z3 C hE;have k9:getC C2 C.length 0=some [Sb B.label,cv]:=il (hC1 ▸ jb C 0 _) x2
  have k10:getC C2 (C.length+1) 0=some [Sb B.label,cw]:=by rw [← l1,← hC2];exact jb C1 0 _
  have hE2:=hE.trans (x1.trans x2)
  obtain ⟨C',f1,x3⟩:=sm_l0 h base (C0:=C2) (by omega) (v2:=v2) (v3:=v3) (v6:=.ref q6 0 0) (v7:=.ref q7 0 0) (n5:=n5) (n8:=k) k9 k10 (ag4 hcv hE2) (ag4 hcw hE2)
  have c1l:=(ag4 hcv hE2).len;have c2l:=(ag4 hcw hE2).len;obtain ⟨Z1,hZ1⟩:∃ X,C ++ [Ob.cells 0 [V.s (.string ⟨#[]⟩),nu]]=X:=⟨_,rfl⟩;obtain ⟨Z2,hZ2⟩:∃ X,Z1 ++ [Ob.cells 0 [V.s (.string ⟨#[]⟩),nu]]=X:=⟨_,rfl⟩
  have lZ1:Z1.length=C.length+1:=by rw [← hZ1,jk]
  have zz1:getC Z2 C.length 0=some [V.s (.string ⟨#[]⟩),nu]:=il (hZ1 ▸ jb C 0 _) (hZ2 ▸ Ext.app _ _)
  have ss1:Z2.set C.length (Ob.cells 0 [Sb B.label,cv])=C1 ++ [Ob.cells 0 [V.s (.string ⟨#[]⟩),nu]]:=by
   rw [← hZ2,xn _ _ (by omega),← hZ1,qb,hC1]
  have zz2:getC (C1 ++ [Ob.cells 0 [V.s (.string ⟨#[]⟩),nu]]) (C.length+1) 0=some [V.s (.string ⟨#[]⟩),nu]:=by rw [← l1];exact jb C1 0 _
  have ss2:(C1 ++ [Ob.cells 0 [V.s (.string ⟨#[]⟩),nu]]).set (C.length+1) (Ob.cells 0 [Sb B.label,cw])=C2:=by rw [← l1,qb,hC2]
  have hb1:base≤C.length+1:=by omega
  have b1:(B.label.data.toList == B.label.data.toList:Bool)=true:=jq _;have b2:(((B.code.length:Nat):Int) == ((B.code.length:Nat):Int))=true:=jq _;refine ⟨trim C0.length (gq 164 [(2,v2),(3,v3),(5,Iz n5),(6,.ref q6 0 0),(7,.ref q7 0 0),(8,Iz (k+1:Nat))]) C',?_,(hE2.trans x3).trim (af _) _⟩;rw [l2] at f1;simp only [bl,Iz,Sb,nu] at f1 ly lz hZ1 hZ2 zz1 ss1 zz2 ss2 k9 k10;rw [ma];simp only [Iz,Sb,bl,asr,aa,reduceIte,reduceCtorEq,Nat.reduceEqDiff,Nat.reduceLT,Nat.reduceLeDiff,Nat.reduceBEq,Nat.reduceAdd,Nat.reduceMul,g6,g7,hpl,hlt',y1,z1,ly,lz,hZ1,lZ1,hZ2,zz1,ss1,zz2,ss2,hbC,hb1,hco,hcw1,ic,jg,iw,wh,nk,ja,aj,dh,dz,fq,l2,k9,k10,c1l,c2l,b1,b2,f1,hwk]) 0 C0 (jd _) (Ext.refl _)
 rw [a0d] at e2;refine ⟨trim C0.length (gq 164 [(2,v2),(3,v3),(5,Iz n5),(6,.ref q6 0 0),(7,.ref q7 0 0),(8,Iz l.length),(64,bl false)]) C,e2.trans ?_,e3.trim (af _) _⟩;have g6:=il hg6 e3;have hpl:=(ag5 hc e3).len;rw [ma];simp only [Iz,bl,asr,aa,reduceIte,reduceCtorEq,Nat.reduceEqDiff,Nat.reduceLT,Nat.reduceLeDiff,Nat.reduceBEq,Nat.reduceAdd,Nat.reduceMul,g6,hpl,yl]
set_option maxHeartbeats 1000000 in
theorem sm_l2 (h:SamT CT) (base:Nat) {C0:Heap} (hb:base≤C0.length) {p2 p3:Nat} {fv fw:V} {fs:List FunD} (hg2:getC C0 p2 0=some [fv]) (hg3:getC C0 p3 0=some [fw]) (hc:abb C0 fv fs) (hd:abb C0 fw fs):
 ∃ C',itW (evC (fe CT) itW base ah5) [] C0.length (gq 164 [(2,.ref p2 0 0),(3,.ref p3 0 0),(5,Iz 0)]) C0=some (.ext 0,(gq 164 [(2,.ref p2 0 0),(3,.ref p3 0 0),(5,Iz fs.length),(25,bl false)]),C')∧Ext C0 C':=by
 have hn:=RdL.lt hc
 obtain ⟨C,e2,e3⟩:=ati fs.length (fun _ C=>Ext C0 C) (fun k C=>itW (evC (fe CT) itW base ah5) [] C0.length (gq 164 [(2,.ref p2 0 0),(3,.ref p3 0 0),(5,Iz k)]) C) (by
  intro k C hk hE
  have hlt':((k:Int) < ((fs.length:Nat):Int)):=by omega
  have hwk:=w63 (n:=k) (by omega)
  have hbC:base≤C.length:=by have:=hE.le;omega
  have g2:=il hg2 hE;have g3:=il hg3 hE;have hpl:=RdL.len (hc.ext hE);have hxk:fs[k]?=some (fs[k]):=List.getElem?_eq_getElem hk;obtain ⟨f,hxe⟩:∃ x,fs[k]=x:=⟨_,rfl⟩;rw [hxe] at hxk;obtain ⟨y,re,y1,y2,y3,_⟩:=hc.at2 hxk;obtain ⟨z,rf,z1,z2,z3,_⟩:=hd.at2 hxk;obtain ⟨pv,bv,rfl,u1,u2,u3,u4⟩:=y2;obtain ⟨pw,bw,rfl,w1,w2,w3,w4⟩:=z2;have o1:=u1.one;have o2:=u4.one;have o3:=w1.one;have o4:=w4.one;obtain ⟨C1,hC1⟩:∃ X,C ++ [Ob.cells 0 [Sb f.name,pv,bv]]=X:=⟨_,rfl⟩;obtain ⟨C2,hC2⟩:∃ X,C1 ++ [Ob.cells 0 [Sb f.name,pw,bw]]=X:=⟨_,rfl⟩
  have l1:C1.length=C.length+1:=by rw [← hC1,jk]
  have l2:C2.length=C.length+2:=by rw [← hC2,jk,l1]
  have x1:Ext C C1:=hC1 ▸ Ext.app _ _;have x2:Ext C1 C2:=hC2 ▸ Ext.app _ _;have ly:=y3 C hE;have lz:=z3 C hE;have k6:getC C2 C.length 0=some [Sb f.name,pv,bv]:=il (hC1 ▸ jb C 0 _) x2
  have k7:getC C2 (C.length+1) 0=some [Sb f.name,pw,bw]:=by rw [← l1,← hC2];exact jb C1 0 _
  have hE2:=hE.trans (x1.trans x2);have ft:=air h.texts base (D:=C2) (u1.ext hE2) u2 (w1.ext hE2) w2 u3
  obtain ⟨C',f1,x3⟩:=sm_l1 h base (C0:=C2) (by omega) (v2:=.ref p2 0 0) (v3:=.ref p3 0 0) (n5:=k) k6 k7 (ag5 u4 hE2) (ag5 w4 hE2)
  have c1l:=(ag5 u4 hE2).len;have c2l:=(ag5 w4 hE2).len;obtain ⟨Z1,hZ1⟩:∃ X,C ++ [Ob.cells 0 aan]=X:=⟨_,rfl⟩;obtain ⟨Z2,hZ2⟩:∃ X,Z1 ++ [Ob.cells 0 aan]=X:=⟨_,rfl⟩
  have lZ1:Z1.length=C.length+1:=by rw [← hZ1,jk]
  have zz1:getC Z2 C.length 0=some aan:=il (hZ1 ▸ jb C 0 _) (hZ2 ▸ Ext.app _ _)
  have ss1:Z2.set C.length (Ob.cells 0 [Sb f.name,pv,bv])=C1 ++ [Ob.cells 0 aan]:=by
   rw [← hZ2,xn _ _ (by omega),← hZ1,qb,hC1]
  have zz2:getC (C1 ++ [Ob.cells 0 aan]) (C.length+1) 0=some aan:=by rw [← l1];exact jb C1 0 _
  have ss2:(C1 ++ [Ob.cells 0 aan]).set (C.length+1) (Ob.cells 0 [Sb f.name,pw,bw])=C2:=by rw [← l1,qb,hC2]
  have hb1:base≤C.length+1:=by omega
  have b1:(f.name.data.toList == f.name.data.toList:Bool)=true:=jq _;have b2:(((f.blocks.length:Nat):Int) == ((f.blocks.length:Nat):Int))=true:=jq _;refine ⟨trim C0.length (gq 164 [(2,.ref p2 0 0),(3,.ref p3 0 0),(5,Iz (k+1:Nat))]) C',?_,(hE2.trans x3).trim (af _) _⟩;rw [l2] at f1;simp only [bl,Iz,Sb,aan,nu] at f1 ly lz hZ1 hZ2 zz1 ss1 zz2 ss2 k6 k7 ft;rw [ma];simp only [Iz,Sb,bl,asr,aa,reduceIte,reduceCtorEq,Nat.reduceEqDiff,Nat.reduceLT,Nat.reduceLeDiff,Nat.reduceBEq,Nat.reduceAdd,Nat.reduceMul,g2,g3,hpl,hlt',y1,z1,ly,lz,hZ1,lZ1,hZ2,zz1,ss1,zz2,ss2,hbC,hb1,o1,o2,o3,o4,ic,jg,iw,wh,nk,ja,aj,dh,dz,fq,l2,k6,k7,c1l,c2l,b1,b2,ft,f1,hwk]) 0 C0 (jd _) (Ext.refl _)
 rw [a0d] at e2;refine ⟨trim C0.length (gq 164 [(2,.ref p2 0 0),(3,.ref p3 0 0),(5,Iz fs.length),(25,bl false)]) C,e2.trans ?_,e3.trim (af _) _⟩;have g2:=il hg2 e3;have hpl:=RdL.len (hc.ext e3);rw [ma];simp only [Iz,bl,asr,aa,reduceIte,reduceCtorEq,Nat.reduceEqDiff,Nat.reduceLT,Nat.reduceLeDiff,Nat.reduceBEq,Nat.reduceAdd,Nat.reduceMul,g2,hpl,yl]
theorem axb (h:SamT CT) (base:Nat) {A:Heap} (hb:base≤A.length) {fv fw:V} {fs:List FunD} (hc:abb A fv fs) (hd:abb A fw fs):
 ∃ H',fe CT (.fn bcu [] []) [.agg [fv],.agg [fw]] base A=some (bl true,H')∧Ext A H':=by
 have o1:=hc.one;have o2:=hd.one;obtain ⟨C1,hC1⟩:∃ X,A ++ [Ob.cells 0 [fv]]=X:=⟨_,rfl⟩;obtain ⟨C2,hC2⟩:∃ X,C1 ++ [Ob.cells 0 [fw]]=X:=⟨_,rfl⟩
 have l1:C1.length=A.length+1:=by rw [← hC1,jk]
 have l2:C2.length=A.length+2:=by rw [← hC2,jk,l1]
 have x1:Ext A C1:=hC1 ▸ Ext.app _ _;have x2:Ext C1 C2:=hC2 ▸ Ext.app _ _;have e:=x1.trans x2;have g2:getC C2 A.length 0=some [fv]:=il (hC1 ▸ jb A 0 _) x2
 have g3:getC C2 (A.length+1) 0=some [fw]:=by rw [← l1,← hC2];exact jb C1 0 _
 have p1:=RdL.len (hc.ext e);have p2:=RdL.len (hd.ext e);have b2:(((fs.length:Nat):Int) == ((fs.length:Nat):Int))=true:=jq _
 obtain ⟨C',f1,x3⟩:=sm_l2 h base (C0:=C2) (by omega) g2 g3 (hc.ext e) (hd.ext e)
 refine ⟨C',mq (c:=alu) (k:=2) h.same rfl (by decide) aq1 ?_,e.trans x3⟩
 rw [l2] at f1;simp only [bl,Iz] at f1;simp only [Iz,Sb,bl,alu,asr,aa,reduceIte,reduceCtorEq,Nat.reduceEqDiff,Nat.reduceLT,Nat.reduceLeDiff,Nat.reduceBEq,Nat.reduceAdd,Nat.reduceMul,o1,o2,hC1,l1,hC2,l2,g2,g3,p1,p2,b2,f1]
end
end Go.Proofs.YtbocmenkkjbigaaDoor
namespace Go.AM.Tok
def lexN:Nat→List UInt8→Nat→Nat→Out
 | 0,_,_,_=>.bad 0 0 0
 | _+1,[],ln,cl=>.done [⟨4,[],0,ln,cl⟩]
 | n+1,c :: l,ln,cl=>
   if blank c then (if c=10 then lexN n l (ln+1) 1 else lexN n l ln (cl+1))
   else if c=59 then lexN n (l.drop (far other l)) ln (cl+(far other l+1))
   else if letter c then (lexN n (l.drop (far within l)) ln (cl+(far within l+1))).cons ⟨1,c :: l.take (far within l),0,ln,cl⟩
   else if digit c then
    if 9 < far digit l+1∨(1 < far digit l+1∧c=48)∨far digit l < far within l then .bad 31 ln cl
    else (lexN n (l.drop (far digit l)) ln (cl+(far digit l+1))).cons ⟨2,c :: l.take (far digit l),val (c :: l.take (far digit l)),ln,cl⟩
   else if sign c then (lexN n l ln (cl+1)).cons ⟨3,[c],0,ln,cl⟩
   else .bad 30 ln cl
theorem lexN_eq:∀ (n:Nat) (l:List UInt8) (ln cl:Nat),l.length < n→lexN n l ln cl=lex l ln cl:=by
 intro n
 induction n with
 | zero=>intro l ln cl h;omega
 | succ n ih=>
   intro l ln cl h;cases l with
   | nil=>rw [lex_nil,lexN]
   | cons c l=>
     have hl:l.length < n:=by simpa using h
     have hd:∀ m,(l.drop m).length < n:=fun m=>by rw [gu];omega
     rw [lex_cons,lexN,ih _ _ _ hl,ih _ _ _ hl,ih _ _ _ (hd _),ih _ _ _ (hd _),ih _ _ _ (hd _)]
end Go.AM.Tok
set_option maxRecDepth 100000
namespace Go.Proofs.YtbocmenkkjbigaaDoor
open Go.AM
def reT:ByteArray:=⟨#[102,117,110,99,32,109,97,105,110,40,112,41,32,123,10,97,58,32,59,32,120,10,32,32,120,32,61,32,102,105,101,108,100,32,112,32,51,10,32,32,114,101,116,10,125,10]⟩
def bef:InsD:=⟨7,⟨#[120]⟩,⟨#[112]⟩,⟨#[]⟩,3,⟨#[]⟩,[],[]⟩
def reI2:InsD:=⟨14,⟨#[]⟩,⟨#[]⟩,⟨#[]⟩,0,⟨#[]⟩,[],[]⟩
def reF:List FunD:=[⟨⟨#[109,97,105,110]⟩,[⟨#[112]⟩],[⟨⟨#[97]⟩,[bef,reI2]⟩]⟩]
def aml (l:List UInt8):List Tok.T × (Nat × Nat) × Nat:=if 1048576 < l.length then ([],(0,0),2) else match Tok.lexN (l.length+1) l 1 1 with
 | .done ts=>(ts,(0,0),0)
 | .bad e a q=>([],(a,q),e)
theorem bcq (l:List UInt8):ae8 l=aml l:=by
 unfold ae8 aml;rw [Tok.lexN_eq _ _ _ _ (aj2 _)]
 try rfl
def bb8 (l:List UInt8):List FunD × (Nat × Nat) × Nat:=
 if (aml l).2.2=0 then match bae (aml l).1 with
  | .ok fs=>(fs,(0,0),0)
  | .error j=>([],(((aml l).1.getD j tkE).line,((aml l).1.getD j tkE).col),if ((aml l).1.getD j tkE).kind=4 then 41 else 40)
 else ([],(aml l).2.1,(aml l).2.2)
theorem bb7 (l:List UInt8):ad4 l=bb8 l:=by
 unfold ad4 bb8;rw [bcq]
 try rfl
theorem axr:ad4 reT.data.toList=(reF,(0,0),0):=(bb7 _).trans (by kernel_rfl)
section
variable {CT:Nat→Option CFun}
def aj1 (CT:Nat→Option CFun):Prop:=∀ (base:Nat) (H:Heap) (b:ByteArray),base≤H.length→∃ v H',fe CT (.fn baf [] []) [.s (.string b)] base H=some (.tup [.agg [v],.agg [Iz (ad4 b.data.toList).2.1.1,Iz (ad4 b.data.toList).2.1.2],Iz (ad4 b.data.toList).2.2],H')∧Ext H H'∧∀ H'',(∀ id,H.length≤id→id < H'.length→H''[id]?=H'[id]?)→abb H'' v (ad4 b.data.toList).1
theorem aoh (hP:aj1 CT) (hT:CT a8w=some (.code als)) (base:Nat) {A:Heap} (hb:base≤A.length):
 ∃ H',fe CT (.fn a8w [] []) [] base A=some (bl true,H')∧Ext A H':=by
 obtain ⟨v,H1,h1,e1,h3⟩:=hP base A reT hb;rw [axr] at h1 h3;have hr:=h3 H1 fun _ _ _=>rfl;have hvo:=hr.one;obtain ⟨H2,hH2⟩:∃ X,H1 ++ [Ob.cells 0 [v]]=X:=⟨_,rfl⟩;obtain ⟨H3,hH3⟩:∃ X,H2 ++ [Ob.cells 0 [Iz 0,Iz 0]]=X:=⟨_,rfl⟩
 have l2:H2.length=H1.length+1:=by rw [← hH2,jk]
 have e2:Ext H1 H2:=hH2 ▸ Ext.app _ _;have e3:Ext H2 H3:=hH3 ▸ Ext.app _ _;have g1:getC H3 H1.length 0=some [v]:=il (hH2 ▸ jb H1 0 _) e3;have hE:=e2.trans e3;have hr3:=hr.ext hE;have c0:=RdL.len hr3;obtain ⟨a,r,a1,hf,_,a3⟩:=hr3.at2 (i:=0) (x:=reF.getD 0 bai) rfl;obtain ⟨pv,bv,rfl,p1,p2,p3,hbv⟩:=hf;obtain ⟨x1,x2,x3⟩:=a3 1 _ rfl;obtain ⟨y1,y2,y3⟩:=a3 2 _ rfl;have cp:=aud p1;have cb:=hbv.len;obtain ⟨b1,rb,b2,hbb,_,b3⟩:=hbv.at2 (i:=0) (x:=⟨⟨#[97]⟩,[bef,reI2]⟩) rfl;obtain ⟨cv,rfl,hcv⟩:=hbb;obtain ⟨d1,d2,d3⟩:=b3 1 _ rfl;have cc:=hcv.len;obtain ⟨f1,rf,f2,hff,_,f3⟩:=hcv.at2 (i:=0) (x:=bef) rfl;obtain ⟨av,lv,rfl,_⟩:=hff;obtain ⟨k1,k2,k3⟩:=f3 4 _ rfl;obtain ⟨m1,m2,m3⟩:=f3 2 _ rfl;have x4:=x3 H3 (Ext.refl _);have y4:=y3 H3 (Ext.refl _);have d4:=d3 H3 (Ext.refl _);have k4:=k3 H3 (Ext.refl _);have m4:=m3 H3 (Ext.refl _);obtain ⟨Z1,hZ1⟩:∃ X,H1 ++ [Ob.cells 0 [nu]]=X:=⟨_,rfl⟩;obtain ⟨Z2,hZ2⟩:∃ X,Z1 ++ [Ob.cells 0 [Iz 0,Iz 0]]=X:=⟨_,rfl⟩
 have lZ1:Z1.length=H1.length+1:=by rw [← hZ1,jk]
 have zz1:getC Z2 H1.length 0=some [nu]:=il (hZ1 ▸ jb H1 0 _) (hZ2 ▸ Ext.app _ _)
 have ss1:Z2.set H1.length (Ob.cells 0 [v])=H3:=by
  rw [← hZ2,xn _ _ (by omega),← hZ1,qb,hH2,hH3]
 have zz2:getC H3 (H1.length+1) 0=some [Iz 0,Iz 0]:=by rw [← l2,← hH3];exact jb H2 0 _
 have ss2:H3.set (H1.length+1) (Ob.cells 0 [Iz 0,Iz 0])=H3:=by rw [← hH3,← l2,qb]
 have hbH:base≤H1.length:=by have:=e1.le;omega
 have hb1:base≤H1.length+1:=by omega
 refine ⟨H3,nz (c:=als) hT (by simp [als]) ?_,e1.trans hE⟩
 have z0:((0:Nat):Int)=0:=rfl;have n1:(((reF.length:Nat):Int) == 1)=true:=rfl;simp only [reT,Iz,z0] at h1;simp only [Iz,nu] at hZ1 hZ2 zz1 ss1 zz2 ss2;simp only [Iz,z0,bef,Sb] at a1 b2 f2 k4 m4 c0 cp cb cc d4;have q1:(((reF.length:Nat):Int) == 1)=true:=rfl;have q2:((((reF.getD 0 bai).ps.length:Nat):Int) == 1)=true:=rfl;have q3:((((reF.getD 0 bai).blocks.length:Nat):Int) == 1)=true:=rfl;simp only [Iz,nu,bl,als,a_f12,aa,reduceIte,reduceCtorEq,Nat.reduceEqDiff,Nat.reduceLT,Nat.reduceLeDiff,Nat.reduceBEq,Nat.reduceAdd,Nat.reduceMul,h1,hZ1,lZ1,hZ2,zz1,ss1,zz2,ss2,hbH,hb1,hvo,az,ic,jg,iw,wh,nk,ja,aj,dh,dz,fq,g1,c0,q1,a1,x2,x4,cp,q2,y2,y4,cb,q3,b2,d2,d4,cc,f2,k2,k4,m2,m4]
 try rfl
end
end Go.Proofs.YtbocmenkkjbigaaDoor
namespace Go.AM
open Go.RowKit
section
variable {P:Program}
theorem bcz {pure':PX} {k:Nat} (hent:∀ xs w,(callFunc k xs).run P w=.ok (.enter k xs) w)
 (hs:∀ (s:ByteArray) (c:Int) (w:World),Calls P k #[.string s,.int .u8 c] w fun e w'=>e=.returned (.int .i64 (Lib.indexByte s.data.toList c.toNat.toUInt8))∧w'=w):abf P pure' k (.prim bah):=by
 refine ⟨hent,fun vs base H r H' hg=>?_⟩;unfold bah at hg;split at hg
 ·rename_i b c;cases hg;refine ⟨Floor.refl _ _,fun μ Mt w cs hH hvs n=>?_⟩;obtain ⟨h1,h2⟩:=hvs
  match cs,h1 with
  | [x,y],_=>
    have e1:=yg (h2 0 _ x rfl rfl);have e2:=yg (h2 1 _ y rfl rfl);subst e1 e2;refine callsIn_wide.2 ((hs b c w).mono ?_);rintro e w' ⟨rfl,rfl⟩;exact ⟨_,μ,Mt,rfl,.s _,Post.refl hH⟩
 ·cases hg
theorem ajh {α:Type} (x:α) (f:α→α):∀ l:List α,(l ++ [x]).modify l.length f=l ++ [f x]
 | []=>rfl
 | y :: l=>by
   have:=ajh x f l;simp only [aj,bi,List.modify_succ_cons,this]
theorem ari {α:Type} (a:Array α) (x:α) (f:α→α):(a.push x).modify a.size f=a.push (f x):=by
 apply qp;rw [Array.toList_modify,ahz,ahz,show a.size=a.toList.length from rfl];exact ajh x f _
theorem av5 {CC:CX} {μ:Mu} {Mt:Nat→Prop} {w:World} {H:Heap} (h:HR CC μ Mt w H) (e:TypeId) (s:ByteArray):Post CC μ Mt w H μ Mt (Lib.bytesWorld w e s) H:=by
 refine aq3 [.cells (Lib.bytesCells w e s) e ((Lib.bytesCells w e s).size,(Lib.bytesCells w e s).size+1)] w _ h ?_ rfl rfl rfl;unfold Lib.bytesWorld World.freeze
 rw [dx (by decide)]
 obtain ⟨o,ho⟩:∃ o,Obj.cells (Lib.bytesCells w e s) e=o:=⟨_,rfl⟩;have hp:(w.drew.alloc o).heap=w.heap.push o:=rfl;simp only [ho,hp];rw [ari,← ho];rfl
theorem a9t {pure':PX} {k:Nat} {t:TypeId} (hent:∀ xs w,(callFunc k xs).run P w=.ok (.enter k xs) w)
 (hs:∀ (s:ByteArray) (n:Int),s.size≤18→Lib.atoi s.data.toList=some n→∀ (w:World),Calls P k #[.string s] w fun e w'=>e=.returned (.tuple #[.int .i64 n,.nilIface])∧∃ b,w'=Lib.bytesWorld w t b):abf P pure' k (.prim apy):=by
 refine ⟨hent,fun vs base H r H' hg=>?_⟩;unfold apy at hg;split at hg
 ·rename_i b;split at hg
  ·rename_i hb;cases hn:Lib.atoi b.data.toList with
   | none=>rw [hn] at hg;cases hg
   | some n=>
     rw [hn] at hg;cases hg;refine ⟨Floor.refl _ _,fun μ Mt w cs hH hvs m=>?_⟩;obtain ⟨h1,h2⟩:=hvs
     match cs,h1 with
     | [x],_=>
       have e1:=yg (h2 0 _ x rfl rfl);subst e1;refine callsIn_wide.2 ((hs b n hb hn w).mono ?_);rintro e w' ⟨rfl,s,rfl⟩;refine ⟨_,μ,Mt,rfl,?_,av5 hH t s⟩;refine .tup _ _ rfl fun i a c ha hc=>?_
       match i with
       | 0=>cases ha;cases hc;exact .s _
       | 1=>cases ha;cases hc;exact .s _
       | i+2=>simp at ha
  ·cases hg
 ·cases hg
end
inductive Ty where
 | int (k:IntKind) | bool | str
 | sl (e:Ty)
 | st (fs:List Ty)
 deriving Inhabited
mutual
def Ty.width:Ty→Nat
 | .int _=>1
 | .bool=>1
 | .str=>1
 | .sl _=>1
 | .st fs=>ahm fs
def ahm:List Ty→Nat
 | []=>0
 | f :: fs=>f.width+ahm fs
end
mutual
def akj (P:Program):Nat→Ty→TypeId→Bool
 | 0,_,_=>false
 | n+1,ty,t=>match ty,P.underlying t with
   | .int k,some (.int k')=>k == k'
   | .bool,some .bool=>true
   | .str,some .string=>true
   | .sl e,some (.slice e')=>akj P n e e' && P.cellsOf e' == e.width && decide (0 < e.width)
   | .st fs,some (.struct gs)=>P.cellsOf t == ahm fs && ap8 P n 0 fs gs.toList
   | _,_=>false
def ap8 (P:Program):Nat→Nat→List Ty→List Field→Bool
 | 0,_,_,_=>false
 | n+1,off,fs,gs=>match fs,gs with
   | [],[]=>true
   | f :: fs,g :: gs=>g.offset == off && P.cellsOf g.type == f.width && akj P n f g.type && ap8 P n (off+f.width) fs gs
   | _,_=>false
end
mutual
def IsV:Ty→List V→Prop
 | .int k,cs=>∃ n,cs=[.s (.int k n)]∧k.min≤n∧n≤k.max
 | .bool,cs=>∃ b,cs=[.s (.bool b)]
 | .str,cs=>∃ b,cs=[.s (.string b)]∧b.size≤maxLen
 | .sl e,cs=>cs=[nu]∨∃ es:List (List V),cs=[.psl es e.width]∧es.length≤maxLen∧∀ x∈es,IsV e x
 | .st fs,cs=>bab fs cs
def bab:List Ty→List V→Prop
 | [],cs=>cs=[]
 | f :: fs,cs=>∃ a b,cs=a ++ b∧IsV f a∧bab fs b
end
mutual
theorem IsV.len:∀ (t:Ty) {cs:List V},IsV t cs→cs.length=t.width
 | .int _,cs,h=>by obtain ⟨n,rfl,_⟩:=h;rfl
 | .bool,cs,h=>by obtain ⟨n,rfl⟩:=h;rfl
 | .str,cs,h=>by obtain ⟨n,rfl,_⟩:=h;rfl
 | .sl e,cs,h=>by rcases h with rfl | ⟨es,rfl,_⟩ <;> rfl
 | .st fs,cs,h=>bab.len fs h
theorem bab.len:∀ (fs:List Ty) {cs:List V},bab fs cs→cs.length=ahm fs
 | [],cs,h=>by cases h;rfl
 | f :: fs,cs,h=>by
   obtain ⟨a,b,rfl,h1,h2⟩:=h;rw [bq,IsV.len f h1,bab.len fs h2];rfl
end
abbrev PRs (w:World) (vs:List V) (cs:List Value):Prop:=vs.length=cs.length∧∀ (i:Nat) (a:V) (b:Value),vs[i]?=some a→cs[i]?=some b→PR (fun _=>False) w a b
theorem PRs.app {w:World} {a b:List V} {c d:List Value} (h:PRs w a c) (k:PRs w b d):PRs w (a ++ b) (c ++ d):=by
 refine ⟨by simp [h.1,k.1],fun i x y hx hy=>?_⟩
 by_cases hi:i < a.length
 ·rw [List.getElem?_append_left hi] at hx
  rw [List.getElem?_append_left (by rw [← h.1];exact hi)] at hy
  exact h.2 i x y hx hy
 ·rw [List.getElem?_append_right (by omega)] at hx
  rw [List.getElem?_append_right (by rw [← h.1];omega),← h.1] at hy
  exact k.2 _ x y hx hy
theorem PRs.one {w:World} {a:V} {b:Value} (h:PR (fun _=>False) w a b):PRs w [a] [b]:=⟨rfl,fun i x y hx hy=>by
 cases i with
 | zero=>simp at hx hy;rw [← hx,← hy];exact h
 | succ i=>simp at hx⟩
theorem PRs.vrs {w:World} {vs:List V} {cs:List Value} (h:PRs w vs cs):VRs (fun _ _=>none) (fun _=>False) w vs cs:=⟨h.1,fun i a b ha hb=>(h.2 i a b ha hb).vr⟩
theorem a2y {α β:Type} {f:α→Option β} {l:List α} {us:List β} (h:l.mapM f=some us):us.length=l.length∧∀ (i:Nat) (v:α),l[i]?=some v→∃ u,us[i]?=some u∧f v=some u:=by
 obtain ⟨h1,h2⟩:=ao2 h;refine ⟨h1,fun i v hv=>?_⟩
 have hi:i < us.length:=by rw [h1];exact (List.getElem?_eq_some_iff.1 hv).1
 exact ⟨us[i],List.getElem?_eq_getElem hi,h2 i v _ hv (List.getElem?_eq_getElem hi)⟩
section
variable {H:Type} {enc:TypeId × Value→H} {P:Program} {w:World} {base:Nat} {sp:Nat→Bool} {held:Bool}
theorem add_block (a:Addr) (j:Nat):(a.add j).block=a.block:=by unfold Addr.add;split <;> rfl
theorem a0n {a:Addr} (h:a.spot=none) (j:Nat):(a.add j).off=a.off+j:=by
 unfold Addr.add;split
 ·rename_i e;subst e;rfl
 ·rfl
theorem apu {a:Addr} {n:Nat} {cs:List Value} (h:w.cells? base a n=some cs) (hn:0 < n):∃ arr e fr,w.heap[a.block]?=some (.cells arr e fr)∧a.spot=none∧cs.length=n∧a.off+n≤arr.size∧∀ j,j < n→cs[j]?=arr[a.off+j]?:=by
 unfold World.cells? at h;split at h
 ·obtain ⟨h1,h2⟩:=a2y h;simp only [List.length_range] at h1
  have key:∀ j,j < n→∃ u,cs[j]?=some u∧w.cell? (a.add j)=some u:=fun j hj=>h2 j j (by simp [hj])
  obtain ⟨u0,_,hc0⟩:=key 0 hn;unfold World.cell? at hc0;split at hc0
  ·rename_i c e fr hh;have hbl:∀ j,(a.add j).block=a.block:=fun j=>add_block a j;rw [hbl] at hh;split at hc0
   ·cases hc0
   ·rename_i hsp
    have hsp:a.spot=none:=by
     cases hs:a.spot with
     | none=>rfl
     | some x=>exact absurd (by show (a.add 0).spot.isSome=true;simp [Addr.add,hs]) hsp
    have all:∀ j,j < n→cs[j]?=c[a.off+j]?:=by
     intro j hj;obtain ⟨u,hu,hc⟩:=key j hj;unfold World.cell? at hc;rw [hbl,hh] at hc;simp only [] at hc;split at hc
     ·cases hc
     ·rw [hu];have:(a.add j).off=a.off+j:=a0n hsp j;rw [← this];exact hc.symm
    refine ⟨c,e,fr,hh,hsp,h1,?_,all⟩
    have hl:=all (n - 1) (by omega)
    have:cs[n - 1]?=some cs[n - 1]:=List.getElem?_eq_getElem (by omega)
    rw [this] at hl;have:=(Array.getElem?_eq_some_iff.1 hl.symm).1;omega
  ·cases hc0
 ·cases h
theorem a07 {n:Nat} {k:IntKind} {t:TypeId} (h:akj P n (.int k) t=true):P.underlying t=some (.int k):=by
 cases n with
 | zero=>simp [akj] at h
 | succ n=>
   simp only [akj] at h;split at h <;> simp_all
theorem awn {n:Nat} {t:TypeId} (h:akj P n .bool t=true):P.underlying t=some .bool:=by
 cases n with
 | zero=>simp [akj] at h
 | succ n=>
   simp only [akj] at h;split at h <;> simp_all
theorem a06 {n:Nat} {t:TypeId} (h:akj P n .str t=true):P.underlying t=some .string:=by
 cases n with
 | zero=>simp [akj] at h
 | succ n=>
   simp only [akj] at h;split at h <;> simp_all
theorem a7a {n:Nat} {e:Ty} {t:TypeId} (h:akj P n (.sl e) t=true):∃ m e',P.underlying t=some (.slice e')∧akj P m e e'=true∧P.cellsOf e'=e.width∧0 < e.width:=by
 cases n with
 | zero=>simp [akj] at h
 | succ n=>
   simp only [akj] at h;split at h <;> simp_all;exact ⟨n,h.1.1⟩
theorem a6z {n:Nat} {fs:List Ty} {t:TypeId} (h:akj P n (.st fs) t=true):∃ m gs,P.underlying t=some (.struct gs)∧P.cellsOf t=ahm fs∧ap8 P m 0 fs gs.toList=true:=by
 cases n with
 | zero=>simp [akj] at h
 | succ n=>
   simp only [akj] at h;split at h <;> simp_all;exact ⟨n,h.2⟩
theorem a7n:∀ (fuel n:Nat) (ty:Ty) (t:TypeId) (cs:List Value) (x:DataW H × List MemPlace),akj P n ty t=true→DataW.trod enc P w base sp held fuel t cs=some x→∃ vs,IsV ty vs∧PRs w vs cs:=by
 intro fuel
 induction fuel with
 | zero=>intro n ty t cs x _ h;simp [DataW.trod] at h
 | succ fuel ih=>
   intro n ty t cs x ht h;cases ty with
   | int k=>
     obtain ⟨m,rfl,_,hw⟩:=DataW.trod_int (a07 ht) h;simp only [Lit.wf,ak,jw] at hw;exact ⟨[.s (.int k m)],⟨m,rfl,hw.1,hw.2⟩,PRs.one (.s _)⟩
   | bool=>
     obtain ⟨b,rfl,_⟩:=DataW.trod_bool (awn ht) h;exact ⟨[.s (.bool b)],⟨b,rfl⟩,PRs.one (.s _)⟩
   | str=>
     obtain ⟨b,rfl,_,hb⟩:=DataW.trod_string (a06 ht) h;exact ⟨[.s (.string b)],⟨b,rfl,hb⟩,PRs.one (.s _)⟩
   | sl e=>
     obtain ⟨m,e',hu,he,hw,h0⟩:=a7a ht
     rcases DataW.trod_slice hu h with ⟨rfl,_⟩ | ⟨a,len,cap,elems,rest,n2,hn,rfl,_,hb,hlc,hcm,hel,hall,_⟩
     ·exact ⟨[nu],.inl rfl,PRs.one (.s _)⟩
     ·have hn2:n2=fuel:=by omega
      subst hn2;rw [hw] at hall;by_cases hl:len=0
      ·subst hl
       exact ⟨[.psl [] e.width],.inr ⟨[],rfl,jd _,fun x hx=>by cases hx⟩,PRs.one (.psl0 _ _ _)⟩
      ·
       have one:∀ i,i < len→∃ cs vs,w.cells? base (a.add (i * e.width)) e.width=some cs∧IsV e vs∧PRs w vs cs:=by
        intro i hi;have hh:=hall i hi
        have:elems[i]?=some elems[i]:=List.getElem?_eq_getElem (by omega)
        rw [this,ae] at hh;obtain ⟨cs,h1,h2⟩:=hh;obtain ⟨vs,h3,h4⟩:=ih m e e' cs _ he h2;exact ⟨cs,vs,h1,h3,h4⟩
       obtain ⟨c0,_,hc0,_,_⟩:=one 0 (by omega)
       rw [a0r] at hc0
       have ha0:a.add 0=a:=by simp [Addr.add]
       rw [ha0] at hc0;obtain ⟨arr,el,fr,hB,hsp,_,_,_⟩:=apu hc0 h0
       have pos:∀ i,i < len→∃ vs,IsV e vs∧a.off+i * e.width+e.width≤arr.size∧∀ (j:Nat) (x:V) (y:Value),vs[j]?=some x→arr[a.off+i * e.width+j]?=some y→PR (fun _=>False) w x y:=by
        intro i hi;obtain ⟨cs,vs,h1,h2,h3⟩:=one i hi;obtain ⟨arr',el',fr',hB',_,hcl,hsz,hcj⟩:=apu h1 h0;rw [add_block,hB] at hB';cases hB';rw [a0n hsp] at hsz hcj;refine ⟨vs,h2,hsz,fun j x y hx hy=>?_⟩
        have hj:j < e.width:=by rw [← h2.len];exact (List.getElem?_eq_some_iff.1 hx).1
        exact h3.2 j x y hx (by rw [hcj j hj];exact hy)
       obtain ⟨es,he1,he2⟩:∃ es:List (List V),es.length=len∧∀ i vs,es[i]?=some vs→IsV e vs∧a.off+i * e.width+e.width≤arr.size∧∀ (j:Nat) (x:V) (y:Value),vs[j]?=some x→arr[a.off+i * e.width+j]?=some y→PR (fun _=>False) w x y:=by
        have:∀ k,k≤len→∃ es:List (List V),es.length=k∧∀ i vs,es[i]?=some vs→IsV e vs∧a.off+i * e.width+e.width≤arr.size∧∀ (j:Nat) (x:V) (y:Value),vs[j]?=some x→arr[a.off+i * e.width+j]?=some y→PR (fun _=>False) w x y:=by
         intro k
         induction k with
         | zero=>intro _;exact ⟨[],rfl,fun i vs h=>by simp at h⟩
         | succ k ihk=>
           intro hk
           obtain ⟨es,h1,h2⟩:=ihk (by omega)
           obtain ⟨vs,h3⟩:=pos k (by omega)
           refine ⟨es ++ [vs],by simp [h1],fun i us hi=>?_⟩
           by_cases c:i < es.length
           ·rw [List.getElem?_append_left c] at hi;exact h2 i us hi
           ·rw [List.getElem?_append_right (by omega)] at hi
            have:i - es.length=0:=by
             have:=(List.getElem?_eq_some_iff.1 hi).1;simp at this;omega
            rw [this] at hi;simp at hi
            have hik:i=k:=by omega
            subst hik;subst hi;exact h3
        exact this len (af _)
       refine ⟨[.psl es e.width],.inr ⟨es,rfl,by omega,fun x hx=>?_⟩,PRs.one ?_⟩
       ·obtain ⟨i,hi⟩:=List.mem_iff_getElem?.1 hx;exact (he2 i x hi).1
       ·have hslice:Value.slice (some a) len cap=.slice (some ⟨a.block,a.off,none⟩) es.length cap:=by
         rw [he1]
         congr 2
         cases a;simp at hsp;subst hsp;rfl
        rw [hslice]
        refine .psl es e.width a.block a.off cap arr el fr hB (fun h=>h) (by omega) (fun i vs hi=>(he2 i vs hi).1.len) ?_ (fun i vs j x y hi hx hy=>(he2 i vs hi).2.2 j x y hx hy)
        have hlast:=(he2 (len - 1) es[len - 1] (List.getElem?_eq_getElem (by omega))).2.1
        rw [he1]
        have:len * e.width=(len - 1) * e.width+e.width:=by
         obtain ⟨k,rfl⟩:∃ k,len=k+1:=⟨len - 1,by omega⟩
         rw [agc,uk,a6q]
        omega
   | st fs=>
     obtain ⟨m,gs,hu,hw,hts⟩:=a6z ht;obtain ⟨xs,n2,hn,_,hcl,hxl,hall⟩:=DataW.trod_struct hu h
     have hn2:n2=fuel:=by omega
     subst hn2
     have key:∀ (fs:List Ty) (m off:Nat) (gl:List Field),ap8 P m off fs gl=true→(∀ g∈gl,∃ y,DataW.trod enc P w base sp held n2 g.type ((cs.drop g.offset).take (P.cellsOf g.type))=some y)→off+ahm fs=cs.length→∃ vs,bab fs vs∧PRs w vs (cs.drop off):=by
      intro fs
      induction fs with
      | nil=>
        intro m off gl _ _ ho;refine ⟨[],rfl,?_⟩
        rw [og (by simp [ahm] at ho;omega)]
        exact ⟨rfl,fun i a b h=>by simp at h⟩
      | cons f fs ihf=>
        intro m off gl htk hg ho;cases m with
        | zero=>simp [ap8] at htk
        | succ m=>
          cases gl with
          | nil=>simp [ap8] at htk
          | cons g gl=>
            simp only [ap8,ak,jy] at htk;obtain ⟨⟨⟨h1,h2⟩,h3⟩,h4⟩:=htk;obtain ⟨y,hy⟩:=hg g dn;obtain ⟨va,ha1,ha2⟩:=ih m f g.type _ y h3 hy
            obtain ⟨vb,hb1,hb2⟩:=ihf m (off+f.width) gl h4 (fun g hg'=>hg g (bz _ hg')) (by simp only [ahm] at ho;omega)
            refine ⟨va ++ vb,⟨va,vb,rfl,ha1,hb1⟩,?_⟩;rw [h1,h2] at ha2
            have:cs.drop off=(cs.drop off).take f.width ++ cs.drop (off+f.width):=by
             rw [← acx,ol]
            rw [this];exact ha2.app hb2
     obtain ⟨vs,h1,h2⟩:=key fs m 0 gs.toList hts (fun g hg=>by
      obtain ⟨i,hi⟩:=List.mem_iff_getElem?.1 hg
      have hi':gs[i]?=some g:=by simpa using hi
      have h3:=hall i g hi';have hlt:=(Array.getElem?_eq_some_iff.1 hi').1
      exact ⟨xs[i]'(by omega),by rw [h3];exact List.getElem?_eq_getElem (by omega)⟩) (by omega)
     exact ⟨vs,h1,by simpa using h2⟩
def argV:Ty→List V→V
 | .st _,vs=>.agg vs
 | _,[v]=>v
 | _,_=>.unk
theorem as5 {n:Nat} {ty:Ty} {t:TypeId} {v:Value} {d:DataW H} {ps:List MemPlace} (ht:akj P n ty t=true) (hf:(match ty with | .st _=>∃ vs,v=.agg vs | _=>v.cells.toList=[v])) (h:DataW.Trod enc P w base sp held t v d ps):
 ∃ vs,IsV ty vs∧VR (fun _ _=>none) (fun _=>False) w (argV ty vs) v:=by
 obtain ⟨fuel,h⟩:=h;obtain ⟨vs,h1,h2⟩:=a7n fuel n ty t _ _ ht h;refine ⟨vs,h1,?_⟩
 have one:vs.length=1→v.cells.toList=[v]→∃ x,vs=[x]∧VR (fun _ _=>none) (fun _=>False) w x v:=by
  intro hl hc
  match vs,hl with
  | [x],_=>
    rw [hc] at h2;exact ⟨x,rfl,(h2.2 0 x v rfl rfl).vr⟩
 cases ty with
 | st fs=>
   obtain ⟨us,rfl⟩:=hf;exact ac9 (vs:=us.toList) h2.vrs
 | _=>
   obtain ⟨x,rfl,hx⟩:=one h1.len hf;exact hx
end
end Go.AM
set_option maxRecDepth 100000
namespace Go.Proofs.YtbocmenkkjbigaaDoor
open Go.ChangeShapes Go.WideShapes Go.ChangeAt Go.RowKit Go.AM
theorem mixed:Tryd.prog.follows .mixedOrders=true:=by kernel_rfl
theorem atq {px:PX}:abf Tryd.prog px 27 (.prim bah):=bcz (Go.Proofs.enters_of Tryd.func27 (by kernel_rfl) rfl) (fun s c w=>Any.strings_IndexByte Tryd.idxK s c w)
theorem apx {px:PX}:abf Tryd.prog px 33 (.prim apy):=a9t (t:=Tryd.atoiK_ren.t 5) (Go.Proofs.enters_of Tryd.func33 (by kernel_rfl) rfl) (fun s n h1 h2 w=>Any.strconv_Atoi Tryd.atoiK s n h1 h2 w)
def CT0:Nat→Option CFun
 | 13=>some (.code adh)
 | 16=>some (.code aft)
 | 18=>some (.code adg)
 | 25=>some (.code akb)
 | 26=>some (.code ai6)
 | 27=>some (.prim bah)
 | 28=>some (.code aka)
 | 29=>some (.code aj9)
 | 30=>some (.code aj8)
 | 31=>some (.code aj7)
 | 32=>some (.code aj6)
 | 33=>some (.prim apy)
 | 34=>some (.code aj5)
 | 35=>some (.code afs)
 | 36=>some (.code ai5)
 | 37=>some (.code agt)
 | 38=>some (.code ac4)
 | 39=>some (.code aeg)
 | 49=>some (.code ai3)
 | 50=>some (.code ae0)
 | 51=>some (.code ags)
 | 52=>some (.code alo)
 | 53=>some (.code aln)
 | 60=>some (.code ac3)
 | 61=>some (.code afr)
 | 62=>some (.code afq)
 | 63=>some (.code aex)
 | 64=>some (.code ai0)
 | 65=>some (.code agr)
 | 66=>some (.code aiy)
 | 67=>some (.code aqh)
 | 68=>some (.code aiw)
 | 69=>some (.code aiu)
 | 70=>some (.code afp)
 | 71=>some (.code aet)
 | _=>none
theorem bed:∀ k c,CT0 k=some c→abf Tryd.prog (PXf (fun _=>none)) k c:=by
 intro k c h;unfold CT0 at h;split at h
 ·cases h;exact kw (fun _=>none) a6p
 ·cases h;exact kw (fun _=>none) beb
 ·cases h;exact kw (fun _=>none) bdq
 ·cases h;exact kw (fun _=>none) a6o
 ·cases h;exact kw (fun _=>none) a6n
 ·cases h;exact atq
 ·cases h;exact kw (fun _=>none) a6m
 ·cases h;exact kw (fun _=>none) a6l
 ·cases h;exact kw (fun _=>none) a6k
 ·cases h;exact kw (fun _=>none) a6j
 ·cases h;exact kw (fun _=>none) a6i
 ·cases h;exact apx
 ·cases h;exact kw (fun _=>none) bea
 ·cases h;exact kw (fun _=>none) bd9
 ·cases h;exact kw (fun _=>none) bd8
 ·cases h;exact kw (fun _=>none) bd7
 ·cases h;exact kw (fun _=>none) bd6
 ·cases h;exact kw (fun _=>none) bdp
 ·cases h;exact kw (fun _=>none) bd5
 ·cases h;exact kw (fun _=>none) bd4
 ·cases h;exact kw (fun _=>none) bd3
 ·cases h;exact kw (fun _=>none) bdo
 ·cases h;exact kw (fun _=>none) bdn
 ·cases h;exact kw (fun _=>none) bd2
 ·cases h;exact kw (fun _=>none) bd1
 ·cases h;exact kw (fun _=>none) bd0
 ·cases h;exact kw (fun _=>none) bdz
 ·cases h;exact kw (fun _=>none) bdy
 ·cases h;exact kw (fun _=>none) bdx
 ·cases h;exact kw (fun _=>none) bdw
 ·cases h;exact kw (fun _=>none) bdv
 ·cases h;exact kw (fun _=>none) bdu
 ·cases h;exact kw (fun _=>none) bdt
 ·cases h;exact kw (fun _=>none) bds
 ·cases h;exact kw (fun _=>none) bdr
 ·cases h
theorem tl0:TL CT0:=⟨rfl,rfl,rfl,rfl,rfl,rfl,rfl,rfl,rfl⟩
theorem tr0:RdT CT0:=by constructor <;> rfl
theorem to0:OpsT CT0:=by constructor <;> first | exact tr0 | rfl
theorem ti0:InsT CT0:=by constructor <;> first | exact to0 | rfl
theorem tf0:FunT CT0:=by constructor <;> first | exact ti0 | rfl
theorem avd:abf Tryd.prog (PXf (fun _=>none)) 9 (.prim (a6a CT0)):=a15 mixed bed a2c
theorem a18 {CT:Nat→Option CFun} (hT:CT baf=some (.prim (a6a CT0))):aj1 CT:=fun base _ b hb=>axu hT tf0 rfl tl0 base hb b
theorem a4y (os:Os) (args:Array Value):laidMetH Tryd.prog Rows.readParsesRow.laid ((World.doorLaid Tryd.prog 400 os).forCall (fun _ _=>0) ⟨#[],args,[]⟩).memory:=by
 rw [MakeChecks.laidMetH_plain _ _ _ (by kernel_rfl)]
 exact laidMet_of_run' 8 (by kernel_rfl) (by kernel_rfl)
open Go.AM
section
variable {W V:Vw} {k:Nat}
end
open Go.AM
structure Shift (U V:Vw) (k K:Nat):Prop where
 kind:∀ a,a≤K→V.kind (a+k)=U.kind a
 text:∀ a,a≤K→V.text (a+k)=U.text a
 num:∀ a,a≤K→V.num (a+k)=U.num a
 same:∀ a,a < K→V.same (a+k)=U.same a
 kk:U.kind K=4
 k4:∀ a,a < K→U.kind a≠4
 nm:∀ a,a < K→U.kind a=1→U.text a≠[]
def ShR {α:Type} (k K:Nat) (r s:Except Nat (α × Nat)):Prop:=match r with
 | .ok p=>p.2≤K∧s=.ok (p.1,p.2+k)
 | .error j=>j≤K∧s=.error (j+k)
theorem ShR.bind {α β:Type} {k K a:Nat} {f f':Rx α} {g g':α→Rx β} (h:ShR k K (f a) (f' (a+k))) (hg:∀ x b,b≤K→f a=.ok (x,b)→ShR k K (g x b) (g' x (b+k))):ShR k K (Rx.bind f g a) (Rx.bind f' g' (a+k)):=by
 unfold Rx.bind;unfold ShR at h;cases hf:f a with
 | error j=>
   rw [hf] at h;rw [h.2];exact ⟨h.1,rfl⟩
 | ok p=>
   obtain ⟨x,b⟩:=p;rw [hf] at h;obtain ⟨h1,h2⟩:=h;rw [h2];exact hg x b h1 hf
section
variable {U V:Vw} {k K:Nat}
theorem Shift.isT (h:Shift U V k K) (s:List UInt8) {a:Nat} (ha:a≤K):isT V s (a+k)=isT U s a:=by
 unfold Go.Proofs.YtbocmenkkjbigaaDoor.isT
 rcases x9 a K with q | q
 ·rw [h.same a q,h.kind a ha,h.text a ha]
 ·have e:a=K:=by omega
  rw [h.kind a ha,e,h.kk];simp
theorem Shift.isT_lt (h:Shift U V k K) {s:List UInt8} {a:Nat} (ha:a≤K) (hi:Go.Proofs.YtbocmenkkjbigaaDoor.isT U s a=true):a < K:=by
 rcases x9 a K with hlt | hge
 ·exact hlt
 ·have:a=K:=by omega
  subst this;unfold Go.Proofs.YtbocmenkkjbigaaDoor.isT at hi;rw [h.kk] at hi;simp at hi
theorem Shift.kd (h:Shift U V k K) {n:Nat} (hn:n≠4) {a:Nat} (ha:a≤K):(V.same (a+k) && V.kind (a+k) == n)=(U.same a && U.kind a == n)∧((U.same a && U.kind a == n)=true→a < K):=by
 have h4:((4:Nat) == n)=false:=by rw [fu];exact p9 hn
 rcases x9 a K with hlt | hge
 ·exact ⟨by rw [h.same a hlt,h.kind a ha],fun _=>hlt⟩
 ·have e:a=K:=by omega
  rw [h.kind a ha,e,h.kk,h4,acy,acy]
  exact ⟨rfl,fun e=>by cases e⟩
theorem Shift.name (h:Shift U V k K) {a:Nat} (ha:a≤K):ShR k K (oh U a) (oh V (a+k)):=by
 obtain ⟨h1,h2⟩:=h.kd (n:=1) (by decide) ha
 unfold oh ShR;by_cases hk:(U.same a && U.kind a == 1)=true
 ·rw [cu hk,cu (h1.trans hk),h.text a ha]
  exact ⟨h2 hk,by rw [mr]⟩
 ·rw [dx hk,dx (by rw [h1];exact hk)]
  exact ⟨ha,rfl⟩
theorem Shift.size (h:Shift U V k K) {a:Nat} (ha:a≤K):ShR k K (ru U a) (ru V (a+k)):=by
 obtain ⟨h1,h2⟩:=h.kd (n:=2) (by decide) ha
 unfold ru ShR;by_cases hk:(U.same a && U.kind a == 2)=true
 ·rw [cu hk,cu (h1.trans hk),h.num a ha]
  exact ⟨h2 hk,by rw [mr]⟩
 ·rw [dx hk,dx (by rw [h1];exact hk)]
  exact ⟨ha,rfl⟩
theorem Shift.sign (h:Shift U V k K) (s:List UInt8) {a:Nat} (ha:a≤K):ShR k K (rq U s a) (rq V s (a+k)):=by
 have h1:=h.isT s ha;unfold rq ShR;by_cases hk:Go.Proofs.YtbocmenkkjbigaaDoor.isT U s a=true
 ·rw [cu hk,cu (h1.trans hk)]
  exact ⟨h.isT_lt ha hk,by rw [mr]⟩
 ·rw [dx hk,dx (by rw [h1];exact hk)]
  exact ⟨ha,rfl⟩
theorem Shift.begT (h:Shift U V k K) {a:Nat} (ha:a≤K):begT V (a+k)=begT U a:=by
 unfold Go.Proofs.YtbocmenkkjbigaaDoor.begT
 rcases x9 a K with q | q
 ·rw [h.same a q,h.kind a ha]
 ·have e:a=K:=by omega
  rw [h.kind a ha,e,h.kk];simp
theorem Shift.secT (h:Shift U V k K) (s:List UInt8) {a:Nat} (ha:a < K):secT V s (a+k)=secT U s a∧(secT U s a=true→a+2≤K):=by
 unfold Go.Proofs.YtbocmenkkjbigaaDoor.secT
 rcases x9 (a+1) K with hlt | hge
 ·rw [h.kind a (beo ha),mr,h.same _ hlt,h.kind _ ha,h.text _ ha];exact ⟨rfl,fun _=>hlt⟩
 ·have e:a+1=K:=by omega
  rw [mr,h.kind (a+1) ha,e,h.kk];simp
theorem Shift.list (h:Shift U V k K):∀ (n n':Nat) {acc:List ByteArray} {a:Nat},a≤K→K < a+n→K < a+n'→ShR k K (ab4 U n acc a) (ab4 V n' acc (a+k)):=by
 intro n
 induction n with
 | zero=>intro n' acc a ha hk;omega
 | succ n ih=>
   intro n' acc a ha hk hk';cases n' with
   | zero=>omega
   | succ n'=>
     rw [ab4,ab4,h.isT [41] ha];by_cases hi:Go.Proofs.YtbocmenkkjbigaaDoor.isT U [41] a=true
     ·rw [cu hi,cu hi];exact ⟨ha,rfl⟩
     ·rw [dx hi,dx hi];by_cases h0:acc.length > 0
      ·rw [cu h0,cu h0];refine (h.sign [44] ha).bind fun u b hb hs=>(h.name hb).bind fun x c hc hn=>?_;have:=qw hs;have:=mf hn
       exact ih n' hc (by omega) (by omega)
      ·rw [dx h0,dx h0];refine (h.name ha).bind fun x c hc hn=>?_;have:=mf hn
       exact ih n' hc (by omega) (by omega)
theorem Shift.listT (h:Shift U V k K) {N N':Nat} (hN:K < N) (hN':K < N') {a:Nat} (ha:a≤K):ShR k K (listT U N a) (listT V N' (a+k)):=
 (h.sign [40] ha).bind fun _ b hb _=>(h.list N N' hb (by omega) (by omega)).bind fun _ c hc _=>(h.sign [41] hc).bind fun _ d hd _=>⟨hd,rfl⟩
theorem Shift.phi (h:Shift U V k K):∀ (n n':Nat) {ls xs:List ByteArray} {a:Nat},a≤K→K < a+n→K < a+n'→ShR k K (aq5 U n ls xs a) (aq5 V n' ls xs (a+k)):=by
 intro n
 induction n with
 | zero=>intro n' ls xs a ha hk;omega
 | succ n ih=>
   intro n' ls xs a ha hk hk';cases n' with
   | zero=>omega
   | succ n'=>
     rw [aq5,aq5];refine (h.name ha).bind fun l b hb hl=>(h.sign [58] hb).bind fun u c hc hu=>(h.name hc).bind fun x d hd hx=>?_;have:=mf hl;have:=qw hu;have:=mf hx;rw [h.isT [44] hd];by_cases hi:Go.Proofs.YtbocmenkkjbigaaDoor.isT U [44] d=true
     ·rw [cu hi,cu hi];refine (h.sign [44] hd).bind fun u e he hs=>?_;have:=qw hs
      exact ih n' he (by omega) (by omega)
     ·rw [dx hi,dx hi];exact ⟨hd,rfl⟩
theorem Shift.op (h:Shift U V k K) {N N':Nat} (hN:K < N) (hN':K < N') (o:Nat) (x:InsD) {a:Nat} (ha:a≤K):ShR k K (opT U N o x a) (opT V N' o x (a+k)):=by
 unfold opT;split
 ·exact (h.size ha).bind fun n b hb _=>⟨hb,rfl⟩
 ·exact (h.size ha).bind fun n b hb _=>⟨hb,rfl⟩
 ·exact ⟨ha,rfl⟩
 ·exact (h.name ha).bind fun n b hb _=>⟨hb,rfl⟩
 ·exact (h.name ha).bind fun n b hb _=>⟨hb,rfl⟩
 ·exact (h.name ha).bind fun n b hb _=>⟨hb,rfl⟩
 ·exact (h.sign [91] ha).bind fun _ b hb _=>(h.phi N N' hb (by omega) (by omega)).bind fun p c hc _=>(h.sign [93] hc).bind fun _ d hd _=>⟨hd,rfl⟩
 ·exact (h.name ha).bind fun s b hb _=>(h.size hb).bind fun n c hc _=>⟨hc,rfl⟩
 ·exact (h.name ha).bind fun s b hb _=>(h.sign [44] hb).bind fun _ c hc _=>(h.name hc).bind fun t d hd _=>⟨hd,rfl⟩
 ·exact (h.name ha).bind fun s b hb _=>(h.listT hN hN' hb).bind fun l c hc _=>⟨hc,rfl⟩
 ·exact (h.name ha).bind fun s b hb _=>(h.listT hN hN' hb).bind fun l c hc _=>⟨hc,rfl⟩
 ·exact (h.name ha).bind fun s b hb _=>(h.name hb).bind fun t c hc _=>⟨hc,rfl⟩
 ·exact (h.name ha).bind fun s b hb _=>⟨hb,rfl⟩
 ·dsimp only
  obtain ⟨h1,_⟩:=h.kd (n:=1) (by decide) ha
  rw [h1];by_cases hk:(U.same a && U.kind a == 1)=true
  ·rw [cu hk,cu hk];exact (h.name ha).bind fun n b hb _=>⟨hb,rfl⟩
  ·rw [dx hk,dx hk];exact ⟨ha,rfl⟩
 ·exact ⟨ha,rfl⟩
theorem Shift.ins (h:Shift U V k K) {N N':Nat} (hN:K < N) (hN':K < N') (d:ByteArray) (l:List (List UInt8 × Nat)) {b:Nat} (hb:b≤K) (hd:b < K∨d.data.toList≠[]):ShR k K (avo U N d l b) (avo V N' d l (b+k)):=by
 unfold avo;rw [h.text b hb,h.kind b hb];cases arj l (U.text b) with
 | none=>
   dsimp only;split
   ·rename_i e
    refine ⟨?_,by rw [mr]⟩
    rcases hd with q | q
    ·exact q
    ·exact absurd e q
   ·exact ⟨hb,rfl⟩
 | some o=>
   dsimp only;by_cases h1:U.kind b=1
   ·rw [cu h1,cu h1,mr]
    exact h.op hN hN' o _ (by
     rcases x9 b K with q | q
     ·exact q
     ·have e:b=K:=by omega
      rw [e,h.kk] at h1;cases h1)
   ·rw [dx h1,dx h1];exact ⟨hb,rfl⟩
theorem a0m {l:List UInt8} (h:l≠[]):(bOf l).data.toList≠[]:=by
 simpa [bOf] using h
theorem Shift.instr (h:Shift U V k K) {N N':Nat} (hN:K < N) (hN':K < N') {a:Nat} (ha:a < K):ShR k K (adq U N a) (adq V N' (a+k)):=by
 obtain ⟨h1,h2⟩:=h.secT [61] ha;unfold adq;rw [h1];by_cases hs:Go.Proofs.YtbocmenkkjbigaaDoor.secT U [61] a=true
 ·rw [cu hs,cu hs];have hk:=h2 hs
  have hk1:U.kind a=1:=by
   unfold Go.Proofs.YtbocmenkkjbigaaDoor.secT at hs;rw [ak,jy] at hs;exact hs.1
  rw [h.text a (by omega),mr]
  rcases x9 (a+2) K with q | q
  ·rw [h.same _ q];by_cases hm:U.same (a+2)=true
   ·rw [cu hm,cu hm];exact h.ins hN hN' _ _ hk (Or.inr (a0m (h.nm a ha hk1)))
   ·rw [dx hm,dx hm];exact ⟨hk,rfl⟩
  ·have e:a+2=K:=by omega
   have hd:=a0m (h.nm a ha hk1)
   have u4:U.kind (a+2)=4:=by rw [e,h.kk]
   have v4:V.kind (a+2+k)=4:=by rw [h.kind _ hk,u4]
   have key:∀ (X:Vw) (M c:Nat),X.kind c=4→avo X M (bOf (U.text a)) an6 c=.error c:=by
    intro X M c hc;unfold avo;split
    ·rw [dx hd]
    ·rw [dx (by omega)]
   rw [key U N _ u4,key V N' _ v4]
   have r1:(if U.same (a+2)=true then (.error (a+2):Except Nat (InsD × Nat)) else .error (a+2))=.error (a+2):=by split <;> rfl
   have r2:(if V.same (a+2+k)=true then (.error (a+2+k):Except Nat (InsD × Nat)) else .error (a+2+k))=.error (a+2+k):=by split <;> rfl
   rw [r1,r2];exact ⟨hk,rfl⟩
 ·rw [dx hs,dx hs];exact h.ins hN hN' _ _ (beo ha) (Or.inl ha)
theorem Shift.blk (h:Shift U V k K) {N N':Nat} (hN:K < N) (hN':K < N') (nm:ByteArray) (ps:List ByteArray):∀ (n n':Nat) {bs:List BlkD} {a:Nat},a≤K→K < a+n→K < a+n'→ShR k K (asl U N nm ps n bs a) (asl V N' nm ps n' bs (a+k)):=by
 intro n
 induction n with
 | zero=>intro n' bs a ha hk;omega
 | succ n ih=>
   intro n' bs a ha hk hk';cases n' with
   | zero=>omega
   | succ n'=>
     rw [asl,asl,h.begT ha];by_cases hb:Go.Proofs.YtbocmenkkjbigaaDoor.begT U a=true
     ·rw [cu hb,cu hb];exact ⟨ha,rfl⟩
     rw [dx hb,dx hb]
     rcases x9 a K with hlt | hge
     ·rw [h.kind a ha,h.text a ha,(h.secT [58] hlt).1];by_cases hc:(U.kind a == 3 && U.text a == [125])=true
      ·rw [cu hc,cu hc,mr,h.begT (a:=a+1) hlt];by_cases hb2:Go.Proofs.YtbocmenkkjbigaaDoor.begT U (a+1)=true
       ·rw [cu hb2,cu hb2];exact ⟨hlt,rfl⟩
       ·rw [dx hb2,dx hb2];exact ⟨hlt,rfl⟩
      rw [dx hc,dx hc];by_cases hs:Go.Proofs.YtbocmenkkjbigaaDoor.secT U [58] a=true
      ·rw [cu hs,cu hs,mr]
       exact ih n' ((h.secT [58] hlt).2 hs) (by omega) (by omega)
      rw [dx hs,dx hs]
      by_cases hq:(U.kind a != 1 || bs.length == 0)=true
      ·rw [cu hq,cu hq];split
       ·exact ⟨hlt,by rw [mr]⟩
       ·exact ⟨ha,rfl⟩
      rw [dx hq,dx hq];refine (h.instr hN hN' hlt).bind fun x b hb' hi=>?_;have:=ahb hi
      exact ih n' hb' (by omega) (by omega)
     ·have e:a=K:=by omega
      have k1:V.kind (a+k)=4:=by rw [h.kind a ha,e,h.kk]
      have k2:U.kind a=4:=by rw [e,h.kk]
      have q1:Go.Proofs.YtbocmenkkjbigaaDoor.secT U [58] a=false:=by unfold Go.Proofs.YtbocmenkkjbigaaDoor.secT;rw [k2];rfl
      have q2:Go.Proofs.YtbocmenkkjbigaaDoor.secT V [58] (a+k)=false:=by unfold Go.Proofs.YtbocmenkkjbigaaDoor.secT;rw [k1];rfl
      rw [k1,k2,q1,q2];exact ⟨ha,rfl⟩
theorem Shift.fun' (h:Shift U V k K) {N N':Nat} (hN:K < N) (hN':K < N') {a:Nat} (ha:a < K):ShR k K (awd U N a) (awd V N' (a+k)):=by
 unfold awd;rw [mr]
 exact (h.name ha).bind fun nm b hb _=>(h.listT hN hN' hb).bind fun ps c hc _=>(h.sign [123] hc).bind fun _ d hd _=>h.blk hN hN' nm ps N N' hd (by omega) (by omega)
theorem Shift.par (h:Shift U V k K) {N N':Nat} (hN:K < N) (hN':K < N') (gs:List FunD):∀ (n n':Nat) {fs:List FunD} {a:Nat},a≤K→K < a+n→K < a+n'→match aoo U N n fs a with
 | .ok (fs',b)=>aoo V N' n' (gs ++ fs) (a+k)=.ok (gs ++ fs',b+k)
 | .error j=>j≤K∧aoo V N' n' (gs ++ fs) (a+k)=.error (j+k):=by
 intro n
 induction n with
 | zero=>intro n' fs a ha hk;omega
 | succ n ih=>
   intro n' fs a ha hk hk';cases n' with
   | zero=>omega
   | succ n'=>
     rcases x9 a K with hlt | hge
     ·rw [aoo,aoo,h.kind a ha,h.text a ha,dx (h.k4 a hlt),dx (h.k4 a hlt)]
      by_cases hb:(U.kind a != 1 || U.text a != [102,117,110,99])=true
      ·rw [cu hb,cu hb];exact ⟨ha,rfl⟩
      rw [dx hb,dx hb];have hs:=h.fun' hN hN' hlt;unfold Rx.bind;unfold ShR at hs;cases hf:awd U N a with
      | error j=>
        rw [hf] at hs;dsimp only;rw [hs.2];exact ⟨hs.1,rfl⟩
      | ok p=>
        obtain ⟨f,b⟩:=p;rw [hf] at hs;obtain ⟨s1,s2⟩:=hs;rw [s2];dsimp only at s1 ⊢;have:=(atv hf).1;rw [gy]
        exact ih n' (fs:=fs ++ [f]) s1 (by omega) (by omega)
     ·have e:a=K:=by omega
      have k1:V.kind (a+k)=4:=by rw [h.kind a ha,e,h.kk]
      have k2:U.kind a=4:=by rw [e,h.kk]
      rw [aoo,cu k2,aoo,cu k1]
end
open Go.AM
structure Wd (us:List Tok.T) (ln L:Nat):Prop where
 le:ln≤L
 all:∀ t∈us,t.kind≠4∧(t.kind=1→t.text≠[])∧ln≤t.line∧t.line≤L
theorem Wd.nil (ln:Nat):Wd [] ln ln:=⟨af _,fun t ht=>by simp at ht⟩
theorem Wd.low {us:List Tok.T} {ln ln' L:Nat} (h:Wd us ln L) (hl:ln'≤ln):Wd us ln' L:=⟨ji hl h.le,fun t ht=>by obtain ⟨a,b,c,d⟩:=h.all t ht;exact ⟨a,b,ji hl c,d⟩⟩
theorem Wd.cons {us:List Tok.T} {ln L:Nat} {t:Tok.T} (h:Wd us ln L) (h4:t.kind≠4) (h1:t.kind=1→t.text≠[]) (hl:t.line=ln):Wd (t :: us) ln L:=⟨h.le,fun x hx=>by
 rcases jr.1 hx with rfl | hx
 ·exact ⟨h4,h1,Nat.le_of_eq hl.symm,by rw [hl];exact h.le⟩
 ·exact h.all x hx⟩
theorem bco:∀ (n:Nat) (l:List UInt8) (ln cl:Nat) (ts:List Tok.T),l.length≤n→Tok.lex l ln cl=.done ts→∃ us L c,ts=us ++ [⟨4,[],0,L,c⟩]∧Wd us ln L:=by
 intro n
 induction n with
 | zero=>
   intro l ln cl ts hl h
   have:l=[]:=dw (by omega)
   subst this;rw [Tok.lex_nil] at h;cases h;exact ⟨[],ln,cl,rfl,Wd.nil _⟩
 | succ n ih=>
   intro l ln cl ts hl h;cases l with
   | nil=>
     rw [Tok.lex_nil] at h;cases h;exact ⟨[],ln,cl,rfl,Wd.nil _⟩
   | cons c l=>
     rw [bi] at hl;rw [Tok.lex_cons] at h;split at h
     ·split at h
      ·obtain ⟨us,L,c,e,w⟩:=ih _ _ _ _ (by omega) h
       exact ⟨us,L,c,e,w.low (aih _)⟩
      ·exact ih _ _ _ _ (by omega) h
     split at h
     ·exact ih _ _ _ _ (by rw [gu];omega) h
     split at h
     ·obtain ⟨us,hu,rfl⟩:=Tok.cons_done h
      obtain ⟨vs,L,c,e,w⟩:=ih _ _ _ _ (by rw [gu];omega) hu
      exact ⟨_ :: vs,L,c,by rw [e];rfl,w.cons (fun e=>by cases e) (fun _=>by simp) rfl⟩
     split at h
     ·split at h
      ·cases h
      ·obtain ⟨us,hu,rfl⟩:=Tok.cons_done h
       obtain ⟨vs,L,c,e,w⟩:=ih _ _ _ _ (by rw [gu];omega) hu
       exact ⟨_ :: vs,L,c,by rw [e];rfl,w.cons (fun e=>by cases e) (fun e=>by cases e) rfl⟩
     split at h
     ·obtain ⟨us,hu,rfl⟩:=Tok.cons_done h
      obtain ⟨vs,L,c,e,w⟩:=ih _ _ _ _ (by omega) hu
      exact ⟨_ :: vs,L,c,by rw [e];rfl,w.cons (fun e=>by cases e) (fun e=>by cases e) rfl⟩
     ·cases h
theorem abn {us vs:List Tok.T} {a:Nat} (h:a < us.length):(us ++ vs).getD a tkE=us.getD a tkE:=by
 rw [List.getD_eq_getElem?_getD,List.getElem?_append_left h,← List.getD_eq_getElem?_getD]
theorem azd (us vs:List Tok.T) (a:Nat):(us ++ vs).getD (a+us.length) tkE=vs.getD a tkE:=by
 rw [List.getD_eq_getElem?_getD,List.getElem?_append_right (by omega),agc,← List.getD_eq_getElem?_getD]
theorem atr (us:List Tok.T) (e:Tok.T):(us ++ [e]).getD us.length tkE=e:=by
 have:=azd us [e] 0;rw [j6] at this;rw [this];rfl
theorem Wd.at {us:List Tok.T} {ln L:Nat} (h:Wd us ln L) {a:Nat} (ha:a < us.length):(us.getD a tkE).kind≠4∧((us.getD a tkE).kind=1→(us.getD a tkE).text≠[])∧ln≤(us.getD a tkE).line∧(us.getD a tkE).line≤L:=by
 have e:us.getD a tkE=us[a]:=by rw [List.getD_eq_getElem?_getD,List.getElem?_eq_getElem ha];rfl
 rw [e];exact h.all _ (qj ha)
theorem avj (l:List UInt8) (hl:l.length≤1048576):(∃ us L c,Wd us 1 L∧Tok.lex l 1 1=.done (us ++ [⟨4,[],0,L,c⟩])∧ae8 l=(us ++ [⟨4,[],0,L,c⟩],(0,0),0))∨(∃ e p q,(e=30∨e=31)∧Tok.lex l 1 1=.bad e p q∧ae8 l=([],(p,q),e)):=by
 unfold ae8
 rw [dx (by omega)]
 cases hx:Tok.lex l 1 1 with
 | done ts=>
   obtain ⟨us,L,c,rfl,w⟩:=bco l.length l 1 1 ts (af _) hx;exact Or.inl ⟨us,L,c,w,rfl,rfl⟩
 | bad e p q=>exact Or.inr ⟨e,p,q,(Tok.lex_ahead l.length l (1,1) e p q (af _) hx).1,rfl,rfl⟩
def errR (ts:List Tok.T) (j:Nat):List FunD × (Nat × Nat) × Nat:=([],((ts.getD j tkE).line,(ts.getD j tkE).col),if (ts.getD j tkE).kind=4 then 41 else 40)
def ansR (ts:List Tok.T):Except Nat (List FunD)→List FunD × (Nat × Nat) × Nat
 | .ok fs=>(fs,(0,0),0)
 | .error j=>errR ts j
theorem aon {l:List UInt8} {ts:List Tok.T} (h:ae8 l=(ts,(0,0),0)):ad4 l=ansR ts (bae ts):=by
 unfold ad4;rw [h];dsimp only;rw [cu rfl];cases bae ts <;> rfl
theorem a2b {l:List UInt8} {p q e:Nat} (h:ae8 l=([],(p,q),e)) (he:e=30∨e=31):ad4 l=([],(p,q),e):=by
 unfold ad4;rw [h];dsimp only
 rw [dx (by omega)]
def parV (V:Vw) (n:Nat):Except Nat (List FunD):=match aoo V n n [] 0 with
 | .error e=>.error e
 | .ok (fs,_)=>.ok fs
theorem a5z (ts:List Tok.T):bae ts=parV (Vw.of ts) (ts.length+1):=rfl
open Go.AM
theorem pu.look {m:Nat} {F:Heap} {v:V} {R:List (List V)} (h:pu m 5 F v R):∃ id g,∀ (i:Nat) (r:List V),R[i]?=some r→kz 5 v (.s (.int .i64 i))=some (.ref id g (i * 5))∧∀ H,ah F.length [] F H→si H true 5 (.ref id g (i * 5))=some (.agg r)∧∀ (o:Nat) (x:V),r[o]?=some x→si H false 1 (.ref id g (i * 5+o))=some x:=by
 obtain ⟨hR,⟨rfl,rfl⟩ | ⟨id,g,rfl,hc,hid⟩⟩:=h
 ·exact ⟨0,0,fun i r hr=>by simp at hr⟩
 ·refine ⟨id,g,fun i r hr=>?_⟩
  have key:∀ H,ah F.length [] F H→∃ a,kz 5 (.sl id g 0 R.length 5) (.s (.int .i64 i))=some a∧si H true 5 a=some (.agg r)∧∀ (o:Nat) (x:V),r[o]?=some x→∃ b,xe o a=some b∧si H false 1 b=some x:=fun H k=>(RdW.sl (k.getC hc (ow hc) (by simp)) hR).at' i r hr
  have hi:=(List.getElem?_eq_some_iff.1 hr).1
  have ea:kz 5 (.sl id g 0 R.length 5) (.s (.int .i64 i))=some (.ref id g (i * 5)):=by
   rw [aul,cu ⟨by omega,by omega,rfl⟩,mi,j6]
  refine ⟨ea,fun H k=>?_⟩;obtain ⟨a,a1,a2,a3⟩:=key H k;rw [ea] at a1;cases a1;refine ⟨a2,fun o x hx=>?_⟩;obtain ⟨b,b1,b2⟩:=a3 o x hx;cases b1;exact b2
theorem a3g:∀ (n:Nat) (l:List UInt8) (ln cl:Nat) (ts:List Tok.T),l.length≤n→Tok.lex l ln cl=.done ts→∀ t∈ts,t.line≤ln+l.length:=by
 intro n
 induction n with
 | zero=>
   intro l ln cl ts h e
   obtain rfl:l=[]:=dw (by omega)
   rw [Tok.lex_nil] at e;cases e;simp
 | succ n ih=>
   intro l ln cl ts h e;cases l with
   | nil=>rw [Tok.lex_nil] at e;cases e;simp
   | cons c l=>
     have hl:l.length≤n:=by simpa using h
     have hd:∀ m,(l.drop m).length≤n:=fun m=>by rw [gu];omega
     have hd2:∀ m,(l.drop m).length≤l.length:=fun m=>by rw [gu];omega
     rw [bi];rw [Tok.lex_cons] at e;split at e
     ·split at e
      ·exact fun t ht=>by have:=ih _ _ _ _ hl e t ht;omega
      ·exact fun t ht=>by have:=ih _ _ _ _ hl e t ht;omega
     ·split at e
      ·exact fun t ht=>by have:=ih _ _ _ _ (hd _) e t ht;have:=hd2 (Tok.far Tok.other l);omega
      ·split at e
       ·obtain ⟨us,e1,rfl⟩:=Tok.cons_done e;intro t ht
        rcases jr.1 ht with rfl | ht
        ·simp only;omega
        ·have:=ih _ _ _ _ (hd _) e1 t ht;have:=hd2 (Tok.far Tok.within l);omega
       ·split at e
        ·split at e
         ·cases e
         ·obtain ⟨us,e1,rfl⟩:=Tok.cons_done e;intro t ht
          rcases jr.1 ht with rfl | ht
          ·simp only;omega
          ·have:=ih _ _ _ _ (hd _) e1 t ht;have:=hd2 (Tok.far Tok.digit l);omega
        ·split at e
         ·obtain ⟨us,e1,rfl⟩:=Tok.cons_done e;intro t ht
          rcases jr.1 ht with rfl | ht
          ·simp only;omega
          ·have:=ih _ _ _ _ hl e1 t ht;omega
         ·cases e
theorem bx1 (H:Heap) (a:V) (c:Ob):getC (H ++ [.cells 0 [a]] ++ [c]) H.length 0=some [a]:=il (jb H 0 [a]) (Ext.app _ _)
theorem bx2 (H:Heap) (a b:Ob) (c:Ob):(H ++ [a] ++ [c]).set H.length b=H ++ [b] ++ [c]:=by
 rw [xn _ _ (by rw [jk];omega),qb]
theorem bx3 (H:Heap) (a:Ob) (c:List V):getC (H ++ [a] ++ [.cells 0 c]) (H.length+1) 0=some c:=by
 have:=jb (H ++ [a]) 0 c
 rwa [jk] at this
theorem bx4 (H:Heap) (a:Ob) (b c:Ob):(H ++ [a] ++ [b]).set (H.length+1) c=H ++ [a] ++ [c]:=by
 have:=qb (H ++ [a]) b c
 rwa [jk] at this
theorem bx5 (H:Heap) (a:Ob):(H ++ [a]).length=H.length+1:=jk H a
section
variable {CT:Nat→Option CFun}
theorem amb (hP:aj1 CT) (base:Nat) {H:Heap} (hb:base≤H.length) (b:ByteArray) {p:List FunD × (Nat × Nat) × Nat} (hp:ad4 b.data.toList=p):∃ v H1 H2,fe CT (.fn baf [] []) [.s (.string b)] base H=some (.tup [.agg [v],.agg [.s (.int .i64 p.2.1.1),.s (.int .i64 p.2.1.2)],.s (.int .i64 p.2.2)],H1)∧
 H1 ++ [Ob.cells 0 [v]] ++ [Ob.cells 0 [.s (.int .i64 p.2.1.1),.s (.int .i64 p.2.1.2)]]=H2∧Ext H H2∧base≤H1.length∧base≤H1.length+1∧H2.length=H1.length+2∧H.length≤H1.length∧v.one=true∧abb H2 v p.1∧getC H2 H1.length 0=some [v]∧getC H2 (H1.length+1) 0=some [.s (.int .i64 p.2.1.1),.s (.int .i64 p.2.1.2)]:=by
 obtain ⟨v,H1,h1,e1,h3⟩:=hP base H b hb;rw [hp] at h1 h3;have hr:=h3 H1 fun _ _ _=>rfl;obtain ⟨H2,hH2⟩:∃ X,H1 ++ [Ob.cells 0 [v]] ++ [Ob.cells 0 [.s (.int .i64 p.2.1.1),.s (.int .i64 p.2.1.2)]]=X:=⟨_,rfl⟩;have e2:Ext H1 H2:=hH2 ▸ (Ext.app _ _).trans (Ext.app _ _);have hl:=e1.le
 refine ⟨v,H1,H2,h1,hH2,e1.trans e2,by omega,by omega,by rw [← hH2,jk,jk],hl,hr.one,hr.ext e2,hH2 ▸ bx1 _ _ _,hH2 ▸ bx3 _ _ _⟩
end
end Go.Proofs.YtbocmenkkjbigaaDoor
namespace Go.AM.Tok
def Gap (g:List UInt8):Prop:=∀ (l:List UInt8) (p:Nat × Nat),lex (g ++ l) p.1 p.2=lex l (spotL g p).1 (spotL g p).2
theorem aa2 {a b:List UInt8} (ha:Gap a) (hb:Gap b):Gap (a ++ b):=fun l p=>by
 rw [gy,ha,hb,aat]
theorem ab5 {c:UInt8} (h:blank c=true):Gap [c]:=fun l p=>by
 rw [bep,lex_cons,cu h];simp only [spotL];split <;> rfl
theorem azf {a:List UInt8} (h:∀ x∈a,x≠10):Gap (59 :: a ++ [10]):=fun l p=>by
 have e:far other (a ++ 10 :: l)=a.length:=by
  rw [am9 other a (10 :: l) (fun c hc=>by have:=h c hc;simp [other,this])]
  rfl
 have hb:blank 59=false:=by decide
 rw [gy,aj,lex_cons,hb,dx (by simp),cu rfl]
 rw [show a ++ ([10] ++ l)=a ++ 10 :: l by simp,e,aeo rfl]
 have hsp:spotL (59 :: a ++ [10]) p=(p.1+1,1):=by
  rw [aat,spotL_flat (59 :: a) p (by intro x hx;rcases jr.1 hx with rfl | hx;decide;exact h x hx)]
  rfl
 rw [hsp,lex_cons,cu (by decide),cu rfl]
def Stop (l:List UInt8):Prop:=∀ c m,l=c :: m→within c=false
theorem ajq {p:UInt8→Bool} {w l:List UInt8} (hw:∀ x∈w,p x=true) (hl:∀ c m,l=c :: m→p c=false):far p (w ++ l)=w.length:=by
 rw [am9 p w l hw];cases l with
 | nil=>rfl
 | cons c m=>simp [far,hl c m rfl]
theorem ahv {c:UInt8} (h:digit c=true):within c=true:=by
 unfold within;rw [h];cases letter c <;> rfl
end Go.AM.Tok
set_option maxRecDepth 100000
namespace Go.Proofs.YtbocmenkkjbigaaDoor
open Go.AM Go.AM.Tok
def a90 (t:Tok.T):Prop:=∀ (l:List UInt8) (ln cl:Nat),Stop l→lex (t.text ++ l) ln cl=(lex l ln (cl+t.text.length)).cons { t with line:=ln,col:=cl }
theorem aii {p:UInt8→Bool} (h:∀ c,p c=true→within c=true) {l:List UInt8} (hl:Stop l):∀ c m,l=c :: m→p c=false:=fun c m e=>by
 cases hp:p c with
 | false=>rfl
 | true=>
   have:=h c hp;rw [hl c m e] at this;cases this
def a6h:Nat→List Tok.T→Prop
 | _,[]=>True
 | n,t :: l=>n≤t.line∧a6h t.line l
theorem a6h.low {n m:Nat} {l:List Tok.T} (h:a6h m l) (hn:n≤m):a6h n l:=by
 cases l with
 | nil=>trivial
 | cons t l=>exact ⟨ji hn h.1,h.2⟩
structure Wg (us:List Tok.T) (ln n:Nat):Prop where
 rise:a6h ln us
 len:us.length≤n
 all:∀ t∈us,a90 t∧t.text.length≤n
theorem Wg.up {us:List Tok.T} {ln ln' n m:Nat} (h:Wg us ln n) (hl:ln'≤ln) (hn:n≤m):Wg us ln' m:=⟨h.rise.low hl,ji h.len hn,fun t ht=>⟨(h.all t ht).1,ji (h.all t ht).2 hn⟩⟩
theorem Wg.cons {us:List Tok.T} {ln n m:Nat} {t:Tok.T} (h:Wg us ln n) (hw:a90 t) (ht:t.text.length≤m) (hn:n+1≤m) (hl:t.line=ln):Wg (t :: us) ln m:=⟨⟨Nat.le_of_eq hl.symm,hl ▸ h.rise⟩,by rw [bi];have:=h.len;omega,fun x hx=>by
 rcases jr.1 hx with rfl | hx
 ·exact ⟨hw,ht⟩
 ·exact ⟨(h.all x hx).1,by have:=(h.all x hx).2;omega⟩⟩
theorem bcn:∀ (n:Nat) (l:List UInt8) (ln cl:Nat) (ts:List Tok.T),l.length≤n→lex l ln cl=.done ts→Wg ts.dropLast ln l.length:=by
 intro n
 have nil:∀ ln:Nat,Wg [] ln 0:=fun ln=>⟨trivial,af _,fun t ht=>by simp at ht⟩
 induction n with
 | zero=>
   intro l ln cl ts hl h
   have:l=[]:=dw (by omega)
   subst this;rw [lex_nil] at h;cases h;exact nil _
 | succ n ih=>
   intro l ln cl ts hl h;cases l with
   | nil=>
     rw [lex_nil] at h;cases h;exact nil _
   | cons c l=>
     rw [bi] at hl ⊢
     have hd:∀ m,(l.drop m).length≤n:=fun m=>by rw [gu];omega
     have dl:∀ (m ln cl:Nat) (us:List Tok.T) (t:Tok.T),lex (l.drop m) ln cl=.done us→(t :: us).dropLast=t :: us.dropLast:=fun m ln cl us t e=>List.dropLast_cons_of_ne_nil (fun h=>aro _ _ _ _ (af _) (h ▸ e));rw [lex_cons] at h;split at h
     ·split at h
      ·exact (ih _ _ _ _ (by omega) h).up (aih _) (aih _)
      ·exact (ih _ _ _ _ (by omega) h).up (af _) (aih _)
     rename_i hb;split at h
     ·exact (ih _ _ _ _ (hd _) h).up (af _) (by rw [gu];omega)
     rename_i h59;split at h
     ·rename_i hlt;obtain ⟨us,hu,rfl⟩:=cons_done h;have q:=ih _ _ _ _ (hd _) hu;rw [dl _ _ _ _ _ hu]
      refine q.cons (fun m ln cl hm=>?_) ?_ (by rw [gu];omega) rfl
      ·have e:=ajq (far_take within l) (aii (fun _ h=>h) hm);rw [far_len] at e;dsimp only;rw [aj,lex_cons,dx hb,dx h59,cu hlt,e,aeo (far_len within l),List.take_left' (far_len within l),bi,far_len]
      ·rw [bi,far_len];have:=far_le within l;omega
     rename_i hlt;split at h
     ·rename_i hdg;split at h
      ·cases h
      ·rename_i hcond;obtain ⟨us,hu,rfl⟩:=cons_done h;have q:=ih _ _ _ _ (hd _) hu;rw [dl _ _ _ _ _ hu]
       refine q.cons (fun m ln cl hm=>?_) ?_ (by rw [gu];omega) rfl
       ·have e:=ajq (far_take digit l) (aii (fun _ h=>ahv h) hm);have e2:=ajq (p:=within) (fun x hx=>ahv (far_take digit l x hx)) (aii (fun _ h=>h) hm);rw [far_len] at e e2;dsimp only
        rw [aj,lex_cons,dx hb,dx h59,dx hlt,cu hdg,dx (fun hx=>hcond (by rw [e,e2] at hx;exact hx.imp id (Or.imp id fun h=>by omega))),e,aeo (far_len digit l),List.take_left' (far_len digit l),bi,far_len]
       ·rw [bi,far_len];have:=far_le digit l;omega
     rename_i hdg;split at h
     ·rename_i hs;obtain ⟨us,hu,rfl⟩:=cons_done h
      have q:=ih _ _ _ _ (by omega) hu
      have e0:=dl 0 ln (cl+1) us ⟨3,[c],0,ln,cl⟩ (by rw [fq];exact hu)
      rw [e0]
      refine q.cons (fun m ln cl hm=>?_) (by simp) (af _) rfl
      show lex (c :: m) ln cl=_;rw [lex_cons,dx hb,dx h59,dx hlt,dx hdg,cu hs];rfl
     ·cases h
def ajl:List (List UInt8 × Tok.T)→List UInt8
 | []=>[]
 | x :: l=>x.1 ++ (x.2.text ++ ajl l)
def aee:List (List UInt8 × Tok.T)→Nat × Nat→List Tok.T
 | [],_=>[]
 | x :: l,p=>{ x.2 with line:=(spotL x.1 p).1,col:=(spotL x.1 p).2 } :: aee l ((spotL x.1 p).1,(spotL x.1 p).2+x.2.text.length)
structure GapOk (g:List UInt8):Prop where
 gap:Gap g
 stop:∃ c m,g=c :: m∧within c=false
theorem GapOk.st {g:List UInt8} (h:GapOk g) (l:List UInt8):Stop (g ++ l):=by
 obtain ⟨c,m,rfl,hc⟩:=h.stop;intro d k e;rw [aj] at e;cases e;exact hc
theorem atg {e:List UInt8} (he:Stop e):∀ (l:List (List UInt8 × Tok.T)) (p:Nat × Nat),(∀ x∈l,GapOk x.1∧a90 x.2)→(∀ p:Nat × Nat,∃ L c,lex e p.1 p.2=.done [⟨4,[],0,L,c⟩])→∃ L c,lex (ajl l ++ e) p.1 p.2=.done (aee l p ++ [⟨4,[],0,L,c⟩])
 | [],p,_,h=>h p
 | x :: l,p,hx,h=>by
   obtain ⟨h1,h2⟩:=hx x dn;obtain ⟨L,c,ih⟩:=atg he l ((spotL x.1 p).1,(spotL x.1 p).2+x.2.text.length) (fun y hy=>hx y (bz _ hy)) h
   have hst:Stop (ajl l ++ e):=by
    cases l with
    | nil=>exact he
    | cons y l=>
      rw [ajl,gy];exact (hx y (bz _ dn)).1.st _
   refine ⟨L,c,?_⟩;rw [ajl,gy,gy,h1.gap,h2 _ _ _ hst,ih];rfl
def azg (g:Nat):List UInt8:=[[10],[32,59,32,120,32,61,32,40,10],[10,10,9,10],[13,10,59,10,32,32]].getD (g % 4) []
def azh (g:Nat):List UInt8:=[[32],[9],[32,32],[32,9,32]].getD (g % 4) []
theorem amw (g:Nat):GapOk (azg g)∧(∀ p:Nat × Nat,p.1 < (spotL (azg g) p).1)∧(azg g).length≤9:=by
 have b32:=ab5 (c:=32) (by decide)
 have b9:=ab5 (c:=9) (by decide)
 have b10:=ab5 (c:=10) (by decide)
 have b13:=ab5 (c:=13) (by decide)
 unfold azg
 have h4:g % 4 < 4:=ano _ (by decide)
 generalize g % 4=k at h4
 match k,h4 with
 | 0,_=>exact ⟨⟨b10,_,_,rfl,by decide⟩,fun p=>aj2 _,by decide⟩
 | 1,_=>exact ⟨⟨aa2 b32 (azf (a:=[32,120,32,61,32,40]) (by decide)),_,_,rfl,by decide⟩,fun p=>aj2 _,by decide⟩
 | 2,_=>exact ⟨⟨aa2 b10 (aa2 b10 (aa2 b9 b10)),_,_,rfl,by decide⟩,fun p=>by show p.1 < p.1+1+1+1;omega,by decide⟩
 | 3,_=>exact ⟨⟨aa2 b13 (aa2 b10 (aa2 (azf (a:=[]) (by simp)) (aa2 b32 b32))),_,_,rfl,by decide⟩,fun p=>by show p.1 < p.1+1+1;omega,by decide⟩
 | k+4,h=>omega
theorem amx (g:Nat):GapOk (azh g)∧(∀ p:Nat × Nat,(spotL (azh g) p).1=p.1)∧(azh g).length≤9:=by
 have b32:=ab5 (c:=32) (by decide)
 have b9:=ab5 (c:=9) (by decide)
 unfold azh
 have h4:g % 4 < 4:=ano _ (by decide)
 generalize g % 4=k at h4
 match k,h4 with
 | 0,_=>exact ⟨⟨b32,_,_,rfl,by decide⟩,fun p=>rfl,by decide⟩
 | 1,_=>exact ⟨⟨b9,_,_,rfl,by decide⟩,fun p=>rfl,by decide⟩
 | 2,_=>exact ⟨⟨aa2 b32 b32,_,_,rfl,by decide⟩,fun p=>rfl,by decide⟩
 | 3,_=>exact ⟨⟨aa2 b32 (aa2 b9 b32),_,_,rfl,by decide⟩,fun p=>rfl,by decide⟩
 | k+4,h=>omega
def agm:List UInt8:=[10,59,32,101,110,100]
theorem awt:Stop agm∧∀ p:Nat × Nat,∃ L c,lex agm p.1 p.2=.done [⟨4,[],0,L,c⟩]:=by
 refine ⟨fun c m e=>by cases e;decide,fun p=>⟨p.1+1,6,?_⟩⟩
 unfold agm
 rw [lex_cons,cu (by decide),cu rfl,lex_cons,dx (by decide),cu rfl]
 have e:far other [32,101,110,100]=4:=by decide
 rw [e];simp only [dz,fq];rw [lex_nil]
def reL (gs:Nat→Nat):Nat→Nat→List Tok.T→List (List UInt8 × Tok.T)
 | _,_,[]=>[]
 | i,pl,t :: us=>(if pl < t.line then azg (gs i) else azh (gs i),t) :: reL gs (i+1) (if pl < t.line then t.line else pl) us
theorem amd (gs:Nat→Nat):∀ (us:List Tok.T) (i pl:Nat),∀ x∈reL gs i pl us,GapOk x.1∧x.1.length≤9∧x.2∈us
 | [],_,_=>fun x hx=>by simp [reL] at hx
 | t :: us,i,pl=>fun x hx=>by
   rw [reL] at hx
   rcases jr.1 hx with rfl | hx
   ·dsimp only;split
    ·exact ⟨(amw _).1,(amw _).2.2,dn⟩
    ·exact ⟨(amx _).1,(amx _).2.2,dn⟩
   ·obtain ⟨h1,h2,h3⟩:=amd gs us _ _ x hx;exact ⟨h1,h2,bz _ h3⟩
theorem amc (gs:Nat→Nat):∀ (us:List Tok.T) (i pl:Nat),(reL gs i pl us).length=us.length
 | [],_,_=>rfl
 | t :: us,i,pl=>by rw [reL,bi,bi,amc gs us]
theorem ath {n:Nat}:∀ (l:List (List UInt8 × Tok.T)),(∀ x∈l,x.1.length≤9∧x.2.text.length≤n)→(ajl l).length≤l.length * (9+n)
 | [],_=>jd _
 | x :: l,h=>by
   have h1:=h x dn;have h2:=ath l fun y hy=>h y (bz _ hy);rw [ajl,bq,bq,bi,Nat.succ_mul];omega
theorem aij:∀ (l:List (List UInt8 × Tok.T)) (p:Nat × Nat),(aee l p).length=l.length
 | [],_=>rfl
 | x :: l,p=>by rw [aee,bi,bi,aij l]
theorem awi (gs:Nat→Nat):∀ (us:List Tok.T) (i pl:Nat) (p:Nat × Nat) (a:Nat),((aee (reL gs i pl us) p).getD a tkE).kind=(us.getD a tkE).kind∧((aee (reL gs i pl us) p).getD a tkE).text=(us.getD a tkE).text∧((aee (reL gs i pl us) p).getD a tkE).n=(us.getD a tkE).n
 | [],_,_,_,a=>⟨rfl,rfl,rfl⟩
 | t :: us,i,pl,p,0=>⟨rfl,rfl,rfl⟩
 | t :: us,i,pl,p,a+1=>awi gs us _ _ _ a
theorem aun (gs:Nat→Nat) (t:Tok.T) (us:List Tok.T) (i pl:Nat) (p:Nat × Nat) (h:pl≤t.line):(p.1 == ((aee (reL gs i pl (t :: us)) p).getD 0 tkE).line)=(pl == t.line):=by
 show (p.1 == (spotL (if pl < t.line then azg (gs i) else azh (gs i)) p).1)=_
 by_cases hl:pl < t.line
 ·rw [cu hl,fu.2 (show pl≠t.line by omega),fu]
  have:=(amw (gs i)).2.1 p;omega
 ·rw [dx hl,(amx (gs i)).2.1 p,jq,jy.2 (show pl=t.line by omega)]
theorem aki (gs:Nat→Nat):∀ (us:List Tok.T) (i pl:Nat) (p:Nat × Nat),a6h pl us→∀ a,a+1 < us.length→(((aee (reL gs i pl us) p).getD a tkE).line == ((aee (reL gs i pl us) p).getD (a+1) tkE).line)=((us.getD a tkE).line == (us.getD (a+1) tkE).line)
 | [],_,_,_,_,a,ha=>by simp at ha
 | [t],_,_,_,_,a,ha=>by simp at ha
 | t :: u :: us,i,pl,p,h,0,_=>by
   obtain ⟨h1,h2⟩:=h
   have e:(if pl < t.line then t.line else pl)=t.line:=by split <;> omega
   have:=aun gs u us (i+1) t.line ((spotL (if pl < t.line then azg (gs i) else azh (gs i)) p).1,(spotL (if pl < t.line then azg (gs i) else azh (gs i)) p).2+t.text.length) h2.1
   rw [reL,e];exact this
 | t :: u :: us,i,pl,p,h,a+1,ha=>by
   obtain ⟨h1,h2⟩:=h
   have e:(if pl < t.line then t.line else pl)=t.line:=by split <;> omega
   rw [reL,e]
   exact aki gs (u :: us) (i+1) t.line _ h2 a (by simpa using ha)
theorem aw5 {us:List Tok.T} {L c L' c':Nat} (h:Wd us 1 L) (hr:a6h 1 us) (gs:Nat→Nat):Shift (Vw.of (us ++ [⟨4,[],0,L,c⟩])) (Vw.of (aee (reL gs 0 1 us) (1,1) ++ [⟨4,[],0,L',c'⟩])) 0 us.length:=by
 obtain ⟨ws,hws⟩:∃ x,aee (reL gs 0 1 us) (1,1)=x:=⟨_,rfl⟩
 have lw:ws.length=us.length:=by rw [← hws,aij,amc]
 have kd:=awi gs us 0 1 (1,1);have ln:=aki gs us 0 1 (1,1) hr;rw [hws] at kd ln ⊢;have e1:=atr us (⟨4,[],0,L,c⟩:Tok.T);have e2:=atr ws (⟨4,[],0,L',c'⟩:Tok.T);rw [lw] at e2
 have key:∀ a,a≤us.length→((ws ++ [(⟨4,[],0,L',c'⟩:Tok.T)]).getD a tkE).kind=((us ++ [(⟨4,[],0,L,c⟩:Tok.T)]).getD a tkE).kind∧((ws ++ [(⟨4,[],0,L',c'⟩:Tok.T)]).getD a tkE).text=((us ++ [(⟨4,[],0,L,c⟩:Tok.T)]).getD a tkE).text∧((ws ++ [(⟨4,[],0,L',c'⟩:Tok.T)]).getD a tkE).n=((us ++ [(⟨4,[],0,L,c⟩:Tok.T)]).getD a tkE).n:=by
  intro a ha
  rcases x9 a us.length with q | q
  ·rw [abn (by omega),abn q]
   exact kd a
  ·have e:a=us.length:=by omega
   rw [e,e1,e2];exact ⟨rfl,rfl,rfl⟩
 refine ⟨fun a ha=>(key a ha).1,fun a ha=>(key a ha).2.1,fun a ha=>(key a ha).2.2,fun a ha=>?_,lm Tok.T.kind e1,fun a ha=>?_,fun a ha=>?_⟩
 ·show (decide (a > 0) && ((ws ++ [_]).getD (a - 1) tkE).line == ((ws ++ [_]).getD a tkE).line)=(decide (a > 0) && ((us ++ [_]).getD (a - 1) tkE).line == ((us ++ [_]).getD a tkE).line)
  rw [abn (show a < ws.length by omega),abn (show a - 1 < ws.length by omega),abn ha,abn (show a - 1 < us.length by omega)]
  cases a with
  | zero=>rfl
  | succ a=>rw [agc,ln a ha]
 ·show ((us ++ [_]).getD a tkE).kind≠4;rw [abn ha];exact (h.at ha).1
 ·show ((us ++ [_]).getD a tkE).kind=1→((us ++ [_]).getD a tkE).text≠[];rw [abn ha];exact (h.at ha).2.1
theorem a0j {l:List UInt8} (hl:l.length≤1000) (gs:Nat→Nat):
 ((ae8 l).2.2≠0→(ad4 l).2.2=(ae8 l).2.2∧(ad4 l).1=[])∧
 ((ae8 l).2.2=0→∃ us e,(ae8 l).1=us ++ [e]∧us.length≤1000∧(∀ t∈us,t.text.length≤1000∧t.line≤1+l.length)∧a6h 1 us∧(ajl (reL gs 0 1 us)).length≤1009000∧(ad4 (ajl (reL gs 0 1 us) ++ agm)).1=(ad4 l).1∧(ad4 (ajl (reL gs 0 1 us) ++ agm)).2.2=(ad4 l).2.2):=by
 rcases avj l (by omega) with ⟨us,L,c,w,h1,h2⟩ | ⟨e,p,q,he,h1,h2⟩
 ·refine ⟨fun h=>absurd (by rw [h2]) h,fun _=>?_⟩
  have wg:=bcn _ l 1 1 _ (af _) h1;rw [beu] at wg;have hln:=w.all
  have hL:L≤1+l.length:=by
   have:=a3g _ _ _ _ _ (af _) h1 ⟨4,[],0,L,c⟩ (by simp)
   exact this
  have hlen:(ajl (reL gs 0 1 us)).length≤1009000:=by
   have q:=ath (n:=1000) (reL gs 0 1 us) fun x hx=>by
    obtain ⟨_,a2,a3⟩:=amd gs us 0 1 x hx
    exact ⟨a2,by have:=(wg.all _ a3).2;omega⟩
   rw [amc] at q;have:=wg.len
   have:us.length * (9+1000)≤1000 * (9+1000):=ku _ (by omega)
   omega
  refine ⟨us,_,by rw [h2],by have:=wg.len;omega,fun t ht=>⟨by have:=(wg.all t ht).2;omega,by have:=(hln t ht).2.2.2;omega⟩,wg.rise,hlen,?_⟩
  obtain ⟨L',c',hx⟩:=atg awt.1 (reL gs 0 1 us) (1,1) (fun x hx=>⟨(amd gs us 0 1 x hx).1,(wg.all _ (amd gs us 0 1 x hx).2.2).1⟩) awt.2
  have hlx:ae8 (ajl (reL gs 0 1 us) ++ agm)=(aee (reL gs 0 1 us) (1,1) ++ [⟨4,[],0,L',c'⟩],(0,0),0):=by
   unfold ae8
   have:(ajl (reL gs 0 1 us) ++ agm).length=(ajl (reL gs 0 1 us)).length+6:=by rw [bq];rfl
   rw [dx (by omega),hx]
  have S:=aw5 (c:=c) (L':=L') (c':=c') w wg.rise gs
  have lw:(aee (reL gs 0 1 us) (1,1)).length=us.length:=by rw [aij,amc]
  have sp:=S.par (N:=us.length+1+1) (N':=us.length+1+1) (by omega) (by omega) [] (us.length+1+1) (us.length+1+1) (fs:=[]) (a:=0) (jd _) (by omega) (by omega)
  rw [aon hlx,aon h2,a5z,a5z,bq,bq,lw,az];unfold parV;rw [dh,j6] at sp;cases hp:aoo (Vw.of (us ++ [⟨4,[],0,L,c⟩])) (us.length+1+1) (us.length+1+1) [] 0 with
  | ok r=>
    rw [hp] at sp;dsimp only at sp;rw [sp];exact ⟨rfl,rfl⟩
  | error j=>
    rw [hp] at sp;rw [sp.2];refine ⟨rfl,?_⟩;have:=S.kind j sp.1
    show (if (((aee (reL gs 0 1 us) (1,1)) ++ [(⟨4,[],0,L',c'⟩:Tok.T)]).getD (j+0) tkE).kind=4 then 41 else 40)=(if ((us ++ [(⟨4,[],0,L,c⟩:Tok.T)]).getD j tkE).kind=4 then 41 else 40)
    rw [show (((aee (reL gs 0 1 us) (1,1)) ++ [(⟨4,[],0,L',c'⟩:Tok.T)]).getD (j+0) tkE).kind=((us ++ [(⟨4,[],0,L,c⟩:Tok.T)]).getD j tkE).kind from this]
 ·rw [a2b h2 he,h2]
  exact ⟨fun _=>⟨rfl,rfl⟩,fun h=>absurd h (by show e≠0;omega)⟩
open Go.AM
abbrev k_f4:Nat:=4
def K4_0:List Nat:=List.range' 2 124
theorem au4:zg K4_0 (qa 126 [] 2)=[]:=by kernel_rfl
def R4_0:LO:=[q 4 (.move (.c (.s (.bool false))))]
def R4_1:LO:=[oM 21 0,q 22 (.lenS .p (.t 21)),q 23 (.bin .gtr (.t 22) (.c (.s (.int .i64 1000))))]
def R4_2:LO:=[q 4 (.move (.c (.s (.bool true))))]
def R4_3t6:LO:=[oM 7 29]
def R4_3t5:LO:=⟨none,.store 2 (.t 6) (.t 28),none⟩ :: R4_3t6
def R4_3p4:LO:=[oM 5 27]
def R4_3t4:LO:=R4_3p4 ++ R4_3t5
def R4_3t3:LO:=⟨some 6,.alloc [.s (.int .i64 0),.s (.int .i64 0)],none⟩ :: R4_3t4
def R4_3p2:LO:=[oM 24 26,q 27 (.extract (.t 24) 0),q 28 (.extract (.t 24) 1),q 29 (.extract (.t 24) 2)]
def R4_3t2:LO:=R4_3p2 ++ R4_3t3
def R4_3t1:LO:=⟨some 26,.call (.c (.fn 13 [] [])) [.t 25],none⟩ :: R4_3t2
def R4_3p0:LO:=[oM 25 0]
def R4_3:LO:=R4_3p0 ++ R4_3t1
def R4_4:LO:=[oM 30 7,q 31 (.bin .neq (.t 30) (.c (.s (.int .i64 0))))]
def R4_5t7:LO:=[oM 10 37]
def R4_5t6:LO:=⟨none,.store 2 (.t 9) (.t 36),none⟩ :: R4_5t7
def R4_5t5:LO:=⟨none,.store 1 (.t 8) (.t 35),none⟩ :: R4_5t6
def R4_5t4:LO:=⟨some 9,.alloc [.s (.int .i64 0),.s (.int .i64 0)],none⟩ :: R4_5t5
def R4_5t3:LO:=⟨some 8,.alloc [.s (.slice none 0 0)],none⟩ :: R4_5t4
def R4_5p2:LO:=[oM 32 34,q 35 (.extract (.t 32) 0),q 36 (.extract (.t 32) 1),q 37 (.extract (.t 32) 2)]
def R4_5t2:LO:=R4_5p2 ++ R4_5t3
def R4_5t1:LO:=⟨some 34,.call (.c (.fn 9 [] [])) [.t 33],none⟩ :: R4_5t2
def R4_5p0:LO:=[oM 33 0]
def R4_5:LO:=R4_5p0 ++ R4_5t1
def R4_6t2:LO:=[q 49 (.pick (.t 47) (.t 48) (.c (.s (.bool false)))),oM 4 49]
def R4_6t1:LO:=⟨some 48,.call (.c (.fn 12 [] [])) [],some (47,true)⟩ :: R4_6t2
def R4_6p0:LO:=[oM 38 10,oM 39 7,q 40 (.bin .eql (.t 38) (.t 39)),oM 41 40,gF 42 0 8 41 true,gL 43 42 41 true,qg 44 (.lenS .s (.t 43)) 41 true,qg 45 (.bin .eql (.t 44) (.c (.s (.int .i64 0)))) 41 true,q 46 (.pick (.t 41) (.t 45) (.c (.s (.bool false)))),oM 47 46]
def R4_6:LO:=R4_6p0 ++ R4_6t1
def R4_7:LO:=[q 11 (.move (.c (.s (.string ⟨#[]⟩))))]
def R4_8:LO:=[q 12 (.move (.c (.s (.int .i64 1))))]
def R4_9:LO:=[q 13 (.move (.c (.s (.int .i64 0))))]
def R4_10:LO:=[oM 50 13,q 51 (.bin .add (.t 50) (.c (.s (.int .i64 1)))),oM 52 5,q 53 (.lenS .s (.t 52)),q 54 (.bin .lss (.t 51) (.t 53))]
def R4_11:LO:=[q 14 (.move (.c (.s (.int .u8 0))))]
def R4_12:LO:=[oM 57 1,q 58 (.lenS .s (.t 57)),q 59 (.bin .gtr (.t 58) (.c (.s (.int .i64 0))))]
def R4_13:LO:=[oM 60 1,oM 61 13,oM 62 1,q 63 (.lenS .s (.t 62)),q 64 (.bin .rem (.t 61) (.t 63)),q 65 (.indexAddr 1 (.t 60) (.t 64)),oL 66 65,oM 14 66]
def R4_14:LO:=[oM 67 5,oM 68 13,q 69 (.indexAddr 5 (.t 67) (.t 68)),oF 70 3 69,oF 71 0 70,oL 72 71,oM 73 12,q 74 (.bin .gtr (.t 72) (.t 73))]
def R4_15t2:LO:=[oM 77 14,q 78 (.bin .rem (.t 77) (.c (.s (.int .u8 4)))),q 79 (.indexAddr 1 (.t 76) (.t 78)),oL 80 79,q 81 (.bin .add (.t 75) (.t 80)),oM 11 81]
def R4_15t1:LO:=⟨some 76,.buildSl 1 4 [.s (.string ⟨#[]⟩),.s (.string ⟨#[]⟩),.s (.string ⟨#[]⟩),.s (.string ⟨#[]⟩)] [(0,.c (.s (.string ⟨#[10]⟩))),(1,.c (.s (.string ⟨#[32,59,32,120,32,61,32,40,10]⟩))),(2,.c (.s (.string ⟨#[10,10,9,10]⟩))),(3,.c (.s (.string ⟨#[13,10,59,10,32,32]⟩)))],none⟩ :: R4_15t2
def R4_15p0:LO:=[oM 75 11]
def R4_15:LO:=R4_15p0 ++ R4_15t1
def R4_16:LO:=[oM 82 5,oM 83 13,q 84 (.indexAddr 5 (.t 82) (.t 83)),oF 85 3 84,oF 86 0 85,oL 87 86,oM 12 87]
def R4_17t2:LO:=[oM 90 14,q 91 (.bin .rem (.t 90) (.c (.s (.int .u8 4)))),q 92 (.indexAddr 1 (.t 89) (.t 91)),oL 93 92,q 94 (.bin .add (.t 88) (.t 93)),oM 11 94]
def R4_17t1:LO:=⟨some 89,.buildSl 1 4 [.s (.string ⟨#[]⟩),.s (.string ⟨#[]⟩),.s (.string ⟨#[]⟩),.s (.string ⟨#[]⟩)] [(0,.c (.s (.string ⟨#[32]⟩))),(1,.c (.s (.string ⟨#[9]⟩))),(2,.c (.s (.string ⟨#[32,32]⟩))),(3,.c (.s (.string ⟨#[32,9,32]⟩)))],none⟩ :: R4_17t2
def R4_17p0:LO:=[oM 88 11]
def R4_17:LO:=R4_17p0 ++ R4_17t1
def R4_18:LO:=[oM 95 11,oM 96 5,oM 97 13,q 98 (.indexAddr 5 (.t 96) (.t 97)),oF 99 1 98,oL 100 99,q 101 (.bin .add (.t 95) (.t 100)),oM 11 101]
def R4_19:LO:=[oM 55 13,q 56 (.bin .add (.t 55) (.c (.s (.int .i64 1)))),oM 13 56]
def ai1:ACode:=
 (.seq (.seq (.regionE R4_10 [50,51,52,53] [54])
 (.cond (.t 54)
 .skip
 (.exit 0)))
 (.seq (.block 1
 (.seq (.regionE R4_11 [54] [14])
 (.seq (.seq (.regionE R4_12 [57,58] [59])
 (.cond (.t 59)
 (.regionE R4_13 [59,60,61,62,63,64,65,66] [14])
 .skip))
 (.seq (.seq (.regionE R4_14 [59,67,68,69,70,71,72,73] [74])
 (.cond (.t 74)
 (.seq (.region R4_15 [] [12,14,74,75,76,77,78,79,80,81])
 (.regionE R4_16 [82,83,84,85,86,87] [12]))
 (.region R4_17 [] [14,74,88,89,90,91,92,93,94])))
 (.regionE R4_18 [95,96,97,98,99,100,101] [11])))))
 (.regionE R4_19 [55,56] [13])))
def aqm:ACode:=ai1
def R4_20t7:LO:=[oM 17 107]
def R4_20t6:LO:=⟨none,.store 2 (.t 16) (.t 106),none⟩ :: R4_20t7
def R4_20t5:LO:=⟨none,.store 1 (.t 15) (.t 105),none⟩ :: R4_20t6
def R4_20t4:LO:=⟨some 16,.alloc [.s (.int .i64 0),.s (.int .i64 0)],none⟩ :: R4_20t5
def R4_20t3:LO:=⟨some 15,.alloc [.s (.slice none 0 0)],none⟩ :: R4_20t4
def R4_20p2:LO:=[oM 102 104,q 105 (.extract (.t 102) 0),q 106 (.extract (.t 102) 1),q 107 (.extract (.t 102) 2)]
def R4_20t2:LO:=R4_20p2 ++ R4_20t3
def R4_20t1:LO:=⟨some 104,.call (.c (.fn 9 [] [])) [.t 103],none⟩ :: R4_20t2
def R4_20p0:LO:=[oM 103 0]
def R4_20:LO:=R4_20p0 ++ R4_20t1
def R4_21t7:LO:=[oM 20 114]
def R4_21t6:LO:=⟨none,.store 2 (.t 19) (.t 113),none⟩ :: R4_21t7
def R4_21t5:LO:=⟨none,.store 1 (.t 18) (.t 112),none⟩ :: R4_21t6
def R4_21t4:LO:=⟨some 19,.alloc [.s (.int .i64 0),.s (.int .i64 0)],none⟩ :: R4_21t5
def R4_21t3:LO:=⟨some 18,.alloc [.s (.slice none 0 0)],none⟩ :: R4_21t4
def R4_21p2:LO:=[oM 108 111,q 112 (.extract (.t 108) 0),q 113 (.extract (.t 108) 1),q 114 (.extract (.t 108) 2)]
def R4_21t2:LO:=R4_21p2 ++ R4_21t3
def R4_21t1:LO:=⟨some 111,.call (.c (.fn 9 [] [])) [.t 110],none⟩ :: R4_21t2
def R4_21p0:LO:=[oM 109 11,q 110 (.bin .add (.t 109) (.c (.s (.string ⟨#[10,59,32,101,110,100]⟩))))]
def R4_21:LO:=R4_21p0 ++ R4_21t1
def R4_22t4:LO:=[q 125 (.pick (.t 123) (.t 124) (.c (.s (.bool false)))),oM 4 125]
def R4_22t3:LO:=⟨some 124,.call (.c (.fn 12 [] [])) [],some (123,true)⟩ :: R4_22t4
def R4_22p2:LO:=[oM 118 117,gM 119 17 118 true,gM 120 20 118 true,qg 121 (.bin .eql (.t 119) (.t 120)) 118 true,q 122 (.pick (.t 118) (.t 121) (.c (.s (.bool false)))),oM 123 122]
def R4_22t2:LO:=R4_22p2 ++ R4_22t3
def R4_22t1:LO:=⟨some 117,.call (.c (.fn 11 [] [])) [.t 115,.t 116],none⟩ :: R4_22t2
def R4_22p0:LO:=[q 115 (.load true 1 (.t 15)),q 116 (.load true 1 (.t 18))]
def R4_22:LO:=R4_22p0 ++ R4_22t1
def asz:ACFun:={ ntmps:=126,results:=[.tmp 4],body:=
 (.seq (.regionE R4_0 K4_0 [])
 (.seq (.seq (.regionE R4_1 [21,22] [23])
 (.cond (.t 23)
 (.seq (.regionE R4_2 [0,1,23] [4])
 .ret)
 .skip))
 (.seq (.region R4_3 [] [6,23,24,25,26,27,28,29])
 (.seq (.seq (.regionE R4_4 [30] [31])
 (.cond (.t 31)
 (.seq (.region R4_5 [] [0,1,5,9,31,32,33,34,35,36,37])
 (.seq (.region R4_6 [] [7,8,10,38,39,40,41,42,43,44,45,46,47,48,49])
 .ret))
 .skip))
 (.seq (.regionE R4_7 [7,31] [11])
 (.seq (.regionE R4_8 [] [12])
 (.seq (.seq (.regionE R4_9 [] [13])
 (.block 0
 (.loop [] aqm)))
 (.seq (.region R4_20 [] [0,1,5,12,13,16,54,102,103,104,105,106,107])
 (.seq (.region R4_21 [] [11,19,108,109,110,111,112,113,114])
 (.seq (.region R4_22 [] [15,17,18,20,115,116,117,118,119,120,121,122,123,124,125])
 .ret)))))))))) }
def a6g:=ai (hT R4_0 K4_0 [] 5 [] [] [.cc (.s (.bool false))]) (ai au4 (ai (hK K4_0 0) (ai (hK K4_0 1) (ai (hT R4_1 [21,22] [23] 24 [] [(23,.op (.bin .gtr (.t 0) (.c (.s (.int .i64 1000)))) [.op (.lenS .p (.t 0)) [.t 0],.c (.s (.int .i64 1000))])] [.tt 0,sb [0],sb []]) (ai (hT R4_2 [0,1,23] [4] 5 [] [(4,.c (.s (.bool true)))] [.cc (.s (.bool true))]) (ai (hU R4_3 [23] [25] [6,23,24,25,26,27,28,29] 26 [] [(25,.t 0)] [.tt 0]) (ai (hP R4_3t1 [25] [6,23,24,25,26,27,28,29]) (ai (hU R4_3t2 [24,26] [27,28,29] [6,23,24,25,26,27,28,29] 30 [] [(27,.op (.extract (.t 0) 0) [.t 26]),(28,.op (.extract (.t 0) 1) [.t 26]),(29,.op (.extract (.t 0) 2) [.t 26])] [.tt 26,sb [],.sub 1 [] [],.sub 2 [] []]) (ai (hP R4_3t3 [] [6,23,24,25,26,27,28,29]) (ai (hU R4_3t4 [27] [5] [6,23,24,25,26,27,28,29] 6 [] [(5,.t 27)] [.tt 27]) (ai (hP R4_3t5 [6,28] [6,23,24,25,26,27,28,29]) (ai (hV R4_3t6 [6,23,24,25,26,27,28,29] [7] 8 [] [(7,.t 29)] [.tt 29]) (ai (hT R4_4 [30] [31] 32 [] [(31,.op (.bin .neq (.t 0) (.c (.s (.int .i64 0)))) [.t 7,.c (.s (.int .i64 0))])] [.tt 7,sb []]) (ai (hU R4_5 [0,1,5,31] [33] [0,1,5,9,31,32,33,34,35,36,37] 34 [] [(33,.t 0)] [.tt 0]) (ai (hP R4_5t1 [33] [0,1,5,9,31,32,33,34,35,36,37]) (ai (hU R4_5t2 [32,34] [35,36,37] [0,1,5,9,31,32,33,34,35,36,37] 38 [] [(35,.op (.extract (.t 0) 0) [.t 34]),(36,.op (.extract (.t 0) 1) [.t 34]),(37,.op (.extract (.t 0) 2) [.t 34])] [.tt 34,sb [],.sub 1 [] [],.sub 2 [] []]) (ai (hP R4_5t3 [] [0,1,5,9,31,32,33,34,35,36,37]) (ai (hP R4_5t4 [] [0,1,5,9,31,32,33,34,35,36,37]) (ai (hP R4_5t5 [35] [0,1,5,9,31,32,33,34,35,36,37]) (ai (hP R4_5t6 [9,36] [0,1,5,9,31,32,33,34,35,36,37]) (ai (hV R4_5t7 [0,1,5,9,31,32,33,34,35,36,37] [10] 11 [] [(10,.t 37)] [.tt 37]) (ai (hU R4_6 [7,8,10,38,39,40,41,42,43,44,45,46] [47] [7,8,10,38,39,40,41,42,43,44,45,46,47,48,49] 48 [] [(47,.pick (.op (.bin .eql (.t 0) (.t 1)) [.t 10,.t 7]) (.op (.bin .eql (.t 0) (.c (.s (.int .i64 0)))) [.op (.lenS .s (.t 0)) [eL (eF 0 (.t 8))],.c (.s (.int .i64 0))]) (.c (.s (.bool false))))] [.tt 10,.tt 7,sb [0],sb [0],.sub 0 [1,0,0,0] [41],.sub 0 [1,0,0] [41],.sub 0 [1,0] [41],.sub 0 [1] [41],sb [],sb []]) (ai (hP R4_6t1 [] [7,8,10,38,39,40,41,42,43,44,45,46,47,48,49]) (ai (hV R4_6t2 [7,8,10,38,39,40,41,42,43,44,45,46,47,48,49] [4] 50 [] [(4,.pick (.t 47) (.t 48) (.c (.s (.bool false))))] [sb [],sb []]) (ai (hT R4_7 [7,31] [11] 12 [] [(11,.c (.s (.string ⟨#[]⟩)))] [.cc (.s (.string ⟨#[]⟩))]) (ai (hT R4_8 [] [12] 13 [] [(12,.c (.s (.int .i64 1)))] [.cc (.s (.int .i64 1))]) (ai (hT R4_9 [] [13] 14 [] [(13,.c (.s (.int .i64 0)))] [.cc (.s (.int .i64 0))]) (ai (hT R4_10 [50,51,52,53] [54] 55 [] [(54,.op (.bin .lss (.t 0) (.t 1)) [.op (.bin .add (.t 0) (.c (.s (.int .i64 1)))) [.t 13,.c (.s (.int .i64 1))],.op (.lenS .s (.t 0)) [.t 5]])] [.tt 13,sb [0],.tt 5,sb [1],sb []]) (ai (hT R4_11 [54] [14] 15 [] [(14,.c (.s (.int .u8 0)))] [.cc (.s (.int .u8 0))]) (ai (hT R4_12 [57,58] [59] 60 [] [(59,.op (.bin .gtr (.t 0) (.c (.s (.int .i64 0)))) [.op (.lenS .s (.t 0)) [.t 1],.c (.s (.int .i64 0))])] [.tt 1,sb [0],sb []]) (ai (hT R4_13 [59,60,61,62,63,64,65,66] [14] 67 [] [(14,eL (.op (.indexAddr 1 (.t 0) (.t 1)) [.t 1,.op (.bin .rem (.t 0) (.t 1)) [.t 13,.op (.lenS .s (.t 0)) [.t 1]]]))] [.tt 1,.tt 13,.tt 1,sb [0,1,1],sb [0,1],sb [0],sb [],sb []]) (ai (hT R4_14 [59,67,68,69,70,71,72,73] [74] 75 [] [(74,.op (.bin .gtr (.t 0) (.t 1)) [eL (eF 0 (eF 3 (.op (.indexAddr 5 (.t 0) (.t 1)) [.t 5,.t 13]))),.t 12])] [.tt 5,.tt 13,sb [0,0,0,0],sb [0,0,0],sb [0,0],sb [0],.tt 12,sb []]) (ai (hU R4_15 [11,12,74] [75] [12,14,74,75,76,77,78,79,80,81] 76 [] [(75,.t 11)] [.tt 11]) (ai (hP R4_15t1 [] [12,14,74,75,76,77,78,79,80,81]) (ai (hV R4_15t2 [12,14,74,75,76,77,78,79,80,81] [11] 82 [] [(11,.op (.bin .add (.t 0) (.t 1)) [.t 75,eL (.op (.indexAddr 1 (.t 0) (.t 1)) [.t 76,.op (.bin .rem (.t 0) (.c (.s (.int .u8 4)))) [.t 14,.c (.s (.int .u8 4))]])])] [.tt 14,sb [1,0,1],sb [1,0],sb [1],sb [],sb []]) (ai (hT R4_16 [82,83,84,85,86,87] [12] 88 [] [(12,eL (eF 0 (eF 3 (.op (.indexAddr 5 (.t 0) (.t 1)) [.t 5,.t 13]))))] [.tt 5,.tt 13,sb [0,0,0],sb [0,0],sb [0],sb [],sb []]) (ai (hU R4_17 [11,74] [88] [14,74,88,89,90,91,92,93,94] 89 [] [(88,.t 11)] [.tt 11]) (ai (hP R4_17t1 [] [14,74,88,89,90,91,92,93,94]) (ai (hV R4_17t2 [14,74,88,89,90,91,92,93,94] [11] 95 [] [(11,.op (.bin .add (.t 0) (.t 1)) [.t 88,eL (.op (.indexAddr 1 (.t 0) (.t 1)) [.t 89,.op (.bin .rem (.t 0) (.c (.s (.int .u8 4)))) [.t 14,.c (.s (.int .u8 4))]])])] [.tt 14,sb [1,0,1],sb [1,0],sb [1],sb [],sb []]) (ai (hT R4_18 [95,96,97,98,99,100,101] [11] 102 [] [(11,.op (.bin .add (.t 0) (.t 1)) [.t 11,eL (eF 1 (.op (.indexAddr 5 (.t 0) (.t 1)) [.t 5,.t 13]))])] [.tt 11,.tt 5,.tt 13,sb [1,0,0],sb [1,0],sb [1],sb [],sb []]) (ai (hT R4_19 [55,56] [13] 57 [] [(13,.op (.bin .add (.t 0) (.c (.s (.int .i64 1)))) [.t 13,.c (.s (.int .i64 1))])] [.tt 13,sb [],sb []]) (ai (hE aqm ai1) (ai (hU R4_20 [0,1,5,12,13,54] [103] [0,1,5,12,13,16,54,102,103,104,105,106,107] 104 [] [(103,.t 0)] [.tt 0]) (ai (hP R4_20t1 [103] [0,1,5,12,13,16,54,102,103,104,105,106,107]) (ai (hU R4_20t2 [102,104] [105,106,107] [0,1,5,12,13,16,54,102,103,104,105,106,107] 108 [] [(105,.op (.extract (.t 0) 0) [.t 104]),(106,.op (.extract (.t 0) 1) [.t 104]),(107,.op (.extract (.t 0) 2) [.t 104])] [.tt 104,sb [],.sub 1 [] [],.sub 2 [] []]) (ai (hP R4_20t3 [] [0,1,5,12,13,16,54,102,103,104,105,106,107]) (ai (hP R4_20t4 [] [0,1,5,12,13,16,54,102,103,104,105,106,107]) (ai (hP R4_20t5 [105] [0,1,5,12,13,16,54,102,103,104,105,106,107]) (ai (hP R4_20t6 [16,106] [0,1,5,12,13,16,54,102,103,104,105,106,107]) (ai (hV R4_20t7 [0,1,5,12,13,16,54,102,103,104,105,106,107] [17] 18 [] [(17,.t 107)] [.tt 107]) (ai (hU R4_21 [11,109] [110] [11,19,108,109,110,111,112,113,114] 111 [] [(110,.op (.bin .add (.t 0) (.c (.s (.string ⟨#[10,59,32,101,110,100]⟩)))) [.t 11,.c (.s (.string ⟨#[10,59,32,101,110,100]⟩))])] [.tt 11,sb []]) (ai (hP R4_21t1 [110] [11,19,108,109,110,111,112,113,114]) (ai (hU R4_21t2 [108,111] [112,113,114] [11,19,108,109,110,111,112,113,114] 115 [] [(112,.op (.extract (.t 0) 0) [.t 111]),(113,.op (.extract (.t 0) 1) [.t 111]),(114,.op (.extract (.t 0) 2) [.t 111])] [.tt 111,sb [],.sub 1 [] [],.sub 2 [] []]) (ai (hP R4_21t3 [] [11,19,108,109,110,111,112,113,114]) (ai (hP R4_21t4 [] [11,19,108,109,110,111,112,113,114]) (ai (hP R4_21t5 [112] [11,19,108,109,110,111,112,113,114]) (ai (hP R4_21t6 [19,113] [11,19,108,109,110,111,112,113,114]) (ai (hV R4_21t7 [11,19,108,109,110,111,112,113,114] [20] 21 [] [(20,.t 114)] [.tt 114]) (ai (hU R4_22 [15,18] [115,116] [15,17,18,20,115,116,117,118,119,120,121,122,123,124,125] 117 [] [(115,.op (.load true 1 (.t 0)) [.t 15]),(116,.op (.load true 1 (.t 0)) [.t 18])] [sb [],.sub 1 [] []]) (ai (hP R4_22t1 [115,116] [15,17,18,20,115,116,117,118,119,120,121,122,123,124,125]) (ai (hU R4_22t2 [17,20,117,118,119,120,121,122] [123] [15,17,18,20,115,116,117,118,119,120,121,122,123,124,125] 124 [] [(123,.pick (.t 117) (.op (.bin .eql (.t 0) (.t 1)) [.t 17,.t 20]) (.c (.s (.bool false))))] [.tt 117,.sub 0 [1,0] [118],.sub 0 [1,1] [118],.sub 0 [1] [118],sb [],sb []]) (ai (hP R4_22t3 [] [15,17,18,20,115,116,117,118,119,120,121,122,123,124,125]) (ai (hV R4_22t4 [15,17,18,20,115,116,117,118,119,120,121,122,123,124,125] [4] 126 [] [(4,.pick (.t 123) (.t 124) (.c (.s (.bool false))))] [sb [],sb []]) (ai1.eq_1))))))))))))))))))))))))))))))))))))))))))))))))))))))))))))))))
theorem RA8_4:wu Tryd.prog PX0 4=some (false,asz.ntmps,asz.results,asz.body.bare):=by kernel_rfl
open Go.AM
theorem aoz (a b:List UInt8):(ByteArray.mk a.toArray) ++ (ByteArray.mk b.toArray)=ByteArray.mk (a ++ b).toArray:=by
 apply bel;simp [ByteArray.data_append]
theorem aji (a:List UInt8):(ByteArray.mk a.toArray).size=a.length:=mh ..
theorem ao0 {n:Nat} (h:n < 2 ^ 60):((n:Int) > IntKind.i64.max)=False:=by
 rw [eq_iff_iff,iff_false,show IntKind.i64.max=9223372036854775807 from rfl];omega
theorem look6 {m:Nat} {F:Heap} {v:V} {ts:List Tok.T} (h:pu m 5 F v (ts.map tV)):∃ id g,∀ (i:Nat) (t:Tok.T),ts[i]?=some t→kz 5 v (.s (.int .i64 i))=some (.ref id g (i * 5))∧∀ H,Ext F H→si H false 1 (.ref id g (i * 5+1))=some (.s (.string ⟨t.text.toArray⟩))∧si H false 1 (.ref id g (i * 5+3))=some (.s (.int .i64 t.line)):=by
 obtain ⟨id,g,look⟩:=pu.look h;refine ⟨id,g,fun i t ht=>?_⟩
 have hr:(ts.map tV)[i]?=some (tV t):=by rw [List.getElem?_map,ht];rfl
 obtain ⟨h1,h2⟩:=look i _ hr;exact ⟨h1,fun H e=>⟨(h2 H (e.d [])).2 1 _ rfl,(h2 H (e.d [])).2 3 _ rfl⟩⟩
def a0u (gl:List Nat) (i:Nat):Nat:=if gl.length=0 then 0 else gl.getD (i % gl.length) 0
abbrev I8 (n:Nat):V:=.s (.int .u8 n)
def nlV:List V:=[.s (.string ⟨#[10]⟩),.s (.string ⟨#[32,59,32,120,32,61,32,40,10]⟩),.s (.string ⟨#[10,10,9,10]⟩),.s (.string ⟨#[13,10,59,10,32,32]⟩)]
def blV:List V:=[.s (.string ⟨#[32]⟩),.s (.string ⟨#[9]⟩),.s (.string ⟨#[32,32]⟩),.s (.string ⟨#[32,9,32]⟩)]
theorem nl_at (C:Heap) (g:Nat):si (C ++ [.cells 0 nlV]) false 1 (.ref C.length 0 (g % 4))=some (.s (.string ⟨(azg g).toArray⟩)):=by
 rw [za,jb];unfold azg
 have h4:g % 4 < 4:=ano _ (by decide)
 generalize g % 4=k at h4
 match k,h4 with
 | 0,_=>rfl
 | 1,_=>rfl
 | 2,_=>rfl
 | 3,_=>rfl
 | k+4,h=>omega
theorem bl_at (C:Heap) (g:Nat):si (C ++ [.cells 0 blV]) false 1 (.ref C.length 0 (g % 4))=some (.s (.string ⟨(azh g).toArray⟩)):=by
 rw [za,jb];unfold azh
 have h4:g % 4 < 4:=ano _ (by decide)
 generalize g % 4=k at h4
 match k,h4 with
 | 0,_=>rfl
 | 1,_=>rfl
 | 2,_=>rfl
 | 3,_=>rfl
 | k+4,h=>omega
section
variable {CT:Nat→Option CFun}
set_option maxHeartbeats 1000000 in
theorem bk_l0 (base:Nat) {F:Heap} (hb:base≤F.length) {tv gv:V} {us:List Tok.T} {e:Tok.T} {gl:List Nat} (aw:pu 0 5 F tv ((us ++ [e]).map tV)) (hg:Rd F gv (gl.map I8)) (hw:apz gv) (hn:us.length≤1000) (hus:∀ t∈us,t.text.length≤1000∧t.line≤1001) (v0:V):∀ (rest:List Tok.T) (i pl:Nat) (txt:List UInt8) (C:Heap),us.drop i=rest→i+rest.length=us.length→txt.length≤1009 * i→pl≤1001→Ext F C→
 ∃ C' pl',itW (evC (fe CT) itW base aqm) [] F.length (gq 126 [(0,v0),(1,gv),(5,tv),(11,.s (.string ⟨txt.toArray⟩)),(12,Iz pl),(13,Iz i)]) C=some (.ext 0,gq 126 [(0,v0),(1,gv),(5,tv),(11,.s (.string ⟨(txt ++ ajl (reL (a0u gl) i pl rest)).toArray⟩)),(12,Iz pl'),(13,Iz us.length),(54,bl false)],C')∧Ext F C':=by
 obtain ⟨id,g1,look⟩:=look6 aw
 have n2:((us ++ [e]).map tV).length=us.length+1:=by simp
 have n1:=fun {H:Heap} (k:Ext F H)=>(aw.d (k.d [])).rd.len;rw [n2] at n1;have ng:=fun {H:Heap} (k:Ext F H)=>(hg.ext k).len;rw [zl] at ng;intro rest
 induction rest with
 | nil=>
   intro i pl txt C hd hi htx hpl hE
   have hie:i=us.length:=by simpa using hi
   subst hie;refine ⟨Go.AM.trim F.length (gq 126 [(0,v0),(1,gv),(5,tv),(11,.s (.string ⟨(txt ++ ajl (reL (a0u gl) us.length pl [])).toArray⟩)),(12,Iz pl),(13,Iz us.length),(54,bl false)]) C,pl,?_,hE.trim (af _) _⟩
   have w1:=aes (n:=us.length) (by omega)
   have hlt:¬ (((us.length+1:Nat):Int) < ((us.length+1:Nat):Int)):=yl _;rw [ma,reL,ajl,zm];simp only [a6g,aa,reduceIte,reduceCtorEq,Nat.reduceEqDiff,Nat.reduceLT,Nat.reduceLeDiff,Nat.reduceBEq,Nat.reduceAdd,Nat.reduceMul,Iz,bl,n1 hE,w1,yl]
 | cons t rest ih=>
   intro i pl txt C hd hi htx hpl hE;rw [bi] at hi
   have hil:i < us.length:=by omega
   have hd':=d9 hil;rw [hd] at hd';injection hd' with ht hr
   have hti:us[i]?=some t:=by rw [List.getElem?_eq_getElem hil,ht]
   have htm:t∈us:=List.mem_of_getElem? hti;obtain ⟨b1,b2⟩:=hus t htm
   have hti2:(us ++ [e])[i]?=some t:=by rw [List.getElem?_append_left hil];exact hti
   obtain ⟨y1,y2⟩:=look _ _ hti2;obtain ⟨y3,y4⟩:=y2 C hE
   have w1:=aes (n:=i) (by omega)
   have hlt:(((i+1:Nat):Int) < ((us.length+1:Nat):Int)):=by omega
   have hCl:=hE.le;obtain ⟨g,hgs⟩:∃ g,a0u gl i=g:=⟨_,rfl⟩
   have hload:(gl.length=0∧g=0)∨(¬ gl.length=0∧∃ a,kz 1 gv (.s (.int .i64 ((i % gl.length:Nat):Int)))=some a∧si C false 1 a=some (.s (.int .u8 g))):=by
    unfold a0u at hgs;by_cases h0:gl.length=0
    ·rw [cu h0] at hgs;exact .inl ⟨h0,hgs.symm⟩
    ·rw [dx h0] at hgs
     have hm:i % gl.length < gl.length:=ano _ (by omega)
     have hx:(gl.map I8)[i % gl.length]?=some (I8 g):=by
      rw [List.getElem?_map,List.getElem?_eq_getElem hm,← hgs,List.getD_eq_getElem?_getD,List.getElem?_eq_getElem hm];rfl
     exact .inr ⟨h0,(hg.ext hE).at' hw hx⟩
   have z4:((4:Int)=0)=False:=by decide
   have tm4:((g:Int)).tmod 4=((g % 4:Nat):Int):=rfl
   have hix:(0≤((g % 4:Nat):Int)∧((g % 4:Nat):Int) < ((4:Nat):Int)∧1=1):=by omega
   have hixx:0+((g % 4:Nat):Int).toNat * 1=g % 4:=by omega
   have tmi:((i:Int)).tmod (gl.length:Int)=((i % gl.length:Nat):Int):=rfl;have nC:=ng hE;rw [reL,hgs,ajl];by_cases hl:pl < t.line
   ·
    have hgt:decide (((t.line:Nat):Int) > ((pl:Nat):Int))=true:=by rw [iq];omega
    obtain ⟨C1,hC1⟩:∃ X,C ++ [Ob.cells 0 nlV]=X:=⟨_,rfl⟩;have x1:Ext C C1:=hC1 ▸ Ext.app _ _;have la:=nl_at C g;rw [hC1] at la;obtain ⟨z3',z4'⟩:=y2 C1 (hE.trans x1);have gl9:=(amw g).2.2;obtain ⟨gn,hgn⟩:∃ x,azg g=x:=⟨_,rfl⟩;rw [cu hl,cu hl];rw [hgn] at la gl9 ⊢
    obtain ⟨C',pl',h1,h2⟩:=ih (i+1) t.line (txt ++ gn ++ t.text) (Go.AM.trim F.length (gq 126 [(0,v0),(1,gv),(5,tv),(11,.s (.string ⟨(txt ++ gn ++ t.text).toArray⟩)),(12,Iz t.line),(13,Iz (i+1:Nat))]) C1) hr.symm (by omega) (by rw [bq,bq];omega) b2 ((hE.trans x1).trim (af _) _)
    refine ⟨C',pl',?_,h2⟩
    have m1:=ao0 (n:=txt.length+gn.length) (by omega)
    have m2:=ao0 (n:=txt.length+(gn.length+t.text.length)) (by omega)
    rw [show txt ++ (gn ++ (t.text ++ ajl (reL (a0u gl) (i+1) t.line rest)))=txt ++ gn ++ t.text ++ ajl (reL (a0u gl) (i+1) t.line rest) by simp]
    rw [ma];simp only [Iz,bl] at h1;simp only [nlV] at hC1
    rcases hload with ⟨h0,rfl⟩ | ⟨h0,a,a1,a2⟩
    ·have hz:decide (((gl.length:Nat):Int) > 0)=false:=by rw [yj];omega
     simp only [show ((0:Nat):Int)=0 from rfl] at tm4 hix hixx;simp only [a6g,aa,reduceIte,reduceCtorEq,Nat.reduceEqDiff,Nat.reduceLT,Nat.reduceLeDiff,Nat.reduceBEq,Nat.reduceAdd,Nat.reduceMul,Iz,bl,n1 hE,w1,hlt,nC,hz,y1,y4,hgt,hC1,z4,tm4,hix,hixx,la,z3',z4',aoz,aji,bq,m1,m2,h1,nk,ja]
    ·have hz:decide (((gl.length:Nat):Int) > 0)=true:=by rw [iq];omega
     have hz0:(((gl.length:Nat):Int)=0)=False:=by rw [eq_iff_iff,iff_false];omega
     simp only [a6g,aa,reduceIte,reduceCtorEq,Nat.reduceEqDiff,Nat.reduceLT,Nat.reduceLeDiff,Nat.reduceBEq,Nat.reduceAdd,Nat.reduceMul,Iz,bl,n1 hE,w1,hlt,nC,hz,hz0,tmi,a1,a2,y1,y4,hgt,hC1,z4,tm4,hix,hixx,la,z3',z4',aoz,aji,bq,m1,m2,h1,nk,ja]
   ·
    have hgt:decide (((t.line:Nat):Int) > ((pl:Nat):Int))=false:=by rw [yj];omega
    obtain ⟨C1,hC1⟩:∃ X,C ++ [Ob.cells 0 blV]=X:=⟨_,rfl⟩;have x1:Ext C C1:=hC1 ▸ Ext.app _ _;have la:=bl_at C g;rw [hC1] at la;obtain ⟨z3',z4'⟩:=y2 C1 (hE.trans x1);have gl9:=(amx g).2.2;obtain ⟨gn,hgn⟩:∃ x,azh g=x:=⟨_,rfl⟩;rw [dx hl,dx hl];rw [hgn] at la gl9 ⊢
    obtain ⟨C',pl',h1,h2⟩:=ih (i+1) pl (txt ++ gn ++ t.text) (Go.AM.trim F.length (gq 126 [(0,v0),(1,gv),(5,tv),(11,.s (.string ⟨(txt ++ gn ++ t.text).toArray⟩)),(12,Iz pl),(13,Iz (i+1:Nat))]) C1) hr.symm (by omega) (by rw [bq,bq];omega) hpl ((hE.trans x1).trim (af _) _)
    refine ⟨C',pl',?_,h2⟩
    have m1:=ao0 (n:=txt.length+gn.length) (by omega)
    have m2:=ao0 (n:=txt.length+(gn.length+t.text.length)) (by omega)
    rw [show txt ++ (gn ++ (t.text ++ ajl (reL (a0u gl) (i+1) pl rest)))=txt ++ gn ++ t.text ++ ajl (reL (a0u gl) (i+1) pl rest) by simp]
    rw [ma];simp only [Iz,bl] at h1;simp only [blV] at hC1
    rcases hload with ⟨h0,rfl⟩ | ⟨h0,a,a1,a2⟩
    ·have hz:decide (((gl.length:Nat):Int) > 0)=false:=by rw [yj];omega
     simp only [show ((0:Nat):Int)=0 from rfl] at tm4 hix hixx;simp only [a6g,aa,reduceIte,reduceCtorEq,Nat.reduceEqDiff,Nat.reduceLT,Nat.reduceLeDiff,Nat.reduceBEq,Nat.reduceAdd,Nat.reduceMul,Iz,bl,n1 hE,w1,hlt,nC,hz,y1,y4,hgt,hC1,z4,tm4,hix,hixx,la,z3',z4',aoz,aji,bq,m1,m2,h1,nk,ja]
    ·have hz:decide (((gl.length:Nat):Int) > 0)=true:=by rw [iq];omega
     have hz0:(((gl.length:Nat):Int)=0)=False:=by rw [eq_iff_iff,iff_false];omega
     simp only [a6g,aa,reduceIte,reduceCtorEq,Nat.reduceEqDiff,Nat.reduceLT,Nat.reduceLeDiff,Nat.reduceBEq,Nat.reduceAdd,Nat.reduceMul,Iz,bl,n1 hE,w1,hlt,nC,hz,hz0,tmi,a1,a2,y1,y4,hgt,hC1,z4,tm4,hix,hixx,la,z3',z4',aoz,aji,bq,m1,m2,h1,nk,ja]
set_option maxHeartbeats 2000000 in
theorem av7 (hP:aj1 CT) (hS:SamT CT) (hR:CT a8w=some (.code als)) (hL:CT apg=some (.code adh)) (T:TL CT) (hT:CT k_f4=some (.code asz)) (base:Nat) {A:Heap} (hbA:base≤A.length) (b:ByteArray) {gv:V} {gl:List Nat} (hgv:Rd A gv (gl.map I8)) (hgw:apz gv):
 ∃ H',fe CT (.fn k_f4 [] []) [.s (.string b),gv] base A=some (.s (.bool true),H'):=by
 cases hg:decide ((b.size:Int) > 1000) with
 | true=>
   refine ⟨A,nz (c:=asz) hT (by simp [asz]) ?_⟩
   simp only [asz,a6g,aa,reduceIte,reduceCtorEq,Nat.reduceEqDiff,Nat.reduceLT,Nat.reduceLeDiff,Nat.reduceBEq,Nat.reduceAdd,Nat.reduceMul,hg]
 | false=>
   have hl:b.data.toList.length≤1000:=by
    rw [yj] at hg;show b.size≤1000;omega
   have hlaw:=a0j hl (a0u gl);obtain ⟨r,hr⟩:∃ x,ae8 b.data.toList=x:=⟨_,rfl⟩;obtain ⟨p,hp⟩:∃ x,ad4 b.data.toList=x:=⟨_,rfl⟩;rw [hr,hp] at hlaw;obtain ⟨tv,D1,t1,t2,t3⟩:=ayu hL T base A hbA b r hr;obtain ⟨D2,hD2⟩:∃ X,D1 ++ [Ob.cells 0 [.s (.int .i64 r.2.1.1),.s (.int .i64 r.2.1.2)]]=X:=⟨_,rfl⟩
   have hD1b:base≤D1.length:=by have:=t3.1;omega
   have l2:D2.length=D1.length+1:=by rw [← hD2,jk]
   have e12:ah D1.length [] D1 D2:=⟨by omega,fun id h1 _=>by rw [← hD2,List.getElem?_append_left h1]⟩
   have xA2:Ext A D2:=Ext.of_get (by have:=t3.1;omega) fun i hi=>by
    have:=t3.1
    rw [e12.2 i (by omega) (by simp),t3.2 i hi (by simp)]
   have gD:∀ c,getC (D1 ++ [Ob.cells 0 c]) D1.length 0=some c:=fun c=>jb D1 0 c;have sD:∀ c d,(D1 ++ [c]).set D1.length d=D1 ++ [d]:=fun c d=>qb D1 c d;simp only [I] at t1;by_cases h0:r.2.2=0
   ·obtain ⟨us,e,u1,u2,u3,u4,u5,u6,u7⟩:=hlaw.2 h0
    have qe:(((r.2.2:Nat):Int) != 0)=false:=by rw [h0];rfl
    have aw:=t2.d e12;rw [u1] at aw;have aw0:pu 0 5 D2 tv ((us ++ [e]).map tV):=⟨aw.1,aw.2.imp id fun ⟨id,g,h1,h2,h3⟩=>⟨id,g,h1,h2,jd _⟩⟩
    obtain ⟨C1,pl',lp,xC⟩:=bk_l0 (CT:=CT) base (F:=D2) (by omega) aw0 (hgv.ext xA2) hgw u2 (fun t ht=>⟨(u3 t ht).1,by have:=(u3 t ht).2;omega⟩) (.s (.string b)) us 0 1 [] D2 rfl (by omega) (jd _) (by omega) (Ext.refl _)
    rw [dh] at lp
    have hbC:base≤C1.length:=by have:=xC.le;omega
    obtain ⟨va,A1,B1,ea,hB1,xa,ba,ba1,la,la0,oa,ra,ga,ga1⟩:=amb hP base hbC b hp;obtain ⟨s,hs⟩:∃ x,ajl (reL (a0u gl) 0 1 us)=x:=⟨_,rfl⟩;rw [hs] at u5 u6 u7 lp;obtain ⟨pr,hpr⟩:∃ x,ad4 (s ++ agm)=x:=⟨_,rfl⟩;rw [hpr] at u6 u7
    obtain ⟨vb,A2,B2,eb,hB2,xb,bb,bb1,lb,lb0,ob,rb,gb,gb1⟩:=amb hP base (H:=B1) (by omega) ⟨(s ++ agm).toArray⟩ (p:=pr) (by show ad4 (s ++ agm)=_;exact hpr)
    have ka:=il ga xb;have R1:=ra.ext xb;have R2:=rb;rw [u6] at R2
    obtain ⟨C3,sm,x5⟩:=axb hS base (A:=B2) (by omega) R1 R2
    obtain ⟨C4,rd,x6⟩:=aoh hP hR base (A:=C3) (by have:=x5.le;omega)
    have qg:(((p.2.2:Nat):Int) == ((pr.2.2:Nat):Int))=true:=by rw [u7];exact jq _
    have m1:=ao0 (n:=s.length+6) (by omega)
    have tl:(⟨#[10,59,32,101,110,100]⟩:ByteArray)=⟨agm.toArray⟩:=rfl;have tlen:agm.length=6:=rfl
    have ap:(⟨s.toArray⟩:ByteArray) ++ ⟨#[10,59,32,101,110,100]⟩=⟨(s ++ agm).toArray⟩:=by rw [tl,aoz]
    have sz:(⟨#[10,59,32,101,110,100]⟩:ByteArray).size=6:=rfl;have nl0:(⟨([]:List UInt8).toArray⟩:ByteArray)=⟨#[]⟩:=rfl
    refine ⟨C4,nz (c:=asz) hT (by simp [asz]) ?_⟩
    simp only [Iz,bl,nl0,show ((0:Nat):Int)=0 from rfl,show ((1:Nat):Int)=1 from rfl] at lp;simp only [bl] at sm rd;simp only [bl,asz,a6g,aa,reduceIte,reduceCtorEq,Nat.reduceEqDiff,Nat.reduceLT,Nat.reduceLeDiff,Nat.reduceBEq,Nat.reduceAdd,Nat.reduceMul,hg,t1,gD,sD,hD1b,hD2,qe,lp,ea,bx1,bx2,bx3,bx4,bx5,oa,ba,ba1,hB1,ap,sz,aji,m1,eb,ob,bb,bb1,hB2,ka,gb,sm,qg,rd,az,ic,jg,iw,wh,nk,ja,aj,dh,dz,fq]
   ·obtain ⟨c1,c2⟩:=hlaw.1 h0
    have qe:(((r.2.2:Nat):Int) != 0)=true:=by rw [o5];omega
    have qg:(((p.2.2:Nat):Int) == ((r.2.2:Nat):Int))=true:=by rw [c1];exact jq _
    obtain ⟨va,A1,B1,ea,hB1,xa,ba,ba1,la,la0,oa,ra,ga,ga1⟩:=amb hP base (H:=D2) (by omega) b hp
    have len0:=RdL.len ra;rw [c2] at len0
    obtain ⟨C4,rd,x6⟩:=aoh hP hR base (A:=B1) (by omega)
    refine ⟨C4,nz (c:=asz) hT (by simp [asz]) ?_⟩
    simp only [bl] at rd;simp only [ib,show ((0:Nat):Int)=0 from rfl] at len0;simp only [bl,asz,a6g,aa,reduceIte,reduceCtorEq,Nat.reduceEqDiff,Nat.reduceLT,Nat.reduceLeDiff,Nat.reduceBEq,Nat.reduceAdd,Nat.reduceMul,hg,t1,gD,sD,hD1b,hD2,qe,qg,ea,bx1,bx2,bx3,bx4,bx5,oa,ba,ba1,hB1,ga,len0,jq,rd,az,ic,jg,iw,wh,nk,ja,aj,dh,dz,fq]
end
theorem bbp:∀ es:List (List V),(∀ x∈es,IsV (.int .u8) x)→∃ l:List Nat,es=(l.map I8).map (fun x=>[x]):=by
 intro es
 induction es with
 | nil=>intro _;exact ⟨[],rfl⟩
 | cons e es ih=>
   intro h;obtain ⟨n,rfl,h1,_⟩:=h e dn;obtain ⟨l,rfl⟩:=ih fun x hx=>h x (bz _ hx);rw [show IntKind.u8.min=0 from rfl] at h1
   exact ⟨n.toNat :: l,by simp only [ou,I8,Int.toNat_of_nonneg h1]⟩
theorem a2t (l:List V):apz (.psl (l.map fun x=>[x]) 1):=by
 intro e he;rw [yc] at he;obtain ⟨x,_,rfl⟩:=he;rfl
theorem a6y {v:List V} (h:IsV (.sl (.int .u8)) v):∃ u,v=[u]∧∃ l:List Nat,(∀ H,Rd H u (l.map I8))∧apz u:=by
 rcases h with rfl | ⟨es,rfl,hl,he⟩
 ·exact ⟨nu,rfl,[],fun H=>Rd.nil H,trivial⟩
 ·obtain ⟨l,rfl⟩:=bbp es he;exact ⟨_,rfl,l,fun H=>Rd.psl H _,a2t _⟩
end Go.Proofs.YtbocmenkkjbigaaDoor
