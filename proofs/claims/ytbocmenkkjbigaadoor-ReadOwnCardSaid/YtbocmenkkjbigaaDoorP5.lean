/- Texts of the proof: RdsA, TokP6, RdsB, AmJ, AmV, AmR, RdX, RdJ1, RdJ2, RdJ3, RdY1, RdO1, RdS7, RdO2, RdO3, RdO4. -/
import Derived.Test.YtbocmenkkjbigaaDoorP0
import Derived.Test.YtbocmenkkjbigaaDoorP1
import Derived.Test.YtbocmenkkjbigaaDoorP2
import Derived.Test.YtbocmenkkjbigaaDoorP3
import Derived.Test.YtbocmenkkjbigaaDoorP4
import Derived.Shelf.Small.Strs
import Derived.Shelf.Strconv.Atoi
import Derived.ProofKit
import Derived.OpenShut
import Derived.ChangeArms
import Derived.FnData
import Derived.DataReads
import Derived.ChangeOld
import Derived.LaidMore
import Derived.Stop.Joined
import Derived.SevenTiedAt
import Derived.Test.YtbocmenkkjbigaaDoorRows
import Derived.Test.YtbocmenkkjbigaaDoorCards
import Derived.Test.YtbocmenkkjbigaaDoorTie
set_option linter.all false
set_option maxRecDepth 100000
namespace Go.Proofs.YtbocmenkkjbigaaDoor
open Go.AM
theorem w63 {n:Nat} (h:n+1 < 2 ^ 63):IntKind.i64.wrap ((n:Int)+1)=((n+1:Nat):Int):=by rw [IntKind.wrap_i64];omega
theorem agw {H H':Heap} {v:V} {l:List InsD} (h:RdL 8 acw H v l) (k:Ext H H'):RdL 8 acw H' v l:=RdL.ext (P:=acw) acw.ext h k
theorem agx {H H':Heap} {v:V} {l:List BlkD} (h:RdL 2 ae9 H v l) (k:Ext H H'):RdL 2 ae9 H' v l:=RdL.ext (P:=ae9) ae9.ext h k
theorem RdL.lt {α:Type} {w:Nat} {P:Heap→List V→α→Prop} {H:Heap} {v:V} {l:List α} (h:RdL w P H v l):l.length < 2 ^ 63:=by obtain ⟨_,_,_,h,_⟩:=h;exact h
structure SamT (CT:Nat→Option CFun):Prop where
 texts:CT a7y=some (.code als)
 same:CT bb4=some (.code alv)
section
variable {CT:Nat→Option CFun}
theorem st_l0 (base:Nat) {D:Heap} {v w:V} {l:List ByteArray} (q1:Rd D v (l.map Sb)) (q2:ahc v) (r1:Rd D w (l.map Sb)) (r2:ahc w) (hn:l.length < 2 ^ 63):
 itW (evC (dw CT) itW base ahw) [] D.length (fe 26 [(0,v),(1,w),(5,Iz 0)]) D=some (.ext 0,fe 26 [(0,v),(1,w),(5,Iz l.length),(14,bl false)],D):=by
 have hpl:=atq q1
 have h:=bb5 l.length (fun k=>itW (evC (dw CT) itW base ahw) [] D.length (fe 26 [(0,v),(1,w),(5,Iz k)]) D) (fun k hk=>by
  have hlt':((k:Int) < ((l.length:Nat):Int)):=by omega
  have hwk:=w63 (n:=k) (by omega)
  obtain ⟨y,y1,y2⟩:=bcn q1 q2 hk;obtain ⟨z,z1,z2⟩:=bcn r1 r2 hk;have e:((l.getD k ⟨#[]⟩).data.toList == (l.getD k ⟨#[]⟩).data.toList)=true:=l5 _;rw [jo];simp only [Iz,Sb,bl,a9c,aa,reduceIte,reduceCtorEq,Nat.reduceEqDiff,Nat.reduceLT,Nat.reduceLeDiff,Nat.reduceBEq,Nat.reduceAdd,Nat.reduceMul,hpl,hlt',y1,y2,z1,z2,e,hwk,ol rfl]) 0 (iw _)
 rw [ajr] at h;refine h.trans ?_;rw [jo];simp only [Iz,Sb,bl,a9c,aa,reduceIte,reduceCtorEq,Nat.reduceEqDiff,Nat.reduceLT,Nat.reduceLeDiff,Nat.reduceBEq,Nat.reduceAdd,Nat.reduceMul,hpl,yh,ol rfl]
theorem aih (hT:CT a7y=some (.code als)) (base:Nat) {D:Heap} {v w:V} {l:List ByteArray} (q1:Rd D v (l.map Sb)) (q2:ahc v) (r1:Rd D w (l.map Sb)) (r2:ahc w) (hn:l.length < 2 ^ 63):
 dw CT (.fn a7y [] []) [v,w] base D=some (bl true,D):=by
 have f0:=st_l0 (CT:=CT) base q1 q2 r1 r2 hn;have hp1:=atq q1;have hp2:=atq r1;have e:(((l.length:Nat):Int) == ((l.length:Nat):Int))=true:=l5 _
 refine oh (c:=als) hT (by simp [als]) ?_
 simp only [Iz,Sb,bl] at f0;simp only [Iz,Sb,bl,als,a9c,aa,reduceIte,reduceCtorEq,Nat.reduceEqDiff,Nat.reduceLT,Nat.reduceLeDiff,Nat.reduceBEq,Nat.reduceAdd,Nat.reduceMul,hp1,hp2,e,f0]
set_option maxHeartbeats 1000000 in
theorem sm_l0 (h:SamT CT) (base:Nat) {C0:Heap} (hb:base≤C0.length) {z9 z10:Nat} {lb cv cw:V} {l:List InsD} (hg9:getC C0 z9 0=some [lb,cv]) (hg10:getC C0 z10 0=some [lb,cw]) (hc:RdL 8 acw C0 cv l) (hd:RdL 8 acw C0 cw l) {v2 v3 v6 v7:V} {n5 n8:Int}:
 ∃ C',itW (evC (dw CT) itW base ahz) [] C0.length (fe 164 [(2,v2),(3,v3),(5,Iz n5),(6,v6),(7,v7),(8,Iz n8),(9,.ref z9 0 0),(10,.ref z10 0 0),(11,Iz 0)]) C0=some (.ext 4,(fe 164 [(2,v2),(3,v3),(5,Iz n5),(6,v6),(7,v7),(8,Iz n8),(9,.ref z9 0 0),(10,.ref z10 0 0),(11,Iz l.length),(95,bl false)]),C')∧Ext C0 C':=by
 have hn:=hc.lt
 obtain ⟨C,e2,e3⟩:=aks l.length (fun _ C=>Ext C0 C) (fun k C=>itW (evC (dw CT) itW base ahz) [] C0.length (fe 164 [(2,v2),(3,v3),(5,Iz n5),(6,v6),(7,v7),(8,Iz n8),(9,.ref z9 0 0),(10,.ref z10 0 0),(11,Iz k)]) C) (by
  intro k C hk hE
  have hlt':((k:Int) < ((l.length:Nat):Int)):=by omega
  have hwk:=w63 (n:=k) (by omega)
  have hbC:base≤C.length:=by have:=hE.le;omega
  have g9:=gy hg9 hE;have g10:=gy hg10 hE;have hpl:=(agw hc hE).len;have hxk:l[k]?=some (l[k]):=List.getElem?_eq_getElem hk;obtain ⟨x,hxe⟩:∃ x,l[k]=x:=⟨_,rfl⟩;rw [hxe] at hxk;obtain ⟨y,re,y1,y2,y3,_⟩:=hc.at2 hxk;obtain ⟨z,rf,z1,z2,z3,_⟩:=hd.at2 hxk;have ly:=y3 C hE;have lz:=z3 C hE;obtain ⟨av,lv,rfl,q1,q2,q3,q4,n1,n2⟩:=y2;obtain ⟨aw,lw,rfl,p1,p2,p3,p4,_⟩:=z2;obtain ⟨D1,hD1⟩:∃ D,C ++ [Ob.cells 0 (vg x av lv)]=D:=⟨_,rfl⟩;obtain ⟨D,hD⟩:∃ D,D1 ++ [Ob.cells 0 (vg x aw lw)]=D:=⟨_,rfl⟩
  have l1:D1.length=C.length+1:=by rw [← hD1,jf]
  have e1:Ext C D1:=hD1 ▸ Ext.app _ _;have e2:Ext D1 D:=hD ▸ Ext.app _ _;have hE2:=hE.trans (e1.trans e2);have hg1:getC D C.length 0=some (vg x av lv):=gy (hD1 ▸ ji C 0 _) e2
  have hg2:getC D (C.length+1) 0=some (vg x aw lw):=by rw [← l1,← hD];exact ji D1 0 _
  have f1:=aih h.texts base (q1.ext hE2) q2 (p1.ext hE2) p2 n1;have f2:=aih h.texts base (q3.ext hE2) q4 (p3.ext hE2) p4 n2;have b0:(x.op == x.op:Bool)=true:=l5 _;have b1:(x.d.data.toList == x.d.data.toList:Bool)=true:=l5 _;have b2:(x.a.data.toList == x.a.data.toList:Bool)=true:=l5 _;have b3:(x.b.data.toList == x.b.data.toList:Bool)=true:=l5 _;have b4:(x.k == x.k:Bool)=true:=l5 _;have b5:(x.f.data.toList == x.f.data.toList:Bool)=true:=l5 _;have o1:=q1.one;have o2:=q3.one;have o3:=p1.one;have o4:=p3.one;obtain ⟨Z1,hZ1⟩:∃ X,C ++ [Ob.cells 0 y5]=X:=⟨_,rfl⟩;obtain ⟨Z2,hZ2⟩:∃ X,Z1 ++ [Ob.cells 0 y5]=X:=⟨_,rfl⟩
  have lZ1:Z1.length=C.length+1:=by rw [← hZ1,jf]
  have lZ2:Z2.length=C.length+2:=by rw [← hZ2,jf,lZ1]
  have zz1:getC Z2 C.length 0=some y5:=gy (hZ1 ▸ ji C 0 _) (hZ2 ▸ Ext.app _ _)
  have ss1:Z2.set C.length (Ob.cells 0 (vg x av lv))=D1 ++ [Ob.cells 0 y5]:=by
   rw [← hZ2,xq _ _ (by omega),← hZ1,qo,hD1]
  have zz2:getC (D1 ++ [Ob.cells 0 y5]) (C.length+1) 0=some y5:=by rw [← l1];exact ji D1 0 _
  have ss2:(D1 ++ [Ob.cells 0 y5]).set (C.length+1) (Ob.cells 0 (vg x aw lw))=D:=by rw [← l1,qo,hD]
  have hb1:base≤C.length+1:=by omega
  refine ⟨trim C0.length (fe 164 [(2,v2),(3,v3),(5,Iz n5),(6,v6),(7,v7),(8,Iz n8),(9,.ref z9 0 0),(10,.ref z10 0 0),(11,Iz (k+1:Nat))]) D,?_,hE2.trim (ag _) _⟩;simp only [bl] at f1 f2;simp only [vg,Sb,y5,mi] at hZ1 hZ2 zz1 ss1 zz2 ss2 hg1 hg2 ly lz;rw [jo];simp only [Iz,Sb,bl,ase,aa,reduceIte,reduceCtorEq,Nat.reduceEqDiff,Nat.reduceLT,Nat.reduceLeDiff,Nat.reduceBEq,Nat.reduceAdd,Nat.reduceMul,g9,g10,hpl,hlt',y1,z1,ly,lz,hZ1,lZ1,hZ2,zz1,ss1,zz2,ss2,hbC,hb1,o1,o2,o3,o4,ic,jh,iq,yj,o7,jc,au,cz,dz,fq,hg1,hg2,b0,b1,b2,b3,b4,b5,f1,f2,hwk]) 0 C0 (iw _) (Ext.refl _)
 rw [ajr] at e2;refine ⟨trim C0.length (fe 164 [(2,v2),(3,v3),(5,Iz n5),(6,v6),(7,v7),(8,Iz n8),(9,.ref z9 0 0),(10,.ref z10 0 0),(11,Iz l.length),(95,bl false)]) C,e2.trans ?_,e3.trim (ag _) _⟩;have g9:=gy hg9 e3;have hpl:=(agw hc e3).len;rw [jo];simp only [Iz,bl,ase,aa,reduceIte,reduceCtorEq,Nat.reduceEqDiff,Nat.reduceLT,Nat.reduceLeDiff,Nat.reduceBEq,Nat.reduceAdd,Nat.reduceMul,g9,hpl,yh]
set_option maxHeartbeats 1000000 in
theorem sm_l1 (h:SamT CT) (base:Nat) {C0:Heap} (hb:base≤C0.length) {q6 q7:Nat} {nm pv pw bv bw:V} {l:List BlkD} (hg6:getC C0 q6 0=some [nm,pv,bv]) (hg7:getC C0 q7 0=some [nm,pw,bw]) (hc:RdL 2 ae9 C0 bv l) (hd:RdL 2 ae9 C0 bw l) {v2 v3:V} {n5:Int}:
 ∃ C',itW (evC (dw CT) itW base ahy) [] C0.length (fe 164 [(2,v2),(3,v3),(5,Iz n5),(6,.ref q6 0 0),(7,.ref q7 0 0),(8,Iz 0)]) C0=some (.ext 2,(fe 164 [(2,v2),(3,v3),(5,Iz n5),(6,.ref q6 0 0),(7,.ref q7 0 0),(8,Iz l.length),(64,bl false)]),C')∧Ext C0 C':=by
 have hn:=hc.lt
 obtain ⟨C,e2,e3⟩:=aks l.length (fun _ C=>Ext C0 C) (fun k C=>itW (evC (dw CT) itW base ahy) [] C0.length (fe 164 [(2,v2),(3,v3),(5,Iz n5),(6,.ref q6 0 0),(7,.ref q7 0 0),(8,Iz k)]) C) (by
  intro k C hk hE
  have hlt':((k:Int) < ((l.length:Nat):Int)):=by omega
  have hwk:=w63 (n:=k) (by omega)
  have hbC:base≤C.length:=by have:=hE.le;omega
  have g6:=gy hg6 hE;have g7:=gy hg7 hE;have hpl:=(agx hc hE).len;have hxk:l[k]?=some (l[k]):=List.getElem?_eq_getElem hk;obtain ⟨B,hxe⟩:∃ x,l[k]=x:=⟨_,rfl⟩;rw [hxe] at hxk;obtain ⟨y,re,y1,y2,y3,_⟩:=hc.at2 hxk;obtain ⟨z,rf,z1,z2,z3,_⟩:=hd.at2 hxk;obtain ⟨cv,rfl,hcv⟩:=y2;obtain ⟨cw,rfl,hcw⟩:=z2;have hco:=hcv.one;have hcw1:=hcw.one;obtain ⟨C1,hC1⟩:∃ X,C ++ [Ob.cells 0 [Sb B.label,cv]]=X:=⟨_,rfl⟩;obtain ⟨C2,hC2⟩:∃ X,C1 ++ [Ob.cells 0 [Sb B.label,cw]]=X:=⟨_,rfl⟩
  have l1:C1.length=C.length+1:=by rw [← hC1,jf]
  have l2:C2.length=C.length+2:=by rw [← hC2,jf,l1]
  have x1:Ext C C1:=hC1 ▸ Ext.app _ _;have x2:Ext C1 C2:=hC2 ▸ Ext.app _ _;have ly:=y3 C hE;have lz:=z3 C hE;have k9:getC C2 C.length 0=some [Sb B.label,cv]:=gy (hC1 ▸ ji C 0 _) x2
  have k10:getC C2 (C.length+1) 0=some [Sb B.label,cw]:=by rw [← l1,← hC2];exact ji C1 0 _
  have hE2:=hE.trans (x1.trans x2)
  obtain ⟨C',f1,x3⟩:=sm_l0 h base (C0:=C2) (by omega) (v2:=v2) (v3:=v3) (v6:=.ref q6 0 0) (v7:=.ref q7 0 0) (n5:=n5) (n8:=k) k9 k10 (agw hcv hE2) (agw hcw hE2)
  have c1l:=(agw hcv hE2).len;have c2l:=(agw hcw hE2).len;obtain ⟨Z1,hZ1⟩:∃ X,C ++ [Ob.cells 0 [V.s (.string ⟨#[]⟩),mi]]=X:=⟨_,rfl⟩;obtain ⟨Z2,hZ2⟩:∃ X,Z1 ++ [Ob.cells 0 [V.s (.string ⟨#[]⟩),mi]]=X:=⟨_,rfl⟩
  have lZ1:Z1.length=C.length+1:=by rw [← hZ1,jf]
  have zz1:getC Z2 C.length 0=some [V.s (.string ⟨#[]⟩),mi]:=gy (hZ1 ▸ ji C 0 _) (hZ2 ▸ Ext.app _ _)
  have ss1:Z2.set C.length (Ob.cells 0 [Sb B.label,cv])=C1 ++ [Ob.cells 0 [V.s (.string ⟨#[]⟩),mi]]:=by
   rw [← hZ2,xq _ _ (by omega),← hZ1,qo,hC1]
  have zz2:getC (C1 ++ [Ob.cells 0 [V.s (.string ⟨#[]⟩),mi]]) (C.length+1) 0=some [V.s (.string ⟨#[]⟩),mi]:=by rw [← l1];exact ji C1 0 _
  have ss2:(C1 ++ [Ob.cells 0 [V.s (.string ⟨#[]⟩),mi]]).set (C.length+1) (Ob.cells 0 [Sb B.label,cw])=C2:=by rw [← l1,qo,hC2]
  have hb1:base≤C.length+1:=by omega
  have b1:(B.label.data.toList == B.label.data.toList:Bool)=true:=l5 _;have b2:(((B.code.length:Nat):Int) == ((B.code.length:Nat):Int))=true:=l5 _;refine ⟨trim C0.length (fe 164 [(2,v2),(3,v3),(5,Iz n5),(6,.ref q6 0 0),(7,.ref q7 0 0),(8,Iz (k+1:Nat))]) C',?_,(hE2.trans x3).trim (ag _) _⟩;rw [l2] at f1;simp only [bl,Iz,Sb,mi] at f1 ly lz hZ1 hZ2 zz1 ss1 zz2 ss2 k9 k10;rw [jo];simp only [Iz,Sb,bl,ase,aa,reduceIte,reduceCtorEq,Nat.reduceEqDiff,Nat.reduceLT,Nat.reduceLeDiff,Nat.reduceBEq,Nat.reduceAdd,Nat.reduceMul,g6,g7,hpl,hlt',y1,z1,ly,lz,hZ1,lZ1,hZ2,zz1,ss1,zz2,ss2,hbC,hb1,hco,hcw1,ic,jh,iq,yj,o7,jc,au,cz,dz,fq,l2,k9,k10,c1l,c2l,b1,b2,f1,hwk]) 0 C0 (iw _) (Ext.refl _)
 rw [ajr] at e2;refine ⟨trim C0.length (fe 164 [(2,v2),(3,v3),(5,Iz n5),(6,.ref q6 0 0),(7,.ref q7 0 0),(8,Iz l.length),(64,bl false)]) C,e2.trans ?_,e3.trim (ag _) _⟩;have g6:=gy hg6 e3;have hpl:=(agx hc e3).len;rw [jo];simp only [Iz,bl,ase,aa,reduceIte,reduceCtorEq,Nat.reduceEqDiff,Nat.reduceLT,Nat.reduceLeDiff,Nat.reduceBEq,Nat.reduceAdd,Nat.reduceMul,g6,hpl,yh]
set_option maxHeartbeats 1000000 in
theorem sm_l2 (h:SamT CT) (base:Nat) {C0:Heap} (hb:base≤C0.length) {p2 p3:Nat} {fv fw:V} {fs:List FunD} (hg2:getC C0 p2 0=some [fv]) (hg3:getC C0 p3 0=some [fw]) (hc:zn C0 fv fs) (hd:zn C0 fw fs):
 ∃ C',itW (evC (dw CT) itW base ahx) [] C0.length (fe 164 [(2,.ref p2 0 0),(3,.ref p3 0 0),(5,Iz 0)]) C0=some (.ext 0,(fe 164 [(2,.ref p2 0 0),(3,.ref p3 0 0),(5,Iz fs.length),(25,bl false)]),C')∧Ext C0 C':=by
 have hn:=RdL.lt hc
 obtain ⟨C,e2,e3⟩:=aks fs.length (fun _ C=>Ext C0 C) (fun k C=>itW (evC (dw CT) itW base ahx) [] C0.length (fe 164 [(2,.ref p2 0 0),(3,.ref p3 0 0),(5,Iz k)]) C) (by
  intro k C hk hE
  have hlt':((k:Int) < ((fs.length:Nat):Int)):=by omega
  have hwk:=w63 (n:=k) (by omega)
  have hbC:base≤C.length:=by have:=hE.le;omega
  have g2:=gy hg2 hE;have g3:=gy hg3 hE;have hpl:=RdL.len (hc.ext hE);have hxk:fs[k]?=some (fs[k]):=List.getElem?_eq_getElem hk;obtain ⟨f,hxe⟩:∃ x,fs[k]=x:=⟨_,rfl⟩;rw [hxe] at hxk;obtain ⟨y,re,y1,y2,y3,_⟩:=hc.at2 hxk;obtain ⟨z,rf,z1,z2,z3,_⟩:=hd.at2 hxk;obtain ⟨pv,bv,rfl,u1,u2,u3,u4⟩:=y2;obtain ⟨pw,bw,rfl,w1,w2,w3,w4⟩:=z2;have o1:=u1.one;have o2:=u4.one;have o3:=w1.one;have o4:=w4.one;obtain ⟨C1,hC1⟩:∃ X,C ++ [Ob.cells 0 [Sb f.name,pv,bv]]=X:=⟨_,rfl⟩;obtain ⟨C2,hC2⟩:∃ X,C1 ++ [Ob.cells 0 [Sb f.name,pw,bw]]=X:=⟨_,rfl⟩
  have l1:C1.length=C.length+1:=by rw [← hC1,jf]
  have l2:C2.length=C.length+2:=by rw [← hC2,jf,l1]
  have x1:Ext C C1:=hC1 ▸ Ext.app _ _;have x2:Ext C1 C2:=hC2 ▸ Ext.app _ _;have ly:=y3 C hE;have lz:=z3 C hE;have k6:getC C2 C.length 0=some [Sb f.name,pv,bv]:=gy (hC1 ▸ ji C 0 _) x2
  have k7:getC C2 (C.length+1) 0=some [Sb f.name,pw,bw]:=by rw [← l1,← hC2];exact ji C1 0 _
  have hE2:=hE.trans (x1.trans x2);have ft:=aih h.texts base (D:=C2) (u1.ext hE2) u2 (w1.ext hE2) w2 u3
  obtain ⟨C',f1,x3⟩:=sm_l1 h base (C0:=C2) (by omega) (v2:=.ref p2 0 0) (v3:=.ref p3 0 0) (n5:=k) k6 k7 (agx u4 hE2) (agx w4 hE2)
  have c1l:=(agx u4 hE2).len;have c2l:=(agx w4 hE2).len;obtain ⟨Z1,hZ1⟩:∃ X,C ++ [Ob.cells 0 zh]=X:=⟨_,rfl⟩;obtain ⟨Z2,hZ2⟩:∃ X,Z1 ++ [Ob.cells 0 zh]=X:=⟨_,rfl⟩
  have lZ1:Z1.length=C.length+1:=by rw [← hZ1,jf]
  have zz1:getC Z2 C.length 0=some zh:=gy (hZ1 ▸ ji C 0 _) (hZ2 ▸ Ext.app _ _)
  have ss1:Z2.set C.length (Ob.cells 0 [Sb f.name,pv,bv])=C1 ++ [Ob.cells 0 zh]:=by
   rw [← hZ2,xq _ _ (by omega),← hZ1,qo,hC1]
  have zz2:getC (C1 ++ [Ob.cells 0 zh]) (C.length+1) 0=some zh:=by rw [← l1];exact ji C1 0 _
  have ss2:(C1 ++ [Ob.cells 0 zh]).set (C.length+1) (Ob.cells 0 [Sb f.name,pw,bw])=C2:=by rw [← l1,qo,hC2]
  have hb1:base≤C.length+1:=by omega
  have b1:(f.name.data.toList == f.name.data.toList:Bool)=true:=l5 _;have b2:(((f.blocks.length:Nat):Int) == ((f.blocks.length:Nat):Int))=true:=l5 _;refine ⟨trim C0.length (fe 164 [(2,.ref p2 0 0),(3,.ref p3 0 0),(5,Iz (k+1:Nat))]) C',?_,(hE2.trans x3).trim (ag _) _⟩;rw [l2] at f1;simp only [bl,Iz,Sb,zh,mi] at f1 ly lz hZ1 hZ2 zz1 ss1 zz2 ss2 k6 k7 ft;rw [jo];simp only [Iz,Sb,bl,ase,aa,reduceIte,reduceCtorEq,Nat.reduceEqDiff,Nat.reduceLT,Nat.reduceLeDiff,Nat.reduceBEq,Nat.reduceAdd,Nat.reduceMul,g2,g3,hpl,hlt',y1,z1,ly,lz,hZ1,lZ1,hZ2,zz1,ss1,zz2,ss2,hbC,hb1,o1,o2,o3,o4,ic,jh,iq,yj,o7,jc,au,cz,dz,fq,l2,k6,k7,c1l,c2l,b1,b2,ft,f1,hwk]) 0 C0 (iw _) (Ext.refl _)
 rw [ajr] at e2;refine ⟨trim C0.length (fe 164 [(2,.ref p2 0 0),(3,.ref p3 0 0),(5,Iz fs.length),(25,bl false)]) C,e2.trans ?_,e3.trim (ag _) _⟩;have g2:=gy hg2 e3;have hpl:=RdL.len (hc.ext e3);rw [jo];simp only [Iz,bl,ase,aa,reduceIte,reduceCtorEq,Nat.reduceEqDiff,Nat.reduceLT,Nat.reduceLeDiff,Nat.reduceBEq,Nat.reduceAdd,Nat.reduceMul,g2,hpl,yh]
theorem awn (h:SamT CT) (base:Nat) {A:Heap} (hb:base≤A.length) {fv fw:V} {fs:List FunD} (hc:zn A fv fs) (hd:zn A fw fs):
 ∃ H',dw CT (.fn bb4 [] []) [.agg [fv],.agg [fw]] base A=some (bl true,H')∧Ext A H':=by
 have o1:=hc.one;have o2:=hd.one;obtain ⟨C1,hC1⟩:∃ X,A ++ [Ob.cells 0 [fv]]=X:=⟨_,rfl⟩;obtain ⟨C2,hC2⟩:∃ X,C1 ++ [Ob.cells 0 [fw]]=X:=⟨_,rfl⟩
 have l1:C1.length=A.length+1:=by rw [← hC1,jf]
 have l2:C2.length=A.length+2:=by rw [← hC2,jf,l1]
 have x1:Ext A C1:=hC1 ▸ Ext.app _ _;have x2:Ext C1 C2:=hC2 ▸ Ext.app _ _;have e:=x1.trans x2;have g2:getC C2 A.length 0=some [fv]:=gy (hC1 ▸ ji A 0 _) x2
 have g3:getC C2 (A.length+1) 0=some [fw]:=by rw [← l1,← hC2];exact ji C1 0 _
 have p1:=RdL.len (hc.ext e);have p2:=RdL.len (hd.ext e);have b2:(((fs.length:Nat):Int) == ((fs.length:Nat):Int))=true:=l5 _
 obtain ⟨C',f1,x3⟩:=sm_l2 h base (C0:=C2) (by omega) g2 g3 (hc.ext e) (hd.ext e)
 refine ⟨C',ng (c:=alv) (k:=2) h.same rfl (by decide) aqs ?_,e.trans x3⟩
 rw [l2] at f1;simp only [bl,Iz] at f1;simp only [Iz,Sb,bl,alv,ase,aa,reduceIte,reduceCtorEq,Nat.reduceEqDiff,Nat.reduceLT,Nat.reduceLeDiff,Nat.reduceBEq,Nat.reduceAdd,Nat.reduceMul,o1,o2,hC1,l1,hC2,l2,g2,g3,p1,p2,b2,f1]
end
end Go.Proofs.YtbocmenkkjbigaaDoor
namespace Go.AM.Tok
def lexN:Nat→List UInt8→Nat→Nat→Out
 | 0,_,_,_=>.bad 0 0 0
 | _+1,[],ln,cl=>.done [⟨4,[],0,ln,cl⟩]
 | n+1,c :: l,ln,cl=>
   if blank c then (if c=10 then lexN n l (ln+1) 1 else lexN n l ln (cl+1))
   else if c=59 then lexN n (l.drop (far other l)) ln (cl+(far other l+1))
   else if letter c then (lexN n (l.drop (far within l)) ln (cl+(far within l+1))).cons ⟨1,c :: l.take (far within l),0,ln,cl⟩
   else if digit c then
    if 9 < far digit l+1∨(1 < far digit l+1∧c=48)∨far digit l < far within l then .bad 31 ln cl
    else (lexN n (l.drop (far digit l)) ln (cl+(far digit l+1))).cons ⟨2,c :: l.take (far digit l),val (c :: l.take (far digit l)),ln,cl⟩
   else if sign c then (lexN n l ln (cl+1)).cons ⟨3,[c],0,ln,cl⟩
   else .bad 30 ln cl
theorem lexN_eq:∀ (n:Nat) (l:List UInt8) (ln cl:Nat),l.length < n→lexN n l ln cl=lex l ln cl:=by
 intro n
 induction n with
 | zero=>intro l ln cl h;omega
 | succ n ih=>
   intro l ln cl h;cases l with
   | nil=>rw [lex_nil,lexN]
   | cons c l=>
     have hl:l.length < n:=by simpa using h
     have hd:∀ m,(l.drop m).length < n:=fun m=>by rw [iy];omega
     rw [lex_cons,lexN,ih _ _ _ hl,ih _ _ _ hl,ih _ _ _ (hd _),ih _ _ _ (hd _),ih _ _ _ (hd _)]
end Go.AM.Tok
set_option maxRecDepth 100000
namespace Go.Proofs.YtbocmenkkjbigaaDoor
open Go.AM
def reT:ByteArray:=⟨#[102,117,110,99,32,109,97,105,110,40,112,41,32,123,10,97,58,32,59,32,120,10,32,32,120,32,61,32,102,105,101,108,100,32,112,32,51,10,32,32,114,101,116,10,125,10]⟩
def bdp:InsD:=⟨7,⟨#[120]⟩,⟨#[112]⟩,⟨#[]⟩,3,⟨#[]⟩,[],[]⟩
def reI2:InsD:=⟨14,⟨#[]⟩,⟨#[]⟩,⟨#[]⟩,0,⟨#[]⟩,[],[]⟩
def reF:List FunD:=[⟨⟨#[109,97,105,110]⟩,[⟨#[112]⟩],[⟨⟨#[97]⟩,[bdp,reI2]⟩]⟩]
def amj (l:List UInt8):List Tok.T × (Nat × Nat) × Nat:=if 1048576 < l.length then ([],(0,0),2) else match Tok.lexN (l.length+1) l 1 1 with
 | .done ts=>(ts,(0,0),0)
 | .bad e a q=>([],(a,q),e)
theorem bbw (l:List UInt8):amk l=amj l:=by
 unfold amk amj;rw [Tok.lexN_eq _ _ _ _ (Nat.lt_succ_self _)]
 try rfl
def bbf (l:List UInt8):List FunD × (Nat × Nat) × Nat:=
 if (amj l).2.2=0 then match parT (amj l).1 with
  | .ok fs=>(fs,(0,0),0)
  | .error j=>([],(((amj l).1.getD j tkE).line,((amj l).1.getD j tkE).col),if ((amj l).1.getD j tkE).kind=4 then 41 else 40)
 else ([],(amj l).2.1,(amj l).2.2)
theorem bbe (l:List UInt8):ajv l=bbf l:=by
 unfold ajv bbf;rw [bbw]
 try rfl
theorem aw5:ajv reT.data.toList=(reF,(0,0),0):=(bbe _).trans (by kernel_rfl)
section
variable {CT:Nat→Option CFun}
def ajt (CT:Nat→Option CFun):Prop:=∀ (base:Nat) (H:Heap) (b:ByteArray),base≤H.length→∃ v H',dw CT (.fn a9o [] []) [.s (.string b)] base H=some (.tup [.agg [v],.agg [Iz (ajv b.data.toList).2.1.1,Iz (ajv b.data.toList).2.1.2],Iz (ajv b.data.toList).2.2],H')∧Ext H H'∧∀ H'',(∀ id,H.length≤id→id < H'.length→H''[id]?=H'[id]?)→zn H'' v (ajv b.data.toList).1
theorem aw6 (hP:ajt CT) (hT:CT a7z=some (.code alu)) (base:Nat) {A:Heap} (hb:base≤A.length):
 ∃ H',dw CT (.fn a7z [] []) [] base A=some (bl true,H')∧Ext A H':=by
 obtain ⟨v,H1,h1,e1,h3⟩:=hP base A reT hb;rw [aw5] at h1 h3;have hr:=h3 H1 fun _ _ _=>rfl;have hvo:=hr.one;obtain ⟨H2,hH2⟩:∃ X,H1 ++ [Ob.cells 0 [v]]=X:=⟨_,rfl⟩;obtain ⟨H3,hH3⟩:∃ X,H2 ++ [Ob.cells 0 [Iz 0,Iz 0]]=X:=⟨_,rfl⟩
 have l2:H2.length=H1.length+1:=by rw [← hH2,jf]
 have e2:Ext H1 H2:=hH2 ▸ Ext.app _ _;have e3:Ext H2 H3:=hH3 ▸ Ext.app _ _;have g1:getC H3 H1.length 0=some [v]:=gy (hH2 ▸ ji H1 0 _) e3;have hE:=e2.trans e3;have hr3:=hr.ext hE;have c0:=RdL.len hr3;obtain ⟨a,r,a1,hf,_,a3⟩:=hr3.at2 (i:=0) (x:=reF.getD 0 a9r) rfl;obtain ⟨pv,bv,rfl,p1,p2,p3,hbv⟩:=hf;obtain ⟨x1,x2,x3⟩:=a3 1 _ rfl;obtain ⟨y1,y2,y3⟩:=a3 2 _ rfl;have cp:=atq p1;have cb:=hbv.len;obtain ⟨b1,rb,b2,hbb,_,b3⟩:=hbv.at2 (i:=0) (x:=⟨⟨#[97]⟩,[bdp,reI2]⟩) rfl;obtain ⟨cv,rfl,hcv⟩:=hbb;obtain ⟨d1,d2,d3⟩:=b3 1 _ rfl;have cc:=hcv.len;obtain ⟨f1,rf,f2,hff,_,f3⟩:=hcv.at2 (i:=0) (x:=bdp) rfl;obtain ⟨av,lv,rfl,_⟩:=hff;obtain ⟨k1,k2,k3⟩:=f3 4 _ rfl;obtain ⟨m1,m2,m3⟩:=f3 2 _ rfl;have x4:=x3 H3 (Ext.refl _);have y4:=y3 H3 (Ext.refl _);have d4:=d3 H3 (Ext.refl _);have k4:=k3 H3 (Ext.refl _);have m4:=m3 H3 (Ext.refl _);obtain ⟨Z1,hZ1⟩:∃ X,H1 ++ [Ob.cells 0 [mi]]=X:=⟨_,rfl⟩;obtain ⟨Z2,hZ2⟩:∃ X,Z1 ++ [Ob.cells 0 [Iz 0,Iz 0]]=X:=⟨_,rfl⟩
 have lZ1:Z1.length=H1.length+1:=by rw [← hZ1,jf]
 have zz1:getC Z2 H1.length 0=some [mi]:=gy (hZ1 ▸ ji H1 0 _) (hZ2 ▸ Ext.app _ _)
 have ss1:Z2.set H1.length (Ob.cells 0 [v])=H3:=by
  rw [← hZ2,xq _ _ (by omega),← hZ1,qo,hH2,hH3]
 have zz2:getC H3 (H1.length+1) 0=some [Iz 0,Iz 0]:=by rw [← l2,← hH3];exact ji H2 0 _
 have ss2:H3.set (H1.length+1) (Ob.cells 0 [Iz 0,Iz 0])=H3:=by rw [← hH3,← l2,qo]
 have hbH:base≤H1.length:=by have:=e1.le;omega
 have hb1:base≤H1.length+1:=by omega
 refine ⟨H3,oh (c:=alu) hT (by simp [alu]) ?_,e1.trans hE⟩
 have z0:((0:Nat):Int)=0:=rfl;have n1:(((reF.length:Nat):Int) == 1)=true:=rfl;simp only [reT,Iz,z0] at h1;simp only [Iz,mi] at hZ1 hZ2 zz1 ss1 zz2 ss2;simp only [Iz,z0,bdp,Sb] at a1 b2 f2 k4 m4 c0 cp cb cc d4;have q1:(((reF.length:Nat):Int) == 1)=true:=rfl;have q2:((((reF.getD 0 a9r).ps.length:Nat):Int) == 1)=true:=rfl;have q3:((((reF.getD 0 a9r).blocks.length:Nat):Int) == 1)=true:=rfl;simp only [Iz,mi,bl,alu,a_f12,aa,reduceIte,reduceCtorEq,Nat.reduceEqDiff,Nat.reduceLT,Nat.reduceLeDiff,Nat.reduceBEq,Nat.reduceAdd,Nat.reduceMul,h1,hZ1,lZ1,hZ2,zz1,ss1,zz2,ss2,hbH,hb1,hvo,bg,ic,jh,iq,yj,o7,jc,au,cz,dz,fq,g1,c0,q1,a1,x2,x4,cp,q2,y2,y4,cb,q3,b2,d2,d4,cc,f2,k2,k4,m2,m4]
 try rfl
end
end Go.Proofs.YtbocmenkkjbigaaDoor
namespace Go.AM
open Go.RowKit
section
variable {P:Program}
theorem bb9 {pure':PX} {k:Nat} (hent:∀ xs w,(callFunc k xs).run P w=.ok (.enter k xs) w)
 (hs:∀ (s:ByteArray) (c:Int) (w:World),Calls P k #[.string s,.int .u8 c] w fun e w'=>e=.returned (.int .i64 (Lib.indexByte s.data.toList c.toNat.toUInt8))∧w'=w):abh P pure' k (.prim a9q):=by
 refine ⟨hent,fun vs base H r H' hg=>?_⟩;unfold a9q at hg;split at hg
 ·rename_i b c;cases hg;refine ⟨Floor.refl _ _,fun μ Mt w cs hH hvs n=>?_⟩;obtain ⟨h1,h2⟩:=hvs
  match cs,h1 with
  | [x,y],_=>
    have e1:=yf (h2 0 _ x rfl rfl);have e2:=yf (h2 1 _ y rfl rfl);subst e1 e2;refine callsIn_wide.2 ((hs b c w).mono ?_);rintro e w' ⟨rfl,rfl⟩;exact ⟨_,μ,Mt,rfl,.s _,Post.refl hH⟩
 ·cases hg
theorem ajc {α:Type} (x:α) (f:α→α):∀ l:List α,(l ++ [x]).modify l.length f=l ++ [f x]
 | []=>rfl
 | y :: l=>by
   have:=ajc x f l;simp only [au,cu,List.modify_succ_cons,this]
theorem aq8 {α:Type} (a:Array α) (x:α) (f:α→α):(a.push x).modify a.size f=a.push (f x):=by
 apply qy;rw [Array.toList_modify,ahr,ahr,show a.size=a.toList.length from rfl];exact ajc x f _
theorem avl {CC:CX} {μ:Mu} {Mt:Nat→Prop} {w:World} {H:Heap} (h:HR CC μ Mt w H) (e:TypeId) (s:ByteArray):Post CC μ Mt w H μ Mt (Lib.bytesWorld w e s) H:=by
 refine aqw [.cells (Lib.bytesCells w e s) e ((Lib.bytesCells w e s).size,(Lib.bytesCells w e s).size+1)] w _ h ?_ rfl rfl rfl;unfold Lib.bytesWorld World.freeze
 rw [gu (by decide)]
 obtain ⟨o,ho⟩:∃ o,Obj.cells (Lib.bytesCells w e s) e=o:=⟨_,rfl⟩;have hp:(w.drew.alloc o).heap=w.heap.push o:=rfl;simp only [ho,hp];rw [aq8,← ho];rfl
theorem a8y {pure':PX} {k:Nat} {t:TypeId} (hent:∀ xs w,(callFunc k xs).run P w=.ok (.enter k xs) w)
 (hs:∀ (s:ByteArray) (n:Int),s.size≤18→Lib.atoi s.data.toList=some n→∀ (w:World),Calls P k #[.string s] w fun e w'=>e=.returned (.tuple #[.int .i64 n,.nilIface])∧∃ b,w'=Lib.bytesWorld w t b):abh P pure' k (.prim apm):=by
 refine ⟨hent,fun vs base H r H' hg=>?_⟩;unfold apm at hg;split at hg
 ·rename_i b;split at hg
  ·rename_i hb;cases hn:Lib.atoi b.data.toList with
   | none=>rw [hn] at hg;cases hg
   | some n=>
     rw [hn] at hg;cases hg;refine ⟨Floor.refl _ _,fun μ Mt w cs hH hvs m=>?_⟩;obtain ⟨h1,h2⟩:=hvs
     match cs,h1 with
     | [x],_=>
       have e1:=yf (h2 0 _ x rfl rfl);subst e1;refine callsIn_wide.2 ((hs b n hb hn w).mono ?_);rintro e w' ⟨rfl,s,rfl⟩;refine ⟨_,μ,Mt,rfl,?_,avl hH t s⟩;refine .tup _ _ rfl fun i a c ha hc=>?_
       match i with
       | 0=>cases ha;cases hc;exact .s _
       | 1=>cases ha;cases hc;exact .s _
       | i+2=>simp at ha
  ·cases hg
 ·cases hg
end
inductive Ty where
 | int (k:IntKind) | bool | str
 | sl (e:Ty)
 | st (fs:List Ty)
 deriving Inhabited
mutual
def Ty.width:Ty→Nat
 | .int _=>1
 | .bool=>1
 | .str=>1
 | .sl _=>1
 | .st fs=>ahe fs
def ahe:List Ty→Nat
 | []=>0
 | f :: fs=>f.width+ahe fs
end
mutual
def akb (P:Program):Nat→Ty→TypeId→Bool
 | 0,_,_=>false
 | n+1,ty,t=>match ty,P.underlying t with
   | .int k,some (.int k')=>k == k'
   | .bool,some .bool=>true
   | .str,some .string=>true
   | .sl e,some (.slice e')=>akb P n e e' && P.cellsOf e' == e.width && decide (0 < e.width)
   | .st fs,some (.struct gs)=>P.cellsOf t == ahe fs && apz P n 0 fs gs.toList
   | _,_=>false
def apz (P:Program):Nat→Nat→List Ty→List Field→Bool
 | 0,_,_,_=>false
 | n+1,off,fs,gs=>match fs,gs with
   | [],[]=>true
   | f :: fs,g :: gs=>g.offset == off && P.cellsOf g.type == f.width && akb P n f g.type && apz P n (off+f.width) fs gs
   | _,_=>false
end
mutual
def IsV:Ty→List V→Prop
 | .int k,cs=>∃ n,cs=[.s (.int k n)]∧k.min≤n∧n≤k.max
 | .bool,cs=>∃ b,cs=[.s (.bool b)]
 | .str,cs=>∃ b,cs=[.s (.string b)]∧b.size≤maxLen
 | .sl e,cs=>cs=[mi]∨∃ es:List (List V),cs=[.psl es e.width]∧es.length≤maxLen∧∀ x∈es,IsV e x
 | .st fs,cs=>a9m fs cs
def a9m:List Ty→List V→Prop
 | [],cs=>cs=[]
 | f :: fs,cs=>∃ a b,cs=a ++ b∧IsV f a∧a9m fs b
end
mutual
theorem IsV.len:∀ (t:Ty) {cs:List V},IsV t cs→cs.length=t.width
 | .int _,cs,h=>by obtain ⟨n,rfl,_⟩:=h;rfl
 | .bool,cs,h=>by obtain ⟨n,rfl⟩:=h;rfl
 | .str,cs,h=>by obtain ⟨n,rfl,_⟩:=h;rfl
 | .sl e,cs,h=>by rcases h with rfl | ⟨es,rfl,_⟩ <;> rfl
 | .st fs,cs,h=>a9m.len fs h
theorem a9m.len:∀ (fs:List Ty) {cs:List V},a9m fs cs→cs.length=ahe fs
 | [],cs,h=>by cases h;rfl
 | f :: fs,cs,h=>by
   obtain ⟨a,b,rfl,h1,h2⟩:=h;rw [dm,IsV.len f h1,a9m.len fs h2];rfl
end
abbrev PRs (w:World) (vs:List V) (cs:List Value):Prop:=vs.length=cs.length∧∀ (i:Nat) (a:V) (b:Value),vs[i]?=some a→cs[i]?=some b→PR (fun _=>False) w a b
theorem PRs.app {w:World} {a b:List V} {c d:List Value} (h:PRs w a c) (k:PRs w b d):PRs w (a ++ b) (c ++ d):=by
 refine ⟨by simp [h.1,k.1],fun i x y hx hy=>?_⟩
 by_cases hi:i < a.length
 ·rw [List.getElem?_append_left hi] at hx
  rw [List.getElem?_append_left (by rw [← h.1];exact hi)] at hy
  exact h.2 i x y hx hy
 ·rw [List.getElem?_append_right (by omega)] at hx
  rw [List.getElem?_append_right (by rw [← h.1];omega),← h.1] at hy
  exact k.2 _ x y hx hy
theorem PRs.one {w:World} {a:V} {b:Value} (h:PR (fun _=>False) w a b):PRs w [a] [b]:=⟨rfl,fun i x y hx hy=>by
 cases i with
 | zero=>simp at hx hy;rw [← hx,← hy];exact h
 | succ i=>simp at hx⟩
theorem PRs.vrs {w:World} {vs:List V} {cs:List Value} (h:PRs w vs cs):VRs (fun _ _=>none) (fun _=>False) w vs cs:=⟨h.1,fun i a b ha hb=>(h.2 i a b ha hb).vr⟩
theorem a15 {α β:Type} {f:α→Option β} {l:List α} {us:List β} (h:l.mapM f=some us):us.length=l.length∧∀ (i:Nat) (v:α),l[i]?=some v→∃ u,us[i]?=some u∧f v=some u:=by
 obtain ⟨h1,h2⟩:=aos h;refine ⟨h1,fun i v hv=>?_⟩
 have hi:i < us.length:=by rw [h1];exact (List.getElem?_eq_some_iff.1 hv).1
 exact ⟨us[i],List.getElem?_eq_getElem hi,h2 i v _ hv (List.getElem?_eq_getElem hi)⟩
section
variable {H:Type} {enc:TypeId × Value→H} {P:Program} {w:World} {base:Nat} {sp:Nat→Bool} {held:Bool}
theorem add_block (a:Addr) (j:Nat):(a.add j).block=a.block:=by unfold Addr.add;split <;> rfl
theorem azx {a:Addr} (h:a.spot=none) (j:Nat):(a.add j).off=a.off+j:=by
 unfold Addr.add;split
 ·rename_i e;subst e;rfl
 ·rfl
theorem api {a:Addr} {n:Nat} {cs:List Value} (h:w.cells? base a n=some cs) (hn:0 < n):∃ arr e fr,w.heap[a.block]?=some (.cells arr e fr)∧a.spot=none∧cs.length=n∧a.off+n≤arr.size∧∀ j,j < n→cs[j]?=arr[a.off+j]?:=by
 unfold World.cells? at h;split at h
 ·obtain ⟨h1,h2⟩:=a15 h;simp only [List.length_range] at h1
  have key:∀ j,j < n→∃ u,cs[j]?=some u∧w.cell? (a.add j)=some u:=fun j hj=>h2 j j (by simp [hj])
  obtain ⟨u0,_,hc0⟩:=key 0 hn;unfold World.cell? at hc0;split at hc0
  ·rename_i c e fr hh;have hbl:∀ j,(a.add j).block=a.block:=fun j=>add_block a j;rw [hbl] at hh;split at hc0
   ·cases hc0
   ·rename_i hsp
    have hsp:a.spot=none:=by
     cases hs:a.spot with
     | none=>rfl
     | some x=>exact absurd (by show (a.add 0).spot.isSome=true;simp [Addr.add,hs]) hsp
    have all:∀ j,j < n→cs[j]?=c[a.off+j]?:=by
     intro j hj;obtain ⟨u,hu,hc⟩:=key j hj;unfold World.cell? at hc;rw [hbl,hh] at hc;simp only [] at hc;split at hc
     ·cases hc
     ·rw [hu];have:(a.add j).off=a.off+j:=azx hsp j;rw [← this];exact hc.symm
    refine ⟨c,e,fr,hh,hsp,h1,?_,all⟩
    have hl:=all (n - 1) (by omega)
    have:cs[n - 1]?=some cs[n - 1]:=List.getElem?_eq_getElem (by omega)
    rw [this] at hl;have:=(Array.getElem?_eq_some_iff.1 hl.symm).1;omega
  ·cases hc0
 ·cases h
theorem a0h {n:Nat} {k:IntKind} {t:TypeId} (h:akb P n (.int k) t=true):P.underlying t=some (.int k):=by
 cases n with
 | zero=>simp [akb] at h
 | succ n=>
   simp only [akb] at h;split at h <;> simp_all
theorem avy {n:Nat} {t:TypeId} (h:akb P n .bool t=true):P.underlying t=some .bool:=by
 cases n with
 | zero=>simp [akb] at h
 | succ n=>
   simp only [akb] at h;split at h <;> simp_all
theorem a0g {n:Nat} {t:TypeId} (h:akb P n .str t=true):P.underlying t=some .string:=by
 cases n with
 | zero=>simp [akb] at h
 | succ n=>
   simp only [akb] at h;split at h <;> simp_all
theorem a5y {n:Nat} {e:Ty} {t:TypeId} (h:akb P n (.sl e) t=true):∃ m e',P.underlying t=some (.slice e')∧akb P m e e'=true∧P.cellsOf e'=e.width∧0 < e.width:=by
 cases n with
 | zero=>simp [akb] at h
 | succ n=>
   simp only [akb] at h;split at h <;> simp_all;exact ⟨n,h.1.1⟩
theorem a5x {n:Nat} {fs:List Ty} {t:TypeId} (h:akb P n (.st fs) t=true):∃ m gs,P.underlying t=some (.struct gs)∧P.cellsOf t=ahe fs∧apz P m 0 fs gs.toList=true:=by
 cases n with
 | zero=>simp [akb] at h
 | succ n=>
   simp only [akb] at h;split at h <;> simp_all;exact ⟨n,h.2⟩
theorem a6n:∀ (fuel n:Nat) (ty:Ty) (t:TypeId) (cs:List Value) (x:DataW H × List MemPlace),akb P n ty t=true→DataW.trod enc P w base sp held fuel t cs=some x→∃ vs,IsV ty vs∧PRs w vs cs:=by
 intro fuel
 induction fuel with
 | zero=>intro n ty t cs x _ h;simp [DataW.trod] at h
 | succ fuel ih=>
   intro n ty t cs x ht h;cases ty with
   | int k=>
     obtain ⟨m,rfl,_,hw⟩:=DataW.trod_int (a0h ht) h;simp only [Lit.wf,ak,jv] at hw;exact ⟨[.s (.int k m)],⟨m,rfl,hw.1,hw.2⟩,PRs.one (.s _)⟩
   | bool=>
     obtain ⟨b,rfl,_⟩:=DataW.trod_bool (avy ht) h;exact ⟨[.s (.bool b)],⟨b,rfl⟩,PRs.one (.s _)⟩
   | str=>
     obtain ⟨b,rfl,_,hb⟩:=DataW.trod_string (a0g ht) h;exact ⟨[.s (.string b)],⟨b,rfl,hb⟩,PRs.one (.s _)⟩
   | sl e=>
     obtain ⟨m,e',hu,he,hw,h0⟩:=a5y ht
     rcases DataW.trod_slice hu h with ⟨rfl,_⟩ | ⟨a,len,cap,elems,rest,n2,hn,rfl,_,hb,hlc,hcm,hel,hall,_⟩
     ·exact ⟨[mi],.inl rfl,PRs.one (.s _)⟩
     ·have hn2:n2=fuel:=by omega
      subst hn2;rw [hw] at hall;by_cases hl:len=0
      ·subst hl
       exact ⟨[.psl [] e.width],.inr ⟨[],rfl,iw _,fun x hx=>by cases hx⟩,PRs.one (.psl0 _ _ _)⟩
      ·
       have one:∀ i,i < len→∃ cs vs,w.cells? base (a.add (i * e.width)) e.width=some cs∧IsV e vs∧PRs w vs cs:=by
        intro i hi;have hh:=hall i hi
        have:elems[i]?=some elems[i]:=List.getElem?_eq_getElem (by omega)
        rw [this,ae] at hh;obtain ⟨cs,h1,h2⟩:=hh;obtain ⟨vs,h3,h4⟩:=ih m e e' cs _ he h2;exact ⟨cs,vs,h1,h3,h4⟩
       obtain ⟨c0,_,hc0,_,_⟩:=one 0 (by omega)
       rw [az1] at hc0
       have ha0:a.add 0=a:=by simp [Addr.add]
       rw [ha0] at hc0;obtain ⟨arr,el,fr,hB,hsp,_,_,_⟩:=api hc0 h0
       have pos:∀ i,i < len→∃ vs,IsV e vs∧a.off+i * e.width+e.width≤arr.size∧∀ (j:Nat) (x:V) (y:Value),vs[j]?=some x→arr[a.off+i * e.width+j]?=some y→PR (fun _=>False) w x y:=by
        intro i hi;obtain ⟨cs,vs,h1,h2,h3⟩:=one i hi;obtain ⟨arr',el',fr',hB',_,hcl,hsz,hcj⟩:=api h1 h0;rw [add_block,hB] at hB';cases hB';rw [azx hsp] at hsz hcj;refine ⟨vs,h2,hsz,fun j x y hx hy=>?_⟩
        have hj:j < e.width:=by rw [← h2.len];exact (List.getElem?_eq_some_iff.1 hx).1
        exact h3.2 j x y hx (by rw [hcj j hj];exact hy)
       obtain ⟨es,he1,he2⟩:∃ es:List (List V),es.length=len∧∀ i vs,es[i]?=some vs→IsV e vs∧a.off+i * e.width+e.width≤arr.size∧∀ (j:Nat) (x:V) (y:Value),vs[j]?=some x→arr[a.off+i * e.width+j]?=some y→PR (fun _=>False) w x y:=by
        have:∀ k,k≤len→∃ es:List (List V),es.length=k∧∀ i vs,es[i]?=some vs→IsV e vs∧a.off+i * e.width+e.width≤arr.size∧∀ (j:Nat) (x:V) (y:Value),vs[j]?=some x→arr[a.off+i * e.width+j]?=some y→PR (fun _=>False) w x y:=by
         intro k
         induction k with
         | zero=>intro _;exact ⟨[],rfl,fun i vs h=>by simp at h⟩
         | succ k ihk=>
           intro hk
           obtain ⟨es,h1,h2⟩:=ihk (by omega)
           obtain ⟨vs,h3⟩:=pos k (by omega)
           refine ⟨es ++ [vs],by simp [h1],fun i us hi=>?_⟩
           by_cases c:i < es.length
           ·rw [List.getElem?_append_left c] at hi;exact h2 i us hi
           ·rw [List.getElem?_append_right (by omega)] at hi
            have:i - es.length=0:=by
             have:=(List.getElem?_eq_some_iff.1 hi).1;simp at this;omega
            rw [this] at hi;simp at hi
            have hik:i=k:=by omega
            subst hik;subst hi;exact h3
        exact this len (ag _)
       refine ⟨[.psl es e.width],.inr ⟨es,rfl,by omega,fun x hx=>?_⟩,PRs.one ?_⟩
       ·obtain ⟨i,hi⟩:=List.mem_iff_getElem?.1 hx;exact (he2 i x hi).1
       ·have hslice:Value.slice (some a) len cap=.slice (some ⟨a.block,a.off,none⟩) es.length cap:=by
         rw [he1]
         congr 2
         cases a;simp at hsp;subst hsp;rfl
        rw [hslice]
        refine .psl es e.width a.block a.off cap arr el fr hB (fun h=>h) (by omega) (fun i vs hi=>(he2 i vs hi).1.len) ?_ (fun i vs j x y hi hx hy=>(he2 i vs hi).2.2 j x y hx hy)
        have hlast:=(he2 (len - 1) es[len - 1] (List.getElem?_eq_getElem (by omega))).2.1
        rw [he1]
        have:len * e.width=(len - 1) * e.width+e.width:=by
         obtain ⟨k,rfl⟩:∃ k,len=k+1:=⟨len - 1,by omega⟩
         rw [Nat.add_sub_cancel,rz,apt]
        omega
   | st fs=>
     obtain ⟨m,gs,hu,hw,hts⟩:=a5x ht;obtain ⟨xs,n2,hn,_,hcl,hxl,hall⟩:=DataW.trod_struct hu h
     have hn2:n2=fuel:=by omega
     subst hn2
     have key:∀ (fs:List Ty) (m off:Nat) (gl:List Field),apz P m off fs gl=true→(∀ g∈gl,∃ y,DataW.trod enc P w base sp held n2 g.type ((cs.drop g.offset).take (P.cellsOf g.type))=some y)→off+ahe fs=cs.length→∃ vs,a9m fs vs∧PRs w vs (cs.drop off):=by
      intro fs
      induction fs with
      | nil=>
        intro m off gl _ _ ho;refine ⟨[],rfl,?_⟩
        rw [og (by simp [ahe] at ho;omega)]
        exact ⟨rfl,fun i a b h=>by simp at h⟩
      | cons f fs ihf=>
        intro m off gl htk hg ho;cases m with
        | zero=>simp [apz] at htk
        | succ m=>
          cases gl with
          | nil=>simp [apz] at htk
          | cons g gl=>
            simp only [apz,ak,jy] at htk;obtain ⟨⟨⟨h1,h2⟩,h3⟩,h4⟩:=htk;obtain ⟨y,hy⟩:=hg g d9;obtain ⟨va,ha1,ha2⟩:=ih m f g.type _ y h3 hy
            obtain ⟨vb,hb1,hb2⟩:=ihf m (off+f.width) gl h4 (fun g hg'=>hg g (dh _ hg')) (by simp only [ahe] at ho;omega)
            refine ⟨va ++ vb,⟨va,vb,rfl,ha1,hb1⟩,?_⟩;rw [h1,h2] at ha2
            have:cs.drop off=(cs.drop off).take f.width ++ cs.drop (off+f.width):=by
             rw [← za,l8]
            rw [this];exact ha2.app hb2
     obtain ⟨vs,h1,h2⟩:=key fs m 0 gs.toList hts (fun g hg=>by
      obtain ⟨i,hi⟩:=List.mem_iff_getElem?.1 hg
      have hi':gs[i]?=some g:=by simpa using hi
      have h3:=hall i g hi';have hlt:=(Array.getElem?_eq_some_iff.1 hi').1
      exact ⟨xs[i]'(by omega),by rw [h3];exact List.getElem?_eq_getElem (by omega)⟩) (by omega)
     exact ⟨vs,h1,by simpa using h2⟩
def argV:Ty→List V→V
 | .st _,vs=>.agg vs
 | _,[v]=>v
 | _,_=>.unk
theorem a05 {n:Nat} {ty:Ty} {t:TypeId} {v:Value} {d:DataW H} {ps:List MemPlace} (ht:akb P n ty t=true) (hf:(match ty with | .st _=>∃ vs,v=.agg vs | _=>v.cells.toList=[v])) (h:DataW.Trod enc P w base sp held t v d ps):
 ∃ vs,IsV ty vs∧VR (fun _ _=>none) (fun _=>False) w (argV ty vs) v:=by
 obtain ⟨fuel,h⟩:=h;obtain ⟨vs,h1,h2⟩:=a6n fuel n ty t _ _ ht h;refine ⟨vs,h1,?_⟩
 have one:vs.length=1→v.cells.toList=[v]→∃ x,vs=[x]∧VR (fun _ _=>none) (fun _=>False) w x v:=by
  intro hl hc
  match vs,hl with
  | [x],_=>
    rw [hc] at h2;exact ⟨x,rfl,(h2.2 0 x v rfl rfl).vr⟩
 cases ty with
 | st fs=>
   obtain ⟨us,rfl⟩:=hf;exact ac6 (vs:=us.toList) h2.vrs
 | _=>
   obtain ⟨x,rfl,hx⟩:=one h1.len hf;exact hx
end
end Go.AM
set_option maxRecDepth 100000
namespace Go.Proofs.YtbocmenkkjbigaaDoor
open Go.ChangeShapes Go.WideShapes Go.ChangeAt Go.RowKit Go.AM
theorem mixed:Tryd.prog.follows .mixedOrders=true:=by kernel_rfl
theorem atb {px:PX}:abh Tryd.prog px 27 (.prim a9q):=bb9 (Go.Proofs.enters_of Tryd.func27 (by kernel_rfl) rfl) (fun s c w=>Any.strings_IndexByte Tryd.idxK s c w)
theorem apl {px:PX}:abh Tryd.prog px 33 (.prim apm):=a8y (t:=Tryd.atoiK_ren.t 5) (Go.Proofs.enters_of Tryd.func33 (by kernel_rfl) rfl) (fun s n h1 h2 w=>Any.strconv_Atoi Tryd.atoiK s n h1 h2 w)
def CT0:Nat→Option CFun
 | 13=>some (.code aeb)
 | 16=>some (.code afn)
 | 18=>some (.code adc)
 | 25=>some (.code aj4)
 | 26=>some (.code ai1)
 | 27=>some (.prim a9q)
 | 28=>some (.code aj3)
 | 29=>some (.code aj2)
 | 30=>some (.code aj1)
 | 31=>some (.code aj0)
 | 32=>some (.code ajz)
 | 33=>some (.prim apm)
 | 34=>some (.code ajy)
 | 35=>some (.code afm)
 | 36=>some (.code ai0)
 | 37=>some (.code agk)
 | 38=>some (.code ac1)
 | 39=>some (.code aea)
 | 49=>some (.code aiy)
 | 50=>some (.code aeu)
 | 51=>some (.code agj)
 | 52=>some (.code alp)
 | 53=>some (.code alo)
 | 60=>some (.code ac0)
 | 61=>some (.code afl)
 | 62=>some (.code afk)
 | 63=>some (.code aer)
 | 64=>some (.code aiw)
 | 65=>some (.code agi)
 | 66=>some (.code aiu)
 | 67=>some (.code ap9)
 | 68=>some (.code ais)
 | 69=>some (.code aiq)
 | 70=>some (.code afj)
 | 71=>some (.code aen)
 | _=>none
theorem bdn:∀ k c,CT0 k=some c→abh Tryd.prog (PXf (fun _=>none)) k c:=by
 intro k c h;unfold CT0 at h;split at h
 ·cases h;exact kw (fun _=>none) a5o
 ·cases h;exact kw (fun _=>none) bdl
 ·cases h;exact kw (fun _=>none) bcw
 ·cases h;exact kw (fun _=>none) a5n
 ·cases h;exact kw (fun _=>none) a5m
 ·cases h;exact atb
 ·cases h;exact kw (fun _=>none) a5l
 ·cases h;exact kw (fun _=>none) a5k
 ·cases h;exact kw (fun _=>none) a5j
 ·cases h;exact kw (fun _=>none) a5i
 ·cases h;exact kw (fun _=>none) a5h
 ·cases h;exact apl
 ·cases h;exact kw (fun _=>none) bdk
 ·cases h;exact kw (fun _=>none) bdj
 ·cases h;exact kw (fun _=>none) bdi
 ·cases h;exact kw (fun _=>none) bdh
 ·cases h;exact kw (fun _=>none) bdg
 ·cases h;exact kw (fun _=>none) bcv
 ·cases h;exact kw (fun _=>none) bdf
 ·cases h;exact kw (fun _=>none) bde
 ·cases h;exact kw (fun _=>none) bdd
 ·cases h;exact kw (fun _=>none) bcu
 ·cases h;exact kw (fun _=>none) bct
 ·cases h;exact kw (fun _=>none) bdc
 ·cases h;exact kw (fun _=>none) bdb
 ·cases h;exact kw (fun _=>none) bda
 ·cases h;exact kw (fun _=>none) bc9
 ·cases h;exact kw (fun _=>none) bc8
 ·cases h;exact kw (fun _=>none) bc7
 ·cases h;exact kw (fun _=>none) bc6
 ·cases h;exact kw (fun _=>none) bc5
 ·cases h;exact kw (fun _=>none) bc4
 ·cases h;exact kw (fun _=>none) bcz
 ·cases h;exact kw (fun _=>none) bcy
 ·cases h;exact kw (fun _=>none) bcx
 ·cases h
theorem tl0:TL CT0:=⟨rfl,rfl,rfl,rfl,rfl,rfl,rfl,rfl,rfl⟩
theorem tr0:RdT CT0:=by constructor <;> rfl
theorem to0:OpsT CT0:=by constructor <;> first | exact tr0 | rfl
theorem ti0:InsT CT0:=by constructor <;> first | exact to0 | rfl
theorem tf0:FunT CT0:=by constructor <;> first | exact ti0 | rfl
theorem auw:abh Tryd.prog (PXf (fun _=>none)) 9 (.prim (a4y CT0)):=a1f mixed bdn a1j
theorem a1g {CT:Nat→Option CFun} (hT:CT a9o=some (.prim (a4y CT0))):ajt CT:=fun base _ b hb=>axa hT tf0 rfl tl0 base hb b
theorem a3x (os:Os) (args:Array Value):laidMetH Tryd.prog Rows.readParsesRow.laid ((World.doorLaid Tryd.prog 400 os).forCall (fun _ _=>0) ⟨#[],args,[]⟩).memory:=by
 rw [MakeChecks.laidMetH_plain _ _ _ (by kernel_rfl)]
 exact laidMet_of_run' 8 (by kernel_rfl) (by kernel_rfl)
open Go.AM
section
variable {W V:Vw} {k:Nat}
end
open Go.AM
section
variable {U V:Vw} {k K:Nat}
end
open Go.AM
open Go.AM
theorem bx1 (H:Heap) (a:V) (c:Ob):getC (H ++ [.cells 0 [a]] ++ [c]) H.length 0=some [a]:=gy (ji H 0 [a]) (Ext.app _ _)
theorem bx2 (H:Heap) (a b:Ob) (c:Ob):(H ++ [a] ++ [c]).set H.length b=H ++ [b] ++ [c]:=by
 rw [xq _ _ (by rw [jf];omega),qo]
theorem bx3 (H:Heap) (a:Ob) (c:List V):getC (H ++ [a] ++ [.cells 0 c]) (H.length+1) 0=some c:=by
 have:=ji (H ++ [a]) 0 c
 rwa [jf] at this
theorem bx4 (H:Heap) (a:Ob) (b c:Ob):(H ++ [a] ++ [b]).set (H.length+1) c=H ++ [a] ++ [c]:=by
 have:=qo (H ++ [a]) b c
 rwa [jf] at this
theorem bx5 (H:Heap) (a:Ob):(H ++ [a]).length=H.length+1:=jf H a
section
variable {CT:Nat→Option CFun}
theorem a04 (hP:ajt CT) (base:Nat) {H:Heap} (hb:base≤H.length) (b:ByteArray) {p:List FunD × (Nat × Nat) × Nat} (hp:ajv b.data.toList=p):∃ v H1 H2,dw CT (.fn a9o [] []) [.s (.string b)] base H=some (.tup [.agg [v],.agg [.s (.int .i64 p.2.1.1),.s (.int .i64 p.2.1.2)],.s (.int .i64 p.2.2)],H1)∧
 H1 ++ [Ob.cells 0 [v]] ++ [Ob.cells 0 [.s (.int .i64 p.2.1.1),.s (.int .i64 p.2.1.2)]]=H2∧Ext H H2∧base≤H1.length∧base≤H1.length+1∧H2.length=H1.length+2∧H.length≤H1.length∧v.one=true∧zn H2 v p.1∧getC H2 H1.length 0=some [v]∧getC H2 (H1.length+1) 0=some [.s (.int .i64 p.2.1.1),.s (.int .i64 p.2.1.2)]:=by
 obtain ⟨v,H1,h1,e1,h3⟩:=hP base H b hb;rw [hp] at h1 h3;have hr:=h3 H1 fun _ _ _=>rfl;obtain ⟨H2,hH2⟩:∃ X,H1 ++ [Ob.cells 0 [v]] ++ [Ob.cells 0 [.s (.int .i64 p.2.1.1),.s (.int .i64 p.2.1.2)]]=X:=⟨_,rfl⟩;have e2:Ext H1 H2:=hH2 ▸ (Ext.app _ _).trans (Ext.app _ _);have hl:=e1.le
 refine ⟨v,H1,H2,h1,hH2,e1.trans e2,by omega,by omega,by rw [← hH2,jf,jf],hl,hr.one,hr.ext e2,hH2 ▸ bx1 _ _ _,hH2 ▸ bx3 _ _ _⟩
end
open Go.AM
def Sly (x:V):Prop:=x=mi∨x=.esl∨∃ id g o n w,x=.sl id g o n w
inductive CD:V→V→Prop
 | same (x:V):CD x x
 | str (a b:ByteArray):CD (Sb a) (Sb b)
 | num (k:IntKind) (a b:Int):CD (.s (.int k a)) (.s (.int k b))
 | nil (x:V) (h:Sly x):CD x mi
inductive CDs:List V→List V→Prop
 | nil:CDs [] []
 | cons {x y:V} {l m:List V} (h:CD x y) (t:CDs l m):CDs (x :: l) (y :: m)
theorem Sly.str {a:ByteArray} (h:Sly (Sb a)):False:=by
 rcases h with h | h | ⟨_,_,_,_,_,h⟩ <;> cases h
theorem Sly.num {k:IntKind} {a:Int} (h:Sly (.s (.int k a))):False:=by
 rcases h with h | h | ⟨_,_,_,_,_,h⟩ <;> cases h
theorem CD.trans {x y z:V} (h:CD x y) (k:CD y z):CD x z:=by
 cases h with
 | same=>exact k
 | str a b=>
   generalize hy:Sb b=y at k;cases k with
   | same=>subst hy;exact .str _ _
   | str c d=>exact .str _ _
   | num=>cases hy
   | nil _ h=>subst hy;exact (Sly.str h).elim
 | num q a b=>
   generalize hy:V.s (.int q b)=y at k;cases k with
   | same=>subst hy;exact .num _ _ _
   | str c d=>cases hy
   | num q' c d=>cases hy;exact .num _ _ _
   | nil _ h=>subst hy;exact (Sly.num h).elim
 | nil _ h=>
   generalize hy:mi=y at k;cases k with
   | same=>subst hy;exact .nil _ h
   | str c d=>cases hy
   | num=>cases hy
   | nil=>exact .nil _ h
theorem CD.sly {x y:V} (h:CD x y) (hx:Sly x):y=x∨y=mi:=by
 cases h with
 | same=>exact .inl rfl
 | str a b=>exact (Sly.str hx).elim
 | num=>exact (Sly.num hx).elim
 | nil=>exact .inr rfl
theorem CD.sb {a:ByteArray} {y:V} (h:CD (Sb a) y):∃ b,y=Sb b:=by
 generalize hx:Sb a=x at h;cases h with
 | same=>exact ⟨a,hx.symm⟩
 | str c d=>exact ⟨d,rfl⟩
 | num=>cases hx
 | nil _ h=>subst hx;exact (Sly.str h).elim
theorem CD.int {k:IntKind} {a:Int} {y:V} (h:CD (.s (.int k a)) y):∃ b,y=.s (.int k b):=by
 generalize hx:V.s (.int k a)=x at h;cases h with
 | same=>exact ⟨a,hx.symm⟩
 | str c d=>cases hx
 | num q c d=>cases hx;exact ⟨_,rfl⟩
 | nil _ h=>subst hx;exact (Sly.num h).elim
theorem CDs.refl:∀ l:List V,CDs l l
 | []=>.nil
 | x :: l=>.cons (.same x) (CDs.refl l)
theorem CDs.trans {a b:List V} (h:CDs a b):∀ {c:List V},CDs b c→CDs a c:=by
 induction h with
 | nil=>intro c k;cases k;exact .nil
 | cons h _ ih=>intro c k;cases k with | cons k1 k2=>exact .cons (h.trans k1) (ih k2)
theorem CDs.len {a b:List V} (h:CDs a b):b.length=a.length:=by
 induction h with
 | nil=>rfl
 | cons _ _ ih=>simp [ih]
theorem CDs.drop {a b:List V} (h:CDs a b):∀ n,CDs (a.drop n) (b.drop n):=by
 induction h with
 | nil=>intro n;simp;exact .nil
 | cons h t ih=>
   intro n;cases n with
   | zero=>exact .cons h t
   | succ n=>exact ih n
theorem CDs.take {a b:List V} (h:CDs a b):∀ n,CDs (a.take n) (b.take n):=by
 induction h with
 | nil=>intro n;simp;exact .nil
 | cons h t ih=>
   intro n;cases n with
   | zero=>exact .nil
   | succ n=>exact .cons h (ih n)
theorem CDs.app {a b c d:List V} (h:CDs a b) (k:CDs c d):CDs (a ++ c) (b ++ d):=by
 induction h with
 | nil=>exact k
 | cons h _ ih=>exact .cons h ih
theorem CDs.splice {c cs:List V} {p:Nat} (h:CDs ((c.drop p).take cs.length) cs):CDs c (splice c p cs):=by
 have hc:c=c.take p ++ ((c.drop p).take cs.length ++ c.drop (p+cs.length)):=by
  rw [← za,l8,l8]
 unfold Go.AM.splice;rw [ja]
 conv=>arg 1;rw [hc]
 exact (CDs.refl _).app (h.app (CDs.refl _))
structure Dg (m N:Nat) (H H':Heap):Prop where
 len:H'.length=H.length
 out:∀ id,id < m∨N≤id→H'[id]?=H[id]?
 cel:∀ id g c,getC H id g=some c→∃ c',getC H' id g=some c'∧CDs c c'
theorem Dg.refl (m N:Nat) (H:Heap):Dg m N H H:=⟨rfl,fun _ _=>rfl,fun _ _ c h=>⟨c,h,CDs.refl c⟩⟩
theorem Dg.trans {m N:Nat} {A B C:Heap} (h:Dg m N A B) (k:Dg m N B C):Dg m N A C:=by
 refine ⟨k.len.trans h.len,fun id hid=>(k.out id hid).trans (h.out id hid),fun id g c hc=>?_⟩;obtain ⟨c1,a1,a2⟩:=h.cel id g c hc;obtain ⟨c2,b1,b2⟩:=k.cel id g c1 a1;exact ⟨c2,b1,a2.trans b2⟩
theorem Dg.getC {m N:Nat} {H H':Heap} (h:Dg m N H H') {id g:Nat} {c:List V} (hc:getC H id g=some c) (hid:N≤id):getC H' id g=some c:=by
 unfold Go.AM.getC at hc ⊢;rw [h.out id (.inr hid)];exact hc
theorem Dg.store {m N:Nat} {H:Heap} {id g p:Nat} {c cs:List V} (hc:Go.AM.getC H id g=some c) (h1:m≤id) (h2:id < N) (h:CDs ((c.drop p).take cs.length) cs):Dg m N H (H.set id (.cells g (splice c p cs))):=by
 refine ⟨bu,fun i hi=>List.getElem?_set_ne (by omega),fun i g' c' hc'=>?_⟩
 by_cases e:i=id
 ·subst e
  have hg:g'=g∧c'=c:=by
   unfold Go.AM.getC at hc hc';split at hc
   ·rename_i g1 c1 hh;rw [hh] at hc';dsimp only at hc';split at hc <;> split at hc' <;> simp_all
   ·cases hc
  obtain ⟨rfl,rfl⟩:=hg;exact ⟨_,amv hc _,CDs.splice h⟩
 ·exact ⟨c',by rw [zy _ e];exact hc',CDs.refl _⟩
def aat:V→Nat
 | .sl _ _ _ n _=>n
 | _=>0
def SL (m N w:Nat) (P:Heap→List V→Prop) (H:Heap) (v:V):Prop:=(v=mi∨v=.esl)∨∃ id g off n c,v=.sl id g off n w∧m≤id∧id < N∧getC H id g=some c∧n < 2 ^ 63∧∀ i,i < n→off+i * w+w≤c.length∧P H ((c.drop (off+i * w)).take w)
def Mo (m N:Nat) (P:Heap→List V→Prop):Prop:=∀ H H' r r',Dg m N H H'→P H r→CDs r r'→P H' r'
theorem SL.sly {m N w:Nat} {P:Heap→List V→Prop} {H:Heap} {v:V} (h:SL m N w P H v):Sly v:=by
 rcases h with (h | h) | ⟨id,g,off,n,c,h,_⟩
 ·exact .inl h
 ·exact .inr (.inl h)
 ·exact .inr (.inr ⟨_,_,_,_,_,h⟩)
theorem SL.mono {m N w:Nat} {P:Heap→List V→Prop} (hP:Mo m N P) {H H':Heap} {v:V} (h:SL m N w P H v) (k:Dg m N H H'):SL m N w P H' v:=by
 rcases h with h | ⟨id,g,off,n,c,e,h1,h2,h3,hn,h4⟩
 ·exact .inl h
 ·obtain ⟨c',c1,c2⟩:=k.cel id g c h3;refine .inr ⟨id,g,off,n,c',e,h1,h2,c1,hn,fun i hi=>?_⟩;obtain ⟨a1,a2⟩:=h4 i hi
  exact ⟨by rw [c2.len];exact a1,hP _ _ _ _ k a2 ((c2.drop _).take _)⟩
theorem SL.cell {m N w:Nat} {P:Heap→List V→Prop} (hP:Mo m N P) {H H':Heap} {v v':V} (h:SL m N w P H v) (k:Dg m N H H') (d:CD v v'):SL m N w P H' v':=by
 rcases d.sly h.sly with rfl | rfl
 ·exact h.mono hP k
 ·exact .inl (.inl rfl)
theorem SL.len {m N w:Nat} {P:Heap→List V→Prop} {H:Heap} {v:V} (h:SL m N w P H v):aju H .s v=some (.s (.int .i64 (aat v))):=by
 rcases h with (rfl | rfl) | ⟨id,g,off,n,c,rfl,_⟩ <;> rfl
theorem SL.lt {m N w:Nat} {P:Heap→List V→Prop} {H:Heap} {v:V} (h:SL m N w P H v):aat v < 2 ^ 63:=by
 rcases h with (rfl | rfl) | ⟨id,g,off,n,c,rfl,_,_,_,hn,_⟩
 ·decide
 ·decide
 ·exact hn
theorem SL.at {m N w:Nat} {P:Heap→List V→Prop} {H:Heap} {v:V} (h:SL m N w P H v) {i:Nat} (hi:i < aat v):∃ id g p c,kr w v (.s (.int .i64 i))=some (.ref id g p)∧m≤id∧id < N∧getC H id g=some c∧p+w≤c.length∧P H ((c.drop p).take w):=by
 rcases h with (rfl | rfl) | ⟨id,g,off,n,c,rfl,h1,h2,h3,_,h4⟩
 ·exact absurd hi (ak4 _)
 ·exact absurd hi (ak4 _)
 ·have hi':i < n:=hi;obtain ⟨a1,a2⟩:=h4 i hi'
  exact ⟨id,g,off+i * w,c,by rw [atz,ed ⟨by omega,by omega,rfl⟩,mq],h1,h2,h3,a1,a2⟩
theorem afo {H:Heap} {id g p w o:Nat} {c:List V} (hc:getC H id g=some c) {r:List V} (hr:(c.drop p).take w=r) {x:V} (hx:r[o]?=some x):uj H false 1 (.ref id g (p+o))=some x:=by
 have ho:o < w:=by
  have:=(List.getElem?_eq_some_iff.1 hx).1;rw [← hr,nu] at this;omega
 have h1:c[p+o]?=some x:=by
  rw [← hr,List.getElem?_take_of_lt ho,List.getElem?_drop] at hx;exact hx
 rw [zl,hc]
 have e:(c.drop (p+o)).take 1=[x]:=by
  obtain ⟨hl,e⟩:=List.getElem?_eq_some_iff.1 h1;rw [di hl,e];rfl
 dsimp only;rw [e];rfl
def WP (_:Heap) (r:List V):Prop:=∃ b,r=[Sb b]
def P8 (m N:Nat) (H:Heap) (r:List V):Prop:=∃ o d a b k f x y,r=[.s (.int .u8 o),Sb d,Sb a,Sb b,Iz k,Sb f,x,y]∧SL m N 1 WP H x∧SL m N 1 WP H y
def P2 (m N:Nat) (H:Heap) (r:List V):Prop:=∃ l v,r=[Sb l,v]∧SL m N 8 (P8 m N) H v
def P3 (m N:Nat) (H:Heap) (r:List V):Prop:=∃ l p b,r=[Sb l,p,b]∧SL m N 1 WP H p∧SL m N 2 (P2 m N) H b
theorem WP.mo (m N:Nat):Mo m N WP:=by
 rintro H H' r r' _ ⟨b,rfl⟩ d;cases d with
 | cons h t=>
   cases t;obtain ⟨b',rfl⟩:=h.sb;exact ⟨b',rfl⟩
theorem P8.mo (m N:Nat):Mo m N (P8 m N):=by
 rintro H H' r r' k ⟨o,d,a,b,n,f,x,y,rfl,hx,hy⟩ e
 obtain _ | ⟨e0,_ | ⟨e1,_ | ⟨e2,_ | ⟨e3,_ | ⟨e4,_ | ⟨e5,_ | ⟨e6,_ | ⟨e7,_ | _⟩⟩⟩⟩⟩⟩⟩⟩:=e
 obtain ⟨o',rfl⟩:=e0.int;obtain ⟨d',rfl⟩:=e1.sb;obtain ⟨a',rfl⟩:=e2.sb;obtain ⟨b',rfl⟩:=e3.sb;obtain ⟨n',rfl⟩:=e4.int;obtain ⟨f',rfl⟩:=e5.sb;exact ⟨o',d',a',b',n',f',_,_,rfl,hx.cell (WP.mo m N) k e6,hy.cell (WP.mo m N) k e7⟩
theorem P2.mo (m N:Nat):Mo m N (P2 m N):=by
 rintro H H' r r' k ⟨l,v,rfl,hv⟩ e
 obtain _ | ⟨e0,_ | ⟨e1,_ | _⟩⟩:=e
 obtain ⟨l',rfl⟩:=e0.sb;exact ⟨l',_,rfl,hv.cell (P8.mo m N) k e1⟩
theorem P3.mo (m N:Nat):Mo m N (P3 m N):=by
 rintro H H' r r' k ⟨l,p,b,rfl,hp,hb⟩ e
 obtain _ | ⟨e0,_ | ⟨e1,_ | ⟨e2,_ | _⟩⟩⟩:=e
 obtain ⟨l',rfl⟩:=e0.sb;exact ⟨l',_,_,rfl,hp.cell (WP.mo m N) k e1,hb.cell (P2.mo m N) k e2⟩
theorem ak9 {m N:Nat} {H:Heap} (hb:∀ id g c,getC H id g=some c→m≤id∧id < N) {v:V} {l:List ByteArray} (h:Rd H v (l.map Sb)) (hw:ahc v) (hn:l.length < 2 ^ 63):SL m N 1 WP H v:=by
 rcases h.cases with ⟨_,h⟩ | ⟨es,rfl,_⟩ | ⟨id,g,off,n,c,rfl,hc,e1,e2⟩
 ·exact .inl h
 ·exact absurd rfl (hw _ _)
 ·refine .inr ⟨id,g,off,n,c,rfl,(hb _ _ _ hc).1,(hb _ _ _ hc).2,hc,by rw [zu] at e2;omega,fun i hi=>?_⟩
  have hl:((c.drop off).take n).length=n:=by rw [e1,← e2]
  rw [nu,iy] at hl
  have hx:(l.map Sb)[i]?=some (Sb (l.getD i ⟨#[]⟩)):=by
   rw [zu] at e2
   rw [List.getElem?_map,aie (by omega) ⟨#[]⟩]
   rfl
  rw [← e1,List.getElem?_take_of_lt hi,List.getElem?_drop] at hx
  refine ⟨by omega,l.getD i ⟨#[]⟩,?_⟩
  obtain ⟨hl2,e⟩:=List.getElem?_eq_some_iff.1 hx;rw [aaw,di hl2,e];rfl
theorem a6d {m N w:Nat} (hw:0 < w) {P:Heap→List V→Prop} {H:Heap} (hb:∀ id g c,getC H id g=some c→m≤id∧id < N) {v:V} {R:List (List V)} (h:RdX w H v R) (hn:R.length < 2 ^ 63) (hR:∀ r∈R,r.length=w∧P H r):SL m N w P H v:=by
 have he:=h.el;unfold elems at he;split at he
 ·exact .inl (.inl rfl)
 ·exact .inl (.inr rfl)
 ·exact absurd rfl (h.np _ _)
 ·rename_i id g off len sz;split at he
  ·rename_i hz;subst hz;cases hc:getC H id g with
   | none=>rw [hc] at he;cases he
   | some c=>
     rw [hc] at he;dsimp only at he;split at he
     ·rename_i hl;simp only [dn,ad7] at he;obtain ⟨e1,e2⟩:=he
      refine .inr ⟨id,g,off,len,c,rfl,(hb _ _ _ hc).1,(hb _ _ _ hc).2,hc,by omega,fun i hi=>?_⟩
      have hi':i < R.length:=by omega
      have hx:R[i]?=some R[i]:=List.getElem?_eq_getElem hi';have hm:=hR _ (ql hi');have hg:=asq R (fun r hr=>(hR r hr).1) i _ hx
      have hle:i * sz+sz≤len * sz:=by
       have:=ku sz (show i+1≤len by omega)
       rw [rz,apt] at this;exact this
      rw [nu,iy] at hl
      rw [← e2,List.drop_take,za,List.take_take,a5p (by omega)] at hg
      refine ⟨?_,by rw [hg];exact hm.2⟩
      have:=lq List.length hg;rw [hm.1,nu,iy] at this;omega
     ·cases he
  ·cases he
 ·cases he
theorem a6p {m N:Nat} {H:Heap} (hb:∀ id g c,getC H id g=some c→m≤id∧id < N) {v:V} {fs:List FunD} (h:zn H v fs):SL m N 3 (P3 m N) H v:=by
 have gen:∀ {α:Type} {w:Nat} {Q:Heap→List V→α→Prop} {P:Heap→List V→Prop} {v:V} {l:List α},0 < w→RdL w Q H v l→(∀ r x,Q H r x→r.length=w∧P H r)→SL m N w P H v:=by
  intro α w Q P v l hw ⟨R,r1,r2,r3,r4⟩ hq
  refine a6d hw hb r1 (by omega) fun r hr=>?_
  obtain ⟨i,hi⟩:=List.mem_iff_getElem?.1 hr;have hil:=(List.getElem?_eq_some_iff.1 hi).1
  obtain ⟨r',q1,q2⟩:=r4 i l[i] (List.getElem?_eq_getElem (by omega))
  rw [hi] at q1;cases q1;exact hq _ _ q2
 have h8:∀ r x,acw H r x→r.length=8∧P8 m N H r:=by
  rintro r x ⟨av,lv,rfl,q1,q2,q3,q4,n1,n2⟩;exact ⟨rfl,_,_,_,_,_,_,_,_,rfl,ak9 hb q1 q2 n1,ak9 hb q3 q4 n2⟩
 have h2:∀ r x,ae9 H r x→r.length=2∧P2 m N H r:=by
  rintro r x ⟨cv,rfl,q⟩
  exact ⟨rfl,_,_,rfl,gen (by decide) q h8⟩
 refine gen (by decide) h ?_
 rintro r x ⟨pv,bv,rfl,q1,q2,q3,q4⟩
 exact ⟨rfl,_,_,_,rfl,ak9 hb q1 q2 q3,gen (by decide) q4 h2⟩
theorem bbh {H H' K:Heap} {v:V} {fs:List FunD} (hE:Ext H H') (hK:Ext H' K) (h:∀ H'',(∀ id,H.length≤id→id < H'.length→H''[id]?=H'[id]?)→zn H'' v fs):SL H.length H'.length 3 (P3 H.length H'.length) K v:=by
 obtain ⟨D,hD⟩:∃ D:Heap,List.replicate H.length Ob.dead ++ H'.drop H.length=D:=⟨_,rfl⟩;have hl:=hE.le
 have hDl:D.length=H'.length:=by rw [← hD,dm,zt,iy];omega
 have hlo:∀ id,id < H.length→D[id]?=some Ob.dead:=fun id hi=>by
  rw [← hD,List.getElem?_append_left (by rw [zt];exact hi),List.getElem?_replicate,ed hi]
 have hhi:∀ id,H.length≤id→D[id]?=H'[id]?:=fun id hi=>by
  rw [← hD,List.getElem?_append_right (by rw [zt];exact hi),zt,List.getElem?_drop]
  congr 1
  omega
 have hb:∀ id g c,getC D id g=some c→H.length≤id∧id < H'.length:=fun id g c hc=>by
  have h1:=oz hc
  refine ⟨?_,by omega⟩
  rcases Nat.lt_or_ge id H.length with hi | hi
  ·unfold getC at hc;rw [hlo id hi] at hc;cases hc
  ·exact hi
 have hs:=a6p hb (h D fun id h1 _=>hhi id h1)
 have mv:∀ id g c,getC D id g=some c→getC K id g=some c:=fun id g c hc=>by
  refine gy ?_ hK;have:=(hb id g c hc).1;unfold getC at hc ⊢;rw [← hhi id this];exact hc
 have up:∀ {w:Nat} {P Q:Heap→List V→Prop} {v:V},(∀ r,P D r→Q K r)→SL H.length H'.length w P D v→SL H.length H'.length w Q K v:=by
  intro w P Q v hq h
  rcases h with h | ⟨id,g,off,n,c,e,h1,h2,h3,hn,h4⟩
  ·exact .inl h
  ·exact .inr ⟨id,g,off,n,c,e,h1,h2,mv _ _ _ h3,hn,fun i hi=>⟨(h4 i hi).1,hq _ (h4 i hi).2⟩⟩
 have u1:∀ r,WP D r→WP K r:=fun r h=>h
 have u8:∀ r,P8 H.length H'.length D r→P8 H.length H'.length K r:=by
  rintro r ⟨o,d,a,b,k,f,x,y,rfl,hx,hy⟩;exact ⟨_,_,_,_,_,_,_,_,rfl,up u1 hx,up u1 hy⟩
 have u2:∀ r,P2 H.length H'.length D r→P2 H.length H'.length K r:=by
  rintro r ⟨l,v,rfl,hv⟩;exact ⟨_,_,rfl,up u8 hv⟩
 refine up ?_ hs;rintro r ⟨l,p,b,rfl,hp,hb'⟩;exact ⟨_,_,_,rfl,up u1 hp,up u2 hb'⟩
open Go.AM
abbrev k_f6:Nat:=6
def K6_0:List Nat:=List.range' 1 141
theorem aun:zi K6_0 (qb 142 [] 1)=[]:=by kernel_rfl
def R6_0:LO:=[q 2 (.move (.c (.s (.bool false))))]
def R6_1:LO:=[oM 19 0,q 20 (.lenS .p (.t 19)),q 21 (.bin .gtr (.t 20) (.c (.s (.int .i64 1500))))]
def R6_2:LO:=[q 2 (.move (.c (.s (.bool true))))]
def R6_3t7:LO:=[oM 5 27]
def R6_3t6:LO:=⟨none,.store 2 (.t 4) (.t 26),none⟩ :: R6_3t7
def R6_3t5:LO:=⟨none,.store 1 (.t 3) (.t 25),none⟩ :: R6_3t6
def R6_3t4:LO:=⟨some 4,.alloc [.s (.int .i64 0),.s (.int .i64 0)],none⟩ :: R6_3t5
def R6_3t3:LO:=⟨some 3,.alloc [.s (.slice none 0 0)],none⟩ :: R6_3t4
def R6_3p2:LO:=[oM 22 24,q 25 (.extract (.t 22) 0),q 26 (.extract (.t 22) 1),q 27 (.extract (.t 22) 2)]
def R6_3t2:LO:=R6_3p2 ++ R6_3t3
def R6_3t1:LO:=⟨some 24,.call (.c (.fn 9 [] [])) [.t 23],none⟩ :: R6_3t2
def R6_3p0:LO:=[oM 23 0]
def R6_3:LO:=R6_3p0 ++ R6_3t1
def R6_4t7:LO:=[oM 8 33]
def R6_4t6:LO:=⟨none,.store 2 (.t 7) (.t 32),none⟩ :: R6_4t7
def R6_4t5:LO:=⟨none,.store 1 (.t 6) (.t 31),none⟩ :: R6_4t6
def R6_4t4:LO:=⟨some 7,.alloc [.s (.int .i64 0),.s (.int .i64 0)],none⟩ :: R6_4t5
def R6_4t3:LO:=⟨some 6,.alloc [.s (.slice none 0 0)],none⟩ :: R6_4t4
def R6_4p2:LO:=[oM 28 30,q 31 (.extract (.t 28) 0),q 32 (.extract (.t 28) 1),q 33 (.extract (.t 28) 2)]
def R6_4t2:LO:=R6_4p2 ++ R6_4t3
def R6_4t1:LO:=⟨some 30,.call (.c (.fn 9 [] [])) [.t 29],none⟩ :: R6_4t2
def R6_4p0:LO:=[oM 29 0]
def R6_4:LO:=R6_4p0 ++ R6_4t1
def R6_5:LO:=[q 9 (.move (.c (.s (.int .i64 0))))]
def R6_6:LO:=[oM 34 9,oF 35 0 3,oL 36 35,q 37 (.lenS .s (.t 36)),q 38 (.bin .lss (.t 34) (.t 37))]
def R6_7:LO:=[q 10 (.move (.c (.s (.int .i64 0))))]
def R6_8:LO:=[oM 41 10,oF 42 0 3,oL 43 42,oM 44 9,q 45 (.indexAddr 3 (.t 43) (.t 44)),oF 46 1 45,oL 47 46,q 48 (.lenS .s (.t 47)),q 49 (.bin .lss (.t 41) (.t 48))]
def R6_9t1:LO:=[⟨none,.store 1 (.t 59) (.c (.s (.string ⟨#[115,112,111,105,108,116]⟩))),none⟩]
def R6_9p0:LO:=[oF 52 0 3,oL 53 52,oM 54 9,q 55 (.indexAddr 3 (.t 53) (.t 54)),oF 56 1 55,oL 57 56,oM 58 10,q 59 (.indexAddr 1 (.t 57) (.t 58))]
def R6_9:LO:=R6_9p0 ++ R6_9t1
def R6_10:LO:=[oM 50 10,q 51 (.bin .add (.t 50) (.c (.s (.int .i64 1)))),oM 10 51]
def aio:ACode:=
 (.seq (.seq (.regionE R6_8 [41,42,43,44,45,46,47,48] [49])
 (.cond (.t 49)
 .skip
 (.exit 2)))
 (.seq (.block 3
 (.region R6_9 [] [49,52,53,54,55,56,57,58,59]))
 (.regionE R6_10 [50,51] [10])))
def aln:ACode:=aio
def R6_11:LO:=[q 11 (.move (.c (.s (.int .i64 0))))]
def R6_12:LO:=[oM 60 11,oF 61 0 3,oL 62 61,oM 63 9,q 64 (.indexAddr 3 (.t 62) (.t 63)),oF 65 2 64,oL 66 65,q 67 (.lenS .s (.t 66)),q 68 (.bin .lss (.t 60) (.t 67))]
def R6_13:LO:=[oF 71 0 3,oL 72 71,oM 73 9,q 74 (.indexAddr 3 (.t 72) (.t 73)),oF 75 2 74,oL 76 75,oM 77 11,q 78 (.indexAddr 2 (.t 76) (.t 77)),oF 79 1 78,oL 80 79,oM 12 80]
def R6_14:LO:=[q 13 (.move (.c (.s (.int .i64 0))))]
def R6_15:LO:=[oM 81 13,oM 82 12,q 83 (.lenS .s (.t 82)),q 84 (.bin .lss (.t 81) (.t 83))]
def R6_16:LO:=[q 14 (.move (.c (.s (.int .i64 0))))]
def R6_17:LO:=[oM 87 14,oM 88 12,oM 89 13,q 90 (.indexAddr 8 (.t 88) (.t 89)),oF 91 6 90,oL 92 91,q 93 (.lenS .s (.t 92)),q 94 (.bin .lss (.t 87) (.t 93))]
def R6_18t1:LO:=[⟨none,.store 1 (.t 103) (.c (.s (.string ⟨#[115,112,111,105,108,116]⟩))),none⟩]
def R6_18p0:LO:=[oM 97 12,oM 98 13,q 99 (.indexAddr 8 (.t 97) (.t 98)),oF 100 6 99,oL 101 100,oM 102 14,q 103 (.indexAddr 1 (.t 101) (.t 102))]
def R6_18:LO:=R6_18p0 ++ R6_18t1
def R6_19:LO:=[oM 95 14,q 96 (.bin .add (.t 95) (.c (.s (.int .i64 1)))),oM 14 96]
def ain:ACode:=
 (.seq (.seq (.regionE R6_17 [87,88,89,90,91,92,93] [94])
 (.cond (.t 94)
 .skip
 (.exit 8)))
 (.seq (.block 9
 (.region R6_18 [] [94,97,98,99,100,101,102,103]))
 (.regionE R6_19 [95,96] [14])))
def alm:ACode:=ain
def R6_20:LO:=[q 15 (.move (.c (.s (.int .i64 0))))]
def R6_21:LO:=[oM 104 15,oM 105 12,oM 106 13,q 107 (.indexAddr 8 (.t 105) (.t 106)),oF 108 7 107,oL 109 108,q 110 (.lenS .s (.t 109)),q 111 (.bin .lss (.t 104) (.t 110))]
def R6_22t1:LO:=[⟨none,.store 1 (.t 120) (.c (.s (.string ⟨#[115,112,111,105,108,116]⟩))),none⟩]
def R6_22p0:LO:=[oM 114 12,oM 115 13,q 116 (.indexAddr 8 (.t 114) (.t 115)),oF 117 7 116,oL 118 117,oM 119 15,q 120 (.indexAddr 1 (.t 118) (.t 119))]
def R6_22:LO:=R6_22p0 ++ R6_22t1
def R6_23:LO:=[oM 112 15,q 113 (.bin .add (.t 112) (.c (.s (.int .i64 1)))),oM 15 113]
def aim:ACode:=
 (.seq (.seq (.regionE R6_21 [104,105,106,107,108,109,110] [111])
 (.cond (.t 111)
 .skip
 (.exit 10)))
 (.seq (.block 11
 (.region R6_22 [] [111,114,115,116,117,118,119,120]))
 (.regionE R6_23 [112,113] [15])))
def alk:ACode:=aim
def R6_24t1:LO:=[⟨none,.store 8 (.t 124) (.t 123),none⟩]
def R6_24p0:LO:=[oM 121 12,oM 122 13,q 123 (.build [.s (.int .u8 0),.s (.string ⟨#[]⟩),.s (.string ⟨#[]⟩),.s (.string ⟨#[]⟩),.s (.int .i64 0),.s (.string ⟨#[]⟩),.s (.slice none 0 0),.s (.slice none 0 0)] [(0,1),(1,1),(2,1),(3,1),(4,1),(5,1),(6,1),(7,1)] []),q 124 (.indexAddr 8 (.t 121) (.t 122))]
def R6_24:LO:=R6_24p0 ++ R6_24t1
def R6_25:LO:=[oM 85 13,q 86 (.bin .add (.t 85) (.c (.s (.int .i64 1)))),oM 13 86]
def ail:ACode:=
 (.seq (.seq (.regionE R6_15 [81,82,83] [84])
 (.cond (.t 84)
 .skip
 (.exit 6)))
 (.seq (.block 7
 (.seq (.seq (.regionE R6_16 [84] [14])
 (.block 8
 (.loop [] alm)))
 (.seq (.seq (.regionE R6_20 [14,94] [15])
 (.block 10
 (.loop [] alk)))
 (.region R6_24 [] [15,111,121,122,123,124]))))
 (.regionE R6_25 [85,86] [13])))
def alj:ACode:=ail
def R6_26:LO:=[oM 69 11,q 70 (.bin .add (.t 69) (.c (.s (.int .i64 1)))),oM 11 70]
def aik:ACode:=
 (.seq (.seq (.regionE R6_12 [60,61,62,63,64,65,66,67] [68])
 (.cond (.t 68)
 .skip
 (.exit 4)))
 (.seq (.block 5
 (.seq (.regionE R6_13 [68,71,72,73,74,75,76,77,78,79,80] [12])
 (.seq (.regionE R6_14 [] [13])
 (.block 6
 (.loop [] alj)))))
 (.regionE R6_26 [12,13,69,70,84] [11])))
def ali:ACode:=aik
def R6_27t1:LO:=[⟨none,.store 3 (.t 129) (.t 128),none⟩]
def R6_27p0:LO:=[oF 125 0 3,oL 126 125,oM 127 9,q 128 (.build [.s (.string ⟨#[]⟩),.s (.slice none 0 0),.s (.slice none 0 0)] [(0,1),(1,1),(2,1)] []),q 129 (.indexAddr 3 (.t 126) (.t 127))]
def R6_27:LO:=R6_27p0 ++ R6_27t1
def R6_28:LO:=[oM 39 9,q 40 (.bin .add (.t 39) (.c (.s (.int .i64 1)))),oM 9 40]
def aij:ACode:=
 (.seq (.seq (.regionE R6_6 [34,35,36,37] [38])
 (.cond (.t 38)
 .skip
 (.exit 0)))
 (.seq (.block 1
 (.seq (.seq (.regionE R6_7 [38] [10])
 (.block 2
 (.loop [] aln)))
 (.seq (.seq (.regionE R6_11 [10,49] [11])
 (.block 4
 (.loop [] ali)))
 (.region R6_27 [] [11,68,125,126,127,128,129]))))
 (.regionE R6_28 [39,40] [9])))
def alh:ACode:=aij
def R6_29t7:LO:=[oM 18 135]
def R6_29t6:LO:=⟨none,.store 2 (.t 17) (.t 134),none⟩ :: R6_29t7
def R6_29t5:LO:=⟨none,.store 1 (.t 16) (.t 133),none⟩ :: R6_29t6
def R6_29t4:LO:=⟨some 17,.alloc [.s (.int .i64 0),.s (.int .i64 0)],none⟩ :: R6_29t5
def R6_29t3:LO:=⟨some 16,.alloc [.s (.slice none 0 0)],none⟩ :: R6_29t4
def R6_29p2:LO:=[oM 130 132,q 133 (.extract (.t 130) 0),q 134 (.extract (.t 130) 1),q 135 (.extract (.t 130) 2)]
def R6_29t2:LO:=R6_29p2 ++ R6_29t3
def R6_29t1:LO:=⟨some 132,.call (.c (.fn 9 [] [])) [.t 131],none⟩ :: R6_29t2
def R6_29p0:LO:=[oM 131 0]
def R6_29:LO:=R6_29p0 ++ R6_29t1
def R6_30t4:LO:=[q 141 (.pick (.t 139) (.t 140) (.c (.s (.bool false)))),oM 2 141]
def R6_30t3:LO:=⟨some 140,.call (.c (.fn 12 [] [])) [],some (139,true)⟩ :: R6_30t4
def R6_30p2:LO:=[oM 139 138]
def R6_30t2:LO:=R6_30p2 ++ R6_30t3
def R6_30t1:LO:=⟨some 138,.call (.c (.fn 11 [] [])) [.t 136,.t 137],none⟩ :: R6_30t2
def R6_30p0:LO:=[q 136 (.load true 1 (.t 6)),q 137 (.load true 1 (.t 16))]
def R6_30:LO:=R6_30p0 ++ R6_30t1
def awp:ACFun:={ ntmps:=142,results:=[.tmp 2],body:=
 (.seq (.regionE R6_0 K6_0 [])
 (.seq (.seq (.regionE R6_1 [19,20] [21])
 (.cond (.t 21)
 (.seq (.regionE R6_2 [0,21] [2])
 .ret)
 .skip))
 (.seq (.region R6_3 [] [4,5,21,22,23,24,25,26,27])
 (.seq (.region R6_4 [] [7,8,28,29,30,31,32,33])
 (.seq (.seq (.regionE R6_5 [] [9])
 (.block 0
 (.loop [] alh)))
 (.seq (.region R6_29 [] [0,3,9,17,18,38,130,131,132,133,134,135])
 (.seq (.region R6_30 [] [6,16,136,137,138,139,140,141])
 .ret))))))) }
def ano:=ai (hT R6_0 K6_0 [] 3 [] [] [.cc (.s (.bool false))]) (ai aun (ai (hK K6_0 0) (ai (hT R6_1 [19,20] [21] 22 [] [(21,.op (.bin .gtr (.t 0) (.c (.s (.int .i64 1500)))) [.op (.lenS .p (.t 0)) [.t 0],.c (.s (.int .i64 1500))])] [.tt 0,sb [0],sb []]) (ai (hT R6_2 [0,21] [2] 3 [] [(2,.c (.s (.bool true)))] [.cc (.s (.bool true))]) (ai (hU R6_3 [21] [23] [4,5,21,22,23,24,25,26,27] 24 [] [(23,.t 0)] [.tt 0]) (ai (hP R6_3t1 [23] [4,5,21,22,23,24,25,26,27]) (ai (hU R6_3t2 [22,24] [25,26,27] [4,5,21,22,23,24,25,26,27] 28 [] [(25,.op (.extract (.t 0) 0) [.t 24]),(26,.op (.extract (.t 0) 1) [.t 24]),(27,.op (.extract (.t 0) 2) [.t 24])] [.tt 24,sb [],.sub 1 [] [],.sub 2 [] []]) (ai (hP R6_3t3 [] [4,5,21,22,23,24,25,26,27]) (ai (hP R6_3t4 [] [4,5,21,22,23,24,25,26,27]) (ai (hP R6_3t5 [25] [4,5,21,22,23,24,25,26,27]) (ai (hP R6_3t6 [4,26] [4,5,21,22,23,24,25,26,27]) (ai (hV R6_3t7 [4,5,21,22,23,24,25,26,27] [] 6 [] [] [.tt 27]) (ai (hU R6_4 [] [29] [7,8,28,29,30,31,32,33] 30 [] [(29,.t 0)] [.tt 0]) (ai (hP R6_4t1 [29] [7,8,28,29,30,31,32,33]) (ai (hU R6_4t2 [28,30] [31,32,33] [7,8,28,29,30,31,32,33] 34 [] [(31,.op (.extract (.t 0) 0) [.t 30]),(32,.op (.extract (.t 0) 1) [.t 30]),(33,.op (.extract (.t 0) 2) [.t 30])] [.tt 30,sb [],.sub 1 [] [],.sub 2 [] []]) (ai (hP R6_4t3 [] [7,8,28,29,30,31,32,33]) (ai (hP R6_4t4 [] [7,8,28,29,30,31,32,33]) (ai (hP R6_4t5 [31] [7,8,28,29,30,31,32,33]) (ai (hP R6_4t6 [7,32] [7,8,28,29,30,31,32,33]) (ai (hV R6_4t7 [7,8,28,29,30,31,32,33] [] 9 [] [] [.tt 33]) (ai (hT R6_5 [] [9] 10 [] [(9,.c (.s (.int .i64 0)))] [.cc (.s (.int .i64 0))]) (ai (hT R6_6 [34,35,36,37] [38] 39 [] [(38,.op (.bin .lss (.t 0) (.t 1)) [.t 9,.op (.lenS .s (.t 0)) [eL (eF 0 (.t 3))]])] [.tt 9,sb [1,0,0],sb [1,0],sb [1],sb []]) (ai (hT R6_7 [38] [10] 11 [] [(10,.c (.s (.int .i64 0)))] [.cc (.s (.int .i64 0))]) (ai (hT R6_8 [41,42,43,44,45,46,47,48] [49] 50 [] [(49,.op (.bin .lss (.t 0) (.t 1)) [.t 10,.op (.lenS .s (.t 0)) [eL (eF 1 (.op (.indexAddr 3 (.t 0) (.t 1)) [eL (eF 0 (.t 3)),.t 9]))]])] [.tt 10,sb [1,0,0,0,0,0],sb [1,0,0,0,0],.tt 9,sb [1,0,0,0],sb [1,0,0],sb [1,0],sb [1],sb []]) (ai (hU R6_9 [49,52,53,54,55,56,57,58] [59] [49,52,53,54,55,56,57,58,59] 60 [] [(59,.op (.indexAddr 1 (.t 0) (.t 1)) [eL (eF 1 (.op (.indexAddr 3 (.t 0) (.t 1)) [eL (eF 0 (.t 3)),.t 9])),.t 10])] [sb [0,0,0,0,0],sb [0,0,0,0],.tt 9,sb [0,0,0],sb [0,0],sb [0],.tt 10,sb []]) (ai (hX R6_9t1 [49,52,53,54,55,56,57,58,59]) (ai (hT R6_10 [50,51] [10] 52 [] [(10,.op (.bin .add (.t 0) (.c (.s (.int .i64 1)))) [.t 10,.c (.s (.int .i64 1))])] [.tt 10,sb [],sb []]) (ai (hE aln aio) (ai (hT R6_11 [10,49] [11] 12 [] [(11,.c (.s (.int .i64 0)))] [.cc (.s (.int .i64 0))]) (ai (hT R6_12 [60,61,62,63,64,65,66,67] [68] 69 [] [(68,.op (.bin .lss (.t 0) (.t 1)) [.t 11,.op (.lenS .s (.t 0)) [eL (eF 2 (.op (.indexAddr 3 (.t 0) (.t 1)) [eL (eF 0 (.t 3)),.t 9]))]])] [.tt 11,sb [1,0,0,0,0,0],sb [1,0,0,0,0],.tt 9,sb [1,0,0,0],sb [1,0,0],sb [1,0],sb [1],sb []]) (ai (hT R6_13 [68,71,72,73,74,75,76,77,78,79,80] [12] 81 [] [(12,eL (eF 1 (.op (.indexAddr 2 (.t 0) (.t 1)) [eL (eF 2 (.op (.indexAddr 3 (.t 0) (.t 1)) [eL (eF 0 (.t 3)),.t 9])),.t 11])))] [sb [0,0,0,0,0,0,0],sb [0,0,0,0,0,0],.tt 9,sb [0,0,0,0,0],sb [0,0,0,0],sb [0,0,0],.tt 11,sb [0,0],sb [0],sb [],sb []]) (ai (hT R6_14 [] [13] 14 [] [(13,.c (.s (.int .i64 0)))] [.cc (.s (.int .i64 0))]) (ai (hT R6_15 [81,82,83] [84] 85 [] [(84,.op (.bin .lss (.t 0) (.t 1)) [.t 13,.op (.lenS .s (.t 0)) [.t 12]])] [.tt 13,.tt 12,sb [1],sb []]) (ai (hT R6_16 [84] [14] 15 [] [(14,.c (.s (.int .i64 0)))] [.cc (.s (.int .i64 0))]) (ai (hT R6_17 [87,88,89,90,91,92,93] [94] 95 [] [(94,.op (.bin .lss (.t 0) (.t 1)) [.t 14,.op (.lenS .s (.t 0)) [eL (eF 6 (.op (.indexAddr 8 (.t 0) (.t 1)) [.t 12,.t 13]))]])] [.tt 14,.tt 12,.tt 13,sb [1,0,0,0],sb [1,0,0],sb [1,0],sb [1],sb []]) (ai (hU R6_18 [94,97,98,99,100,101,102] [103] [94,97,98,99,100,101,102,103] 104 [] [(103,.op (.indexAddr 1 (.t 0) (.t 1)) [eL (eF 6 (.op (.indexAddr 8 (.t 0) (.t 1)) [.t 12,.t 13])),.t 14])] [.tt 12,.tt 13,sb [0,0,0],sb [0,0],sb [0],.tt 14,sb []]) (ai (hX R6_18t1 [94,97,98,99,100,101,102,103]) (ai (hT R6_19 [95,96] [14] 97 [] [(14,.op (.bin .add (.t 0) (.c (.s (.int .i64 1)))) [.t 14,.c (.s (.int .i64 1))])] [.tt 14,sb [],sb []]) (ai (hE alm ain) (ai (hT R6_20 [14,94] [15] 16 [] [(15,.c (.s (.int .i64 0)))] [.cc (.s (.int .i64 0))]) (ai (hT R6_21 [104,105,106,107,108,109,110] [111] 112 [] [(111,.op (.bin .lss (.t 0) (.t 1)) [.t 15,.op (.lenS .s (.t 0)) [eL (eF 7 (.op (.indexAddr 8 (.t 0) (.t 1)) [.t 12,.t 13]))]])] [.tt 15,.tt 12,.tt 13,sb [1,0,0,0],sb [1,0,0],sb [1,0],sb [1],sb []]) (ai (hU R6_22 [111,114,115,116,117,118,119] [120] [111,114,115,116,117,118,119,120] 121 [] [(120,.op (.indexAddr 1 (.t 0) (.t 1)) [eL (eF 7 (.op (.indexAddr 8 (.t 0) (.t 1)) [.t 12,.t 13])),.t 15])] [.tt 12,.tt 13,sb [0,0,0],sb [0,0],sb [0],.tt 15,sb []]) (ai (hX R6_22t1 [111,114,115,116,117,118,119,120]) (ai (hT R6_23 [112,113] [15] 114 [] [(15,.op (.bin .add (.t 0) (.c (.s (.int .i64 1)))) [.t 15,.c (.s (.int .i64 1))])] [.tt 15,sb [],sb []]) (ai (hE alk aim) (ai (hU R6_24 [15,111,121,122] [123,124] [15,111,121,122,123,124] 125 [] [(123,.op (.build [.s (.int .u8 0),.s (.string ⟨#[]⟩),.s (.string ⟨#[]⟩),.s (.string ⟨#[]⟩),.s (.int .i64 0),.s (.string ⟨#[]⟩),.s (.slice none 0 0),.s (.slice none 0 0)] [(0,1),(1,1),(2,1),(3,1),(4,1),(5,1),(6,1),(7,1)] []) []),(124,.op (.indexAddr 8 (.t 0) (.t 1)) [.t 12,.t 13])] [.tt 12,.tt 13,sb [],.sub 1 [] []]) (ai (hX R6_24t1 [15,111,121,122,123,124]) (ai (hT R6_25 [85,86] [13] 87 [] [(13,.op (.bin .add (.t 0) (.c (.s (.int .i64 1)))) [.t 13,.c (.s (.int .i64 1))])] [.tt 13,sb [],sb []]) (ai (hE alj ail) (ai (hT R6_26 [12,13,69,70,84] [11] 71 [] [(11,.op (.bin .add (.t 0) (.c (.s (.int .i64 1)))) [.t 11,.c (.s (.int .i64 1))])] [.tt 11,sb [],sb []]) (ai (hE ali aik) (ai (hU R6_27 [11,68,125,126,127] [128,129] [11,68,125,126,127,128,129] 130 [] [(128,.op (.build [.s (.string ⟨#[]⟩),.s (.slice none 0 0),.s (.slice none 0 0)] [(0,1),(1,1),(2,1)] []) []),(129,.op (.indexAddr 3 (.t 0) (.t 1)) [eL (eF 0 (.t 3)),.t 9])] [.sub 1 [0,0] [],.sub 1 [0] [],.tt 9,sb [],.sub 1 [] []]) (ai (hX R6_27t1 [11,68,125,126,127,128,129]) (ai (hT R6_28 [39,40] [9] 41 [] [(9,.op (.bin .add (.t 0) (.c (.s (.int .i64 1)))) [.t 9,.c (.s (.int .i64 1))])] [.tt 9,sb [],sb []]) (ai (hE alh aij) (ai (hU R6_29 [0,3,9,38] [131] [0,3,9,17,18,38,130,131,132,133,134,135] 132 [] [(131,.t 0)] [.tt 0]) (ai (hP R6_29t1 [131] [0,3,9,17,18,38,130,131,132,133,134,135]) (ai (hU R6_29t2 [130,132] [133,134,135] [0,3,9,17,18,38,130,131,132,133,134,135] 136 [] [(133,.op (.extract (.t 0) 0) [.t 132]),(134,.op (.extract (.t 0) 1) [.t 132]),(135,.op (.extract (.t 0) 2) [.t 132])] [.tt 132,sb [],.sub 1 [] [],.sub 2 [] []]) (ai (hP R6_29t3 [] [0,3,9,17,18,38,130,131,132,133,134,135]) (ai (hP R6_29t4 [] [0,3,9,17,18,38,130,131,132,133,134,135]) (ai (hP R6_29t5 [133] [0,3,9,17,18,38,130,131,132,133,134,135]) (ai (hP R6_29t6 [17,134] [0,3,9,17,18,38,130,131,132,133,134,135]) (ai (hV R6_29t7 [0,3,9,17,18,38,130,131,132,133,134,135] [] 19 [] [] [.tt 135]) (ai (hU R6_30 [6,16] [136,137] [6,16,136,137,138,139,140,141] 138 [] [(136,.op (.load true 1 (.t 0)) [.t 6]),(137,.op (.load true 1 (.t 0)) [.t 16])] [sb [],.sub 1 [] []]) (ai (hP R6_30t1 [136,137] [6,16,136,137,138,139,140,141]) (ai (hU R6_30t2 [138] [139] [6,16,136,137,138,139,140,141] 140 [] [(139,.t 138)] [.tt 138]) (ai (hP R6_30t3 [] [6,16,136,137,138,139,140,141]) (ai (hV R6_30t4 [6,16,136,137,138,139,140,141] [2] 142 [] [(2,.pick (.t 139) (.t 140) (.c (.s (.bool false))))] [sb [],sb []]) (ai aim.eq_1 (ai ail.eq_1 (ai aio.eq_1 (ai aij.eq_1 (ai ain.eq_1 (aik.eq_1))))))))))))))))))))))))))))))))))))))))))))))))))))))))))))))))))))))))))
theorem RA7_6:w9 Tryd.prog PX0 6=some (false,awp.ntmps,awp.results,awp.body.bare):=by kernel_rfl
open Go.AM
theorem awu {m N w:Nat} {P:Heap→List V→Prop} (hP:Mo m N P) {F:Heap} {va:V} (hs:SL m N w P F va) {i:Nat} (hi:i < aat va):∃ id g p r0,kr w va (.s (.int .i64 i))=some (.ref id g p)∧m≤id∧id < N∧P F r0∧∀ H,Dg m N F H→∃ c r,getC H id g=some c∧p+w≤c.length∧(c.drop p).take w=r∧CDs r0 r∧P H r:=by
 obtain ⟨id,g,p,c,h1,h2,h3,h4,h5,h6⟩:=hs.at hi;refine ⟨id,g,p,_,h1,h2,h3,h6,fun H k=>?_⟩;obtain ⟨c',c1,c2⟩:=k.cel id g c h4;have cd:=(c2.drop p).take w
 exact ⟨c',_,c1,by rw [c2.len];exact h5,rfl,cd,hP _ _ _ _ k h6 cd⟩
theorem aqv {m N:Nat} {F:Heap} {va:V} (hs:SL m N 3 (P3 m N) F va) {i:Nat} (hi:i < aat va):∃ id g p pv0 bv0,kr 3 va (.s (.int .i64 i))=some (.ref id g p)∧m≤id∧id < N∧SL m N 1 WP F pv0∧SL m N 2 (P2 m N) F bv0∧∀ H,Dg m N F H→∃ c nm pv bv,getC H id g=some c∧p+3≤c.length∧(c.drop p).take 3=[Sb nm,pv,bv]∧(pv=pv0∨pv=mi)∧(bv=bv0∨bv=mi)∧SL m N 1 WP H pv∧SL m N 2 (P2 m N) H bv∧uj H false 1 (.ref id g (p+1))=some pv∧uj H false 1 (.ref id g (p+2))=some bv:=by
 obtain ⟨id,g,p,r0,h1,h2,h3,⟨l0,pv0,bv0,rfl,s1,s2⟩,h4⟩:=awu (P3.mo m N) hs hi;refine ⟨id,g,p,pv0,bv0,h1,h2,h3,s1,s2,fun H k=>?_⟩;obtain ⟨c,r,c1,c2,c3,c4,l,pv,bv,rfl,q1,q2⟩:=h4 H k
 obtain _ | ⟨e0,_ | ⟨e1,_ | ⟨e2,_ | _⟩⟩⟩:=c4
 exact ⟨c,l,pv,bv,c1,c2,c3,e1.sly s1.sly,e2.sly s2.sly,q1,q2,afo c1 c3 rfl,afo c1 c3 rfl⟩
theorem a6f {m N:Nat} {H:Heap} {bv:V} (hs:SL m N 2 (P2 m N) H bv) {i:Nat} (hi:i < aat bv):∃ id g p cv,kr 2 bv (.s (.int .i64 i))=some (.ref id g p)∧SL m N 8 (P8 m N) H cv∧uj H false 1 (.ref id g (p+1))=some cv:=by
 obtain ⟨id,g,p,r0,h1,h2,h3,_,h4⟩:=awu (P2.mo m N) hs hi;obtain ⟨c,r,c1,c2,c3,c4,l,cv,rfl,q⟩:=h4 H (Dg.refl _ _ _);exact ⟨id,g,p,cv,h1,q,afo c1 c3 rfl⟩
theorem aqu {m N:Nat} {F:Heap} {va:V} (hs:SL m N 8 (P8 m N) F va) {i:Nat} (hi:i < aat va):∃ id g p x0 y0,kr 8 va (.s (.int .i64 i))=some (.ref id g p)∧m≤id∧id < N∧SL m N 1 WP F x0∧SL m N 1 WP F y0∧∀ H,Dg m N F H→∃ c o d a b n f x y,getC H id g=some c∧p+8≤c.length∧(c.drop p).take 8=[.s (.int .u8 o),Sb d,Sb a,Sb b,Iz n,Sb f,x,y]∧(x=x0∨x=mi)∧(y=y0∨y=mi)∧SL m N 1 WP H x∧SL m N 1 WP H y∧uj H false 1 (.ref id g (p+6))=some x∧uj H false 1 (.ref id g (p+7))=some y:=by
 obtain ⟨id,g,p,r0,h1,h2,h3,⟨o0,d0,a0,b0,k0,f0,x0,y0,rfl,s1,s2⟩,h4⟩:=awu (P8.mo m N) hs hi;refine ⟨id,g,p,x0,y0,h1,h2,h3,s1,s2,fun H k=>?_⟩;obtain ⟨c,r,c1,c2,c3,c4,o,d,a,b,n,f,x,y,rfl,q1,q2⟩:=h4 H k
 obtain _ | ⟨e0,_ | ⟨e1,_ | ⟨e2,_ | ⟨e3,_ | ⟨e4,_ | ⟨e5,_ | ⟨e6,_ | ⟨e7,_ | _⟩⟩⟩⟩⟩⟩⟩⟩:=c4
 exact ⟨c,o,d,a,b,n,f,x,y,c1,c2,c3,e6.sly s1.sly,e7.sly s2.sly,q1,q2,afo c1 c3 rfl,afo c1 c3 rfl⟩
def spoilt:ByteArray:=⟨#[115,112,111,105,108,116]⟩
theorem apv {m N:Nat} {H:Heap} {v:V} (hs:SL m N 1 WP H v) {k:Nat} (hk:k < aat v):∃ id g p c,kr 1 v (.s (.int .i64 k))=some (.ref id g p)∧m≤id∧getC H id g=some c∧p+1≤c.length∧Dg m N H (H.set id (.cells g (splice c p [Sb spoilt]))):=by
 obtain ⟨id,g,p,c,h1,h2,h3,h4,h5,b,h6⟩:=hs.at hk
 exact ⟨id,g,p,c,h1,h2,h4,h5,Dg.store h4 h2 h3 (by show CDs ((c.drop p).take 1) _;rw [h6];exact .cons (.str _ _) .nil)⟩
section
variable {CT:Nat→Option CFun}
theorem ow_l0 (base:Nat) {m N:Nat} (hb:base≤m) {F:Heap} {z3:Nat} {va T u6:V} (hz:getC F z3 0=some [va]) (hN:N≤z3) (hs:SL m N 3 (P3 m N) F va) {i:Nat} (hi:i < aat va):
 ∃ (k':Nat) (H':Heap),itW (evC (dw CT) itW base aln) [] F.length (fe 142 [(0,T),(3,.ref z3 0 0),(6,u6),(9,Iz i),(10,Iz 0)]) F=some (.ext 2,fe 142 [(0,T),(3,.ref z3 0 0),(6,u6),(9,Iz i),(10,Iz k'),(49,bl false)],H')∧Dg m N F H':=by
 obtain ⟨id,g,p,pv0,bv0,h1,h2,h3,s1,s2,h4⟩:=aqv hs hi
 have key:∀ (d k:Nat) (H:Heap),k+d=aat pv0→Dg m N F H→∃ (k':Nat) (H':Heap),itW (evC (dw CT) itW base aln) [] F.length (fe 142 [(0,T),(3,.ref z3 0 0),(6,u6),(9,Iz i),(10,Iz k)]) H=some (.ext 2,fe 142 [(0,T),(3,.ref z3 0 0),(6,u6),(9,Iz i),(10,Iz k'),(49,bl false)],H')∧Dg m N F H':=by
  intro d
  induction d with
  | zero=>
    intro k H hk hD;obtain ⟨c,nm,pv,bv,c1,c2,c3,e1,e2,q1,q2,q3,q4⟩:=h4 H hD;have gz:=hD.getC hz hN;have hl:=q1.len
    have hle:aat pv≤k:=by
     rcases e1 with rfl | rfl
     ·omega
     ·exact iw _
    have hlt:¬ ((k:Int) < ((aat pv:Nat):Int)):=by omega
    have ht:∀ fr,trim F.length fr H=H:=fun fr=>ol hD.len;refine ⟨k,H,?_,hD⟩;rw [jo];simp only [ano,aa,reduceIte,reduceCtorEq,Nat.reduceEqDiff,Nat.reduceLT,Nat.reduceLeDiff,Nat.reduceBEq,Nat.reduceAdd,Nat.reduceMul,Iz,Sb,bl,gz,h1,q3,hl,hlt,ht]
  | succ d ih=>
    intro k H hk hD;obtain ⟨c,nm,pv,bv,c1,c2,c3,e1,e2,q1,q2,q3,q4⟩:=h4 H hD;have gz:=hD.getC hz hN;have hl:=q1.len;by_cases hlt:k < aat pv
    ·obtain ⟨id',g',p',c',w1,w2,w3,w4,w5⟩:=apv q1 hlt
     have hlt':((k:Int) < ((aat pv:Nat):Int)):=by omega
     have hb':base≤id':=by omega
     have hwk:=w63 (n:=k) (by have:=q1.lt;omega)
     obtain ⟨H2,hH2⟩:∃ X,H.set id' (.cells g' (c'.take p' ++ [Sb spoilt] ++ c'.drop (p'+1)))=X:=⟨_,rfl⟩;have w5:Dg m N H H2:=hH2 ▸ w5;have hD2:=hD.trans w5;have ht:∀ fr,trim F.length fr H2=H2:=fun fr=>ol hD2.len
     obtain ⟨k',H',r1,r2⟩:=ih (k+1) H2 (by omega) hD2
     refine ⟨k',H',?_,r2⟩;simp only [Iz,Sb,bl] at r1;simp only [spoilt,Sb] at hH2;rw [jo];simp only [ano,aa,reduceIte,reduceCtorEq,Nat.reduceEqDiff,Nat.reduceLT,Nat.reduceLeDiff,Nat.reduceBEq,Nat.reduceAdd,Nat.reduceMul,Iz,Sb,bl,gz,h1,q3,hl,hlt',w1,w3,w4,hb',hH2,hwk,ht,r1]
    ·have hlt':¬ ((k:Int) < ((aat pv:Nat):Int)):=by omega
     have ht:∀ fr,trim F.length fr H=H:=fun fr=>ol hD.len;refine ⟨k,H,?_,hD⟩;rw [jo];simp only [ano,aa,reduceIte,reduceCtorEq,Nat.reduceEqDiff,Nat.reduceLT,Nat.reduceLeDiff,Nat.reduceBEq,Nat.reduceAdd,Nat.reduceMul,Iz,Sb,bl,gz,h1,q3,hl,hlt',ht]
 have:=key (aat pv0) 0 F (by omega) (Dg.refl _ _ _)
 rwa [ajr] at this
end
open Go.AM
theorem CD.sl0 {m N w:Nat} {P:Heap→List V→Prop} {H:Heap} {x:V} (h:SL m N w P H x):CD x mi:=.nil _ h.sly
section
variable {CT:Nat→Option CFun}
theorem ow_l1 (base:Nat) {m N:Nat} (hb:base≤m) {F:Heap} {cv T u3 u6:V} (hs:SL m N 8 (P8 m N) F cv) {j:Nat} (hj:j < aat cv) {i b:Nat}:
 ∃ (k':Nat) (H':Heap),itW (evC (dw CT) itW base alm) [] F.length (fe 142 [(0,T),(3,u3),(6,u6),(9,Iz i),(11,Iz b),(12,cv),(13,Iz j),(14,Iz 0)]) F=some (.ext 8,fe 142 [(0,T),(3,u3),(6,u6),(9,Iz i),(11,Iz b),(12,cv),(13,Iz j),(14,Iz k'),(94,bl false)],H')∧Dg m N F H':=by
 obtain ⟨id,g,p,x0,y0,h1,h2,h3,s1,s2,h4⟩:=aqu hs hj
 have key:∀ (d k:Nat) (H:Heap),k+d=aat x0→Dg m N F H→∃ (k':Nat) (H':Heap),itW (evC (dw CT) itW base alm) [] F.length (fe 142 [(0,T),(3,u3),(6,u6),(9,Iz i),(11,Iz b),(12,cv),(13,Iz j),(14,Iz k)]) H=some (.ext 8,fe 142 [(0,T),(3,u3),(6,u6),(9,Iz i),(11,Iz b),(12,cv),(13,Iz j),(14,Iz k'),(94,bl false)],H')∧Dg m N F H':=by
  intro dd
  induction dd with
  | zero=>
    intro k H hk hD;obtain ⟨c,o,d,a,bb,n,f,x,y,c1,c2,c3,e1,e2,q1,q2,q3,q4⟩:=h4 H hD;have hl:=q1.len
    have hle:aat x≤k:=by
     rcases e1 with rfl | rfl
     ·omega
     ·exact iw _
    have hlt:¬ ((k:Int) < ((aat x:Nat):Int)):=by omega
    have ht:∀ fr,trim F.length fr H=H:=fun fr=>ol hD.len;refine ⟨k,H,?_,hD⟩;rw [jo];simp only [ano,aa,reduceIte,reduceCtorEq,Nat.reduceEqDiff,Nat.reduceLT,Nat.reduceLeDiff,Nat.reduceBEq,Nat.reduceAdd,Nat.reduceMul,Iz,Sb,bl,h1,q3,hl,hlt,ht]
  | succ dd ih=>
    intro k H hk hD;obtain ⟨c,o,d,a,bb,n,f,x,y,c1,c2,c3,e1,e2,q1,q2,q3,q4⟩:=h4 H hD;have hl:=q1.len;by_cases hlt:k < aat x
    ·obtain ⟨id',g',p',c',w1,w2,w3,w4,w5⟩:=apv q1 hlt
     have hlt':((k:Int) < ((aat x:Nat):Int)):=by omega
     have hb':base≤id':=by omega
     have hwk:=w63 (n:=k) (by have:=q1.lt;omega)
     obtain ⟨H2,hH2⟩:∃ X,H.set id' (.cells g' (c'.take p' ++ [Sb spoilt] ++ c'.drop (p'+1)))=X:=⟨_,rfl⟩;have w5:Dg m N H H2:=hH2 ▸ w5;have hD2:=hD.trans w5;have ht:∀ fr,trim F.length fr H2=H2:=fun fr=>ol hD2.len
     obtain ⟨k',H',r1,r2⟩:=ih (k+1) H2 (by omega) hD2
     refine ⟨k',H',?_,r2⟩;simp only [Iz,Sb,bl] at r1;simp only [spoilt,Sb] at hH2;rw [jo];simp only [ano,aa,reduceIte,reduceCtorEq,Nat.reduceEqDiff,Nat.reduceLT,Nat.reduceLeDiff,Nat.reduceBEq,Nat.reduceAdd,Nat.reduceMul,Iz,Sb,bl,h1,q3,hl,hlt',w1,w3,w4,hb',hH2,hwk,ht,r1]
    ·have hlt':¬ ((k:Int) < ((aat x:Nat):Int)):=by omega
     have ht:∀ fr,trim F.length fr H=H:=fun fr=>ol hD.len;refine ⟨k,H,?_,hD⟩;rw [jo];simp only [ano,aa,reduceIte,reduceCtorEq,Nat.reduceEqDiff,Nat.reduceLT,Nat.reduceLeDiff,Nat.reduceBEq,Nat.reduceAdd,Nat.reduceMul,Iz,Sb,bl,h1,q3,hl,hlt',ht]
 have:=key (aat x0) 0 F (by omega) (Dg.refl _ _ _)
 rwa [ajr] at this
theorem ow_l2 (base:Nat) {m N:Nat} (hb:base≤m) {F:Heap} {cv T u3 u6:V} (hs:SL m N 8 (P8 m N) F cv) {j:Nat} (hj:j < aat cv) {i b:Nat}:
 ∃ (k':Nat) (H':Heap),itW (evC (dw CT) itW base alk) [] F.length (fe 142 [(0,T),(3,u3),(6,u6),(9,Iz i),(11,Iz b),(12,cv),(13,Iz j),(15,Iz 0)]) F=some (.ext 10,fe 142 [(0,T),(3,u3),(6,u6),(9,Iz i),(11,Iz b),(12,cv),(13,Iz j),(15,Iz k'),(111,bl false)],H')∧Dg m N F H':=by
 obtain ⟨id,g,p,x0,y0,h1,h2,h3,s1,s2,h4⟩:=aqu hs hj
 have key:∀ (d k:Nat) (H:Heap),k+d=aat y0→Dg m N F H→∃ (k':Nat) (H':Heap),itW (evC (dw CT) itW base alk) [] F.length (fe 142 [(0,T),(3,u3),(6,u6),(9,Iz i),(11,Iz b),(12,cv),(13,Iz j),(15,Iz k)]) H=some (.ext 10,fe 142 [(0,T),(3,u3),(6,u6),(9,Iz i),(11,Iz b),(12,cv),(13,Iz j),(15,Iz k'),(111,bl false)],H')∧Dg m N F H':=by
  intro dd
  induction dd with
  | zero=>
    intro k H hk hD;obtain ⟨c,o,d,a,bb,n,f,x,y,c1,c2,c3,e1,e2,q1,q2,q3,q4⟩:=h4 H hD;have hl:=q2.len
    have hle:aat y≤k:=by
     rcases e2 with rfl | rfl
     ·omega
     ·exact iw _
    have hlt:¬ ((k:Int) < ((aat y:Nat):Int)):=by omega
    have ht:∀ fr,trim F.length fr H=H:=fun fr=>ol hD.len;refine ⟨k,H,?_,hD⟩;rw [jo];simp only [ano,aa,reduceIte,reduceCtorEq,Nat.reduceEqDiff,Nat.reduceLT,Nat.reduceLeDiff,Nat.reduceBEq,Nat.reduceAdd,Nat.reduceMul,Iz,Sb,bl,h1,q4,hl,hlt,ht]
  | succ dd ih=>
    intro k H hk hD;obtain ⟨c,o,d,a,bb,n,f,x,y,c1,c2,c3,e1,e2,q1,q2,q3,q4⟩:=h4 H hD;have hl:=q2.len;by_cases hlt:k < aat y
    ·obtain ⟨id',g',p',c',w1,w2,w3,w4,w5⟩:=apv q2 hlt
     have hlt':((k:Int) < ((aat y:Nat):Int)):=by omega
     have hb':base≤id':=by omega
     have hwk:=w63 (n:=k) (by have:=q2.lt;omega)
     obtain ⟨H2,hH2⟩:∃ X,H.set id' (.cells g' (c'.take p' ++ [Sb spoilt] ++ c'.drop (p'+1)))=X:=⟨_,rfl⟩;have w5:Dg m N H H2:=hH2 ▸ w5;have hD2:=hD.trans w5;have ht:∀ fr,trim F.length fr H2=H2:=fun fr=>ol hD2.len
     obtain ⟨k',H',r1,r2⟩:=ih (k+1) H2 (by omega) hD2
     refine ⟨k',H',?_,r2⟩;simp only [Iz,Sb,bl] at r1;simp only [spoilt,Sb] at hH2;rw [jo];simp only [ano,aa,reduceIte,reduceCtorEq,Nat.reduceEqDiff,Nat.reduceLT,Nat.reduceLeDiff,Nat.reduceBEq,Nat.reduceAdd,Nat.reduceMul,Iz,Sb,bl,h1,q4,hl,hlt',w1,w3,w4,hb',hH2,hwk,ht,r1]
    ·have hlt':¬ ((k:Int) < ((aat y:Nat):Int)):=by omega
     have ht:∀ fr,trim F.length fr H=H:=fun fr=>ol hD.len;refine ⟨k,H,?_,hD⟩;rw [jo];simp only [ano,aa,reduceIte,reduceCtorEq,Nat.reduceEqDiff,Nat.reduceLT,Nat.reduceLeDiff,Nat.reduceBEq,Nat.reduceAdd,Nat.reduceMul,Iz,Sb,bl,h1,q4,hl,hlt',ht]
 have:=key (aat y0) 0 F (by omega) (Dg.refl _ _ _)
 rwa [ajr] at this
set_option maxHeartbeats 1000000 in
theorem ow_l3 (base:Nat) {m N:Nat} (hb:base≤m) {F:Heap} {cv T u3 u6:V} (hs:SL m N 8 (P8 m N) F cv) {i b:Nat}:
 ∃ (k':Nat) (H':Heap),itW (evC (dw CT) itW base alj) [] F.length (fe 142 [(0,T),(3,u3),(6,u6),(9,Iz i),(11,Iz b),(12,cv),(13,Iz 0)]) F=some (.ext 6,fe 142 [(0,T),(3,u3),(6,u6),(9,Iz i),(11,Iz b),(12,cv),(13,Iz k'),(84,bl false)],H')∧Dg m N F H':=by
 have hl:∀ {H:Heap},Dg m N F H→aju H .s cv=some (.s (.int .i64 (aat cv))):=fun k=>(hs.mono (P8.mo m N) k).len
 obtain ⟨H',e1,e2⟩:=aks (aat cv) (fun _ H=>Dg m N F H) (fun j H=>itW (evC (dw CT) itW base alj) [] F.length (fe 142 [(0,T),(3,u3),(6,u6),(9,Iz i),(11,Iz b),(12,cv),(13,Iz j)]) H) (by
  intro j H hj hD;have hsH:=hs.mono (P8.mo m N) hD
  have hlt:((j:Int) < ((aat cv:Nat):Int)):=by omega
  have hwk:=w63 (n:=j) (by have:=hs.lt;omega)
  obtain ⟨k1,H1,r1,d1⟩:=ow_l1 (CT:=CT) base hb (T:=T) (u3:=u3) (u6:=u6) hsH hj (i:=i) (b:=b);obtain ⟨k2,H2,r2,d2⟩:=ow_l2 (CT:=CT) base hb (T:=T) (u3:=u3) (u6:=u6) (hsH.mono (P8.mo m N) d1) hj (i:=i) (b:=b);have D2:=hD.trans (d1.trans d2);obtain ⟨id,g,p,x0,y0,h1,h2,h3,s1,s2,h4⟩:=aqu hs hj;obtain ⟨c,o,d,a,bb,n,f,x,y,c1,c2,c3,_,_,q1,q2,_,_⟩:=h4 H2 D2
  have st:Dg m N H2 (H2.set id (.cells g (splice c p y5))):=Dg.store c1 h2 h3 (by
   show CDs ((c.drop p).take 8) y5;rw [c3];exact .cons (.num _ _ _) (.cons (.str _ _) (.cons (.str _ _) (.cons (.str _ _) (.cons (.num _ _ _) (.cons (.str _ _) (.cons (CD.sl0 q1) (.cons (CD.sl0 q2) .nil))))))))
  obtain ⟨H3,hH3⟩:∃ X,H2.set id (.cells g (c.take p ++ y5 ++ c.drop (p+8)))=X:=⟨_,rfl⟩;have st:Dg m N H2 H3:=hH3 ▸ st;have D3:=D2.trans st;have ht:∀ fr,trim F.length fr H3=H3:=fun fr=>ol D3.len
  have hb':base≤id:=by omega
  refine ⟨H3,?_,D3⟩;simp only [Iz,Sb,bl] at r1 r2;simp only [y5,mi] at hH3;rw [jo];simp only [ano,aa,reduceIte,reduceCtorEq,Nat.reduceEqDiff,Nat.reduceLT,Nat.reduceLeDiff,Nat.reduceBEq,Nat.reduceAdd,Nat.reduceMul,Iz,Sb,bl,hl hD,hlt,r1,r2,h1,c1,c2,hb',hH3,hwk,ht,cu,gq]) 0 F (iw _) (Dg.refl _ _ _)
 rw [ajr] at e1;have ht:∀ fr,trim F.length fr H'=H':=fun fr=>ol e2.len;refine ⟨aat cv,H',e1.trans ?_,e2⟩;rw [jo];simp only [ano,aa,reduceIte,reduceCtorEq,Nat.reduceEqDiff,Nat.reduceLT,Nat.reduceLeDiff,Nat.reduceBEq,Nat.reduceAdd,Nat.reduceMul,Iz,Sb,bl,hl e2,yh,ht]
set_option maxHeartbeats 1000000 in
theorem ow_l4 (base:Nat) {m N:Nat} (hb:base≤m) {F:Heap} {z3:Nat} {va T u6:V} (hz:getC F z3 0=some [va]) (hN:N≤z3) (hs:SL m N 3 (P3 m N) F va) {i:Nat} (hi:i < aat va):
 ∃ (k':Nat) (H':Heap),itW (evC (dw CT) itW base ali) [] F.length (fe 142 [(0,T),(3,.ref z3 0 0),(6,u6),(9,Iz i),(11,Iz 0)]) F=some (.ext 4,fe 142 [(0,T),(3,.ref z3 0 0),(6,u6),(9,Iz i),(11,Iz k'),(68,bl false)],H')∧Dg m N F H':=by
 obtain ⟨id,g,p,pv0,bv0,h1,h2,h3,s1,s2,h4⟩:=aqv hs hi
 have key:∀ (d k:Nat) (H:Heap),k+d=aat bv0→Dg m N F H→∃ (k':Nat) (H':Heap),itW (evC (dw CT) itW base ali) [] F.length (fe 142 [(0,T),(3,.ref z3 0 0),(6,u6),(9,Iz i),(11,Iz k)]) H=some (.ext 4,fe 142 [(0,T),(3,.ref z3 0 0),(6,u6),(9,Iz i),(11,Iz k'),(68,bl false)],H')∧Dg m N F H':=by
  intro d
  induction d with
  | zero=>
    intro k H hk hD;obtain ⟨c,nm,pv,bv,c1,c2,c3,e1,e2,q1,q2,q3,q4⟩:=h4 H hD;have gz:=hD.getC hz hN;have hl:=q2.len
    have hle:aat bv≤k:=by
     rcases e2 with rfl | rfl
     ·omega
     ·exact iw _
    have hlt:¬ ((k:Int) < ((aat bv:Nat):Int)):=by omega
    have ht:∀ fr,trim F.length fr H=H:=fun fr=>ol hD.len;refine ⟨k,H,?_,hD⟩;rw [jo];simp only [ano,aa,reduceIte,reduceCtorEq,Nat.reduceEqDiff,Nat.reduceLT,Nat.reduceLeDiff,Nat.reduceBEq,Nat.reduceAdd,Nat.reduceMul,Iz,Sb,bl,gz,h1,q4,hl,hlt,ht]
  | succ d ih=>
    intro k H hk hD;obtain ⟨c,nm,pv,bv,c1,c2,c3,e1,e2,q1,q2,q3,q4⟩:=h4 H hD;have gz:=hD.getC hz hN;have hl:=q2.len;by_cases hlt:k < aat bv
    ·obtain ⟨id',g',p',cv,w1,w2,w3⟩:=a6f q2 hlt
     have hlt':((k:Int) < ((aat bv:Nat):Int)):=by omega
     have hwk:=w63 (n:=k) (by have:=q2.lt;omega)
     obtain ⟨k1,H2,r0,w5⟩:=ow_l3 (CT:=CT) base hb (T:=T) (u3:=.ref z3 0 0) (u6:=u6) w2 (i:=i) (b:=k);have hD2:=hD.trans w5;have ht:∀ fr,trim F.length fr H2=H2:=fun fr=>ol hD2.len
     obtain ⟨k',H',r1,r2⟩:=ih (k+1) H2 (by omega) hD2
     refine ⟨k',H',?_,r2⟩;simp only [Iz,Sb,bl] at r0 r1;rw [jo];simp only [ano,aa,reduceIte,reduceCtorEq,Nat.reduceEqDiff,Nat.reduceLT,Nat.reduceLeDiff,Nat.reduceBEq,Nat.reduceAdd,Nat.reduceMul,Iz,Sb,bl,gz,h1,q4,hl,hlt',w1,w3,r0,hwk,ht,r1]
    ·have hlt':¬ ((k:Int) < ((aat bv:Nat):Int)):=by omega
     have ht:∀ fr,trim F.length fr H=H:=fun fr=>ol hD.len;refine ⟨k,H,?_,hD⟩;rw [jo];simp only [ano,aa,reduceIte,reduceCtorEq,Nat.reduceEqDiff,Nat.reduceLT,Nat.reduceLeDiff,Nat.reduceBEq,Nat.reduceAdd,Nat.reduceMul,Iz,Sb,bl,gz,h1,q4,hl,hlt',ht]
 have:=key (aat bv0) 0 F (by omega) (Dg.refl _ _ _)
 rwa [ajr] at this
set_option maxHeartbeats 1000000 in
theorem ow_l5 (base:Nat) {m N:Nat} (hb:base≤m) {F:Heap} {z3:Nat} {va T u6:V} (hz:getC F z3 0=some [va]) (hN:N≤z3) (hs:SL m N 3 (P3 m N) F va):
 ∃ (k':Nat) (H':Heap),itW (evC (dw CT) itW base alh) [] F.length (fe 142 [(0,T),(3,.ref z3 0 0),(6,u6),(9,Iz 0)]) F=some (.ext 0,fe 142 [(0,T),(3,.ref z3 0 0),(6,u6),(9,Iz k'),(38,bl false)],H')∧Dg m N F H':=by
 have hl:∀ {H:Heap},Dg m N F H→aju H .s va=some (.s (.int .i64 (aat va))):=fun k=>(hs.mono (P3.mo m N) k).len
 obtain ⟨H',e1,e2⟩:=aks (aat va) (fun _ H=>Dg m N F H) (fun j H=>itW (evC (dw CT) itW base alh) [] F.length (fe 142 [(0,T),(3,.ref z3 0 0),(6,u6),(9,Iz j)]) H) (by
  intro i H hi hD;have hsH:=hs.mono (P3.mo m N) hD
  have hlt:((i:Int) < ((aat va:Nat):Int)):=by omega
  have hwk:=w63 (n:=i) (by have:=hs.lt;omega)
  have gz:=hD.getC hz hN;obtain ⟨k1,H1,r1,d1⟩:=ow_l0 (CT:=CT) base hb (T:=T) (u6:=u6) gz hN hsH hi;have D1:=hD.trans d1;obtain ⟨k2,H2,r2,d2⟩:=ow_l4 (CT:=CT) base hb (T:=T) (u6:=u6) (d1.getC gz hN) hN (hsH.mono (P3.mo m N) d1) hi;have D2:=D1.trans d2;have gz2:=D2.getC hz hN;obtain ⟨id,g,p,pv0,bv0,h1,h2,h3,s1,s2,h4⟩:=aqv hs hi;obtain ⟨c,nm,pv,bv,c1,c2,c3,_,_,q1,q2,_,_⟩:=h4 H2 D2
  have st:Dg m N H2 (H2.set id (.cells g (splice c p zh))):=Dg.store c1 h2 h3 (by
   show CDs ((c.drop p).take 3) zh;rw [c3];exact .cons (.str _ _) (.cons (CD.sl0 q1) (.cons (CD.sl0 q2) .nil)))
  obtain ⟨H3,hH3⟩:∃ X,H2.set id (.cells g (c.take p ++ zh ++ c.drop (p+3)))=X:=⟨_,rfl⟩;have st:Dg m N H2 H3:=hH3 ▸ st;have D3:=D2.trans st;have ht:∀ fr,trim F.length fr H3=H3:=fun fr=>ol D3.len
  have hb':base≤id:=by omega
  refine ⟨H3,?_,D3⟩;simp only [Iz,Sb,bl] at r1 r2;simp only [zh,mi] at hH3;rw [jo];simp only [ano,aa,reduceIte,reduceCtorEq,Nat.reduceEqDiff,Nat.reduceLT,Nat.reduceLeDiff,Nat.reduceBEq,Nat.reduceAdd,Nat.reduceMul,Iz,Sb,bl,gz,hl hD,hlt,r1,r2,gz2,h1,c1,c2,hb',hH3,hwk,ht,cu,gq]) 0 F (iw _) (Dg.refl _ _ _)
 rw [ajr] at e1;have ht:∀ fr,trim F.length fr H'=H':=fun fr=>ol e2.len;have gz:=e2.getC hz hN;refine ⟨aat va,H',e1.trans ?_,e2⟩;rw [jo];simp only [ano,aa,reduceIte,reduceCtorEq,Nat.reduceEqDiff,Nat.reduceLT,Nat.reduceLeDiff,Nat.reduceBEq,Nat.reduceAdd,Nat.reduceMul,Iz,Sb,bl,gz,hl e2,yh,ht]
end
open Go.AM
section
variable {CT:Nat→Option CFun}
set_option maxHeartbeats 2000000 in
theorem a6t (hP:ajt CT) (hS:SamT CT) (hR:CT a7z=some (.code alu)) (hT:CT k_f6=some (.code awp)) (base:Nat) {A:Heap} (hbA:base≤A.length) (a:ByteArray):
 ∃ H',dw CT (.fn k_f6 [] []) [.s (.string a)] base A=some (.s (.bool true),H'):=by
 cases hg:decide ((a.size:Int) > 1500) with
 | true=>
   refine ⟨A,?_⟩
   refine oh (c:=awp) hT (by simp [awp]) ?_
   simp only [awp,ano,aa,reduceIte,reduceCtorEq,Nat.reduceEqDiff,Nat.reduceLT,Nat.reduceLeDiff,Nat.reduceBEq,Nat.reduceAdd,Nat.reduceMul,hg]
 | false=>
   obtain ⟨p,hp⟩:∃ x,ajv a.data.toList=x:=⟨_,rfl⟩;obtain ⟨va,A1,ea,xa,ca⟩:=hP base A a hbA;rw [hp] at ea ca;have oa:=(ca A1 fun _ _ _=>rfl).one;have la:=xa.le;obtain ⟨B1,hB1⟩:∃ X,A1 ++ [Ob.cells 0 [va]] ++ [Ob.cells 0 [.s (.int .i64 p.2.1.1),.s (.int .i64 p.2.1.2)]]=X:=⟨_,rfl⟩;have x1:Ext A1 B1:=hB1 ▸ (Ext.app _ _).trans (Ext.app _ _)
   have lb1:B1.length=A1.length+2:=by rw [← hB1,jf,jf]
   have ga:getC B1 A1.length 0=some [va]:=hB1 ▸ bx1 _ _ _
   have ba:base≤A1.length:=by omega
   have ba1:base≤A1.length+1:=by omega
   obtain ⟨vb,A2,eb,xb,cb⟩:=hP base B1 a (by omega)
   rw [hp] at eb cb;have ob:=(cb A2 fun _ _ _=>rfl).one;have lb:=xb.le;obtain ⟨B2,hB2⟩:∃ X,A2 ++ [Ob.cells 0 [vb]] ++ [Ob.cells 0 [.s (.int .i64 p.2.1.1),.s (.int .i64 p.2.1.2)]]=X:=⟨_,rfl⟩;have x2:Ext A2 B2:=hB2 ▸ (Ext.app _ _).trans (Ext.app _ _)
   have lb2:B2.length=A2.length+2:=by rw [← hB2,jf,jf]
   have gb:getC B2 A2.length 0=some [vb]:=hB2 ▸ bx1 _ _ _
   have bb:base≤A2.length:=by omega
   have bb1:base≤A2.length+1:=by omega
   have x12:=xb.trans x2;have hs:=bbh xa (x1.trans x12) ca;obtain ⟨k',D,il,hD⟩:=ow_l5 (CT:=CT) base hbA (T:=.s (.string a)) (u6:=.ref A2.length 0 0) (gy ga x12) (ag _) hs;have lD:=hD.len
   obtain ⟨vc,A3,B3,ec,hB3,xc,bc,bc1,lc,lc0,oc,rc,gc,gc1⟩:=a04 hP base (H:=D) (by omega) a hp
   have rb:zn B3 vb p.1:=cb B3 fun id i1 i2=>by
    rw [xc.get (by omega),hD.out id (.inr (by omega)),x2.get (by omega)]
   have gb3:=gy (hD.getC gb (by omega)) xc
   have hb3:base≤B3.length:=by omega
   obtain ⟨S1,sm,xs⟩:=awn hS base (A:=B3) hb3 rb rc
   obtain ⟨S2,rd,xr⟩:=aw6 hP hR base (A:=S1) (by have:=xs.le;omega)
   refine ⟨S2,oh (c:=awp) hT (by simp [awp]) ?_⟩
   simp only [Iz,bl] at sm rd il ea eb;simp only [Iz,bl,awp,ano,aa,reduceIte,reduceCtorEq,Nat.reduceEqDiff,Nat.reduceLT,Nat.reduceLeDiff,Nat.reduceBEq,Nat.reduceAdd,Nat.reduceMul,hg,ea,eb,ec,bx1,bx2,bx3,bx4,bx5,oa,ob,oc,ba,ba1,bb,bb1,bc,bc1,hB1,hB2,hB3,il,gb3,gc,sm,rd,bg,ic,jh,iq,yj,o7,jc,au,cz,dz,fq]
end
end Go.Proofs.YtbocmenkkjbigaaDoor
