/- Texts of the proof: RdsA, TokP6, RdsB, AmJ, AmV, AmR, RdX, RdJ1, RdJ2, RdJ3, RdY1, RdS9, RdN1, RdN2, RdN3, RdN4. -/
import Derived.Test.YtbocmenkkjbigaaDoorP0
import Derived.Test.YtbocmenkkjbigaaDoorP1
import Derived.Test.YtbocmenkkjbigaaDoorP2
import Derived.Test.YtbocmenkkjbigaaDoorP3
import Derived.Test.YtbocmenkkjbigaaDoorP4
import Derived.Shelf.Small.Strs
import Derived.Shelf.Strconv.Atoi
import Derived.ProofKit
import Derived.OpenShut
import Derived.ChangeArms
import Derived.FnData
import Derived.DataReads
import Derived.ChangeOld
import Derived.LaidMore
import Derived.Stop.Joined
import Derived.SevenTiedAt
import Derived.Test.YtbocmenkkjbigaaDoorRows
import Derived.Test.YtbocmenkkjbigaaDoorCards
import Derived.Test.YtbocmenkkjbigaaDoorTie
set_option linter.all false
set_option maxRecDepth 100000
namespace Go.Proofs.YtbocmenkkjbigaaDoor
open Go.AM
theorem w63 {n:Nat} (h:n+1 < 2 ^ 63):IntKind.i64.wrap ((n:Int)+1)=((n+1:Nat):Int):=by rw [IntKind.wrap_i64];omega
theorem ada {H H':Heap} {v:V} {l:List InsD} (h:RdL 8 abu H v l) (k:Ext H H'):RdL 8 abu H' v l:=RdL.ext (P:=abu) abu.ext h k
theorem agv {H H':Heap} {v:V} {l:List BlkD} (h:RdL 2 ae6 H v l) (k:Ext H H'):RdL 2 ae6 H' v l:=RdL.ext (P:=ae6) ae6.ext h k
theorem RdL.lt {α:Type} {w:Nat} {P:Heap→List V→α→Prop} {H:Heap} {v:V} {l:List α} (h:RdL w P H v l):l.length < 2 ^ 63:=by obtain ⟨_,_,_,h,_⟩:=h;exact h
structure SamT (CT:Nat→Option CFun):Prop where
 texts:CT a7v=some (.code alm)
 same:CT bb5=some (.code alo)
section
variable {CT:Nat→Option CFun}
theorem st_l0 (base:Nat) {D:Heap} {v w:V} {l:List ByteArray} (q1:Rd D v (l.map Sb)) (q2:af2 v) (r1:Rd D w (l.map Sb)) (r2:af2 w) (hn:l.length < 2 ^ 63):
 itW (evC (dn CT) itW base ahv) [] D.length (fq 26 [(0,v),(1,w),(5,Iz 0)]) D=some (.ext 0,fq 26 [(0,v),(1,w),(5,Iz l.length),(14,bl false)],D):=by
 have hpl:=atm q1
 have h:=bb6 l.length (fun k=>itW (evC (dn CT) itW base ahv) [] D.length (fq 26 [(0,v),(1,w),(5,Iz k)]) D) (fun k hk=>by
  have hlt':((k:Int) < ((l.length:Nat):Int)):=by omega
  have hwk:=w63 (n:=k) (by omega)
  obtain ⟨y,y1,y2⟩:=a9d q1 q2 hk;obtain ⟨z,z1,z2⟩:=a9d r1 r2 hk;have e:((l.getD k ⟨#[]⟩).data.toList == (l.getD k ⟨#[]⟩).data.toList)=true:=lh _;rw [ll];simp only [Iz,Sb,bl,a88,aa,reduceIte,reduceCtorEq,Nat.reduceEqDiff,Nat.reduceLT,Nat.reduceLeDiff,Nat.reduceBEq,Nat.reduceAdd,Nat.reduceMul,hpl,hlt',y1,y2,z1,z2,e,hwk,ac0 rfl]) 0 (jh _)
 rw [ar4] at h;refine h.trans ?_;rw [ll];simp only [Iz,Sb,bl,a88,aa,reduceIte,reduceCtorEq,Nat.reduceEqDiff,Nat.reduceLT,Nat.reduceLeDiff,Nat.reduceBEq,Nat.reduceAdd,Nat.reduceMul,hpl,yf,ac0 rfl]
theorem ail (hT:CT a7v=some (.code alm)) (base:Nat) {D:Heap} {v w:V} {l:List ByteArray} (q1:Rd D v (l.map Sb)) (q2:af2 v) (r1:Rd D w (l.map Sb)) (r2:af2 w) (hn:l.length < 2 ^ 63):
 dn CT (.fn a7v [] []) [v,w] base D=some (bl true,D):=by
 have f0:=st_l0 (CT:=CT) base q1 q2 r1 r2 hn;have hp1:=atm q1;have hp2:=atm r1;have e:(((l.length:Nat):Int) == ((l.length:Nat):Int))=true:=lh _
 refine nk (c:=alm) hT (by simp [alm]) ?_
 simp only [Iz,Sb,bl] at f0;simp only [Iz,Sb,bl,alm,a88,aa,reduceIte,reduceCtorEq,Nat.reduceEqDiff,Nat.reduceLT,Nat.reduceLeDiff,Nat.reduceBEq,Nat.reduceAdd,Nat.reduceMul,hp1,hp2,e,f0]
set_option maxHeartbeats 1000000 in
theorem sm_l0 (h:SamT CT) (base:Nat) {C0:Heap} (hb:base≤C0.length) {z9 z10:Nat} {lb cv cw:V} {l:List InsD} (hg9:getC C0 z9 0=some [lb,cv]) (hg10:getC C0 z10 0=some [lb,cw]) (hc:RdL 8 abu C0 cv l) (hd:RdL 8 abu C0 cw l) {v2 v3 v6 v7:V} {n5 n8:Int}:
 ∃ C',itW (evC (dn CT) itW base ahy) [] C0.length (fq 164 [(2,v2),(3,v3),(5,Iz n5),(6,v6),(7,v7),(8,Iz n8),(9,.ref z9 0 0),(10,.ref z10 0 0),(11,Iz 0)]) C0=some (.ext 4,(fq 164 [(2,v2),(3,v3),(5,Iz n5),(6,v6),(7,v7),(8,Iz n8),(9,.ref z9 0 0),(10,.ref z10 0 0),(11,Iz l.length),(95,bl false)]),C')∧Ext C0 C':=by
 have hn:=hc.lt
 obtain ⟨C,e2,e3⟩:=akt l.length (fun _ C=>Ext C0 C) (fun k C=>itW (evC (dn CT) itW base ahy) [] C0.length (fq 164 [(2,v2),(3,v3),(5,Iz n5),(6,v6),(7,v7),(8,Iz n8),(9,.ref z9 0 0),(10,.ref z10 0 0),(11,Iz k)]) C) (by
  intro k C hk hE
  have hlt':((k:Int) < ((l.length:Nat):Int)):=by omega
  have hwk:=w63 (n:=k) (by omega)
  have hbC:base≤C.length:=by have:=hE.le;omega
  have g9:=gm hg9 hE;have g10:=gm hg10 hE;have hpl:=(ada hc hE).len;have hxk:l[k]?=some (l[k]):=List.getElem?_eq_getElem hk;obtain ⟨x,hxe⟩:∃ x,l[k]=x:=⟨_,rfl⟩;rw [hxe] at hxk;obtain ⟨y,re,y1,y2,y3,_⟩:=hc.at2 hxk;obtain ⟨z,rf,z1,z2,z3,_⟩:=hd.at2 hxk;have ly:=y3 C hE;have lz:=z3 C hE;obtain ⟨av,lv,rfl,q1,q2,q3,q4,n1,n2⟩:=y2;obtain ⟨aw,lw,rfl,p1,p2,p3,p4,_⟩:=z2;obtain ⟨D1,hD1⟩:∃ D,C ++ [Ob.cells 0 (qy x av lv)]=D:=⟨_,rfl⟩;obtain ⟨D,hD⟩:∃ D,D1 ++ [Ob.cells 0 (qy x aw lw)]=D:=⟨_,rfl⟩
  have l1:D1.length=C.length+1:=by rw [← hD1,iq]
  have e1:Ext C D1:=hD1 ▸ Ext.app _ _;have e2:Ext D1 D:=hD ▸ Ext.app _ _;have hE2:=hE.trans (e1.trans e2);have hg1:getC D C.length 0=some (qy x av lv):=gm (hD1 ▸ ib C 0 _) e2
  have hg2:getC D (C.length+1) 0=some (qy x aw lw):=by rw [← l1,← hD];exact ib D1 0 _
  have f1:=ail h.texts base (q1.ext hE2) q2 (p1.ext hE2) p2 n1;have f2:=ail h.texts base (q3.ext hE2) q4 (p3.ext hE2) p4 n2;have b0:(x.op == x.op:Bool)=true:=lh _;have b1:(x.d.data.toList == x.d.data.toList:Bool)=true:=lh _;have b2:(x.a.data.toList == x.a.data.toList:Bool)=true:=lh _;have b3:(x.b.data.toList == x.b.data.toList:Bool)=true:=lh _;have b4:(x.k == x.k:Bool)=true:=lh _;have b5:(x.f.data.toList == x.f.data.toList:Bool)=true:=lh _;have o1:=q1.one;have o2:=q3.one;have o3:=p1.one;have o4:=p3.one;obtain ⟨Z1,hZ1⟩:∃ X,C ++ [Ob.cells 0 yz]=X:=⟨_,rfl⟩;obtain ⟨Z2,hZ2⟩:∃ X,Z1 ++ [Ob.cells 0 yz]=X:=⟨_,rfl⟩
  have lZ1:Z1.length=C.length+1:=by rw [← hZ1,iq]
  have lZ2:Z2.length=C.length+2:=by rw [← hZ2,iq,lZ1]
  have zz1:getC Z2 C.length 0=some yz:=gm (hZ1 ▸ ib C 0 _) (hZ2 ▸ Ext.app _ _)
  have ss1:Z2.set C.length (Ob.cells 0 (qy x av lv))=D1 ++ [Ob.cells 0 yz]:=by
   rw [← hZ2,xk _ _ (by omega),← hZ1,p8,hD1]
  have zz2:getC (D1 ++ [Ob.cells 0 yz]) (C.length+1) 0=some yz:=by rw [← l1];exact ib D1 0 _
  have ss2:(D1 ++ [Ob.cells 0 yz]).set (C.length+1) (Ob.cells 0 (qy x aw lw))=D:=by rw [← l1,p8,hD]
  have hb1:base≤C.length+1:=by omega
  refine ⟨trim C0.length (fq 164 [(2,v2),(3,v3),(5,Iz n5),(6,v6),(7,v7),(8,Iz n8),(9,.ref z9 0 0),(10,.ref z10 0 0),(11,Iz (k+1:Nat))]) D,?_,hE2.trim (ag _) _⟩;simp only [bl] at f1 f2;simp only [qy,Sb,yz,mf] at hZ1 hZ2 zz1 ss1 zz2 ss2 hg1 hg2 ly lz;rw [ll];simp only [Iz,Sb,bl,ar9,aa,reduceIte,reduceCtorEq,Nat.reduceEqDiff,Nat.reduceLT,Nat.reduceLeDiff,Nat.reduceBEq,Nat.reduceAdd,Nat.reduceMul,g9,g10,hpl,hlt',y1,z1,ly,lz,hZ1,lZ1,hZ2,zz1,ss1,zz2,ss2,hbC,hb1,o1,o2,o3,o4,gu,iw,ig,o5,mo,ja,aj,bu,dh,dz,hg1,hg2,b0,b1,b2,b3,b4,b5,f1,f2,hwk]) 0 C0 (jh _) (Ext.refl _)
 rw [ar4] at e2;refine ⟨trim C0.length (fq 164 [(2,v2),(3,v3),(5,Iz n5),(6,v6),(7,v7),(8,Iz n8),(9,.ref z9 0 0),(10,.ref z10 0 0),(11,Iz l.length),(95,bl false)]) C,e2.trans ?_,e3.trim (ag _) _⟩;have g9:=gm hg9 e3;have hpl:=(ada hc e3).len;rw [ll];simp only [Iz,bl,ar9,aa,reduceIte,reduceCtorEq,Nat.reduceEqDiff,Nat.reduceLT,Nat.reduceLeDiff,Nat.reduceBEq,Nat.reduceAdd,Nat.reduceMul,g9,hpl,yf]
set_option maxHeartbeats 1000000 in
theorem sm_l1 (h:SamT CT) (base:Nat) {C0:Heap} (hb:base≤C0.length) {q6 q7:Nat} {nm pv pw bv bw:V} {l:List BlkD} (hg6:getC C0 q6 0=some [nm,pv,bv]) (hg7:getC C0 q7 0=some [nm,pw,bw]) (hc:RdL 2 ae6 C0 bv l) (hd:RdL 2 ae6 C0 bw l) {v2 v3:V} {n5:Int}:
 ∃ C',itW (evC (dn CT) itW base ahx) [] C0.length (fq 164 [(2,v2),(3,v3),(5,Iz n5),(6,.ref q6 0 0),(7,.ref q7 0 0),(8,Iz 0)]) C0=some (.ext 2,(fq 164 [(2,v2),(3,v3),(5,Iz n5),(6,.ref q6 0 0),(7,.ref q7 0 0),(8,Iz l.length),(64,bl false)]),C')∧Ext C0 C':=by
 have hn:=hc.lt
 obtain ⟨C,e2,e3⟩:=akt l.length (fun _ C=>Ext C0 C) (fun k C=>itW (evC (dn CT) itW base ahx) [] C0.length (fq 164 [(2,v2),(3,v3),(5,Iz n5),(6,.ref q6 0 0),(7,.ref q7 0 0),(8,Iz k)]) C) (by
  intro k C hk hE
  have hlt':((k:Int) < ((l.length:Nat):Int)):=by omega
  have hwk:=w63 (n:=k) (by omega)
  have hbC:base≤C.length:=by have:=hE.le;omega
  have g6:=gm hg6 hE;have g7:=gm hg7 hE;have hpl:=(agv hc hE).len;have hxk:l[k]?=some (l[k]):=List.getElem?_eq_getElem hk;obtain ⟨B,hxe⟩:∃ x,l[k]=x:=⟨_,rfl⟩;rw [hxe] at hxk;obtain ⟨y,re,y1,y2,y3,_⟩:=hc.at2 hxk;obtain ⟨z,rf,z1,z2,z3,_⟩:=hd.at2 hxk;obtain ⟨cv,rfl,hcv⟩:=y2;obtain ⟨cw,rfl,hcw⟩:=z2;have hco:=hcv.one;have hcw1:=hcw.one;obtain ⟨C1,hC1⟩:∃ X,C ++ [Ob.cells 0 [Sb B.label,cv]]=X:=⟨_,rfl⟩;obtain ⟨C2,hC2⟩:∃ X,C1 ++ [Ob.cells 0 [Sb B.label,cw]]=X:=⟨_,rfl⟩
  have l1:C1.length=C.length+1:=by rw [← hC1,iq]
  have l2:C2.length=C.length+2:=by rw [← hC2,iq,l1]
  have x1:Ext C C1:=hC1 ▸ Ext.app _ _;have x2:Ext C1 C2:=hC2 ▸ Ext.app _ _;have ly:=y3 C hE;have lz:=z3 C hE;have k9:getC C2 C.length 0=some [Sb B.label,cv]:=gm (hC1 ▸ ib C 0 _) x2
  have k10:getC C2 (C.length+1) 0=some [Sb B.label,cw]:=by rw [← l1,← hC2];exact ib C1 0 _
  have hE2:=hE.trans (x1.trans x2)
  obtain ⟨C',f1,x3⟩:=sm_l0 h base (C0:=C2) (by omega) (v2:=v2) (v3:=v3) (v6:=.ref q6 0 0) (v7:=.ref q7 0 0) (n5:=n5) (n8:=k) k9 k10 (ada hcv hE2) (ada hcw hE2)
  have c1l:=(ada hcv hE2).len;have c2l:=(ada hcw hE2).len;obtain ⟨Z1,hZ1⟩:∃ X,C ++ [Ob.cells 0 [V.s (.string ⟨#[]⟩),mf]]=X:=⟨_,rfl⟩;obtain ⟨Z2,hZ2⟩:∃ X,Z1 ++ [Ob.cells 0 [V.s (.string ⟨#[]⟩),mf]]=X:=⟨_,rfl⟩
  have lZ1:Z1.length=C.length+1:=by rw [← hZ1,iq]
  have zz1:getC Z2 C.length 0=some [V.s (.string ⟨#[]⟩),mf]:=gm (hZ1 ▸ ib C 0 _) (hZ2 ▸ Ext.app _ _)
  have ss1:Z2.set C.length (Ob.cells 0 [Sb B.label,cv])=C1 ++ [Ob.cells 0 [V.s (.string ⟨#[]⟩),mf]]:=by
   rw [← hZ2,xk _ _ (by omega),← hZ1,p8,hC1]
  have zz2:getC (C1 ++ [Ob.cells 0 [V.s (.string ⟨#[]⟩),mf]]) (C.length+1) 0=some [V.s (.string ⟨#[]⟩),mf]:=by rw [← l1];exact ib C1 0 _
  have ss2:(C1 ++ [Ob.cells 0 [V.s (.string ⟨#[]⟩),mf]]).set (C.length+1) (Ob.cells 0 [Sb B.label,cw])=C2:=by rw [← l1,p8,hC2]
  have hb1:base≤C.length+1:=by omega
  have b1:(B.label.data.toList == B.label.data.toList:Bool)=true:=lh _;have b2:(((B.code.length:Nat):Int) == ((B.code.length:Nat):Int))=true:=lh _;refine ⟨trim C0.length (fq 164 [(2,v2),(3,v3),(5,Iz n5),(6,.ref q6 0 0),(7,.ref q7 0 0),(8,Iz (k+1:Nat))]) C',?_,(hE2.trans x3).trim (ag _) _⟩;rw [l2] at f1;simp only [bl,Iz,Sb,mf] at f1 ly lz hZ1 hZ2 zz1 ss1 zz2 ss2 k9 k10;rw [ll];simp only [Iz,Sb,bl,ar9,aa,reduceIte,reduceCtorEq,Nat.reduceEqDiff,Nat.reduceLT,Nat.reduceLeDiff,Nat.reduceBEq,Nat.reduceAdd,Nat.reduceMul,g6,g7,hpl,hlt',y1,z1,ly,lz,hZ1,lZ1,hZ2,zz1,ss1,zz2,ss2,hbC,hb1,hco,hcw1,gu,iw,ig,o5,mo,ja,aj,bu,dh,dz,l2,k9,k10,c1l,c2l,b1,b2,f1,hwk]) 0 C0 (jh _) (Ext.refl _)
 rw [ar4] at e2;refine ⟨trim C0.length (fq 164 [(2,v2),(3,v3),(5,Iz n5),(6,.ref q6 0 0),(7,.ref q7 0 0),(8,Iz l.length),(64,bl false)]) C,e2.trans ?_,e3.trim (ag _) _⟩;have g6:=gm hg6 e3;have hpl:=(agv hc e3).len;rw [ll];simp only [Iz,bl,ar9,aa,reduceIte,reduceCtorEq,Nat.reduceEqDiff,Nat.reduceLT,Nat.reduceLeDiff,Nat.reduceBEq,Nat.reduceAdd,Nat.reduceMul,g6,hpl,yf]
set_option maxHeartbeats 1000000 in
theorem sm_l2 (h:SamT CT) (base:Nat) {C0:Heap} (hb:base≤C0.length) {p2 p3:Nat} {fv fw:V} {fs:List FunD} (hg2:getC C0 p2 0=some [fv]) (hg3:getC C0 p3 0=some [fw]) (hc:aal C0 fv fs) (hd:aal C0 fw fs):
 ∃ C',itW (evC (dn CT) itW base ahw) [] C0.length (fq 164 [(2,.ref p2 0 0),(3,.ref p3 0 0),(5,Iz 0)]) C0=some (.ext 0,(fq 164 [(2,.ref p2 0 0),(3,.ref p3 0 0),(5,Iz fs.length),(25,bl false)]),C')∧Ext C0 C':=by
 have hn:=RdL.lt hc
 obtain ⟨C,e2,e3⟩:=akt fs.length (fun _ C=>Ext C0 C) (fun k C=>itW (evC (dn CT) itW base ahw) [] C0.length (fq 164 [(2,.ref p2 0 0),(3,.ref p3 0 0),(5,Iz k)]) C) (by
  intro k C hk hE
  have hlt':((k:Int) < ((fs.length:Nat):Int)):=by omega
  have hwk:=w63 (n:=k) (by omega)
  have hbC:base≤C.length:=by have:=hE.le;omega
  have g2:=gm hg2 hE;have g3:=gm hg3 hE;have hpl:=RdL.len (hc.ext hE);have hxk:fs[k]?=some (fs[k]):=List.getElem?_eq_getElem hk;obtain ⟨f,hxe⟩:∃ x,fs[k]=x:=⟨_,rfl⟩;rw [hxe] at hxk;obtain ⟨y,re,y1,y2,y3,_⟩:=hc.at2 hxk;obtain ⟨z,rf,z1,z2,z3,_⟩:=hd.at2 hxk;obtain ⟨pv,bv,rfl,u1,u2,u3,u4⟩:=y2;obtain ⟨pw,bw,rfl,w1,w2,w3,w4⟩:=z2;have o1:=u1.one;have o2:=u4.one;have o3:=w1.one;have o4:=w4.one;obtain ⟨C1,hC1⟩:∃ X,C ++ [Ob.cells 0 [Sb f.name,pv,bv]]=X:=⟨_,rfl⟩;obtain ⟨C2,hC2⟩:∃ X,C1 ++ [Ob.cells 0 [Sb f.name,pw,bw]]=X:=⟨_,rfl⟩
  have l1:C1.length=C.length+1:=by rw [← hC1,iq]
  have l2:C2.length=C.length+2:=by rw [← hC2,iq,l1]
  have x1:Ext C C1:=hC1 ▸ Ext.app _ _;have x2:Ext C1 C2:=hC2 ▸ Ext.app _ _;have ly:=y3 C hE;have lz:=z3 C hE;have k6:getC C2 C.length 0=some [Sb f.name,pv,bv]:=gm (hC1 ▸ ib C 0 _) x2
  have k7:getC C2 (C.length+1) 0=some [Sb f.name,pw,bw]:=by rw [← l1,← hC2];exact ib C1 0 _
  have hE2:=hE.trans (x1.trans x2);have ft:=ail h.texts base (D:=C2) (u1.ext hE2) u2 (w1.ext hE2) w2 u3
  obtain ⟨C',f1,x3⟩:=sm_l1 h base (C0:=C2) (by omega) (v2:=.ref p2 0 0) (v3:=.ref p3 0 0) (n5:=k) k6 k7 (agv u4 hE2) (agv w4 hE2)
  have c1l:=(agv u4 hE2).len;have c2l:=(agv w4 hE2).len;obtain ⟨Z1,hZ1⟩:∃ X,C ++ [Ob.cells 0 aam]=X:=⟨_,rfl⟩;obtain ⟨Z2,hZ2⟩:∃ X,Z1 ++ [Ob.cells 0 aam]=X:=⟨_,rfl⟩
  have lZ1:Z1.length=C.length+1:=by rw [← hZ1,iq]
  have zz1:getC Z2 C.length 0=some aam:=gm (hZ1 ▸ ib C 0 _) (hZ2 ▸ Ext.app _ _)
  have ss1:Z2.set C.length (Ob.cells 0 [Sb f.name,pv,bv])=C1 ++ [Ob.cells 0 aam]:=by
   rw [← hZ2,xk _ _ (by omega),← hZ1,p8,hC1]
  have zz2:getC (C1 ++ [Ob.cells 0 aam]) (C.length+1) 0=some aam:=by rw [← l1];exact ib C1 0 _
  have ss2:(C1 ++ [Ob.cells 0 aam]).set (C.length+1) (Ob.cells 0 [Sb f.name,pw,bw])=C2:=by rw [← l1,p8,hC2]
  have hb1:base≤C.length+1:=by omega
  have b1:(f.name.data.toList == f.name.data.toList:Bool)=true:=lh _;have b2:(((f.blocks.length:Nat):Int) == ((f.blocks.length:Nat):Int))=true:=lh _;refine ⟨trim C0.length (fq 164 [(2,.ref p2 0 0),(3,.ref p3 0 0),(5,Iz (k+1:Nat))]) C',?_,(hE2.trans x3).trim (ag _) _⟩;rw [l2] at f1;simp only [bl,Iz,Sb,aam,mf] at f1 ly lz hZ1 hZ2 zz1 ss1 zz2 ss2 k6 k7 ft;rw [ll];simp only [Iz,Sb,bl,ar9,aa,reduceIte,reduceCtorEq,Nat.reduceEqDiff,Nat.reduceLT,Nat.reduceLeDiff,Nat.reduceBEq,Nat.reduceAdd,Nat.reduceMul,g2,g3,hpl,hlt',y1,z1,ly,lz,hZ1,lZ1,hZ2,zz1,ss1,zz2,ss2,hbC,hb1,o1,o2,o3,o4,gu,iw,ig,o5,mo,ja,aj,bu,dh,dz,l2,k6,k7,c1l,c2l,b1,b2,ft,f1,hwk]) 0 C0 (jh _) (Ext.refl _)
 rw [ar4] at e2;refine ⟨trim C0.length (fq 164 [(2,.ref p2 0 0),(3,.ref p3 0 0),(5,Iz fs.length),(25,bl false)]) C,e2.trans ?_,e3.trim (ag _) _⟩;have g2:=gm hg2 e3;have hpl:=RdL.len (hc.ext e3);rw [ll];simp only [Iz,bl,ar9,aa,reduceIte,reduceCtorEq,Nat.reduceEqDiff,Nat.reduceLT,Nat.reduceLeDiff,Nat.reduceBEq,Nat.reduceAdd,Nat.reduceMul,g2,hpl,yf]
theorem awj (h:SamT CT) (base:Nat) {A:Heap} (hb:base≤A.length) {fv fw:V} {fs:List FunD} (hc:aal A fv fs) (hd:aal A fw fs):
 ∃ H',dn CT (.fn bb5 [] []) [.agg [fv],.agg [fw]] base A=some (bl true,H')∧Ext A H':=by
 have o1:=hc.one;have o2:=hd.one;obtain ⟨C1,hC1⟩:∃ X,A ++ [Ob.cells 0 [fv]]=X:=⟨_,rfl⟩;obtain ⟨C2,hC2⟩:∃ X,C1 ++ [Ob.cells 0 [fw]]=X:=⟨_,rfl⟩
 have l1:C1.length=A.length+1:=by rw [← hC1,iq]
 have l2:C2.length=A.length+2:=by rw [← hC2,iq,l1]
 have x1:Ext A C1:=hC1 ▸ Ext.app _ _;have x2:Ext C1 C2:=hC2 ▸ Ext.app _ _;have e:=x1.trans x2;have g2:getC C2 A.length 0=some [fv]:=gm (hC1 ▸ ib A 0 _) x2
 have g3:getC C2 (A.length+1) 0=some [fw]:=by rw [← l1,← hC2];exact ib C1 0 _
 have p1:=RdL.len (hc.ext e);have p2:=RdL.len (hd.ext e);have b2:(((fs.length:Nat):Int) == ((fs.length:Nat):Int))=true:=lh _
 obtain ⟨C',f1,x3⟩:=sm_l2 h base (C0:=C2) (by omega) g2 g3 (hc.ext e) (hd.ext e)
 refine ⟨C',l9 (c:=alo) (k:=2) h.same rfl (by decide) aqm ?_,e.trans x3⟩
 rw [l2] at f1;simp only [bl,Iz] at f1;simp only [Iz,Sb,bl,alo,ar9,aa,reduceIte,reduceCtorEq,Nat.reduceEqDiff,Nat.reduceLT,Nat.reduceLeDiff,Nat.reduceBEq,Nat.reduceAdd,Nat.reduceMul,o1,o2,hC1,l1,hC2,l2,g2,g3,p1,p2,b2,f1]
end
end Go.Proofs.YtbocmenkkjbigaaDoor
namespace Go.AM.Tok
def lexN:Nat→List UInt8→Nat→Nat→Out
 | 0,_,_,_=>.bad 0 0 0
 | _+1,[],ln,cl=>.done [⟨4,[],0,ln,cl⟩]
 | n+1,c :: l,ln,cl=>
   if blank c then (if c=10 then lexN n l (ln+1) 1 else lexN n l ln (cl+1))
   else if c=59 then lexN n (l.drop (far other l)) ln (cl+(far other l+1))
   else if letter c then (lexN n (l.drop (far within l)) ln (cl+(far within l+1))).cons ⟨1,c :: l.take (far within l),0,ln,cl⟩
   else if digit c then
    if 9 < far digit l+1∨(1 < far digit l+1∧c=48)∨far digit l < far within l then .bad 31 ln cl
    else (lexN n (l.drop (far digit l)) ln (cl+(far digit l+1))).cons ⟨2,c :: l.take (far digit l),val (c :: l.take (far digit l)),ln,cl⟩
   else if sign c then (lexN n l ln (cl+1)).cons ⟨3,[c],0,ln,cl⟩
   else .bad 30 ln cl
theorem lexN_eq:∀ (n:Nat) (l:List UInt8) (ln cl:Nat),l.length < n→lexN n l ln cl=lex l ln cl:=by
 intro n
 induction n with
 | zero=>intro l ln cl h;omega
 | succ n ih=>
   intro l ln cl h;cases l with
   | nil=>rw [lex_nil,lexN]
   | cons c l=>
     have hl:l.length < n:=by simpa using h
     have hd:∀ m,(l.drop m).length < n:=fun m=>by rw [jo];omega
     rw [lex_cons,lexN,ih _ _ _ hl,ih _ _ _ hl,ih _ _ _ (hd _),ih _ _ _ (hd _),ih _ _ _ (hd _)]
end Go.AM.Tok
set_option maxRecDepth 100000
namespace Go.Proofs.YtbocmenkkjbigaaDoor
open Go.AM
def reT:ByteArray:=⟨#[102,117,110,99,32,109,97,105,110,40,112,41,32,123,10,97,58,32,59,32,120,10,32,32,120,32,61,32,102,105,101,108,100,32,112,32,51,10,32,32,114,101,116,10,125,10]⟩
def bdq:InsD:=⟨7,⟨#[120]⟩,⟨#[112]⟩,⟨#[]⟩,3,⟨#[]⟩,[],[]⟩
def reI2:InsD:=⟨14,⟨#[]⟩,⟨#[]⟩,⟨#[]⟩,0,⟨#[]⟩,[],[]⟩
def reF:List FunD:=[⟨⟨#[109,97,105,110]⟩,[⟨#[112]⟩],[⟨⟨#[97]⟩,[bdq,reI2]⟩]⟩]
def ame (l:List UInt8):List Tok.T × (Nat × Nat) × Nat:=if 1048576 < l.length then ([],(0,0),2) else match Tok.lexN (l.length+1) l 1 1 with
 | .done ts=>(ts,(0,0),0)
 | .bad e a q=>([],(a,q),e)
theorem bbt (l:List UInt8):amf l=ame l:=by
 unfold amf ame;rw [Tok.lexN_eq _ _ _ _ (Nat.lt_succ_self _)]
 try rfl
def a1g (l:List UInt8):List FunD × (Nat × Nat) × Nat:=
 if (ame l).2.2=0 then match parT (ame l).1 with
  | .ok fs=>(fs,(0,0),0)
  | .error j=>([],(((ame l).1.getD j tkE).line,((ame l).1.getD j tkE).col),if ((ame l).1.getD j tkE).kind=4 then 41 else 40)
 else ([],(ame l).2.1,(ame l).2.2)
theorem ast (l:List UInt8):ah2 l=a1g l:=by
 unfold ah2 a1g;rw [bbt]
 try rfl
theorem awz:ah2 reT.data.toList=(reF,(0,0),0):=(ast _).trans (by kernel_rfl)
section
variable {CT:Nat→Option CFun}
def aha (CT:Nat→Option CFun):Prop:=∀ (base:Nat) (H:Heap) (b:ByteArray),base≤H.length→∃ v H',dn CT (.fn a9l [] []) [.s (.string b)] base H=some (.tup [.agg [v],.agg [Iz (ah2 b.data.toList).2.1.1,Iz (ah2 b.data.toList).2.1.2],Iz (ah2 b.data.toList).2.2],H')∧Ext H H'∧∀ H'',(∀ id,H.length≤id→id < H'.length→H''[id]?=H'[id]?)→aal H'' v (ah2 b.data.toList).1
theorem aw0 (hP:aha CT) (hT:CT a7w=some (.code aln)) (base:Nat) {A:Heap} (hb:base≤A.length):
 ∃ H',dn CT (.fn a7w [] []) [] base A=some (bl true,H')∧Ext A H':=by
 obtain ⟨v,H1,h1,e1,h3⟩:=hP base A reT hb;rw [awz] at h1 h3;have hr:=h3 H1 fun _ _ _=>rfl;have hvo:=hr.one;obtain ⟨H2,hH2⟩:∃ X,H1 ++ [Ob.cells 0 [v]]=X:=⟨_,rfl⟩;obtain ⟨H3,hH3⟩:∃ X,H2 ++ [Ob.cells 0 [Iz 0,Iz 0]]=X:=⟨_,rfl⟩
 have l2:H2.length=H1.length+1:=by rw [← hH2,iq]
 have e2:Ext H1 H2:=hH2 ▸ Ext.app _ _;have e3:Ext H2 H3:=hH3 ▸ Ext.app _ _;have g1:getC H3 H1.length 0=some [v]:=gm (hH2 ▸ ib H1 0 _) e3;have hE:=e2.trans e3;have hr3:=hr.ext hE;have c0:=RdL.len hr3;obtain ⟨a,r,a1,hf,_,a3⟩:=hr3.at2 (i:=0) (x:=reF.getD 0 a9o) rfl;obtain ⟨pv,bv,rfl,p1,p2,p3,hbv⟩:=hf;obtain ⟨x1,x2,x3⟩:=a3 1 _ rfl;obtain ⟨y1,y2,y3⟩:=a3 2 _ rfl;have cp:=atm p1;have cb:=hbv.len;obtain ⟨b1,rb,b2,hbb,_,b3⟩:=hbv.at2 (i:=0) (x:=⟨⟨#[97]⟩,[bdq,reI2]⟩) rfl;obtain ⟨cv,rfl,hcv⟩:=hbb;obtain ⟨d1,d2,d3⟩:=b3 1 _ rfl;have cc:=hcv.len;obtain ⟨f1,rf,f2,hff,_,f3⟩:=hcv.at2 (i:=0) (x:=bdq) rfl;obtain ⟨av,lv,rfl,_⟩:=hff;obtain ⟨k1,k2,k3⟩:=f3 4 _ rfl;obtain ⟨m1,m2,m3⟩:=f3 2 _ rfl;have x4:=x3 H3 (Ext.refl _);have y4:=y3 H3 (Ext.refl _);have d4:=d3 H3 (Ext.refl _);have k4:=k3 H3 (Ext.refl _);have m4:=m3 H3 (Ext.refl _);obtain ⟨Z1,hZ1⟩:∃ X,H1 ++ [Ob.cells 0 [mf]]=X:=⟨_,rfl⟩;obtain ⟨Z2,hZ2⟩:∃ X,Z1 ++ [Ob.cells 0 [Iz 0,Iz 0]]=X:=⟨_,rfl⟩
 have lZ1:Z1.length=H1.length+1:=by rw [← hZ1,iq]
 have zz1:getC Z2 H1.length 0=some [mf]:=gm (hZ1 ▸ ib H1 0 _) (hZ2 ▸ Ext.app _ _)
 have ss1:Z2.set H1.length (Ob.cells 0 [v])=H3:=by
  rw [← hZ2,xk _ _ (by omega),← hZ1,p8,hH2,hH3]
 have zz2:getC H3 (H1.length+1) 0=some [Iz 0,Iz 0]:=by rw [← l2,← hH3];exact ib H2 0 _
 have ss2:H3.set (H1.length+1) (Ob.cells 0 [Iz 0,Iz 0])=H3:=by rw [← hH3,← l2,p8]
 have hbH:base≤H1.length:=by have:=e1.le;omega
 have hb1:base≤H1.length+1:=by omega
 refine ⟨H3,nk (c:=aln) hT (by simp [aln]) ?_,e1.trans hE⟩
 have z0:((0:Nat):Int)=0:=rfl;have n1:(((reF.length:Nat):Int) == 1)=true:=rfl;simp only [reT,Iz,z0] at h1;simp only [Iz,mf] at hZ1 hZ2 zz1 ss1 zz2 ss2;simp only [Iz,z0,bdq,Sb] at a1 b2 f2 k4 m4 c0 cp cb cc d4;have q1:(((reF.length:Nat):Int) == 1)=true:=rfl;have q2:((((reF.getD 0 a9o).ps.length:Nat):Int) == 1)=true:=rfl;have q3:((((reF.getD 0 a9o).blocks.length:Nat):Int) == 1)=true:=rfl;simp only [Iz,mf,bl,aln,a_f12,aa,reduceIte,reduceCtorEq,Nat.reduceEqDiff,Nat.reduceLT,Nat.reduceLeDiff,Nat.reduceBEq,Nat.reduceAdd,Nat.reduceMul,h1,hZ1,lZ1,hZ2,zz1,ss1,zz2,ss2,hbH,hb1,hvo,az,gu,iw,ig,o5,mo,ja,aj,bu,dh,dz,g1,c0,q1,a1,x2,x4,cp,q2,y2,y4,cb,q3,b2,d2,d4,cc,f2,k2,k4,m2,m4]
 try rfl
end
end Go.Proofs.YtbocmenkkjbigaaDoor
namespace Go.AM
open Go.RowKit
section
variable {P:Program}
theorem bca {pure':PX} {k:Nat} (hent:∀ xs w,(callFunc k xs).run P w=.ok (.enter k xs) w)
 (hs:∀ (s:ByteArray) (c:Int) (w:World),Calls P k #[.string s,.int .u8 c] w fun e w'=>e=.returned (.int .i64 (Lib.indexByte s.data.toList c.toNat.toUInt8))∧w'=w):aba P pure' k (.prim a9n):=by
 refine ⟨hent,fun vs base H r H' hg=>?_⟩;unfold a9n at hg;split at hg
 ·rename_i b c;cases hg;refine ⟨Floor.refl _ _,fun μ Mt w cs hH hvs n=>?_⟩;obtain ⟨h1,h2⟩:=hvs
  match cs,h1 with
  | [x,y],_=>
    have e1:=x9 (h2 0 _ x rfl rfl);have e2:=x9 (h2 1 _ y rfl rfl);subst e1 e2;refine callsIn_wide.2 ((hs b c w).mono ?_);rintro e w' ⟨rfl,rfl⟩;exact ⟨_,μ,Mt,rfl,.s _,Post.refl hH⟩
 ·cases hg
theorem aje {α:Type} (x:α) (f:α→α):∀ l:List α,(l ++ [x]).modify l.length f=l ++ [f x]
 | []=>rfl
 | y :: l=>by
   have:=aje x f l;simp only [aj,bq,List.modify_succ_cons,this]
theorem aq1 {α:Type} (a:Array α) (x:α) (f:α→α):(a.push x).modify a.size f=a.push (f x):=by
 apply qp;rw [Array.toList_modify,ahp,ahp,show a.size=a.toList.length from rfl];exact aje x f _
theorem avh {CC:CX} {μ:Mu} {Mt:Nat→Prop} {w:World} {H:Heap} (h:HR CC μ Mt w H) (e:TypeId) (s:ByteArray):Post CC μ Mt w H μ Mt (Lib.bytesWorld w e s) H:=by
 refine aqo [.cells (Lib.bytesCells w e s) e ((Lib.bytesCells w e s).size,(Lib.bytesCells w e s).size+1)] w _ h ?_ rfl rfl rfl;unfold Lib.bytesWorld World.freeze
 rw [ic (by decide)]
 obtain ⟨o,ho⟩:∃ o,Obj.cells (Lib.bytesCells w e s) e=o:=⟨_,rfl⟩;have hp:(w.drew.alloc o).heap=w.heap.push o:=rfl;simp only [ho,hp];rw [aq1,← ho];rfl
theorem a8v {pure':PX} {k:Nat} {t:TypeId} (hent:∀ xs w,(callFunc k xs).run P w=.ok (.enter k xs) w)
 (hs:∀ (s:ByteArray) (n:Int),s.size≤18→Lib.atoi s.data.toList=some n→∀ (w:World),Calls P k #[.string s] w fun e w'=>e=.returned (.tuple #[.int .i64 n,.nilIface])∧∃ b,w'=Lib.bytesWorld w t b):aba P pure' k (.prim api):=by
 refine ⟨hent,fun vs base H r H' hg=>?_⟩;unfold api at hg;split at hg
 ·rename_i b;split at hg
  ·rename_i hb;cases hn:Lib.atoi b.data.toList with
   | none=>rw [hn] at hg;cases hg
   | some n=>
     rw [hn] at hg;cases hg;refine ⟨Floor.refl _ _,fun μ Mt w cs hH hvs m=>?_⟩;obtain ⟨h1,h2⟩:=hvs
     match cs,h1 with
     | [x],_=>
       have e1:=x9 (h2 0 _ x rfl rfl);subst e1;refine callsIn_wide.2 ((hs b n hb hn w).mono ?_);rintro e w' ⟨rfl,s,rfl⟩;refine ⟨_,μ,Mt,rfl,?_,avh hH t s⟩;refine .tup _ _ rfl fun i a c ha hc=>?_
       match i with
       | 0=>cases ha;cases hc;exact .s _
       | 1=>cases ha;cases hc;exact .s _
       | i+2=>simp at ha
  ·cases hg
 ·cases hg
end
inductive Ty where
 | int (k:IntKind) | bool | str
 | sl (e:Ty)
 | st (fs:List Ty)
 deriving Inhabited
mutual
def Ty.width:Ty→Nat
 | .int _=>1
 | .bool=>1
 | .str=>1
 | .sl _=>1
 | .st fs=>asc fs
def asc:List Ty→Nat
 | []=>0
 | f :: fs=>f.width+asc fs
end
mutual
def tyOk (P:Program):Nat→Ty→TypeId→Bool
 | 0,_,_=>false
 | n+1,ty,t=>match ty,P.underlying t with
   | .int k,some (.int k')=>k == k'
   | .bool,some .bool=>true
   | .str,some .string=>true
   | .sl e,some (.slice e')=>tyOk P n e e' && P.cellsOf e' == e.width && decide (0 < e.width)
   | .st fs,some (.struct gs)=>P.cellsOf t == asc fs && bay P n 0 fs gs.toList
   | _,_=>false
def bay (P:Program):Nat→Nat→List Ty→List Field→Bool
 | 0,_,_,_=>false
 | n+1,off,fs,gs=>match fs,gs with
   | [],[]=>true
   | f :: fs,g :: gs=>g.offset == off && P.cellsOf g.type == f.width && tyOk P n f g.type && bay P n (off+f.width) fs gs
   | _,_=>false
end
mutual
def IsV:Ty→List V→Prop
 | .int k,cs=>∃ n,cs=[.s (.int k n)]∧k.min≤n∧n≤k.max
 | .bool,cs=>∃ b,cs=[.s (.bool b)]
 | .str,cs=>∃ b,cs=[.s (.string b)]∧b.size≤maxLen
 | .sl e,cs=>cs=[mf]∨∃ es:List (List V),cs=[.psl es e.width]∧es.length≤maxLen∧∀ x∈es,IsV e x
 | .st fs,cs=>a9r fs cs
def a9r:List Ty→List V→Prop
 | [],cs=>cs=[]
 | f :: fs,cs=>∃ a b,cs=a ++ b∧IsV f a∧a9r fs b
end
mutual
theorem IsV.len:∀ (t:Ty) {cs:List V},IsV t cs→cs.length=t.width
 | .int _,cs,h=>by obtain ⟨n,rfl,_⟩:=h;rfl
 | .bool,cs,h=>by obtain ⟨n,rfl⟩:=h;rfl
 | .str,cs,h=>by obtain ⟨n,rfl,_⟩:=h;rfl
 | .sl e,cs,h=>by rcases h with rfl | ⟨es,rfl,_⟩ <;> rfl
 | .st fs,cs,h=>a9r.len fs h
theorem a9r.len:∀ (fs:List Ty) {cs:List V},a9r fs cs→cs.length=asc fs
 | [],cs,h=>by cases h;rfl
 | f :: fs,cs,h=>by
   obtain ⟨a,b,rfl,h1,h2⟩:=h;rw [dm,IsV.len f h1,a9r.len fs h2];rfl
end
section
variable {H:Type} {enc:TypeId × Value→H} {P:Program} {w:World} {base:Nat} {sp:Nat→Bool} {held:Bool}
end
end Go.AM
set_option maxRecDepth 100000
namespace Go.Proofs.YtbocmenkkjbigaaDoor
open Go.ChangeShapes Go.WideShapes Go.ChangeAt Go.RowKit Go.AM
theorem mixed:Tryd.prog.follows .mixedOrders=true:=by kernel_rfl
theorem as8 {px:PX}:aba Tryd.prog px 27 (.prim a9n):=bca (Go.Proofs.enters_of Tryd.func27 (by kernel_rfl) rfl) (fun s c w=>Any.strings_IndexByte Tryd.idxK s c w)
theorem aph {px:PX}:aba Tryd.prog px 33 (.prim api):=a8v (t:=Tryd.atoiK_ren.t 5) (Go.Proofs.enters_of Tryd.func33 (by kernel_rfl) rfl) (fun s n h1 h2 w=>Any.strconv_Atoi Tryd.atoiK s n h1 h2 w)
def CT0:Nat→Option CFun
 | 13=>some (.code ad6)
 | 16=>some (.code afk)
 | 18=>some (.code ac7)
 | 25=>some (.code aj5)
 | 26=>some (.code ai3)
 | 27=>some (.prim a9n)
 | 28=>some (.code aj4)
 | 29=>some (.code aj3)
 | 30=>some (.code aj2)
 | 31=>some (.code aj1)
 | 32=>some (.code aj0)
 | 33=>some (.prim api)
 | 34=>some (.code ajz)
 | 35=>some (.code afj)
 | 36=>some (.code ai2)
 | 37=>some (.code agj)
 | 38=>some (.code acv)
 | 39=>some (.code ad5)
 | 49=>some (.code ai0)
 | 50=>some (.code aer)
 | 51=>some (.code agi)
 | 52=>some (.code ali)
 | 53=>some (.code alh)
 | 60=>some (.code acu)
 | 61=>some (.code afi)
 | 62=>some (.code afh)
 | 63=>some (.code aeo)
 | 64=>some (.code aiy)
 | 65=>some (.code agh)
 | 66=>some (.code aiw)
 | 67=>some (.code ap3)
 | 68=>some (.code aiu)
 | 69=>some (.code ais)
 | 70=>some (.code afg)
 | 71=>some (.code aek)
 | _=>none
theorem bdo:∀ k c,CT0 k=some c→aba Tryd.prog (PXf (fun _=>none)) k c:=by
 intro k c h;unfold CT0 at h;split at h
 ·cases h;exact ko (fun _=>none) a5p
 ·cases h;exact ko (fun _=>none) bdm
 ·cases h;exact ko (fun _=>none) bcx
 ·cases h;exact ko (fun _=>none) a5o
 ·cases h;exact ko (fun _=>none) a5n
 ·cases h;exact as8
 ·cases h;exact ko (fun _=>none) a5m
 ·cases h;exact ko (fun _=>none) a5l
 ·cases h;exact ko (fun _=>none) a5k
 ·cases h;exact ko (fun _=>none) a5j
 ·cases h;exact ko (fun _=>none) a5i
 ·cases h;exact aph
 ·cases h;exact ko (fun _=>none) bdl
 ·cases h;exact ko (fun _=>none) bdk
 ·cases h;exact ko (fun _=>none) bdj
 ·cases h;exact ko (fun _=>none) bdi
 ·cases h;exact ko (fun _=>none) bdh
 ·cases h;exact ko (fun _=>none) bcw
 ·cases h;exact ko (fun _=>none) bdg
 ·cases h;exact ko (fun _=>none) bdf
 ·cases h;exact ko (fun _=>none) bde
 ·cases h;exact ko (fun _=>none) bcv
 ·cases h;exact ko (fun _=>none) bcu
 ·cases h;exact ko (fun _=>none) bdd
 ·cases h;exact ko (fun _=>none) bdc
 ·cases h;exact ko (fun _=>none) bdb
 ·cases h;exact ko (fun _=>none) bda
 ·cases h;exact ko (fun _=>none) bc9
 ·cases h;exact ko (fun _=>none) bc8
 ·cases h;exact ko (fun _=>none) bc7
 ·cases h;exact ko (fun _=>none) bc6
 ·cases h;exact ko (fun _=>none) bc5
 ·cases h;exact ko (fun _=>none) bc4
 ·cases h;exact ko (fun _=>none) bcz
 ·cases h;exact ko (fun _=>none) bcy
 ·cases h
theorem tl0:TL CT0:=⟨rfl,rfl,rfl,rfl,rfl,rfl,rfl,rfl,rfl⟩
theorem tr0:RdT CT0:=by constructor <;> rfl
theorem to0:OpsT CT0:=by constructor <;> first | exact tr0 | rfl
theorem ti0:InsT CT0:=by constructor <;> first | exact to0 | rfl
theorem tf0:FunT CT0:=by constructor <;> first | exact ti0 | rfl
theorem aus:aba Tryd.prog (PXf (fun _=>none)) 9 (.prim (a4z CT0)):=a1c mixed bdo a1h
theorem a1d {CT:Nat→Option CFun} (hT:CT a9l=some (.prim (a4z CT0))):aha CT:=fun base _ b hb=>aw5 hT tf0 rfl tl0 base hb b
theorem a3y (os:Os) (args:Array Value):laidMetH Tryd.prog Rows.readParsesRow.laid ((World.doorLaid Tryd.prog 400 os).forCall (fun _ _=>0) ⟨#[],args,[]⟩).memory:=by
 rw [MakeChecks.laidMetH_plain _ _ _ (by kernel_rfl)]
 exact laidMet_of_run' 8 (by kernel_rfl) (by kernel_rfl)
open Go.AM
section
variable {W V:Vw} {k:Nat}
end
open Go.AM
section
variable {U V:Vw} {k K:Nat}
end
open Go.AM
open Go.AM
theorem bx1 (H:Heap) (a:V) (c:Ob):getC (H ++ [.cells 0 [a]] ++ [c]) H.length 0=some [a]:=gm (ib H 0 [a]) (Ext.app _ _)
theorem bx2 (H:Heap) (a b:Ob) (c:Ob):(H ++ [a] ++ [c]).set H.length b=H ++ [b] ++ [c]:=by
 rw [xk _ _ (by rw [iq];omega),p8]
theorem bx3 (H:Heap) (a:Ob) (c:List V):getC (H ++ [a] ++ [.cells 0 c]) (H.length+1) 0=some c:=by
 have:=ib (H ++ [a]) 0 c
 rwa [iq] at this
theorem bx4 (H:Heap) (a:Ob) (b c:Ob):(H ++ [a] ++ [b]).set (H.length+1) c=H ++ [a] ++ [c]:=by
 have:=p8 (H ++ [a]) b c
 rwa [iq] at this
theorem a5y (a b c d:Int):mi [Leaf.int IntKind.i64,Leaf.int IntKind.i64] [.s (.int .i64 a),.s (.int .i64 b)] [.s (.int .i64 c),.s (.int .i64 d)]=some (a == c && b == d):=by
 simp only [mi,ao9,mo,ja,ig]
theorem bx5 (H:Heap) (a:Ob):(H ++ [a]).length=H.length+1:=iq H a
section
variable {CT:Nat→Option CFun}
theorem alv (hP:aha CT) (base:Nat) {H:Heap} (hb:base≤H.length) (b:ByteArray) {p:List FunD × (Nat × Nat) × Nat} (hp:ah2 b.data.toList=p):∃ v H1 H2,dn CT (.fn a9l [] []) [.s (.string b)] base H=some (.tup [.agg [v],.agg [.s (.int .i64 p.2.1.1),.s (.int .i64 p.2.1.2)],.s (.int .i64 p.2.2)],H1)∧
 H1 ++ [Ob.cells 0 [v]] ++ [Ob.cells 0 [.s (.int .i64 p.2.1.1),.s (.int .i64 p.2.1.2)]]=H2∧Ext H H2∧base≤H1.length∧base≤H1.length+1∧H2.length=H1.length+2∧H.length≤H1.length∧v.one=true∧aal H2 v p.1∧getC H2 H1.length 0=some [v]∧getC H2 (H1.length+1) 0=some [.s (.int .i64 p.2.1.1),.s (.int .i64 p.2.1.2)]:=by
 obtain ⟨v,H1,h1,e1,h3⟩:=hP base H b hb;rw [hp] at h1 h3;have hr:=h3 H1 fun _ _ _=>rfl;obtain ⟨H2,hH2⟩:∃ X,H1 ++ [Ob.cells 0 [v]] ++ [Ob.cells 0 [.s (.int .i64 p.2.1.1),.s (.int .i64 p.2.1.2)]]=X:=⟨_,rfl⟩;have e2:Ext H1 H2:=hH2 ▸ (Ext.app _ _).trans (Ext.app _ _);have hl:=e1.le
 refine ⟨v,H1,H2,h1,hH2,e1.trans e2,by omega,by omega,by rw [← hH2,iq,iq],hl,hr.one,hr.ext e2,hH2 ▸ bx1 _ _ _,hH2 ▸ bx3 _ _ _⟩
end
open Go.AM
abbrev k_f7:Nat:=7
def K7_0:List Nat:=List.range' 0 204
theorem aui:ze K7_0 (pg 204 [] 0)=[]:=by kernel_rfl
def R7_0:LO:=[q 0 (.move (.c (.s (.bool false))))]
def R7_1t2:LO:=[oM 1 39]
def R7_1t1:LO:=⟨some 39,.buildSl 4 20 [.s (.string ⟨#[]⟩),.s (.int .i64 0),.s (.int .i64 0),.s (.int .i64 0),.s (.string ⟨#[]⟩),.s (.int .i64 0),.s (.int .i64 0),.s (.int .i64 0),.s (.string ⟨#[]⟩),.s (.int .i64 0),.s (.int .i64 0),.s (.int .i64 0),.s (.string ⟨#[]⟩),.s (.int .i64 0),.s (.int .i64 0),.s (.int .i64 0),.s (.string ⟨#[]⟩),.s (.int .i64 0),.s (.int .i64 0),.s (.int .i64 0),.s (.string ⟨#[]⟩),.s (.int .i64 0),.s (.int .i64 0),.s (.int .i64 0),.s (.string ⟨#[]⟩),.s (.int .i64 0),.s (.int .i64 0),.s (.int .i64 0),.s (.string ⟨#[]⟩),.s (.int .i64 0),.s (.int .i64 0),.s (.int .i64 0),.s (.string ⟨#[]⟩),.s (.int .i64 0),.s (.int .i64 0),.s (.int .i64 0),.s (.string ⟨#[]⟩),.s (.int .i64 0),.s (.int .i64 0),.s (.int .i64 0),.s (.string ⟨#[]⟩),.s (.int .i64 0),.s (.int .i64 0),.s (.int .i64 0),.s (.string ⟨#[]⟩),.s (.int .i64 0),.s (.int .i64 0),.s (.int .i64 0),.s (.string ⟨#[]⟩),.s (.int .i64 0),.s (.int .i64 0),.s (.int .i64 0),.s (.string ⟨#[]⟩),.s (.int .i64 0),.s (.int .i64 0),.s (.int .i64 0),.s (.string ⟨#[]⟩),.s (.int .i64 0),.s (.int .i64 0),.s (.int .i64 0),.s (.string ⟨#[]⟩),.s (.int .i64 0),.s (.int .i64 0),.s (.int .i64 0),.s (.string ⟨#[]⟩),.s (.int .i64 0),.s (.int .i64 0),.s (.int .i64 0),.s (.string ⟨#[]⟩),.s (.int .i64 0),.s (.int .i64 0),.s (.int .i64 0),.s (.string ⟨#[]⟩),.s (.int .i64 0),.s (.int .i64 0),.s (.int .i64 0),.s (.string ⟨#[]⟩),.s (.int .i64 0),.s (.int .i64 0),.s (.int .i64 0)] [(0,.t 19),(1,.t 20),(2,.t 21),(3,.t 22),(4,.t 23),(5,.t 24),(6,.t 25),(7,.t 26),(8,.t 27),(9,.t 28),(10,.t 29),(11,.t 30),(12,.t 31),(13,.t 32),(14,.t 33),(15,.t 34),(16,.t 35),(17,.t 36),(18,.t 37),(19,.t 38)],none⟩ :: R7_1t2
def R7_1p0:LO:=[q 19 (.build [.s (.string ⟨#[]⟩),.s (.int .i64 0),.s (.int .i64 0),.s (.int .i64 0)] [(0,1),(1,1),(2,1),(3,1)] [(0,.c (.s (.string ⟨#[102,117,110,99,32,102,40,41,32,123,32,97,58]⟩))),(1,.c (.s (.int .i64 40))),(2,.c (.s (.int .i64 1))),(3,.c (.s (.int .i64 12)))]),q 20 (.build [.s (.string ⟨#[]⟩),.s (.int .i64 0),.s (.int .i64 0),.s (.int .i64 0)] [(0,1),(1,1),(2,1),(3,1)] [(0,.c (.s (.string ⟨#[102,117,110,99,32,102,40,10,41,32,123]⟩))),(1,.c (.s (.int .i64 40))),(2,.c (.s (.int .i64 2))),(3,.c (.s (.int .i64 1)))]),q 21 (.build [.s (.string ⟨#[]⟩),.s (.int .i64 0),.s (.int .i64 0),.s (.int .i64 0)] [(0,1),(1,1),(2,1),(3,1)] [(0,.c (.s (.string ⟨#[102,117,110,99,32,102,40,41,32,123,10,97,58,10,120,32,61,32,99,111,112,121,10,125]⟩))),(1,.c (.s (.int .i64 40))),(2,.c (.s (.int .i64 4))),(3,.c (.s (.int .i64 1)))]),q 22 (.build [.s (.string ⟨#[]⟩),.s (.int .i64 0),.s (.int .i64 0),.s (.int .i64 0)] [(0,1),(1,1),(2,1),(3,1)] [(0,.c (.s (.string ⟨#[102,117,110,99,32,102,40,41,32,123,10,97,58,10,114,101,116]⟩))),(1,.c (.s (.int .i64 41))),(2,.c (.s (.int .i64 3))),(3,.c (.s (.int .i64 4)))]),q 23 (.build [.s (.string ⟨#[]⟩),.s (.int .i64 0),.s (.int .i64 0),.s (.int .i64 0)] [(0,1),(1,1),(2,1),(3,1)] [(0,.c (.s (.string ⟨#[102,117,110,99,32,102,40,41,32,123,10,120,32,61,32,110,117,108,108,10,125]⟩))),(1,.c (.s (.int .i64 40))),(2,.c (.s (.int .i64 2))),(3,.c (.s (.int .i64 3)))]),q 24 (.build [.s (.string ⟨#[]⟩),.s (.int .i64 0),.s (.int .i64 0),.s (.int .i64 0)] [(0,1),(1,1),(2,1),(3,1)] [(0,.c (.s (.string ⟨#[102,117,110,99]⟩))),(1,.c (.s (.int .i64 41))),(2,.c (.s (.int .i64 1))),(3,.c (.s (.int .i64 5)))]),q 25 (.build [.s (.string ⟨#[]⟩),.s (.int .i64 0),.s (.int .i64 0),.s (.int .i64 0)] [(0,1),(1,1),(2,1),(3,1)] [(0,.c (.s (.string ⟨#[102,117,110,32,102,40,41,32,123]⟩))),(1,.c (.s (.int .i64 40))),(2,.c (.s (.int .i64 1))),(3,.c (.s (.int .i64 1)))]),q 26 (.build [.s (.string ⟨#[]⟩),.s (.int .i64 0),.s (.int .i64 0),.s (.int .i64 0)] [(0,1),(1,1),(2,1),(3,1)] [(0,.c (.s (.string ⟨#[102,117,110,99,32,49,40,41,32,123]⟩))),(1,.c (.s (.int .i64 40))),(2,.c (.s (.int .i64 1))),(3,.c (.s (.int .i64 6)))]),q 27 (.build [.s (.string ⟨#[]⟩),.s (.int .i64 0),.s (.int .i64 0),.s (.int .i64 0)] [(0,1),(1,1),(2,1),(3,1)] [(0,.c (.s (.string ⟨#[102,117,110,99,32,102,40,97,32,98,41,32,123]⟩))),(1,.c (.s (.int .i64 40))),(2,.c (.s (.int .i64 1))),(3,.c (.s (.int .i64 10)))]),q 28 (.build [.s (.string ⟨#[]⟩),.s (.int .i64 0),.s (.int .i64 0),.s (.int .i64 0)] [(0,1),(1,1),(2,1),(3,1)] [(0,.c (.s (.string ⟨#[102,117,110,99,32,102,40,97,44,41,32,123]⟩))),(1,.c (.s (.int .i64 40))),(2,.c (.s (.int .i64 1))),(3,.c (.s (.int .i64 10)))]),q 29 (.build [.s (.string ⟨#[]⟩),.s (.int .i64 0),.s (.int .i64 0),.s (.int .i64 0)] [(0,1),(1,1),(2,1),(3,1)] [(0,.c (.s (.string ⟨#[102,117,110,99,32,102,40,41,10,123]⟩))),(1,.c (.s (.int .i64 40))),(2,.c (.s (.int .i64 2))),(3,.c (.s (.int .i64 1)))]),q 30 (.build [.s (.string ⟨#[]⟩),.s (.int .i64 0),.s (.int .i64 0),.s (.int .i64 0)] [(0,1),(1,1),(2,1),(3,1)] [(0,.c (.s (.string ⟨#[102,117,110,99,32,102,40,41,32,123,10,125,32,125]⟩))),(1,.c (.s (.int .i64 40))),(2,.c (.s (.int .i64 2))),(3,.c (.s (.int .i64 3)))]),q 31 (.build [.s (.string ⟨#[]⟩),.s (.int .i64 0),.s (.int .i64 0),.s (.int .i64 0)] [(0,1),(1,1),(2,1),(3,1)] [(0,.c (.s (.string ⟨#[102,117,110,99,32,102,40,41,32,123,10,125,10,120]⟩))),(1,.c (.s (.int .i64 40))),(2,.c (.s (.int .i64 3))),(3,.c (.s (.int .i64 1)))]),q 32 (.build [.s (.string ⟨#[]⟩),.s (.int .i64 0),.s (.int .i64 0),.s (.int .i64 0)] [(0,1),(1,1),(2,1),(3,1)] [(0,.c (.s (.string ⟨#[102,117,110,99,32,102,40,41,32,123,10,97,58,32,114,101,116,10,125]⟩))),(1,.c (.s (.int .i64 40))),(2,.c (.s (.int .i64 2))),(3,.c (.s (.int .i64 4)))]),q 33 (.build [.s (.string ⟨#[]⟩),.s (.int .i64 0),.s (.int .i64 0),.s (.int .i64 0)] [(0,1),(1,1),(2,1),(3,1)] [(0,.c (.s (.string ⟨#[102,117,110,99,32,102,40,41,32,123,10,97,10,58,10,125]⟩))),(1,.c (.s (.int .i64 40))),(2,.c (.s (.int .i64 3))),(3,.c (.s (.int .i64 1)))]),q 34 (.build [.s (.string ⟨#[]⟩),.s (.int .i64 0),.s (.int .i64 0),.s (.int .i64 0)] [(0,1),(1,1),(2,1),(3,1)] [(0,.c (.s (.string ⟨#[120,10,49,97]⟩))),(1,.c (.s (.int .i64 31))),(2,.c (.s (.int .i64 2))),(3,.c (.s (.int .i64 1)))]),q 35 (.build [.s (.string ⟨#[]⟩),.s (.int .i64 0),.s (.int .i64 0),.s (.int .i64 0)] [(0,1),(1,1),(2,1),(3,1)] [(0,.c (.s (.string ⟨#[102,117,110,99,32,102,40,41,32,123,10,97,58,10,120,32,61,32,99,111,112,121,10,114,101,116,10,125]⟩))),(1,.c (.s (.int .i64 40))),(2,.c (.s (.int .i64 4))),(3,.c (.s (.int .i64 1)))]),q 36 (.build [.s (.string ⟨#[]⟩),.s (.int .i64 0),.s (.int .i64 0),.s (.int .i64 0)] [(0,1),(1,1),(2,1),(3,1)] [(0,.c (.s (.string ⟨#[102,117,110,99,32,102,40,41,32,123,10,97,58,10,98,114,32,97,10,98,10,125]⟩))),(1,.c (.s (.int .i64 40))),(2,.c (.s (.int .i64 4))),(3,.c (.s (.int .i64 1)))]),q 37 (.build [.s (.string ⟨#[]⟩),.s (.int .i64 0),.s (.int .i64 0),.s (.int .i64 0)] [(0,1),(1,1),(2,1),(3,1)] [(0,.c (.s (.string ⟨#[102,117,110,99,32,102,40,41,32,123,10,97,58,10,49,10,125]⟩))),(1,.c (.s (.int .i64 40))),(2,.c (.s (.int .i64 3))),(3,.c (.s (.int .i64 1)))]),q 38 (.build [.s (.string ⟨#[]⟩),.s (.int .i64 0),.s (.int .i64 0),.s (.int .i64 0)] [(0,1),(1,1),(2,1),(3,1)] [(0,.c (.s (.string ⟨#[102,117,110,99,32,102,40,41,32,123,10,97,58,10,40,10,125]⟩))),(1,.c (.s (.int .i64 40))),(2,.c (.s (.int .i64 3))),(3,.c (.s (.int .i64 1)))])]
def R7_1:LO:=R7_1p0 ++ R7_1t1
def R7_2t1:LO:=[oM 2 40]
def R7_2:LO:=⟨some 40,.buildSl 1 33 [.s (.string ⟨#[]⟩),.s (.string ⟨#[]⟩),.s (.string ⟨#[]⟩),.s (.string ⟨#[]⟩),.s (.string ⟨#[]⟩),.s (.string ⟨#[]⟩),.s (.string ⟨#[]⟩),.s (.string ⟨#[]⟩),.s (.string ⟨#[]⟩),.s (.string ⟨#[]⟩),.s (.string ⟨#[]⟩),.s (.string ⟨#[]⟩),.s (.string ⟨#[]⟩),.s (.string ⟨#[]⟩),.s (.string ⟨#[]⟩),.s (.string ⟨#[]⟩),.s (.string ⟨#[]⟩),.s (.string ⟨#[]⟩),.s (.string ⟨#[]⟩),.s (.string ⟨#[]⟩),.s (.string ⟨#[]⟩),.s (.string ⟨#[]⟩),.s (.string ⟨#[]⟩),.s (.string ⟨#[]⟩),.s (.string ⟨#[]⟩),.s (.string ⟨#[]⟩),.s (.string ⟨#[]⟩),.s (.string ⟨#[]⟩),.s (.string ⟨#[]⟩),.s (.string ⟨#[]⟩),.s (.string ⟨#[]⟩),.s (.string ⟨#[]⟩),.s (.string ⟨#[]⟩)] [(0,.c (.s (.string ⟨#[120,32,61,32,97,108,108,111,99,97,32,121]⟩))),(1,.c (.s (.string ⟨#[120,32,61,32,109,97,108,108,111,99,32,40]⟩))),(2,.c (.s (.string ⟨#[120,32,61,32,110,117,108,108,32,121]⟩))),(3,.c (.s (.string ⟨#[120,32,61,32,97,100,100,114,32,49]⟩))),(4,.c (.s (.string ⟨#[120,32,61,32,99,111,112,121,32,49]⟩))),(5,.c (.s (.string ⟨#[120,32,61,32,108,111,97,100,32,41]⟩))),(6,.c (.s (.string ⟨#[120,32,61,32,102,105,101,108,100,32,121,32,122]⟩))),(7,.c (.s (.string ⟨#[120,32,61,32,112,104,105,32,121]⟩))),(8,.c (.s (.string ⟨#[120,32,61,32,112,104,105,32,91,93]⟩))),(9,.c (.s (.string ⟨#[120,32,61,32,112,104,105,32,91,97,32,98,93]⟩))),(10,.c (.s (.string ⟨#[120,32,61,32,112,104,105,32,91,97,58,32,98,32,99,93]⟩))),(11,.c (.s (.string ⟨#[120,32,61,32,112,104,105,32,91,97,58,32,98,44,93]⟩))),(12,.c (.s (.string ⟨#[120,32,61,32,112,104,105,32,91,97,58,32,49,93]⟩))),(13,.c (.s (.string ⟨#[120,32,61,32,99,97,108,108,32,49]⟩))),(14,.c (.s (.string ⟨#[120,32,61,32,99,97,108,108,32,102,32,97]⟩))),(15,.c (.s (.string ⟨#[120,32,61,32,99,97,108,108,32,102,40,97,32,98,41]⟩))),(16,.c (.s (.string ⟨#[120,32,61,32,105,99,97,108,108,32,102,40,44,41]⟩))),(17,.c (.s (.string ⟨#[120,32,61,32,102,111,111,32,121]⟩))),(18,.c (.s (.string ⟨#[120,32,61,32,49]⟩))),(19,.c (.s (.string ⟨#[99,97,108,108,32,102,32,97]⟩))),(20,.c (.s (.string ⟨#[105,99,97,108,108,32,49]⟩))),(21,.c (.s (.string ⟨#[115,116,111,114,101,32,97,32,98]⟩))),(22,.c (.s (.string ⟨#[115,116,111,114,101,32,97,44,32,49]⟩))),(23,.c (.s (.string ⟨#[98,114,32,97,32,49]⟩))),(24,.c (.s (.string ⟨#[98,114,32,97,32,98,32,99]⟩))),(25,.c (.s (.string ⟨#[103,111,116,111,32,49]⟩))),(26,.c (.s (.string ⟨#[103,111,116,111,32,97,32,98]⟩))),(27,.c (.s (.string ⟨#[114,101,116,32,49]⟩))),(28,.c (.s (.string ⟨#[114,101,116,32,97,32,98]⟩))),(29,.c (.s (.string ⟨#[102,111,111,32,98,97,114]⟩))),(30,.c (.s (.string ⟨#[102,111,111,32,40]⟩))),(31,.c (.s (.string ⟨#[120,32,61,32,114,101,116]⟩))),(32,.c (.s (.string ⟨#[120,32,58,32,121]⟩)))],none⟩ :: R7_2t1
def R7_3t1:LO:=[oM 3 41]
def R7_3:LO:=⟨some 41,.buildSl 1 33 [.s (.int .i64 0),.s (.int .i64 0),.s (.int .i64 0),.s (.int .i64 0),.s (.int .i64 0),.s (.int .i64 0),.s (.int .i64 0),.s (.int .i64 0),.s (.int .i64 0),.s (.int .i64 0),.s (.int .i64 0),.s (.int .i64 0),.s (.int .i64 0),.s (.int .i64 0),.s (.int .i64 0),.s (.int .i64 0),.s (.int .i64 0),.s (.int .i64 0),.s (.int .i64 0),.s (.int .i64 0),.s (.int .i64 0),.s (.int .i64 0),.s (.int .i64 0),.s (.int .i64 0),.s (.int .i64 0),.s (.int .i64 0),.s (.int .i64 0),.s (.int .i64 0),.s (.int .i64 0),.s (.int .i64 0),.s (.int .i64 0),.s (.int .i64 0),.s (.int .i64 0)] [(0,.c (.s (.int .i64 12))),(1,.c (.s (.int .i64 12))),(2,.c (.s (.int .i64 10))),(3,.c (.s (.int .i64 10))),(4,.c (.s (.int .i64 10))),(5,.c (.s (.int .i64 10))),(6,.c (.s (.int .i64 13))),(7,.c (.s (.int .i64 9))),(8,.c (.s (.int .i64 10))),(9,.c (.s (.int .i64 12))),(10,.c (.s (.int .i64 15))),(11,.c (.s (.int .i64 15))),(12,.c (.s (.int .i64 13))),(13,.c (.s (.int .i64 10))),(14,.c (.s (.int .i64 12))),(15,.c (.s (.int .i64 14))),(16,.c (.s (.int .i64 13))),(17,.c (.s (.int .i64 5))),(18,.c (.s (.int .i64 5))),(19,.c (.s (.int .i64 8))),(20,.c (.s (.int .i64 7))),(21,.c (.s (.int .i64 9))),(22,.c (.s (.int .i64 10))),(23,.c (.s (.int .i64 6))),(24,.c (.s (.int .i64 8))),(25,.c (.s (.int .i64 6))),(26,.c (.s (.int .i64 8))),(27,.c (.s (.int .i64 5))),(28,.c (.s (.int .i64 7))),(29,.c (.s (.int .i64 5))),(30,.c (.s (.int .i64 5))),(31,.c (.s (.int .i64 5))),(32,.c (.s (.int .i64 5)))],none⟩ :: R7_3t1
def R7_4:LO:=[q 4 (.move (.c (.s (.int .i64 0))))]
def R7_5:LO:=[oM 42 4,oM 43 2,q 44 (.lenS .s (.t 43)),q 45 (.bin .lss (.t 42) (.t 44))]
def R7_6t3:LO:=[oM 1 61]
def R7_6t2:LO:=⟨some 61,.append 4 40 (.t 48) (.t 60),none⟩ :: R7_6t3
def R7_6t1:LO:=⟨some 60,.buildSl 4 1 [.s (.string ⟨#[]⟩),.s (.int .i64 0),.s (.int .i64 0),.s (.int .i64 0)] [(0,.t 59)],none⟩ :: R7_6t2
def R7_6p0:LO:=[oM 48 1,oM 49 2,oM 50 4,q 51 (.indexAddr 1 (.t 49) (.t 50)),oL 52 51,q 53 (.bin .add (.c (.s (.string ⟨#[102,117,110,99,32,102,40,41,32,123,10,97,58,10]⟩))) (.t 52)),q 54 (.bin .add (.t 53) (.c (.s (.string ⟨#[10,125]⟩)))),oM 55 3,oM 56 4,q 57 (.indexAddr 1 (.t 55) (.t 56)),oL 58 57,q 59 (.build [.s (.string ⟨#[]⟩),.s (.int .i64 0),.s (.int .i64 0),.s (.int .i64 0)] [(0,1),(1,1),(2,1),(3,1)] [(0,.t 54),(1,.c (.s (.int .i64 40))),(2,.c (.s (.int .i64 3))),(3,.t 58)])]
def R7_6:LO:=R7_6p0 ++ R7_6t1
def R7_7:LO:=[oM 46 4,q 47 (.bin .add (.t 46) (.c (.s (.int .i64 1)))),oM 4 47]
def aip:ACode:=
 (.seq (.seq (.regionE R7_5 [42,43,44] [45])
 (.cond (.t 45)
 .skip
 (.exit 0)))
 (.seq (.block 1
 (.region R7_6 [] [45,48,49,50,51,52,53,54,55,56,57,58,59,60,61]))
 (.regionE R7_7 [46,47] [4])))
def aiq:ACode:=aip
def R7_8:LO:=[q 5 (.move (.c (.s (.int .i64 0))))]
def R7_9:LO:=[oM 62 5,oM 63 1,q 64 (.lenS .s (.t 63)),q 65 (.bin .lss (.t 62) (.t 64))]
def R7_10t7:LO:=[oM 8 77]
def R7_10t6:LO:=⟨none,.store 2 (.t 7) (.t 76),none⟩ :: R7_10t7
def R7_10t5:LO:=⟨none,.store 1 (.t 6) (.t 75),none⟩ :: R7_10t6
def R7_10t4:LO:=⟨some 7,.alloc [.s (.int .i64 0),.s (.int .i64 0)],none⟩ :: R7_10t5
def R7_10t3:LO:=⟨some 6,.alloc [.s (.slice none 0 0)],none⟩ :: R7_10t4
def R7_10p2:LO:=[oM 68 74,q 75 (.extract (.t 68) 0),q 76 (.extract (.t 68) 1),q 77 (.extract (.t 68) 2)]
def R7_10t2:LO:=R7_10p2 ++ R7_10t3
def R7_10t1:LO:=⟨some 74,.call (.c (.fn 9 [] [])) [.t 73],none⟩ :: R7_10t2
def R7_10p0:LO:=[oM 69 1,oM 70 5,q 71 (.indexAddr 4 (.t 69) (.t 70)),oF 72 0 71,oL 73 72]
def R7_10:LO:=R7_10p0 ++ R7_10t1
def R7_11:LO:=[oF 78 0 6,oL 79 78,q 80 (.lenS .s (.t 79)),q 81 (.bin .neq (.t 80) (.c (.s (.int .i64 0)))),oM 82 81,gM 83 8 82 false,gM 84 1 82 false,gM 85 5 82 false,qg 86 (.indexAddr 4 (.t 84) (.t 85)) 82 false,gF 87 1 86 82 false,gL 88 87 82 false,qg 89 (.bin .neq (.t 83) (.t 88)) 82 false,q 90 (.pick (.t 82) (.c (.s (.bool true))) (.t 89)),oM 91 90,gF 92 0 7 91 false,gL 93 92 91 false,gM 94 1 91 false,gM 95 5 91 false,qg 96 (.indexAddr 4 (.t 94) (.t 95)) 91 false,gF 97 2 96 91 false,gL 98 97 91 false,qg 99 (.bin .neq (.t 93) (.t 98)) 91 false,q 100 (.pick (.t 91) (.c (.s (.bool true))) (.t 99)),oM 101 100,gF 102 1 7 101 false,gL 103 102 101 false,gM 104 1 101 false,gM 105 5 101 false,qg 106 (.indexAddr 4 (.t 104) (.t 105)) 101 false,gF 107 3 106 101 false,gL 108 107 101 false,qg 109 (.bin .neq (.t 103) (.t 108)) 101 false,q 110 (.pick (.t 101) (.c (.s (.bool true))) (.t 109))]
def R7_12:LO:=[q 0 (.move (.c (.s (.bool false))))]
def R7_13:LO:=[oM 66 5,q 67 (.bin .add (.t 66) (.c (.s (.int .i64 1)))),oM 5 67]
def ain:ACode:=
 (.seq (.seq (.regionE R7_9 [62,63,64] [65])
 (.cond (.t 65)
 .skip
 (.exit 2)))
 (.seq (.block 3
 (.seq (.region R7_10 [] [65,68,69,70,71,72,73,74,75,76,77])
 (.seq (.regionE R7_11 [6,7,8,78,79,80,81,82,83,84,85,86,87,88,89,90,91,92,93,94,95,96,97,98,99,100,101,102,103,104,105,106,107,108,109] [110])
 (.cond (.t 110)
 (.seq (.regionE R7_12 [1,5,110] [0])
 .ret)
 .skip))))
 (.regionE R7_13 [66,67,110] [5])))
def aio:ACode:=ain
def R7_14t6:LO:=[oM 11 115]
def R7_14t5:LO:=⟨none,.store 2 (.t 10) (.t 114),none⟩ :: R7_14t6
def R7_14t4:LO:=⟨none,.store 1 (.t 9) (.t 113),none⟩ :: R7_14t5
def R7_14t3:LO:=⟨some 10,.alloc [.s (.int .i64 0),.s (.int .i64 0)],none⟩ :: R7_14t4
def R7_14t2:LO:=⟨some 9,.alloc [.s (.slice none 0 0)],none⟩ :: R7_14t3
def R7_14p1:LO:=[oM 111 112,q 113 (.extract (.t 111) 0),q 114 (.extract (.t 111) 1),q 115 (.extract (.t 111) 2)]
def R7_14t1:LO:=R7_14p1 ++ R7_14t2
def R7_14:LO:=⟨some 112,.call (.c (.fn 9 [] [])) [.c (.s (.string ⟨#[102,117,110,99,32,109,97,105,110,40,112,44,32,113,41,32,123,10,97,58,10,120,32,61,32,97,108,108,111,99,97,32,50,10,121,32,61,32,109,97,108,108,111,99,32,49,10,122,32,61,32,110,117,108,108,10,102,32,61,32,97,100,100,114,32,109,97,105,110,10,99,32,61,32,99,111,112,121,32,110,117,108,108,10,98,58,10,104,32,61,32,112,104,105,32,91,97,58,32,120,44,32,98,58,32,110,117,108,108,93,10,100,32,61,32,102,105,101,108,100,32,120,32,49,10,108,32,61,32,108,111,97,100,32,100,10,115,116,111,114,101,32,120,44,32,108,10,114,32,61,32,99,97,108,108,32,109,97,105,110,40,112,44,32,120,41,10,99,97,108,108,32,109,97,105,110,40,41,10,105,32,61,32,105,99,97,108,108,32,102,40,110,117,108,108,41,10,105,99,97,108,108,32,102,40,97,44,32,98,41,10,98,114,32,97,32,98,10,114,101,116,32,61,32,99,111,112,121,32,114,101,116,10,103,111,116,111,32,61,32,110,117,108,108,10,103,111,116,111,32,97,10,114,101,116,32,120,10,114,101,116,10,114,101,116,58,10,125,10,102,117,110,99,32,110,117,108,108,40,41,32,123,10,125,10]⟩))],none⟩ :: R7_14t1
def R7_15:LO:=[q 12 (.move (.c (.fn 14 [] [])))]
def R7_16t11:LO:=[oM 13 126]
def R7_16t10:LO:=⟨some 126,.buildSl 8 5 [.s (.int .u8 0),.s (.string ⟨#[]⟩),.s (.string ⟨#[]⟩),.s (.string ⟨#[]⟩),.s (.int .i64 0),.s (.string ⟨#[]⟩),.s (.slice none 0 0),.s (.slice none 0 0),.s (.int .u8 0),.s (.string ⟨#[]⟩),.s (.string ⟨#[]⟩),.s (.string ⟨#[]⟩),.s (.int .i64 0),.s (.string ⟨#[]⟩),.s (.slice none 0 0),.s (.slice none 0 0),.s (.int .u8 0),.s (.string ⟨#[]⟩),.s (.string ⟨#[]⟩),.s (.string ⟨#[]⟩),.s (.int .i64 0),.s (.string ⟨#[]⟩),.s (.slice none 0 0),.s (.slice none 0 0),.s (.int .u8 0),.s (.string ⟨#[]⟩),.s (.string ⟨#[]⟩),.s (.string ⟨#[]⟩),.s (.int .i64 0),.s (.string ⟨#[]⟩),.s (.slice none 0 0),.s (.slice none 0 0),.s (.int .u8 0),.s (.string ⟨#[]⟩),.s (.string ⟨#[]⟩),.s (.string ⟨#[]⟩),.s (.int .i64 0),.s (.string ⟨#[]⟩),.s (.slice none 0 0),.s (.slice none 0 0)] [(0,.t 117),(1,.t 119),(2,.t 121),(3,.t 123),(4,.t 125)],none⟩ :: R7_16t11
def R7_16t9:LO:=⟨some 125,.call (.t 124) [.c (.s (.int .u8 5)),.c (.s (.string ⟨#[99]⟩)),.c (.s (.string ⟨#[110,117,108,108]⟩)),.c (.s (.string ⟨#[]⟩)),.c (.s (.int .i64 0)),.c (.s (.string ⟨#[]⟩)),.c (.s (.slice none 0 0)),.c (.s (.slice none 0 0))],none⟩ :: R7_16t10
def R7_16p8:LO:=[oM 124 12]
def R7_16t8:LO:=R7_16p8 ++ R7_16t9
def R7_16t7:LO:=⟨some 123,.call (.t 122) [.c (.s (.int .u8 4)),.c (.s (.string ⟨#[102]⟩)),.c (.s (.string ⟨#[]⟩)),.c (.s (.string ⟨#[]⟩)),.c (.s (.int .i64 0)),.c (.s (.string ⟨#[109,97,105,110]⟩)),.c (.s (.slice none 0 0)),.c (.s (.slice none 0 0))],none⟩ :: R7_16t8
def R7_16p6:LO:=[oM 122 12]
def R7_16t6:LO:=R7_16p6 ++ R7_16t7
def R7_16t5:LO:=⟨some 121,.call (.t 120) [.c (.s (.int .u8 3)),.c (.s (.string ⟨#[122]⟩)),.c (.s (.string ⟨#[]⟩)),.c (.s (.string ⟨#[]⟩)),.c (.s (.int .i64 0)),.c (.s (.string ⟨#[]⟩)),.c (.s (.slice none 0 0)),.c (.s (.slice none 0 0))],none⟩ :: R7_16t6
def R7_16p4:LO:=[oM 120 12]
def R7_16t4:LO:=R7_16p4 ++ R7_16t5
def R7_16t3:LO:=⟨some 119,.call (.t 118) [.c (.s (.int .u8 2)),.c (.s (.string ⟨#[121]⟩)),.c (.s (.string ⟨#[]⟩)),.c (.s (.string ⟨#[]⟩)),.c (.s (.int .i64 1)),.c (.s (.string ⟨#[]⟩)),.c (.s (.slice none 0 0)),.c (.s (.slice none 0 0))],none⟩ :: R7_16t4
def R7_16p2:LO:=[oM 118 12]
def R7_16t2:LO:=R7_16p2 ++ R7_16t3
def R7_16t1:LO:=⟨some 117,.call (.t 116) [.c (.s (.int .u8 1)),.c (.s (.string ⟨#[120]⟩)),.c (.s (.string ⟨#[]⟩)),.c (.s (.string ⟨#[]⟩)),.c (.s (.int .i64 2)),.c (.s (.string ⟨#[]⟩)),.c (.s (.slice none 0 0)),.c (.s (.slice none 0 0))],none⟩ :: R7_16t2
def R7_16p0:LO:=[oM 116 12]
def R7_16:LO:=R7_16p0 ++ R7_16t1
def R7_17t36:LO:=[oM 14 162]
def R7_17t35:LO:=⟨some 162,.buildSl 8 14 [.s (.int .u8 0),.s (.string ⟨#[]⟩),.s (.string ⟨#[]⟩),.s (.string ⟨#[]⟩),.s (.int .i64 0),.s (.string ⟨#[]⟩),.s (.slice none 0 0),.s (.slice none 0 0),.s (.int .u8 0),.s (.string ⟨#[]⟩),.s (.string ⟨#[]⟩),.s (.string ⟨#[]⟩),.s (.int .i64 0),.s (.string ⟨#[]⟩),.s (.slice none 0 0),.s (.slice none 0 0),.s (.int .u8 0),.s (.string ⟨#[]⟩),.s (.string ⟨#[]⟩),.s (.string ⟨#[]⟩),.s (.int .i64 0),.s (.string ⟨#[]⟩),.s (.slice none 0 0),.s (.slice none 0 0),.s (.int .u8 0),.s (.string ⟨#[]⟩),.s (.string ⟨#[]⟩),.s (.string ⟨#[]⟩),.s (.int .i64 0),.s (.string ⟨#[]⟩),.s (.slice none 0 0),.s (.slice none 0 0),.s (.int .u8 0),.s (.string ⟨#[]⟩),.s (.string ⟨#[]⟩),.s (.string ⟨#[]⟩),.s (.int .i64 0),.s (.string ⟨#[]⟩),.s (.slice none 0 0),.s (.slice none 0 0),.s (.int .u8 0),.s (.string ⟨#[]⟩),.s (.string ⟨#[]⟩),.s (.string ⟨#[]⟩),.s (.int .i64 0),.s (.string ⟨#[]⟩),.s (.slice none 0 0),.s (.slice none 0 0),.s (.int .u8 0),.s (.string ⟨#[]⟩),.s (.string ⟨#[]⟩),.s (.string ⟨#[]⟩),.s (.int .i64 0),.s (.string ⟨#[]⟩),.s (.slice none 0 0),.s (.slice none 0 0),.s (.int .u8 0),.s (.string ⟨#[]⟩),.s (.string ⟨#[]⟩),.s (.string ⟨#[]⟩),.s (.int .i64 0),.s (.string ⟨#[]⟩),.s (.slice none 0 0),.s (.slice none 0 0),.s (.int .u8 0),.s (.string ⟨#[]⟩),.s (.string ⟨#[]⟩),.s (.string ⟨#[]⟩),.s (.int .i64 0),.s (.string ⟨#[]⟩),.s (.slice none 0 0),.s (.slice none 0 0),.s (.int .u8 0),.s (.string ⟨#[]⟩),.s (.string ⟨#[]⟩),.s (.string ⟨#[]⟩),.s (.int .i64 0),.s (.string ⟨#[]⟩),.s (.slice none 0 0),.s (.slice none 0 0),.s (.int .u8 0),.s (.string ⟨#[]⟩),.s (.string ⟨#[]⟩),.s (.string ⟨#[]⟩),.s (.int .i64 0),.s (.string ⟨#[]⟩),.s (.slice none 0 0),.s (.slice none 0 0),.s (.int .u8 0),.s (.string ⟨#[]⟩),.s (.string ⟨#[]⟩),.s (.string ⟨#[]⟩),.s (.int .i64 0),.s (.string ⟨#[]⟩),.s (.slice none 0 0),.s (.slice none 0 0),.s (.int .u8 0),.s (.string ⟨#[]⟩),.s (.string ⟨#[]⟩),.s (.string ⟨#[]⟩),.s (.int .i64 0),.s (.string ⟨#[]⟩),.s (.slice none 0 0),.s (.slice none 0 0),.s (.int .u8 0),.s (.string ⟨#[]⟩),.s (.string ⟨#[]⟩),.s (.string ⟨#[]⟩),.s (.int .i64 0),.s (.string ⟨#[]⟩),.s (.slice none 0 0),.s (.slice none 0 0)] [(0,.t 130),(1,.t 132),(2,.t 134),(3,.t 136),(4,.t 139),(5,.t 141),(6,.t 144),(7,.t 147),(8,.t 150),(9,.t 152),(10,.t 154),(11,.t 157),(12,.t 159),(13,.t 161)],none⟩ :: R7_17t36
def R7_17t34:LO:=⟨some 161,.call (.t 160) [.c (.s (.int .u8 14)),.c (.s (.string ⟨#[]⟩)),.c (.s (.string ⟨#[]⟩)),.c (.s (.string ⟨#[]⟩)),.c (.s (.int .i64 0)),.c (.s (.string ⟨#[]⟩)),.c (.s (.slice none 0 0)),.c (.s (.slice none 0 0))],none⟩ :: R7_17t35
def R7_17p33:LO:=[oM 160 12]
def R7_17t33:LO:=R7_17p33 ++ R7_17t34
def R7_17t32:LO:=⟨some 159,.call (.t 158) [.c (.s (.int .u8 14)),.c (.s (.string ⟨#[]⟩)),.c (.s (.string ⟨#[120]⟩)),.c (.s (.string ⟨#[]⟩)),.c (.s (.int .i64 0)),.c (.s (.string ⟨#[]⟩)),.c (.s (.slice none 0 0)),.c (.s (.slice none 0 0))],none⟩ :: R7_17t33
def R7_17p31:LO:=[oM 158 12]
def R7_17t31:LO:=R7_17p31 ++ R7_17t32
def R7_17t30:LO:=⟨some 157,.call (.t 155) [.c (.s (.int .u8 13)),.c (.s (.string ⟨#[]⟩)),.c (.s (.string ⟨#[]⟩)),.c (.s (.string ⟨#[]⟩)),.c (.s (.int .i64 0)),.c (.s (.string ⟨#[]⟩)),.c (.s (.slice none 0 0)),.t 156],none⟩ :: R7_17t31
def R7_17t29:LO:=⟨some 156,.buildSl 1 1 [.s (.string ⟨#[]⟩)] [(0,.c (.s (.string ⟨#[97]⟩)))],none⟩ :: R7_17t30
def R7_17p28:LO:=[oM 155 12]
def R7_17t28:LO:=R7_17p28 ++ R7_17t29
def R7_17t27:LO:=⟨some 154,.call (.t 153) [.c (.s (.int .u8 3)),.c (.s (.string ⟨#[103,111,116,111]⟩)),.c (.s (.string ⟨#[]⟩)),.c (.s (.string ⟨#[]⟩)),.c (.s (.int .i64 0)),.c (.s (.string ⟨#[]⟩)),.c (.s (.slice none 0 0)),.c (.s (.slice none 0 0))],none⟩ :: R7_17t28
def R7_17p26:LO:=[oM 153 12]
def R7_17t26:LO:=R7_17p26 ++ R7_17t27
def R7_17t25:LO:=⟨some 152,.call (.t 151) [.c (.s (.int .u8 5)),.c (.s (.string ⟨#[114,101,116]⟩)),.c (.s (.string ⟨#[114,101,116]⟩)),.c (.s (.string ⟨#[]⟩)),.c (.s (.int .i64 0)),.c (.s (.string ⟨#[]⟩)),.c (.s (.slice none 0 0)),.c (.s (.slice none 0 0))],none⟩ :: R7_17t26
def R7_17p24:LO:=[oM 151 12]
def R7_17t24:LO:=R7_17p24 ++ R7_17t25
def R7_17t23:LO:=⟨some 150,.call (.t 148) [.c (.s (.int .u8 12)),.c (.s (.string ⟨#[]⟩)),.c (.s (.string ⟨#[]⟩)),.c (.s (.string ⟨#[]⟩)),.c (.s (.int .i64 0)),.c (.s (.string ⟨#[]⟩)),.c (.s (.slice none 0 0)),.t 149],none⟩ :: R7_17t24
def R7_17t22:LO:=⟨some 149,.buildSl 1 2 [.s (.string ⟨#[]⟩),.s (.string ⟨#[]⟩)] [(0,.c (.s (.string ⟨#[97]⟩))),(1,.c (.s (.string ⟨#[98]⟩)))],none⟩ :: R7_17t23
def R7_17p21:LO:=[oM 148 12]
def R7_17t21:LO:=R7_17p21 ++ R7_17t22
def R7_17t20:LO:=⟨some 147,.call (.t 145) [.c (.s (.int .u8 11)),.c (.s (.string ⟨#[]⟩)),.c (.s (.string ⟨#[102]⟩)),.c (.s (.string ⟨#[]⟩)),.c (.s (.int .i64 0)),.c (.s (.string ⟨#[]⟩)),.t 146,.c (.s (.slice none 0 0))],none⟩ :: R7_17t21
def R7_17t19:LO:=⟨some 146,.buildSl 1 2 [.s (.string ⟨#[]⟩),.s (.string ⟨#[]⟩)] [(0,.c (.s (.string ⟨#[97]⟩))),(1,.c (.s (.string ⟨#[98]⟩)))],none⟩ :: R7_17t20
def R7_17p18:LO:=[oM 145 12]
def R7_17t18:LO:=R7_17p18 ++ R7_17t19
def R7_17t17:LO:=⟨some 144,.call (.t 142) [.c (.s (.int .u8 11)),.c (.s (.string ⟨#[105]⟩)),.c (.s (.string ⟨#[102]⟩)),.c (.s (.string ⟨#[]⟩)),.c (.s (.int .i64 0)),.c (.s (.string ⟨#[]⟩)),.t 143,.c (.s (.slice none 0 0))],none⟩ :: R7_17t18
def R7_17t16:LO:=⟨some 143,.buildSl 1 1 [.s (.string ⟨#[]⟩)] [(0,.c (.s (.string ⟨#[110,117,108,108]⟩)))],none⟩ :: R7_17t17
def R7_17p15:LO:=[oM 142 12]
def R7_17t15:LO:=R7_17p15 ++ R7_17t16
def R7_17t14:LO:=⟨some 141,.call (.t 140) [.c (.s (.int .u8 10)),.c (.s (.string ⟨#[]⟩)),.c (.s (.string ⟨#[]⟩)),.c (.s (.string ⟨#[]⟩)),.c (.s (.int .i64 0)),.c (.s (.string ⟨#[109,97,105,110]⟩)),.c (.s (.slice none 0 0)),.c (.s (.slice none 0 0))],none⟩ :: R7_17t15
def R7_17p13:LO:=[oM 140 12]
def R7_17t13:LO:=R7_17p13 ++ R7_17t14
def R7_17t12:LO:=⟨some 139,.call (.t 137) [.c (.s (.int .u8 10)),.c (.s (.string ⟨#[114]⟩)),.c (.s (.string ⟨#[]⟩)),.c (.s (.string ⟨#[]⟩)),.c (.s (.int .i64 0)),.c (.s (.string ⟨#[109,97,105,110]⟩)),.t 138,.c (.s (.slice none 0 0))],none⟩ :: R7_17t13
def R7_17t11:LO:=⟨some 138,.buildSl 1 2 [.s (.string ⟨#[]⟩),.s (.string ⟨#[]⟩)] [(0,.c (.s (.string ⟨#[112]⟩))),(1,.c (.s (.string ⟨#[120]⟩)))],none⟩ :: R7_17t12
def R7_17p10:LO:=[oM 137 12]
def R7_17t10:LO:=R7_17p10 ++ R7_17t11
def R7_17t9:LO:=⟨some 136,.call (.t 135) [.c (.s (.int .u8 9)),.c (.s (.string ⟨#[]⟩)),.c (.s (.string ⟨#[120]⟩)),.c (.s (.string ⟨#[108]⟩)),.c (.s (.int .i64 0)),.c (.s (.string ⟨#[]⟩)),.c (.s (.slice none 0 0)),.c (.s (.slice none 0 0))],none⟩ :: R7_17t10
def R7_17p8:LO:=[oM 135 12]
def R7_17t8:LO:=R7_17p8 ++ R7_17t9
def R7_17t7:LO:=⟨some 134,.call (.t 133) [.c (.s (.int .u8 8)),.c (.s (.string ⟨#[108]⟩)),.c (.s (.string ⟨#[100]⟩)),.c (.s (.string ⟨#[]⟩)),.c (.s (.int .i64 0)),.c (.s (.string ⟨#[]⟩)),.c (.s (.slice none 0 0)),.c (.s (.slice none 0 0))],none⟩ :: R7_17t8
def R7_17p6:LO:=[oM 133 12]
def R7_17t6:LO:=R7_17p6 ++ R7_17t7
def R7_17t5:LO:=⟨some 132,.call (.t 131) [.c (.s (.int .u8 7)),.c (.s (.string ⟨#[100]⟩)),.c (.s (.string ⟨#[120]⟩)),.c (.s (.string ⟨#[]⟩)),.c (.s (.int .i64 1)),.c (.s (.string ⟨#[]⟩)),.c (.s (.slice none 0 0)),.c (.s (.slice none 0 0))],none⟩ :: R7_17t6
def R7_17p4:LO:=[oM 131 12]
def R7_17t4:LO:=R7_17p4 ++ R7_17t5
def R7_17t3:LO:=⟨some 130,.call (.t 127) [.c (.s (.int .u8 6)),.c (.s (.string ⟨#[104]⟩)),.c (.s (.string ⟨#[]⟩)),.c (.s (.string ⟨#[]⟩)),.c (.s (.int .i64 0)),.c (.s (.string ⟨#[]⟩)),.t 128,.t 129],none⟩ :: R7_17t4
def R7_17t2:LO:=⟨some 129,.buildSl 1 2 [.s (.string ⟨#[]⟩),.s (.string ⟨#[]⟩)] [(0,.c (.s (.string ⟨#[97]⟩))),(1,.c (.s (.string ⟨#[98]⟩)))],none⟩ :: R7_17t3
def R7_17t1:LO:=⟨some 128,.buildSl 1 2 [.s (.string ⟨#[]⟩),.s (.string ⟨#[]⟩)] [(0,.c (.s (.string ⟨#[120]⟩))),(1,.c (.s (.string ⟨#[110,117,108,108]⟩)))],none⟩ :: R7_17t2
def R7_17p0:LO:=[oM 127 12]
def R7_17:LO:=R7_17p0 ++ R7_17t1
def R7_18t7:LO:=[⟨none,.store 1 (.t 15) (.t 173),none⟩]
def R7_18t6:LO:=⟨some 15,.alloc [.s (.slice none 0 0)],none⟩ :: R7_18t7
def R7_18p5:LO:=[q 173 (.build [.s (.slice none 0 0)] [(0,1)] [(0,.t 172)])]
def R7_18t5:LO:=R7_18p5 ++ R7_18t6
def R7_18t4:LO:=⟨some 172,.buildSl 3 2 [.s (.string ⟨#[]⟩),.s (.slice none 0 0),.s (.slice none 0 0),.s (.string ⟨#[]⟩),.s (.slice none 0 0),.s (.slice none 0 0)] [(0,.t 170),(1,.t 171)],none⟩ :: R7_18t5
def R7_18p3:LO:=[q 170 (.build [.s (.string ⟨#[]⟩),.s (.slice none 0 0),.s (.slice none 0 0)] [(0,1),(1,1),(2,1)] [(0,.c (.s (.string ⟨#[109,97,105,110]⟩))),(1,.t 163),(2,.t 169)]),q 171 (.build [.s (.string ⟨#[]⟩),.s (.slice none 0 0),.s (.slice none 0 0)] [(0,1),(1,1),(2,1)] [(0,.c (.s (.string ⟨#[110,117,108,108]⟩)))])]
def R7_18t3:LO:=R7_18p3 ++ R7_18t4
def R7_18t2:LO:=⟨some 169,.buildSl 2 3 [.s (.string ⟨#[]⟩),.s (.slice none 0 0),.s (.string ⟨#[]⟩),.s (.slice none 0 0),.s (.string ⟨#[]⟩),.s (.slice none 0 0)] [(0,.t 165),(1,.t 167),(2,.t 168)],none⟩ :: R7_18t3
def R7_18p1:LO:=[oM 164 13,q 165 (.build [.s (.string ⟨#[]⟩),.s (.slice none 0 0)] [(0,1),(1,1)] [(0,.c (.s (.string ⟨#[97]⟩))),(1,.t 164)]),oM 166 14,q 167 (.build [.s (.string ⟨#[]⟩),.s (.slice none 0 0)] [(0,1),(1,1)] [(0,.c (.s (.string ⟨#[98]⟩))),(1,.t 166)]),q 168 (.build [.s (.string ⟨#[]⟩),.s (.slice none 0 0)] [(0,1),(1,1)] [(0,.c (.s (.string ⟨#[114,101,116]⟩)))])]
def R7_18t1:LO:=R7_18p1 ++ R7_18t2
def R7_18:LO:=⟨some 163,.buildSl 1 2 [.s (.string ⟨#[]⟩),.s (.string ⟨#[]⟩)] [(0,.c (.s (.string ⟨#[112]⟩))),(1,.c (.s (.string ⟨#[113]⟩)))],none⟩ :: R7_18t1
def R7_19t6:LO:=[oM 18 178]
def R7_19t5:LO:=⟨none,.store 2 (.t 17) (.t 177),none⟩ :: R7_19t6
def R7_19t4:LO:=⟨none,.store 1 (.t 16) (.t 176),none⟩ :: R7_19t5
def R7_19t3:LO:=⟨some 17,.alloc [.s (.int .i64 0),.s (.int .i64 0)],none⟩ :: R7_19t4
def R7_19t2:LO:=⟨some 16,.alloc [.s (.slice none 0 0)],none⟩ :: R7_19t3
def R7_19p1:LO:=[oM 174 175,q 176 (.extract (.t 174) 0),q 177 (.extract (.t 174) 1),q 178 (.extract (.t 174) 2)]
def R7_19t1:LO:=R7_19p1 ++ R7_19t2
def R7_19:LO:=⟨some 175,.call (.c (.fn 9 [] [])) [.c (.s (.string ⟨#[32,59,32,110,111,116,104,105,110,103,10]⟩))],none⟩ :: R7_19t1
def R7_20t6:LO:=[q 203 (.pick (.t 201) (.t 202) (.c (.s (.bool false)))),oM 0 203]
def R7_20t5:LO:=⟨some 202,.call (.c (.fn 12 [] [])) [],some (201,true)⟩ :: R7_20t6
def R7_20p4:LO:=[q 185 (.pick (.t 181) (.t 184) (.c (.s (.bool false)))),oM 186 185,gM 187 18 186 true,qg 188 (.bin .eql (.t 187) (.c (.s (.int .i64 0)))) 186 true,q 189 (.pick (.t 186) (.t 188) (.c (.s (.bool false)))),oM 190 189,gF 191 0 16 190 true,gL 192 191 190 true,qg 193 (.lenS .s (.t 192)) 190 true,qg 194 (.bin .eql (.t 193) (.c (.s (.int .i64 0)))) 190 true,q 195 (.pick (.t 190) (.t 194) (.c (.s (.bool false)))),oM 196 195,qg 197 (.load true 2 (.t 17)) 196 true,qg 198 (.build [.s (.int .i64 0),.s (.int .i64 0)] [(0,1),(1,1)] []) 196 true,qg 199 (.eqAgg false [.int .i64,.int .i64] (.t 197) (.t 198)) 196 true,q 200 (.pick (.t 196) (.t 199) (.c (.s (.bool false)))),oM 201 200]
def R7_20t4:LO:=R7_20p4 ++ R7_20t5
def R7_20t3:LO:=⟨some 184,.call (.c (.fn 11 [] [])) [.t 182,.t 183],some (181,true)⟩ :: R7_20t4
def R7_20t2:LO:=⟨some 183,.load true 1 (.t 15),some (181,true)⟩ :: R7_20t3
def R7_20t1:LO:=⟨some 182,.load true 1 (.t 9),some (181,true)⟩ :: R7_20t2
def R7_20p0:LO:=[oM 179 11,q 180 (.bin .eql (.t 179) (.c (.s (.int .i64 0)))),oM 181 180]
def R7_20:LO:=R7_20p0 ++ R7_20t1
def auj:ACFun:={ ntmps:=204,results:=[.tmp 0],body:=
 (.seq (.regionE R7_0 K7_0 [])
 (.seq (.region R7_1 [] [19,20,21,22,23,24,25,26,27,28,29,30,31,32,33,34,35,36,37,38,39])
 (.seq (.region R7_2 [] [40])
 (.seq (.region R7_3 [] [41])
 (.seq (.seq (.regionE R7_4 [] [4])
 (.block 0
 (.loop [] aiq)))
 (.seq (.seq (.regionE R7_8 [2,3,4,45] [5])
 (.block 2
 (.loop [] aio)))
 (.seq (.region R7_14 [] [1,5,10,65,111,112,113,114,115])
 (.seq (.regionE R7_15 [] [12])
 (.seq (.region R7_16 [] [116,117,118,119,120,121,122,123,124,125,126])
 (.seq (.region R7_17 [] [12,127,128,129,130,131,132,133,134,135,136,137,138,139,140,141,142,143,144,145,146,147,148,149,150,151,152,153,154,155,156,157,158,159,160,161,162])
 (.seq (.region R7_18 [] [13,14,163,164,165,166,167,168,169,170,171,172,173])
 (.seq (.region R7_19 [] [174,175,176,177,178])
 (.seq (.region R7_20 [] [9,11,15,16,17,18,179,180,181,182,183,184,185,186,187,188,189,190,191,192,193,194,195,196,197,198,199,200,201,202,203])
 .ret))))))))))))) }
abbrev ayk:Nat:=14
def K14_0:List Nat:=List.range' 8 8 ++ List.range' 17 9
def R14_0:LO:=[⟨some 16,.alloc [.s (.int .u8 0),.s (.string ⟨#[]⟩),.s (.string ⟨#[]⟩),.s (.string ⟨#[]⟩),.s (.int .i64 0),.s (.string ⟨#[]⟩),.s (.slice none 0 0),.s (.slice none 0 0)],none⟩]
def R14_1t1:LO:=[⟨none,.store 8 (.t 16) (.t 25),none⟩]
def R14_1p0:LO:=[oM 17 0,oM 18 1,oM 19 2,oM 20 3,oM 21 4,oM 22 5,oM 23 6,oM 24 7,q 25 (.build [.s (.int .u8 0),.s (.string ⟨#[]⟩),.s (.string ⟨#[]⟩),.s (.string ⟨#[]⟩),.s (.int .i64 0),.s (.string ⟨#[]⟩),.s (.slice none 0 0),.s (.slice none 0 0)] [(0,1),(1,1),(2,1),(3,1),(4,1),(5,1),(6,1),(7,1)] [(0,.t 17),(1,.t 18),(2,.t 19),(3,.t 20),(4,.t 21),(5,.t 22),(6,.t 23),(7,.t 24)])]
def R14_1:LO:=R14_1p0 ++ R14_1t1
def ahs:ACFun:={ ntmps:=26,results:=[.cell 16 true 8],body:=
 (.seq (.region R14_0 [] K14_0)
 (.seq (.region R14_1 [] [0,1,2,3,4,5,6,7,17,18,19,20,21,22,23,24,25])
 .ret)) }
theorem aqk:mg (List.range' 8 (ahs.ntmps - 8)) ahs.body=true:=by kernel_rfl
def apj:=ai (hT R7_0 K7_0 [] 1 [] [] [.cc (.s (.bool false))]) (ai aui (ai (hU R7_1 [] [19,20,21,22,23,24,25,26,27,28,29,30,31,32,33,34,35,36,37,38] [19,20,21,22,23,24,25,26,27,28,29,30,31,32,33,34,35,36,37,38,39] 39 [] [(19,.op (.build [.s (.string ⟨#[]⟩),.s (.int .i64 0),.s (.int .i64 0),.s (.int .i64 0)] [(0,1),(1,1),(2,1),(3,1)] [(0,.c (.s (.string ⟨#[102,117,110,99,32,102,40,41,32,123,32,97,58]⟩))),(1,.c (.s (.int .i64 40))),(2,.c (.s (.int .i64 1))),(3,.c (.s (.int .i64 12)))]) [.c (.s (.string ⟨#[102,117,110,99,32,102,40,41,32,123,32,97,58]⟩)),.c (.s (.int .i64 40)),.c (.s (.int .i64 1)),.c (.s (.int .i64 12))]),(20,.op (.build [.s (.string ⟨#[]⟩),.s (.int .i64 0),.s (.int .i64 0),.s (.int .i64 0)] [(0,1),(1,1),(2,1),(3,1)] [(0,.c (.s (.string ⟨#[102,117,110,99,32,102,40,10,41,32,123]⟩))),(1,.c (.s (.int .i64 40))),(2,.c (.s (.int .i64 2))),(3,.c (.s (.int .i64 1)))]) [.c (.s (.string ⟨#[102,117,110,99,32,102,40,10,41,32,123]⟩)),.c (.s (.int .i64 40)),.c (.s (.int .i64 2)),.c (.s (.int .i64 1))]),(21,.op (.build [.s (.string ⟨#[]⟩),.s (.int .i64 0),.s (.int .i64 0),.s (.int .i64 0)] [(0,1),(1,1),(2,1),(3,1)] [(0,.c (.s (.string ⟨#[102,117,110,99,32,102,40,41,32,123,10,97,58,10,120,32,61,32,99,111,112,121,10,125]⟩))),(1,.c (.s (.int .i64 40))),(2,.c (.s (.int .i64 4))),(3,.c (.s (.int .i64 1)))]) [.c (.s (.string ⟨#[102,117,110,99,32,102,40,41,32,123,10,97,58,10,120,32,61,32,99,111,112,121,10,125]⟩)),.c (.s (.int .i64 40)),.c (.s (.int .i64 4)),.c (.s (.int .i64 1))]),(22,.op (.build [.s (.string ⟨#[]⟩),.s (.int .i64 0),.s (.int .i64 0),.s (.int .i64 0)] [(0,1),(1,1),(2,1),(3,1)] [(0,.c (.s (.string ⟨#[102,117,110,99,32,102,40,41,32,123,10,97,58,10,114,101,116]⟩))),(1,.c (.s (.int .i64 41))),(2,.c (.s (.int .i64 3))),(3,.c (.s (.int .i64 4)))]) [.c (.s (.string ⟨#[102,117,110,99,32,102,40,41,32,123,10,97,58,10,114,101,116]⟩)),.c (.s (.int .i64 41)),.c (.s (.int .i64 3)),.c (.s (.int .i64 4))]),(23,.op (.build [.s (.string ⟨#[]⟩),.s (.int .i64 0),.s (.int .i64 0),.s (.int .i64 0)] [(0,1),(1,1),(2,1),(3,1)] [(0,.c (.s (.string ⟨#[102,117,110,99,32,102,40,41,32,123,10,120,32,61,32,110,117,108,108,10,125]⟩))),(1,.c (.s (.int .i64 40))),(2,.c (.s (.int .i64 2))),(3,.c (.s (.int .i64 3)))]) [.c (.s (.string ⟨#[102,117,110,99,32,102,40,41,32,123,10,120,32,61,32,110,117,108,108,10,125]⟩)),.c (.s (.int .i64 40)),.c (.s (.int .i64 2)),.c (.s (.int .i64 3))]),(24,.op (.build [.s (.string ⟨#[]⟩),.s (.int .i64 0),.s (.int .i64 0),.s (.int .i64 0)] [(0,1),(1,1),(2,1),(3,1)] [(0,.c (.s (.string ⟨#[102,117,110,99]⟩))),(1,.c (.s (.int .i64 41))),(2,.c (.s (.int .i64 1))),(3,.c (.s (.int .i64 5)))]) [.c (.s (.string ⟨#[102,117,110,99]⟩)),.c (.s (.int .i64 41)),.c (.s (.int .i64 1)),.c (.s (.int .i64 5))]),(25,.op (.build [.s (.string ⟨#[]⟩),.s (.int .i64 0),.s (.int .i64 0),.s (.int .i64 0)] [(0,1),(1,1),(2,1),(3,1)] [(0,.c (.s (.string ⟨#[102,117,110,32,102,40,41,32,123]⟩))),(1,.c (.s (.int .i64 40))),(2,.c (.s (.int .i64 1))),(3,.c (.s (.int .i64 1)))]) [.c (.s (.string ⟨#[102,117,110,32,102,40,41,32,123]⟩)),.c (.s (.int .i64 40)),.c (.s (.int .i64 1)),.c (.s (.int .i64 1))]),(26,.op (.build [.s (.string ⟨#[]⟩),.s (.int .i64 0),.s (.int .i64 0),.s (.int .i64 0)] [(0,1),(1,1),(2,1),(3,1)] [(0,.c (.s (.string ⟨#[102,117,110,99,32,49,40,41,32,123]⟩))),(1,.c (.s (.int .i64 40))),(2,.c (.s (.int .i64 1))),(3,.c (.s (.int .i64 6)))]) [.c (.s (.string ⟨#[102,117,110,99,32,49,40,41,32,123]⟩)),.c (.s (.int .i64 40)),.c (.s (.int .i64 1)),.c (.s (.int .i64 6))]),(27,.op (.build [.s (.string ⟨#[]⟩),.s (.int .i64 0),.s (.int .i64 0),.s (.int .i64 0)] [(0,1),(1,1),(2,1),(3,1)] [(0,.c (.s (.string ⟨#[102,117,110,99,32,102,40,97,32,98,41,32,123]⟩))),(1,.c (.s (.int .i64 40))),(2,.c (.s (.int .i64 1))),(3,.c (.s (.int .i64 10)))]) [.c (.s (.string ⟨#[102,117,110,99,32,102,40,97,32,98,41,32,123]⟩)),.c (.s (.int .i64 40)),.c (.s (.int .i64 1)),.c (.s (.int .i64 10))]),(28,.op (.build [.s (.string ⟨#[]⟩),.s (.int .i64 0),.s (.int .i64 0),.s (.int .i64 0)] [(0,1),(1,1),(2,1),(3,1)] [(0,.c (.s (.string ⟨#[102,117,110,99,32,102,40,97,44,41,32,123]⟩))),(1,.c (.s (.int .i64 40))),(2,.c (.s (.int .i64 1))),(3,.c (.s (.int .i64 10)))]) [.c (.s (.string ⟨#[102,117,110,99,32,102,40,97,44,41,32,123]⟩)),.c (.s (.int .i64 40)),.c (.s (.int .i64 1)),.c (.s (.int .i64 10))]),(29,.op (.build [.s (.string ⟨#[]⟩),.s (.int .i64 0),.s (.int .i64 0),.s (.int .i64 0)] [(0,1),(1,1),(2,1),(3,1)] [(0,.c (.s (.string ⟨#[102,117,110,99,32,102,40,41,10,123]⟩))),(1,.c (.s (.int .i64 40))),(2,.c (.s (.int .i64 2))),(3,.c (.s (.int .i64 1)))]) [.c (.s (.string ⟨#[102,117,110,99,32,102,40,41,10,123]⟩)),.c (.s (.int .i64 40)),.c (.s (.int .i64 2)),.c (.s (.int .i64 1))]),(30,.op (.build [.s (.string ⟨#[]⟩),.s (.int .i64 0),.s (.int .i64 0),.s (.int .i64 0)] [(0,1),(1,1),(2,1),(3,1)] [(0,.c (.s (.string ⟨#[102,117,110,99,32,102,40,41,32,123,10,125,32,125]⟩))),(1,.c (.s (.int .i64 40))),(2,.c (.s (.int .i64 2))),(3,.c (.s (.int .i64 3)))]) [.c (.s (.string ⟨#[102,117,110,99,32,102,40,41,32,123,10,125,32,125]⟩)),.c (.s (.int .i64 40)),.c (.s (.int .i64 2)),.c (.s (.int .i64 3))]),(31,.op (.build [.s (.string ⟨#[]⟩),.s (.int .i64 0),.s (.int .i64 0),.s (.int .i64 0)] [(0,1),(1,1),(2,1),(3,1)] [(0,.c (.s (.string ⟨#[102,117,110,99,32,102,40,41,32,123,10,125,10,120]⟩))),(1,.c (.s (.int .i64 40))),(2,.c (.s (.int .i64 3))),(3,.c (.s (.int .i64 1)))]) [.c (.s (.string ⟨#[102,117,110,99,32,102,40,41,32,123,10,125,10,120]⟩)),.c (.s (.int .i64 40)),.c (.s (.int .i64 3)),.c (.s (.int .i64 1))]),(32,.op (.build [.s (.string ⟨#[]⟩),.s (.int .i64 0),.s (.int .i64 0),.s (.int .i64 0)] [(0,1),(1,1),(2,1),(3,1)] [(0,.c (.s (.string ⟨#[102,117,110,99,32,102,40,41,32,123,10,97,58,32,114,101,116,10,125]⟩))),(1,.c (.s (.int .i64 40))),(2,.c (.s (.int .i64 2))),(3,.c (.s (.int .i64 4)))]) [.c (.s (.string ⟨#[102,117,110,99,32,102,40,41,32,123,10,97,58,32,114,101,116,10,125]⟩)),.c (.s (.int .i64 40)),.c (.s (.int .i64 2)),.c (.s (.int .i64 4))]),(33,.op (.build [.s (.string ⟨#[]⟩),.s (.int .i64 0),.s (.int .i64 0),.s (.int .i64 0)] [(0,1),(1,1),(2,1),(3,1)] [(0,.c (.s (.string ⟨#[102,117,110,99,32,102,40,41,32,123,10,97,10,58,10,125]⟩))),(1,.c (.s (.int .i64 40))),(2,.c (.s (.int .i64 3))),(3,.c (.s (.int .i64 1)))]) [.c (.s (.string ⟨#[102,117,110,99,32,102,40,41,32,123,10,97,10,58,10,125]⟩)),.c (.s (.int .i64 40)),.c (.s (.int .i64 3)),.c (.s (.int .i64 1))]),(34,.op (.build [.s (.string ⟨#[]⟩),.s (.int .i64 0),.s (.int .i64 0),.s (.int .i64 0)] [(0,1),(1,1),(2,1),(3,1)] [(0,.c (.s (.string ⟨#[120,10,49,97]⟩))),(1,.c (.s (.int .i64 31))),(2,.c (.s (.int .i64 2))),(3,.c (.s (.int .i64 1)))]) [.c (.s (.string ⟨#[120,10,49,97]⟩)),.c (.s (.int .i64 31)),.c (.s (.int .i64 2)),.c (.s (.int .i64 1))]),(35,.op (.build [.s (.string ⟨#[]⟩),.s (.int .i64 0),.s (.int .i64 0),.s (.int .i64 0)] [(0,1),(1,1),(2,1),(3,1)] [(0,.c (.s (.string ⟨#[102,117,110,99,32,102,40,41,32,123,10,97,58,10,120,32,61,32,99,111,112,121,10,114,101,116,10,125]⟩))),(1,.c (.s (.int .i64 40))),(2,.c (.s (.int .i64 4))),(3,.c (.s (.int .i64 1)))]) [.c (.s (.string ⟨#[102,117,110,99,32,102,40,41,32,123,10,97,58,10,120,32,61,32,99,111,112,121,10,114,101,116,10,125]⟩)),.c (.s (.int .i64 40)),.c (.s (.int .i64 4)),.c (.s (.int .i64 1))]),(36,.op (.build [.s (.string ⟨#[]⟩),.s (.int .i64 0),.s (.int .i64 0),.s (.int .i64 0)] [(0,1),(1,1),(2,1),(3,1)] [(0,.c (.s (.string ⟨#[102,117,110,99,32,102,40,41,32,123,10,97,58,10,98,114,32,97,10,98,10,125]⟩))),(1,.c (.s (.int .i64 40))),(2,.c (.s (.int .i64 4))),(3,.c (.s (.int .i64 1)))]) [.c (.s (.string ⟨#[102,117,110,99,32,102,40,41,32,123,10,97,58,10,98,114,32,97,10,98,10,125]⟩)),.c (.s (.int .i64 40)),.c (.s (.int .i64 4)),.c (.s (.int .i64 1))]),(37,.op (.build [.s (.string ⟨#[]⟩),.s (.int .i64 0),.s (.int .i64 0),.s (.int .i64 0)] [(0,1),(1,1),(2,1),(3,1)] [(0,.c (.s (.string ⟨#[102,117,110,99,32,102,40,41,32,123,10,97,58,10,49,10,125]⟩))),(1,.c (.s (.int .i64 40))),(2,.c (.s (.int .i64 3))),(3,.c (.s (.int .i64 1)))]) [.c (.s (.string ⟨#[102,117,110,99,32,102,40,41,32,123,10,97,58,10,49,10,125]⟩)),.c (.s (.int .i64 40)),.c (.s (.int .i64 3)),.c (.s (.int .i64 1))]),(38,.op (.build [.s (.string ⟨#[]⟩),.s (.int .i64 0),.s (.int .i64 0),.s (.int .i64 0)] [(0,1),(1,1),(2,1),(3,1)] [(0,.c (.s (.string ⟨#[102,117,110,99,32,102,40,41,32,123,10,97,58,10,40,10,125]⟩))),(1,.c (.s (.int .i64 40))),(2,.c (.s (.int .i64 3))),(3,.c (.s (.int .i64 1)))]) [.c (.s (.string ⟨#[102,117,110,99,32,102,40,41,32,123,10,97,58,10,40,10,125]⟩)),.c (.s (.int .i64 40)),.c (.s (.int .i64 3)),.c (.s (.int .i64 1))])] [sb [],.sub 1 [] [],.sub 2 [] [],.sub 3 [] [],.sub 4 [] [],.sub 5 [] [],.sub 6 [] [],.sub 7 [] [],.sub 8 [] [],.sub 9 [] [],.sub 10 [] [],.sub 11 [] [],.sub 12 [] [],.sub 13 [] [],.sub 14 [] [],.sub 15 [] [],.sub 16 [] [],.sub 17 [] [],.sub 18 [] [],.sub 19 [] []]) (ai (hP R7_1t1 [19,20,21,22,23,24,25,26,27,28,29,30,31,32,33,34,35,36,37,38] [19,20,21,22,23,24,25,26,27,28,29,30,31,32,33,34,35,36,37,38,39]) (ai (hV R7_1t2 [19,20,21,22,23,24,25,26,27,28,29,30,31,32,33,34,35,36,37,38,39] [1] 2 [] [(1,.t 39)] [.tt 39]) (ai (hP R7_2 [] [40]) (ai (hV R7_2t1 [40] [2] 3 [] [(2,.t 40)] [.tt 40]) (ai (hP R7_3 [] [41]) (ai (hV R7_3t1 [41] [3] 4 [] [(3,.t 41)] [.tt 41]) (ai (hT R7_4 [] [4] 5 [] [(4,.c (.s (.int .i64 0)))] [.cc (.s (.int .i64 0))]) (ai (hT R7_5 [42,43,44] [45] 46 [] [(45,.op (.bin .lss (.t 0) (.t 1)) [.t 4,.op (.lenS .s (.t 0)) [.t 2]])] [.tt 4,.tt 2,sb [1],sb []]) (ai (hU R7_6 [1,45,49,50,51,52,53,54,55,56,57,58] [48,59] [45,48,49,50,51,52,53,54,55,56,57,58,59,60,61] 60 [] [(48,.t 1),(59,.op (.build [.s (.string ⟨#[]⟩),.s (.int .i64 0),.s (.int .i64 0),.s (.int .i64 0)] [(0,1),(1,1),(2,1),(3,1)] [(0,.t 0),(1,.c (.s (.int .i64 40))),(2,.c (.s (.int .i64 3))),(3,.t 3)]) [.op (.bin .add (.t 0) (.c (.s (.string ⟨#[10,125]⟩)))) [.op (.bin .add (.c (.s (.string ⟨#[102,117,110,99,32,102,40,41,32,123,10,97,58,10]⟩))) (.t 1)) [.c (.s (.string ⟨#[102,117,110,99,32,102,40,41,32,123,10,97,58,10]⟩)),eL (.op (.indexAddr 1 (.t 0) (.t 1)) [.t 2,.t 4])],.c (.s (.string ⟨#[10,125]⟩))],.c (.s (.int .i64 40)),.c (.s (.int .i64 3)),eL (.op (.indexAddr 1 (.t 0) (.t 1)) [.t 3,.t 4])])] [.tt 1,.tt 2,.tt 4,.sub 1 [0,0,1,0] [],.sub 1 [0,0,1] [],.sub 1 [0,0] [],.sub 1 [0] [],.tt 3,.tt 4,.sub 1 [3,0] [],.sub 1 [3] [],.sub 1 [] []]) (ai (hP R7_6t1 [59] [45,48,49,50,51,52,53,54,55,56,57,58,59,60,61]) (ai (hP R7_6t2 [48,60] [45,48,49,50,51,52,53,54,55,56,57,58,59,60,61]) (ai (hV R7_6t3 [45,48,49,50,51,52,53,54,55,56,57,58,59,60,61] [1] 2 [] [(1,.t 61)] [.tt 61]) (ai (hT R7_7 [46,47] [4] 48 [] [(4,.op (.bin .add (.t 0) (.c (.s (.int .i64 1)))) [.t 4,.c (.s (.int .i64 1))])] [.tt 4,sb [],sb []]) (ai (hE aiq aip) (ai (hT R7_8 [2,3,4,45] [5] 6 [] [(5,.c (.s (.int .i64 0)))] [.cc (.s (.int .i64 0))]) (ai (hT R7_9 [62,63,64] [65] 66 [] [(65,.op (.bin .lss (.t 0) (.t 1)) [.t 5,.op (.lenS .s (.t 0)) [.t 1]])] [.tt 5,.tt 1,sb [1],sb []]) (ai (hU R7_10 [65,69,70,71,72] [73] [65,68,69,70,71,72,73,74,75,76,77] 74 [] [(73,eL (eF 0 (.op (.indexAddr 4 (.t 0) (.t 1)) [.t 1,.t 5])))] [.tt 1,.tt 5,sb [0,0],sb [0],sb []]) (ai (hP R7_10t1 [73] [65,68,69,70,71,72,73,74,75,76,77]) (ai (hU R7_10t2 [68,74] [75,76,77] [65,68,69,70,71,72,73,74,75,76,77] 78 [] [(75,.op (.extract (.t 0) 0) [.t 74]),(76,.op (.extract (.t 0) 1) [.t 74]),(77,.op (.extract (.t 0) 2) [.t 74])] [.tt 74,sb [],.sub 1 [] [],.sub 2 [] []]) (ai (hP R7_10t3 [] [65,68,69,70,71,72,73,74,75,76,77]) (ai (hP R7_10t4 [] [65,68,69,70,71,72,73,74,75,76,77]) (ai (hP R7_10t5 [75] [65,68,69,70,71,72,73,74,75,76,77]) (ai (hP R7_10t6 [76] [65,68,69,70,71,72,73,74,75,76,77]) (ai (hV R7_10t7 [65,68,69,70,71,72,73,74,75,76,77] [8] 9 [] [(8,.t 77)] [.tt 77]) (ai (hT R7_11 [6,7,8,78,79,80,81,82,83,84,85,86,87,88,89,90,91,92,93,94,95,96,97,98,99,100,101,102,103,104,105,106,107,108,109] [110] 111 [] [(110,.pick (.pick (.pick (.op (.bin .neq (.t 0) (.c (.s (.int .i64 0)))) [.op (.lenS .s (.t 0)) [eL (eF 0 (.t 6))],.c (.s (.int .i64 0))]) (.c (.s (.bool true))) (.op (.bin .neq (.t 0) (.t 1)) [.t 8,eL (eF 1 (.op (.indexAddr 4 (.t 0) (.t 1)) [.t 1,.t 5]))])) (.c (.s (.bool true))) (.op (.bin .neq (.t 0) (.t 1)) [eL (eF 0 (.t 7)),eL (eF 2 (.op (.indexAddr 4 (.t 0) (.t 1)) [.t 1,.t 5]))])) (.c (.s (.bool true))) (.op (.bin .neq (.t 0) (.t 1)) [eL (eF 1 (.t 7)),eL (eF 3 (.op (.indexAddr 4 (.t 0) (.t 1)) [.t 1,.t 5]))]))] [sb [0,0,0,0,0,0],sb [0,0,0,0,0],sb [0,0,0,0],sb [0,0,0],sb [0,0,0],.sub 0 [0,0,2,0] [82],.sub 0 [0,0,2,1,0,0,0] [82],.sub 0 [0,0,2,1,0,0,1] [82],.sub 0 [0,0,2,1,0,0] [82],.sub 0 [0,0,2,1,0] [82],.sub 0 [0,0,2,1] [82],.sub 0 [0,0,2] [82],sb [0,0],sb [0,0],.sub 0 [0,2,0,0] [91],.sub 0 [0,2,0] [91],.sub 0 [0,2,1,0,0,0] [91],.sub 0 [0,2,1,0,0,1] [91],.sub 0 [0,2,1,0,0] [91],.sub 0 [0,2,1,0] [91],.sub 0 [0,2,1] [91],.sub 0 [0,2] [91],sb [0],sb [0],.sub 0 [2,0,0] [101],.sub 0 [2,0] [101],.sub 0 [2,1,0,0,0] [101],.sub 0 [2,1,0,0,1] [101],.sub 0 [2,1,0,0] [101],.sub 0 [2,1,0] [101],.sub 0 [2,1] [101],.sub 0 [2] [101],sb []]) (ai (hT R7_12 [1,5,110] [0] 1 [] [(0,.c (.s (.bool false)))] [.cc (.s (.bool false))]) (ai (hT R7_13 [66,67,110] [5] 68 [] [(5,.op (.bin .add (.t 0) (.c (.s (.int .i64 1)))) [.t 5,.c (.s (.int .i64 1))])] [.tt 5,sb [],sb []]) (ai (hE aio ain) (ai (hP R7_14 [1,5,65] [1,5,10,65,111,112,113,114,115]) (ai (hU R7_14t1 [111,112] [113,114,115] [1,5,10,65,111,112,113,114,115] 116 [] [(113,.op (.extract (.t 0) 0) [.t 112]),(114,.op (.extract (.t 0) 1) [.t 112]),(115,.op (.extract (.t 0) 2) [.t 112])] [.tt 112,sb [],.sub 1 [] [],.sub 2 [] []]) (ai (hP R7_14t2 [] [1,5,10,65,111,112,113,114,115]) (ai (hP R7_14t3 [] [1,5,10,65,111,112,113,114,115]) (ai (hP R7_14t4 [113] [1,5,10,65,111,112,113,114,115]) (ai (hP R7_14t5 [10,114] [1,5,10,65,111,112,113,114,115]) (ai (hV R7_14t6 [1,5,10,65,111,112,113,114,115] [11] 12 [] [(11,.t 115)] [.tt 115]) (ai (hT R7_15 [] [12] 13 [] [(12,.c (.fn 14 [] []))] [.cc (.fn 14 [] [])]) (ai (hU R7_16 [] [116] [116,117,118,119,120,121,122,123,124,125,126] 117 [] [(116,.t 12)] [.tt 12]) (ai (hP R7_16t1 [116] [116,117,118,119,120,121,122,123,124,125,126]) (ai (hU R7_16t2 [] [118] [116,117,118,119,120,121,122,123,124,125,126] 119 [] [(118,.t 12)] [.tt 12]) (ai (hP R7_16t3 [118] [116,117,118,119,120,121,122,123,124,125,126]) (ai (hU R7_16t4 [] [120] [116,117,118,119,120,121,122,123,124,125,126] 121 [] [(120,.t 12)] [.tt 12]) (ai (hP R7_16t5 [120] [116,117,118,119,120,121,122,123,124,125,126]) (ai (hU R7_16t6 [] [122] [116,117,118,119,120,121,122,123,124,125,126] 123 [] [(122,.t 12)] [.tt 12]) (ai (hP R7_16t7 [122] [116,117,118,119,120,121,122,123,124,125,126]) (ai (hU R7_16t8 [] [124] [116,117,118,119,120,121,122,123,124,125,126] 125 [] [(124,.t 12)] [.tt 12]) (ai (hP R7_16t9 [124] [116,117,118,119,120,121,122,123,124,125,126]) (ai (hP R7_16t10 [117,119,121,123,125] [116,117,118,119,120,121,122,123,124,125,126]) (ai (hV R7_16t11 [116,117,118,119,120,121,122,123,124,125,126] [13] 14 [] [(13,.t 126)] [.tt 126]) (ai (hU R7_17 [] [127] [12,127,128,129,130,131,132,133,134,135,136,137,138,139,140,141,142,143,144,145,146,147,148,149,150,151,152,153,154,155,156,157,158,159,160,161,162] 128 [] [(127,.t 12)] [.tt 12]) (ai (hP R7_17t1 [] [12,127,128,129,130,131,132,133,134,135,136,137,138,139,140,141,142,143,144,145,146,147,148,149,150,151,152,153,154,155,156,157,158,159,160,161,162]) (ai (hP R7_17t2 [] [12,127,128,129,130,131,132,133,134,135,136,137,138,139,140,141,142,143,144,145,146,147,148,149,150,151,152,153,154,155,156,157,158,159,160,161,162]) (ai (hP R7_17t3 [127,128,129] [12,127,128,129,130,131,132,133,134,135,136,137,138,139,140,141,142,143,144,145,146,147,148,149,150,151,152,153,154,155,156,157,158,159,160,161,162]) (ai (hU R7_17t4 [] [131] [12,127,128,129,130,131,132,133,134,135,136,137,138,139,140,141,142,143,144,145,146,147,148,149,150,151,152,153,154,155,156,157,158,159,160,161,162] 132 [] [(131,.t 12)] [.tt 12]) (ai (hP R7_17t5 [131] [12,127,128,129,130,131,132,133,134,135,136,137,138,139,140,141,142,143,144,145,146,147,148,149,150,151,152,153,154,155,156,157,158,159,160,161,162]) (ai (hU R7_17t6 [] [133] [12,127,128,129,130,131,132,133,134,135,136,137,138,139,140,141,142,143,144,145,146,147,148,149,150,151,152,153,154,155,156,157,158,159,160,161,162] 134 [] [(133,.t 12)] [.tt 12]) (ai (hP R7_17t7 [133] [12,127,128,129,130,131,132,133,134,135,136,137,138,139,140,141,142,143,144,145,146,147,148,149,150,151,152,153,154,155,156,157,158,159,160,161,162]) (ai (hU R7_17t8 [] [135] [12,127,128,129,130,131,132,133,134,135,136,137,138,139,140,141,142,143,144,145,146,147,148,149,150,151,152,153,154,155,156,157,158,159,160,161,162] 136 [] [(135,.t 12)] [.tt 12]) (ai (hP R7_17t9 [135] [12,127,128,129,130,131,132,133,134,135,136,137,138,139,140,141,142,143,144,145,146,147,148,149,150,151,152,153,154,155,156,157,158,159,160,161,162]) (ai (hU R7_17t10 [] [137] [12,127,128,129,130,131,132,133,134,135,136,137,138,139,140,141,142,143,144,145,146,147,148,149,150,151,152,153,154,155,156,157,158,159,160,161,162] 138 [] [(137,.t 12)] [.tt 12]) (ai (hP R7_17t11 [] [12,127,128,129,130,131,132,133,134,135,136,137,138,139,140,141,142,143,144,145,146,147,148,149,150,151,152,153,154,155,156,157,158,159,160,161,162]) (ai (hP R7_17t12 [137,138] [12,127,128,129,130,131,132,133,134,135,136,137,138,139,140,141,142,143,144,145,146,147,148,149,150,151,152,153,154,155,156,157,158,159,160,161,162]) (ai (hU R7_17t13 [] [140] [12,127,128,129,130,131,132,133,134,135,136,137,138,139,140,141,142,143,144,145,146,147,148,149,150,151,152,153,154,155,156,157,158,159,160,161,162] 141 [] [(140,.t 12)] [.tt 12]) (ai (hP R7_17t14 [140] [12,127,128,129,130,131,132,133,134,135,136,137,138,139,140,141,142,143,144,145,146,147,148,149,150,151,152,153,154,155,156,157,158,159,160,161,162]) (ai (hU R7_17t15 [] [142] [12,127,128,129,130,131,132,133,134,135,136,137,138,139,140,141,142,143,144,145,146,147,148,149,150,151,152,153,154,155,156,157,158,159,160,161,162] 143 [] [(142,.t 12)] [.tt 12]) (ai (hP R7_17t16 [] [12,127,128,129,130,131,132,133,134,135,136,137,138,139,140,141,142,143,144,145,146,147,148,149,150,151,152,153,154,155,156,157,158,159,160,161,162]) (ai (hP R7_17t17 [142,143] [12,127,128,129,130,131,132,133,134,135,136,137,138,139,140,141,142,143,144,145,146,147,148,149,150,151,152,153,154,155,156,157,158,159,160,161,162]) (ai (hU R7_17t18 [] [145] [12,127,128,129,130,131,132,133,134,135,136,137,138,139,140,141,142,143,144,145,146,147,148,149,150,151,152,153,154,155,156,157,158,159,160,161,162] 146 [] [(145,.t 12)] [.tt 12]) (ai (hP R7_17t19 [] [12,127,128,129,130,131,132,133,134,135,136,137,138,139,140,141,142,143,144,145,146,147,148,149,150,151,152,153,154,155,156,157,158,159,160,161,162]) (ai (hP R7_17t20 [145,146] [12,127,128,129,130,131,132,133,134,135,136,137,138,139,140,141,142,143,144,145,146,147,148,149,150,151,152,153,154,155,156,157,158,159,160,161,162]) (ai (hU R7_17t21 [] [148] [12,127,128,129,130,131,132,133,134,135,136,137,138,139,140,141,142,143,144,145,146,147,148,149,150,151,152,153,154,155,156,157,158,159,160,161,162] 149 [] [(148,.t 12)] [.tt 12]) (ai (hP R7_17t22 [] [12,127,128,129,130,131,132,133,134,135,136,137,138,139,140,141,142,143,144,145,146,147,148,149,150,151,152,153,154,155,156,157,158,159,160,161,162]) (ai (hP R7_17t23 [148,149] [12,127,128,129,130,131,132,133,134,135,136,137,138,139,140,141,142,143,144,145,146,147,148,149,150,151,152,153,154,155,156,157,158,159,160,161,162]) (ai (hU R7_17t24 [] [151] [12,127,128,129,130,131,132,133,134,135,136,137,138,139,140,141,142,143,144,145,146,147,148,149,150,151,152,153,154,155,156,157,158,159,160,161,162] 152 [] [(151,.t 12)] [.tt 12]) (ai (hP R7_17t25 [151] [12,127,128,129,130,131,132,133,134,135,136,137,138,139,140,141,142,143,144,145,146,147,148,149,150,151,152,153,154,155,156,157,158,159,160,161,162]) (ai (hU R7_17t26 [] [153] [12,127,128,129,130,131,132,133,134,135,136,137,138,139,140,141,142,143,144,145,146,147,148,149,150,151,152,153,154,155,156,157,158,159,160,161,162] 154 [] [(153,.t 12)] [.tt 12]) (ai (hP R7_17t27 [153] [12,127,128,129,130,131,132,133,134,135,136,137,138,139,140,141,142,143,144,145,146,147,148,149,150,151,152,153,154,155,156,157,158,159,160,161,162]) (ai (hU R7_17t28 [] [155] [12,127,128,129,130,131,132,133,134,135,136,137,138,139,140,141,142,143,144,145,146,147,148,149,150,151,152,153,154,155,156,157,158,159,160,161,162] 156 [] [(155,.t 12)] [.tt 12]) (ai (hP R7_17t29 [] [12,127,128,129,130,131,132,133,134,135,136,137,138,139,140,141,142,143,144,145,146,147,148,149,150,151,152,153,154,155,156,157,158,159,160,161,162]) (ai (hP R7_17t30 [155,156] [12,127,128,129,130,131,132,133,134,135,136,137,138,139,140,141,142,143,144,145,146,147,148,149,150,151,152,153,154,155,156,157,158,159,160,161,162]) (ai (hU R7_17t31 [] [158] [12,127,128,129,130,131,132,133,134,135,136,137,138,139,140,141,142,143,144,145,146,147,148,149,150,151,152,153,154,155,156,157,158,159,160,161,162] 159 [] [(158,.t 12)] [.tt 12]) (ai (hP R7_17t32 [158] [12,127,128,129,130,131,132,133,134,135,136,137,138,139,140,141,142,143,144,145,146,147,148,149,150,151,152,153,154,155,156,157,158,159,160,161,162]) (ai (hU R7_17t33 [12] [160] [12,127,128,129,130,131,132,133,134,135,136,137,138,139,140,141,142,143,144,145,146,147,148,149,150,151,152,153,154,155,156,157,158,159,160,161,162] 161 [] [(160,.t 12)] [.tt 12]) (ai (hP R7_17t34 [160] [12,127,128,129,130,131,132,133,134,135,136,137,138,139,140,141,142,143,144,145,146,147,148,149,150,151,152,153,154,155,156,157,158,159,160,161,162]) (ai (hP R7_17t35 [130,132,134,136,139,141,144,147,150,152,154,157,159,161] [12,127,128,129,130,131,132,133,134,135,136,137,138,139,140,141,142,143,144,145,146,147,148,149,150,151,152,153,154,155,156,157,158,159,160,161,162]) (ai (hV R7_17t36 [12,127,128,129,130,131,132,133,134,135,136,137,138,139,140,141,142,143,144,145,146,147,148,149,150,151,152,153,154,155,156,157,158,159,160,161,162] [14] 15 [] [(14,.t 162)] [.tt 162]) (ai (hP R7_18 [] [13,14,163,164,165,166,167,168,169,170,171,172,173]) (ai (hU R7_18t1 [13,14,164,166] [165,167,168] [13,14,163,164,165,166,167,168,169,170,171,172,173] 169 [] [(165,.op (.build [.s (.string ⟨#[]⟩),.s (.slice none 0 0)] [(0,1),(1,1)] [(0,.c (.s (.string ⟨#[97]⟩))),(1,.t 1)]) [.c (.s (.string ⟨#[97]⟩)),.t 13]),(167,.op (.build [.s (.string ⟨#[]⟩),.s (.slice none 0 0)] [(0,1),(1,1)] [(0,.c (.s (.string ⟨#[98]⟩))),(1,.t 1)]) [.c (.s (.string ⟨#[98]⟩)),.t 14]),(168,.op (.build [.s (.string ⟨#[]⟩),.s (.slice none 0 0)] [(0,1),(1,1)] [(0,.c (.s (.string ⟨#[114,101,116]⟩)))]) [.c (.s (.string ⟨#[114,101,116]⟩))])] [.tt 13,sb [],.tt 14,.sub 1 [] [],.sub 2 [] []]) (ai (hP R7_18t2 [165,167,168] [13,14,163,164,165,166,167,168,169,170,171,172,173]) (ai (hU R7_18t3 [163,169] [170,171] [13,14,163,164,165,166,167,168,169,170,171,172,173] 172 [] [(170,.op (.build [.s (.string ⟨#[]⟩),.s (.slice none 0 0),.s (.slice none 0 0)] [(0,1),(1,1),(2,1)] [(0,.c (.s (.string ⟨#[109,97,105,110]⟩))),(1,.t 1),(2,.t 2)]) [.c (.s (.string ⟨#[109,97,105,110]⟩)),.t 163,.t 169]),(171,.op (.build [.s (.string ⟨#[]⟩),.s (.slice none 0 0),.s (.slice none 0 0)] [(0,1),(1,1),(2,1)] [(0,.c (.s (.string ⟨#[110,117,108,108]⟩)))]) [.c (.s (.string ⟨#[110,117,108,108]⟩))])] [sb [],.sub 1 [] []]) (ai (hP R7_18t4 [170,171] [13,14,163,164,165,166,167,168,169,170,171,172,173]) (ai (hU R7_18t5 [172] [173] [13,14,163,164,165,166,167,168,169,170,171,172,173] 174 [] [(173,.op (.build [.s (.slice none 0 0)] [(0,1)] [(0,.t 0)]) [.t 172])] [sb []]) (ai (hP R7_18t6 [] [13,14,163,164,165,166,167,168,169,170,171,172,173]) (ai (hX R7_18t7 [13,14,163,164,165,166,167,168,169,170,171,172,173]) (ai (hP R7_19 [] [174,175,176,177,178]) (ai (hU R7_19t1 [174,175] [176,177,178] [174,175,176,177,178] 179 [] [(176,.op (.extract (.t 0) 0) [.t 175]),(177,.op (.extract (.t 0) 1) [.t 175]),(178,.op (.extract (.t 0) 2) [.t 175])] [.tt 175,sb [],.sub 1 [] [],.sub 2 [] []]) (ai (hP R7_19t2 [] [174,175,176,177,178]) (ai (hP R7_19t3 [] [174,175,176,177,178]) (ai (hP R7_19t4 [176] [174,175,176,177,178]) (ai (hP R7_19t5 [177] [174,175,176,177,178]) (ai (hV R7_19t6 [174,175,176,177,178] [18] 19 [] [(18,.t 178)] [.tt 178]) (ai (hU R7_20 [11,179,180] [181] [9,11,15,16,17,18,179,180,181,182,183,184,185,186,187,188,189,190,191,192,193,194,195,196,197,198,199,200,201,202,203] 182 [] [(181,.op (.bin .eql (.t 0) (.c (.s (.int .i64 0)))) [.t 11,.c (.s (.int .i64 0))])] [.tt 11,sb [],sb []]) (ai (hP R7_20t1 [9] [9,11,15,16,17,18,179,180,181,182,183,184,185,186,187,188,189,190,191,192,193,194,195,196,197,198,199,200,201,202,203]) (ai (hP R7_20t2 [15] [9,11,15,16,17,18,179,180,181,182,183,184,185,186,187,188,189,190,191,192,193,194,195,196,197,198,199,200,201,202,203]) (ai (hP R7_20t3 [182,183] [9,11,15,16,17,18,179,180,181,182,183,184,185,186,187,188,189,190,191,192,193,194,195,196,197,198,199,200,201,202,203]) (ai (hU R7_20t4 [16,17,18,181,184,185,186,187,188,189,190,191,192,193,194,195,196,197,198,199,200] [201] [9,11,15,16,17,18,179,180,181,182,183,184,185,186,187,188,189,190,191,192,193,194,195,196,197,198,199,200,201,202,203] 202 [] [(201,.pick (.pick (.pick (.pick (.t 181) (.t 184) (.c (.s (.bool false)))) (.op (.bin .eql (.t 0) (.c (.s (.int .i64 0)))) [.t 18,.c (.s (.int .i64 0))]) (.c (.s (.bool false)))) (.op (.bin .eql (.t 0) (.c (.s (.int .i64 0)))) [.op (.lenS .s (.t 0)) [eL (eF 0 (.t 16))],.c (.s (.int .i64 0))]) (.c (.s (.bool false)))) (.op (.eqAgg false [.int .i64,.int .i64] (.t 0) (.t 1)) [.op (.load true 2 (.t 0)) [.t 17],.op (.build [.s (.int .i64 0),.s (.int .i64 0)] [(0,1),(1,1)] []) []]) (.c (.s (.bool false))))] [sb [0,0,0],sb [0,0,0],.sub 0 [0,0,1,0] [186],.sub 0 [0,0,1] [186],sb [0,0],sb [0,0],.sub 0 [0,1,0,0,0] [190],.sub 0 [0,1,0,0] [190],.sub 0 [0,1,0] [190],.sub 0 [0,1] [190],sb [0],sb [0],.sub 0 [1,0] [196],.sub 0 [1,1] [196],.sub 0 [1] [196],sb [],sb []]) (ai (hP R7_20t5 [] [9,11,15,16,17,18,179,180,181,182,183,184,185,186,187,188,189,190,191,192,193,194,195,196,197,198,199,200,201,202,203]) (ai (hV R7_20t6 [9,11,15,16,17,18,179,180,181,182,183,184,185,186,187,188,189,190,191,192,193,194,195,196,197,198,199,200,201,202,203] [0] 204 [] [(0,.pick (.t 201) (.t 202) (.c (.s (.bool false))))] [sb [],sb []]) (ai ain.eq_1 (aip.eq_1)))))))))))))))))))))))))))))))))))))))))))))))))))))))))))))))))))))))))))))))))))))))))))))))))))))))))))))))
def a_f14:=ai (hX R14_0 K14_0) (ai (hK K14_0 0) (ai (hK K14_0 1) (ai (hK K14_0 2) (ai (hK K14_0 3) (ai (hK K14_0 4) (ai (hK K14_0 5) (ai (hK K14_0 6) (ai (hK K14_0 7) (ai (hK K14_0 16) (ai (hU R14_1 [0,1,2,3,4,5,6,7,17,18,19,20,21,22,23,24] [25] [0,1,2,3,4,5,6,7,17,18,19,20,21,22,23,24,25] 26 [] [(25,.op (.build [.s (.int .u8 0),.s (.string ⟨#[]⟩),.s (.string ⟨#[]⟩),.s (.string ⟨#[]⟩),.s (.int .i64 0),.s (.string ⟨#[]⟩),.s (.slice none 0 0),.s (.slice none 0 0)] [(0,1),(1,1),(2,1),(3,1),(4,1),(5,1),(6,1),(7,1)] [(0,.t 0),(1,.t 1),(2,.t 2),(3,.t 3),(4,.t 4),(5,.t 5),(6,.t 6),(7,.t 7)]) [.t 0,.t 1,.t 2,.t 3,.t 4,.t 5,.t 6,.t 7])] [.tt 0,.tt 1,.tt 2,.tt 3,.tt 4,.tt 5,.tt 6,.tt 7,sb []]) ((hX R14_1t1 [0,1,2,3,4,5,6,7,17,18,19,20,21,22,23,24,25]))))))))))))
theorem bcq:wh Tryd.prog PX0 14=some (false,ahs.ntmps,ahs.results,ahs.body.bare):=by kernel_rfl
theorem RA9_7:wh Tryd.prog PX0 7=some (false,auj.ntmps,auj.results,auj.body.bare):=by kernel_rfl
open Go.AM
structure KRow where
 t:ByteArray
 e:Nat
 l:Nat
 c:Nat
def aq6:ByteArray:=⟨#[102,117,110,99,32,102,40,41,32,123,10,97,58,10]⟩
def aov:ByteArray:=⟨#[10,125]⟩
def ayb:List KRow:=[⟨⟨#[102,117,110,99,32,102,40,41,32,123,32,97,58]⟩,40,1,12⟩,⟨⟨#[102,117,110,99,32,102,40,10,41,32,123]⟩,40,2,1⟩,⟨⟨#[102,117,110,99,32,102,40,41,32,123,10,97,58,10,120,32,61,32,99,111,112,121,10,125]⟩,40,4,1⟩,⟨⟨#[102,117,110,99,32,102,40,41,32,123,10,97,58,10,114,101,116]⟩,41,3,4⟩,⟨⟨#[102,117,110,99,32,102,40,41,32,123,10,120,32,61,32,110,117,108,108,10,125]⟩,40,2,3⟩,⟨⟨#[102,117,110,99]⟩,41,1,5⟩,⟨⟨#[102,117,110,32,102,40,41,32,123]⟩,40,1,1⟩,⟨⟨#[102,117,110,99,32,49,40,41,32,123]⟩,40,1,6⟩,⟨⟨#[102,117,110,99,32,102,40,97,32,98,41,32,123]⟩,40,1,10⟩,⟨⟨#[102,117,110,99,32,102,40,97,44,41,32,123]⟩,40,1,10⟩,⟨⟨#[102,117,110,99,32,102,40,41,10,123]⟩,40,2,1⟩,⟨⟨#[102,117,110,99,32,102,40,41,32,123,10,125,32,125]⟩,40,2,3⟩,⟨⟨#[102,117,110,99,32,102,40,41,32,123,10,125,10,120]⟩,40,3,1⟩,⟨⟨#[102,117,110,99,32,102,40,41,32,123,10,97,58,32,114,101,116,10,125]⟩,40,2,4⟩,⟨⟨#[102,117,110,99,32,102,40,41,32,123,10,97,10,58,10,125]⟩,40,3,1⟩,⟨⟨#[120,10,49,97]⟩,31,2,1⟩,⟨⟨#[102,117,110,99,32,102,40,41,32,123,10,97,58,10,120,32,61,32,99,111,112,121,10,114,101,116,10,125]⟩,40,4,1⟩,⟨⟨#[102,117,110,99,32,102,40,41,32,123,10,97,58,10,98,114,32,97,10,98,10,125]⟩,40,4,1⟩,⟨⟨#[102,117,110,99,32,102,40,41,32,123,10,97,58,10,49,10,125]⟩,40,3,1⟩,⟨⟨#[102,117,110,99,32,102,40,41,32,123,10,97,58,10,40,10,125]⟩,40,3,1⟩]
def aj7:List ByteArray:=[⟨#[120,32,61,32,97,108,108,111,99,97,32,121]⟩,⟨#[120,32,61,32,109,97,108,108,111,99,32,40]⟩,⟨#[120,32,61,32,110,117,108,108,32,121]⟩,⟨#[120,32,61,32,97,100,100,114,32,49]⟩,⟨#[120,32,61,32,99,111,112,121,32,49]⟩,⟨#[120,32,61,32,108,111,97,100,32,41]⟩,⟨#[120,32,61,32,102,105,101,108,100,32,121,32,122]⟩,⟨#[120,32,61,32,112,104,105,32,121]⟩,⟨#[120,32,61,32,112,104,105,32,91,93]⟩,⟨#[120,32,61,32,112,104,105,32,91,97,32,98,93]⟩,⟨#[120,32,61,32,112,104,105,32,91,97,58,32,98,32,99,93]⟩,⟨#[120,32,61,32,112,104,105,32,91,97,58,32,98,44,93]⟩,⟨#[120,32,61,32,112,104,105,32,91,97,58,32,49,93]⟩,⟨#[120,32,61,32,99,97,108,108,32,49]⟩,⟨#[120,32,61,32,99,97,108,108,32,102,32,97]⟩,⟨#[120,32,61,32,99,97,108,108,32,102,40,97,32,98,41]⟩,⟨#[120,32,61,32,105,99,97,108,108,32,102,40,44,41]⟩,⟨#[120,32,61,32,102,111,111,32,121]⟩,⟨#[120,32,61,32,49]⟩,⟨#[99,97,108,108,32,102,32,97]⟩,⟨#[105,99,97,108,108,32,49]⟩,⟨#[115,116,111,114,101,32,97,32,98]⟩,⟨#[115,116,111,114,101,32,97,44,32,49]⟩,⟨#[98,114,32,97,32,49]⟩,⟨#[98,114,32,97,32,98,32,99]⟩,⟨#[103,111,116,111,32,49]⟩,⟨#[103,111,116,111,32,97,32,98]⟩,⟨#[114,101,116,32,49]⟩,⟨#[114,101,116,32,97,32,98]⟩,⟨#[102,111,111,32,98,97,114]⟩,⟨#[102,111,111,32,40]⟩,⟨#[120,32,61,32,114,101,116]⟩,⟨#[120,32,58,32,121]⟩]
def amj:List Nat:=[12,12,10,10,10,10,13,9,10,12,15,15,13,10,12,14,13,5,5,8,7,9,10,6,8,6,8,5,7,5,5,5,5]
def knE (f:ByteArray) (c:Nat):KRow:=⟨aq6 ++ f ++ aov,40,3,c⟩
def aow:List KRow:=List.zipWith knE aj7 amj
def aq7:List KRow:=ayb ++ aow
def ba9 (r:KRow):List V:=[Sb r.t,Iz r.e,Iz r.l,Iz r.c]
def bbx (r:KRow):Bool:=match a1g r.t.data.toList with
 | (fs,(a,b),e)=>fs.isEmpty && a == r.l && b == r.c && e == r.e
theorem ayc:aq7.all bbx=true:=by decide +kernel
theorem bbu {r:KRow} (h:r∈aq7):ah2 r.t.data.toList=([],(r.l,r.c),r.e):=by
 have:=ah.1 ayc r h;unfold bbx at this;rw [ast];generalize a1g r.t.data.toList=p at this;obtain ⟨fs,⟨a,b⟩,e⟩:=p;simp only [au,List.isEmpty_iff,jw] at this;obtain ⟨⟨⟨rfl,rfl⟩,rfl⟩,rfl⟩:=this;rfl
theorem a2g:∀ f∈aj7,f.size≤100:=by
 intro f hf
 have:aj7.all (fun f=>decide (f.size≤100))=true:=by decide +kernel
 exact ab6 (ah.1 this f hf)
def knT:ByteArray:=⟨#[102,117,110,99,32,109,97,105,110,40,112,44,32,113,41,32,123,10,97,58,10,120,32,61,32,97,108,108,111,99,97,32,50,10,121,32,61,32,109,97,108,108,111,99,32,49,10,122,32,61,32,110,117,108,108,10,102,32,61,32,97,100,100,114,32,109,97,105,110,10,99,32,61,32,99,111,112,121,32,110,117,108,108,10,98,58,10,104,32,61,32,112,104,105,32,91,97,58,32,120,44,32,98,58,32,110,117,108,108,93,10,100,32,61,32,102,105,101,108,100,32,120,32,49,10,108,32,61,32,108,111,97,100,32,100,10,115,116,111,114,101,32,120,44,32,108,10,114,32,61,32,99,97,108,108,32,109,97,105,110,40,112,44,32,120,41,10,99,97,108,108,32,109,97,105,110,40,41,10,105,32,61,32,105,99,97,108,108,32,102,40,110,117,108,108,41,10,105,99,97,108,108,32,102,40,97,44,32,98,41,10,98,114,32,97,32,98,10,114,101,116,32,61,32,99,111,112,121,32,114,101,116,10,103,111,116,111,32,61,32,110,117,108,108,10,103,111,116,111,32,97,10,114,101,116,32,120,10,114,101,116,10,114,101,116,58,10,125,10,102,117,110,99,32,110,117,108,108,40,41,32,123,10,125,10]⟩
def knN:ByteArray:=⟨#[32,59,32,110,111,116,104,105,110,103,10]⟩
def knI1:List InsD:=[⟨1,⟨#[120]⟩,⟨#[]⟩,⟨#[]⟩,2,⟨#[]⟩,[],[]⟩,⟨2,⟨#[121]⟩,⟨#[]⟩,⟨#[]⟩,1,⟨#[]⟩,[],[]⟩,⟨3,⟨#[122]⟩,⟨#[]⟩,⟨#[]⟩,0,⟨#[]⟩,[],[]⟩,⟨4,⟨#[102]⟩,⟨#[]⟩,⟨#[]⟩,0,⟨#[109,97,105,110]⟩,[],[]⟩,⟨5,⟨#[99]⟩,⟨#[110,117,108,108]⟩,⟨#[]⟩,0,⟨#[]⟩,[],[]⟩]
def knI2:List InsD:=[⟨6,⟨#[104]⟩,⟨#[]⟩,⟨#[]⟩,0,⟨#[]⟩,[⟨#[120]⟩,⟨#[110,117,108,108]⟩],[⟨#[97]⟩,⟨#[98]⟩]⟩,⟨7,⟨#[100]⟩,⟨#[120]⟩,⟨#[]⟩,1,⟨#[]⟩,[],[]⟩,⟨8,⟨#[108]⟩,⟨#[100]⟩,⟨#[]⟩,0,⟨#[]⟩,[],[]⟩,⟨9,⟨#[]⟩,⟨#[120]⟩,⟨#[108]⟩,0,⟨#[]⟩,[],[]⟩,⟨10,⟨#[114]⟩,⟨#[]⟩,⟨#[]⟩,0,⟨#[109,97,105,110]⟩,[⟨#[112]⟩,⟨#[120]⟩],[]⟩,⟨10,⟨#[]⟩,⟨#[]⟩,⟨#[]⟩,0,⟨#[109,97,105,110]⟩,[],[]⟩,⟨11,⟨#[105]⟩,⟨#[102]⟩,⟨#[]⟩,0,⟨#[]⟩,[⟨#[110,117,108,108]⟩],[]⟩,⟨11,⟨#[]⟩,⟨#[102]⟩,⟨#[]⟩,0,⟨#[]⟩,[⟨#[97]⟩,⟨#[98]⟩],[]⟩,⟨12,⟨#[]⟩,⟨#[]⟩,⟨#[]⟩,0,⟨#[]⟩,[],[⟨#[97]⟩,⟨#[98]⟩]⟩,⟨5,⟨#[114,101,116]⟩,⟨#[114,101,116]⟩,⟨#[]⟩,0,⟨#[]⟩,[],[]⟩,⟨3,⟨#[103,111,116,111]⟩,⟨#[]⟩,⟨#[]⟩,0,⟨#[]⟩,[],[]⟩,⟨13,⟨#[]⟩,⟨#[]⟩,⟨#[]⟩,0,⟨#[]⟩,[],[⟨#[97]⟩]⟩,⟨14,⟨#[]⟩,⟨#[120]⟩,⟨#[]⟩,0,⟨#[]⟩,[],[]⟩,⟨14,⟨#[]⟩,⟨#[]⟩,⟨#[]⟩,0,⟨#[]⟩,[],[]⟩]
def knF:List FunD:=[⟨⟨#[109,97,105,110]⟩,[⟨#[112]⟩,⟨#[113]⟩],[⟨⟨#[97]⟩,knI1⟩,⟨⟨#[98]⟩,knI2⟩,⟨⟨#[114,101,116]⟩,[]⟩]⟩,⟨⟨#[110,117,108,108]⟩,[],[]⟩]
theorem a7k:ah2 knT.data.toList=(knF,(0,0),0):=(ast _).trans (by kernel_rfl)
theorem a7l:ah2 knN.data.toList=([],(0,0),0):=(ast _).trans (by kernel_rfl)
open Go.AM
theorem aed {H:Heap} {id:Nat} {l:List V} (h:getC H id 0=some l):Rd H (.sl id 0 0 l.length 1) l:=by
 have:=Rd.sl h (off:=0) (n:=l.length) (by omega)
 rwa [dz,ajw] at this
theorem aya:aow.length=33:=by decide +kernel
theorem aox:aq7.length=53:=by decide +kernel
theorem ajh:aj7.length=33:=by decide +kernel
theorem aji:amj.length=33:=by decide +kernel
theorem a2h {k:Nat} (hk:k < 33):aow[k]?=some (knE (aj7.getD k ⟨#[]⟩) (amj.getD k 0)):=by
 have h1:k < aj7.length:=by rw [ajh];exact hk
 have h2:k < amj.length:=by rw [aji];exact hk
 unfold aow;rw [List.getElem?_zipWith,List.getElem?_eq_getElem h1,List.getElem?_eq_getElem h2,List.getD_eq_getElem?_getD,List.getD_eq_getElem?_getD,List.getElem?_eq_getElem h1,List.getElem?_eq_getElem h2];rfl
section
variable {CT:Nat→Option CFun}
theorem y9 (hT:CT ayk=some (.code ahs)) (base:Nat) {A:Heap} (hb:base≤A.length) (o:Int) (d a b:ByteArray) (n:Int) (f:ByteArray) {xs ls:V} (hx:xs.one=true) (hl:ls.one=true):
 ∃ H',dn CT (.fn ayk [] []) [.s (.int .u8 o),.s (.string d),.s (.string a),.s (.string b),.s (.int .i64 n),.s (.string f),xs,ls] base A=some (.agg [.s (.int .u8 o),.s (.string d),.s (.string a),.s (.string b),.s (.int .i64 n),.s (.string f),xs,ls],H')∧Ext A H':=by
 obtain ⟨Z,hZ⟩:∃ X,A ++ [Ob.cells 0 yz]=X:=⟨_,rfl⟩;obtain ⟨D,hD⟩:∃ X,A ++ [Ob.cells 0 [.s (.int .u8 o),.s (.string d),.s (.string a),.s (.string b),.s (.int .i64 n),.s (.string f),xs,ls]]=X:=⟨_,rfl⟩;have gZ:getC Z A.length 0=some yz:=hZ ▸ ib A 0 _
 have sZ:Z.set A.length (Ob.cells 0 [.s (.int .u8 o),.s (.string d),.s (.string a),.s (.string b),.s (.int .i64 n),.s (.string f),xs,ls])=D:=by rw [← hZ,p8,hD]
 have gD:getC D A.length 0=some [.s (.int .u8 o),.s (.string d),.s (.string a),.s (.string b),.s (.int .i64 n),.s (.string f),xs,ls]:=hD ▸ ib A 0 _
 have lD:zm D true 8 (.ref A.length 0 0)=some (.agg [.s (.int .u8 o),.s (.string d),.s (.string a),.s (.string b),.s (.int .i64 n),.s (.string f),xs,ls]):=by
  simp only [zm,gD];rfl
 have cx:=ahm hx;have cl:=ahm hl
 refine ⟨D,l9 (c:=ahs) (k:=8) hT rfl (by decide) aqk ?_,hD ▸ Ext.app _ _⟩
 simp only [yz,mf] at hZ gZ;simp only [Iz,Sb,bl,ahs,a_f14,aa,reduceIte,reduceCtorEq,Nat.reduceEqDiff,Nat.reduceLT,Nat.reduceLeDiff,Nat.reduceBEq,Nat.reduceAdd,Nat.reduceMul,hZ,gZ,sZ,lD,hb,hx,hl,cx,cl,bq,ed,aib,gu,iw,ig,o5,mo,ja,aj,bu,dh,dz]
def KnP (a k:Nat) (s:V × Heap):Prop:=(∃ id g n,s.1=.sl id g 0 n 4∧id≠a+1∧id≠a+2)∧qf a 4 s.2 s.1 ((ayb ++ aow.take k).map ba9)∧a+3≤s.2.length∧getC s.2 (a+1) 0=some (aj7.map Sb)∧getC s.2 (a+2) 0=some (amj.map fun (n:Nat)=>Iz n)
theorem ax9 {a k:Nat} {v:V} {C:Heap} (h:KnP a k (v,C)) {fr:List V} (hv:v∈fr):KnP a k (v,trim (a+3) fr C):=by
 obtain ⟨⟨id,g,n,h1,h1a,h1b⟩,h2,h3,h4,h5⟩:=h;dsimp only at h1 h2 h3 h4 h5;subst h1
 have hg:∀ i,i < a+3→∀ c,getC C i 0=some c→getC (trim (a+3) fr C) i 0=some c:=fun i hi c hc=>by
  unfold getC at hc ⊢;rw [alc _ _ _ hi];exact hc
 have hl:a+3≤(trim (a+3) fr C).length:=by
  rcases trim_or (a+3) fr C with e | ⟨e,_⟩ <;> rw [e]
  ·exact h3
  ·rw [ow];omega
 refine ⟨⟨id,g,n,rfl,h1a,h1b⟩,?_,hl,hg _ (by omega) _ h4,hg _ (by omega) _ h5⟩
 rcases trim_or (a+3) fr C with e | ⟨e,e2⟩
 ·rw [e];exact h2
 ·have hid:=e2 _ hv;refine h2.keep fun i' g' n' e'=>?_;cases e'
  have:id < a+3:=by simpa [kw] using hid
  exact alc _ _ _ this
set_option maxHeartbeats 1000000 in
theorem kn_l0 (base:Nat) {a:Nat} (hb:base≤a) {F:Heap} {v:V} (h0:KnP a 0 (v,F)):
 ∃ v' D,itW (evC (dn CT) itW base aiq) [] (a+3) (fq 204 [(1,v),(2,.sl (a+1) 0 0 33 1),(3,.sl (a+2) 0 0 33 1),(4,Iz 0)]) F=some (.ext 0,fq 204 [(1,v'),(2,.sl (a+1) 0 0 33 1),(3,.sl (a+2) 0 0 33 1),(4,Iz 33),(45,bl false)],D)∧KnP a 33 (v',D):=by
 obtain ⟨⟨w,C⟩,e1,e2⟩:=akt 33 (KnP a) (fun k (s:V × Heap)=>itW (evC (dn CT) itW base aiq) [] (a+3) (fq 204 [(1,s.1),(2,.sl (a+1) 0 0 33 1),(3,.sl (a+2) 0 0 33 1),(4,Iz k)]) s.2) (by
  rintro k ⟨w,C⟩ hk hP;obtain ⟨⟨id,g,n,q1,q1a,q1b⟩,q2,q3,q4,q5⟩:=hP;dsimp only at q1 q2 q3 q4 q5
  have rf:Rd C (.sl (a+1) 0 0 33 1) (aj7.map Sb):=by
   have:=aed q4
   rwa [uj,ajh] at this
  have rc:Rd C (.sl (a+2) 0 0 33 1) (amj.map fun (n:Nat)=>Iz n):=by
   have:=aed q5
   rwa [uj,aji] at this
  have kf:k < aj7.length:=by rw [ajh];exact hk
  have kc:k < amj.length:=by rw [aji];exact hk
  obtain ⟨y,y1,y2⟩:=a9d rf (fun _ _ e=>by cases e) kf
  obtain ⟨z,z1,z2⟩:=rc.at' (i:=k) (x:=Iz (amj.getD k 0:Nat)) trivial (by rw [List.getElem?_map,aii kc 0];rfl)
  obtain ⟨f,hf⟩:∃ f,aj7.getD k ⟨#[]⟩=f:=⟨_,rfl⟩;obtain ⟨c,hc⟩:∃ c,amj.getD k 0=c:=⟨_,rfl⟩
  have hfs:f.size≤100:=a2g f (by rw [← hf,List.getD_eq_getElem?_getD,List.getElem?_eq_getElem kf];exact qj kf)
  have hx:=a2h hk;rw [hf,hc] at hx;rw [hf] at y2;rw [hc] at z2
  have hs1:(((aq6.size+f.size:Nat):Int) > IntKind.i64.max)=False:=by
   rw [eq_iff_iff,iff_false,show aq6.size=14 from rfl,show IntKind.i64.max=9223372036854775807 from rfl];omega
  have hs2:((((aq6 ++ f:ByteArray).size+aov.size:Nat):Int) > IntKind.i64.max)=False:=by
   rw [eq_iff_iff,iff_false,ByteArray.size_append,show aq6.size=14 from rfl,show aov.size=2 from rfl,show IntKind.i64.max=9223372036854775807 from rfl];omega
  obtain ⟨t,ht⟩:∃ t,aq6 ++ f ++ aov=t:=⟨_,rfl⟩
  have hlt:((k:Int) < ((33:Nat):Int)):=by omega
  have hwk:=w63 (n:=k) (by omega)
  obtain ⟨id',g',n',D,a1,a2,a3,a4,a5⟩:=ah9 q2 (base:=base) (bytes:=40) hb (by omega) (r:=[Sb t,Iz 40,Iz 3,Iz c]) rfl rfl (by
   rw [uj,dm];have h1:ayb.length=20:=rfl
   have h2:(aow.take k).length≤k:=by rw [ow];omega
   omega)
  have hne:id'≠a+1∧id'≠a+2:=by
   rcases a5 with ⟨g2,n2,e⟩ | e
   ·rw [q1] at e;cases e;exact ⟨q1a,q1b⟩
   ·omega
  have hkeep:∀ i,i=a+1∨i=a+2→D[i]?=C[i]?:=fun i hi=>a4 i (by omega) fun g2 n2 e=>by
   rw [q1] at e;cases e
   rcases hi with hi | hi
   ·exact q1a hi
   ·exact q1b hi
  have hPk:KnP a (k+1) (.sl id' g' 0 n' 4,D):=by
   refine ⟨⟨_,_,_,rfl,hne.1,hne.2⟩,?_,by show a+3≤D.length;omega,?_,?_⟩
   ·have e:(ayb ++ aow.take (k+1)).map ba9=(ayb ++ aow.take k).map ba9 ++ [[Sb t,Iz 40,Iz 3,Iz c]]:=by
     rw [avm,hx,← jb,List.map_append,← ht];rfl
    rw [e];exact a2
   ·unfold getC at q4 ⊢;dsimp only;rw [hkeep _ (.inl rfl)];exact q4
   ·unfold getC at q5 ⊢;dsimp only;rw [hkeep _ (.inr rfl)];exact q5
  have hwo:w.one=true:=by rw [q1];rfl
  refine ⟨(.sl id' g' 0 n' 4,trim (a+3) (fq 204 [(1,.sl id' g' 0 n' 4),(2,.sl (a+1) 0 0 33 1),(3,.sl (a+2) 0 0 33 1),(4,Iz (k+1:Nat))]) D),?_,ax9 hPk (ah5 (s:=1) (by decide) rfl)⟩
  dsimp only;rw [ll];simp only [aq6,aov] at hs1 hs2 ht;simp only [Iz,Sb] at a1 y2 z2;simp only [Iz,Sb,bl,apj,aa,reduceIte,reduceCtorEq,Nat.reduceEqDiff,Nat.reduceLT,Nat.reduceLeDiff,Nat.reduceBEq,Nat.reduceAdd,Nat.reduceMul,hlt,y1,y2,z1,z2,hs1,hs2,ht,a1,hwo,hwk]) 0 (v,F) (jh _) h0
 rw [ar4] at e1;dsimp only at e1
 refine ⟨w,trim (a+3) (fq 204 [(1,w),(2,.sl (a+1) 0 0 33 1),(3,.sl (a+2) 0 0 33 1),(4,Iz 33),(45,bl false)]) C,e1.trans ?_,ax9 e2 (ah5 (s:=1) (by decide) rfl)⟩
 have e:((33:Nat):Int)=33:=rfl;rw [ll];simp only [Iz,bl,e,apj,aa,reduceIte,reduceCtorEq,Nat.reduceEqDiff,Nat.reduceLT,Nat.reduceLeDiff,Nat.reduceBEq,Nat.reduceAdd,Nat.reduceMul,yf]
set_option maxHeartbeats 1000000 in
theorem kn_l1 (hP:aha CT) (base:Nat) {F:Heap} (hb:base≤F.length) {v:V} (hv:RdW 4 F v (aq7.map ba9)):
 ∃ D,itW (evC (dn CT) itW base aio) [] F.length (fq 204 [(1,v),(5,Iz 0)]) F=some (.ext 2,fq 204 [(1,v),(5,Iz 53),(65,bl false)],D)∧Ext F D:=by
 have hln:∀ {C:Heap},Ext F C→akc C .s v=some (.s (.int .i64 53)):=fun k=>by
  have:=(hv.ext2 k).len;rw [uj,aox] at this;exact this
 obtain ⟨C,e1,a1⟩:=akt 53 (fun _ (C:Heap)=>Ext F C) (fun k C=>itW (evC (dn CT) itW base aio) [] F.length (fq 204 [(1,v),(5,Iz k)]) C) (by
  intro k C hk hE
  have hlt:((k:Int) < 53):=by omega
  have hwk:=w63 (n:=k) (by omega)
  have kl:k < aq7.length:=by rw [aox];exact hk
  obtain ⟨r,hr⟩:∃ r,aq7[k]=r:=⟨_,rfl⟩
  have hx:aq7[k]?=some r:=by rw [← hr];exact List.getElem?_eq_getElem kl
  have hval:=bbu (List.mem_of_getElem? hx)
  obtain ⟨p,p1,p2,p3⟩:=hv.at' k (ba9 r) (by rw [List.getElem?_map,hx];rfl)
  obtain ⟨b0,f0,g0⟩:=p3 0 _ rfl;obtain ⟨b1,f1,g1⟩:=p3 1 _ rfl;obtain ⟨b2,f2,g2⟩:=p3 2 _ rfl;obtain ⟨b3,f3,g3⟩:=p3 3 _ rfl
  have hbC:base≤C.length:=by have:=hE.le;omega
  obtain ⟨pv,A1,A2,ea,hA2,xa,ba,ba1,la,la0,oa,ra,ga,ga1⟩:=alv hP base hbC r.t hval;dsimp only at ea hA2 ra ga ga1;have E2:=hE.trans xa;have h0:=zz hE g0;have h1:=zz E2 g1;have h2:=zz E2 g2;have h3:=zz E2 g3;have pl:=RdL.len ra;rw [ed] at pl;have z0:(((0:Nat):Int) != 0)=false:=rfl;refine ⟨_,?_,E2.trim (ag _) (fq 204 [(1,v),(5,Iz (k+1:Nat))])⟩;rw [ll];simp only [Iz,Sb] at h0 h1 h2 h3;simp only [Iz,Sb,bl,apj,aa,reduceIte,reduceCtorEq,Nat.reduceEqDiff,Nat.reduceLT,Nat.reduceLeDiff,Nat.reduceBEq,Nat.reduceAdd,Nat.reduceMul,hln hE,hlt,p1,f0,f1,f2,f3,h0,h1,h2,h3,ea,bx1,bx2,bx3,bx4,bx5,oa,ba,ba1,hA2,ga,ga1,pl,z0,bne_self_eq_false,hwk,az,gu,iw,ig,o5,mo,ja,aj,bu,dh,dz]) 0 F (jh _) (Ext.refl F)
 rw [ar4] at e1;refine ⟨_,e1.trans ?_,a1.trim (ag _) (fq 204 [(1,v),(5,Iz 53),(65,bl false)])⟩;have e:((53:Nat):Int)=53:=rfl;rw [ll];simp only [Iz,bl,e,apj,aa,reduceIte,reduceCtorEq,Nat.reduceEqDiff,Nat.reduceLT,Nat.reduceLeDiff,Nat.reduceBEq,Nat.reduceAdd,Nat.reduceMul,hln a1,yf]
end
open Go.AM
def a5q {α β:Type} (Q:α→β→Prop):List α→List β→Prop
 | [],[]=>True
 | a :: l,b :: m=>Q a b∧a5q Q l m
 | _,_=>False
theorem a5q.at {α β:Type} {Q:α→β→Prop}:∀ {l:List α} {m:List β},a5q Q l m→∀ (i:Nat) (a:α) (b:β),l[i]?=some a→m[i]?=some b→Q a b
 | [],_,_,i,a,b,h,_=>by simp at h
 | _ :: _,[],_,i,a,b,_,h=>by simp at h
 | x :: l,y :: m,⟨h1,h2⟩,0,a,b,ha,hb=>by cases ha;cases hb;exact h1
 | x :: l,y :: m,⟨h1,h2⟩,i+1,a,b,ha,hb=>by
   rw [List.getElem?_cons_succ] at ha hb;exact a5q.at h2 i a b ha hb
theorem azz {w:Nat} {R:List (List V)} (h:R.all (fun r=>r.length == w)=true):∀ r∈R,r.length=w:=fun r hr=>eq_of_beq (ah.1 h r hr)
theorem aso {α:Type} {w n id:Nat} {P:Heap→List V→α→Prop} {H:Heap} {R:List (List V)} {l:List α} (hg:getC H id 0=some R.flatten) (hw:∀ r∈R,r.length=w) (hn:R.length=n) (hl:l.length=n) (hb:n < 2 ^ 63) (h:∀ (i:Nat) (r:List V) (x:α),R[i]?=some r→l[i]?=some x→P H r x):RdL w P H (.sl id 0 0 n w) l:=by
 subst hn
 refine ⟨R,RdX.sl hg hw,hl.symm,by omega,fun i x hx=>?_⟩
 have hi:i < R.length:=by have:=(List.getElem?_eq_some_iff.1 hx).1;omega
 exact ⟨R[i],List.getElem?_eq_getElem hi,h i _ x (List.getElem?_eq_getElem hi) hx⟩
theorem afm:af2 mf:=fun _ _ e=>by cases e
theorem aoi (i g o n z:Nat):af2 (.sl i g o n z):=fun _ _ e=>by cases e
theorem sw (H:Heap) {x:InsD} (h1:x.xs=[]) (h2:x.ls=[]):abu H (qy x mf mf) x:=
 ⟨mf,mf,rfl,by rw [h1];exact Rd.nil H,afm,by rw [h2];exact Rd.nil H,afm,by rw [h1,h2];decide⟩
theorem aw1 {α:Type} (w:Nat) (P:Heap→List V→α→Prop) (H:Heap):RdL w P H mf []:=⟨[],⟨RdW.nil w H,afm⟩,rfl,Nat.two_pow_pos 63,fun i x hx=>by simp at hx⟩
section
variable {CT:Nat→Option CFun}
set_option maxHeartbeats 4000000 in
theorem bbw (hT:CT ayk=some (.code ahs)) (base:Nat) {A:Heap} (hb:base≤A.length) {u9 u13:V} {n11:Int}:
 ∃ id G,evC (dn CT) itW base (.region R7_16 [] [116,117,118,119,120,121,122,123,124,125,126]) (fq 204 [(9,u9),(11,Iz n11),(12,.fn 14 [] [])]) A=some (.nrm,fq 204 [(9,u9),(11,Iz n11),(12,.fn 14 [] []),(13,.sl id 0 0 5 8)],G)∧Ext A G∧RdL 8 abu G (.sl id 0 0 5 8) knI1:=by
 obtain ⟨aC1,caC1,eaC1⟩:=y9 hT base (A:=A) (by omega) 1 ⟨#[120]⟩ ⟨#[]⟩ ⟨#[]⟩ 2 ⟨#[]⟩ (xs:=.s (.slice none 0 0)) (ls:=.s (.slice none 0 0)) rfl rfl
 have yaC1:=eaC1.le
 obtain ⟨aC2,caC2,eaC2⟩:=y9 hT base (A:=aC1) (by omega) 2 ⟨#[121]⟩ ⟨#[]⟩ ⟨#[]⟩ 1 ⟨#[]⟩ (xs:=.s (.slice none 0 0)) (ls:=.s (.slice none 0 0)) rfl rfl
 have yaC2:=eaC2.le
 obtain ⟨aC3,caC3,eaC3⟩:=y9 hT base (A:=aC2) (by omega) 3 ⟨#[122]⟩ ⟨#[]⟩ ⟨#[]⟩ 0 ⟨#[]⟩ (xs:=.s (.slice none 0 0)) (ls:=.s (.slice none 0 0)) rfl rfl
 have yaC3:=eaC3.le
 obtain ⟨aC4,caC4,eaC4⟩:=y9 hT base (A:=aC3) (by omega) 4 ⟨#[102]⟩ ⟨#[]⟩ ⟨#[]⟩ 0 ⟨#[109,97,105,110]⟩ (xs:=.s (.slice none 0 0)) (ls:=.s (.slice none 0 0)) rfl rfl
 have yaC4:=eaC4.le
 obtain ⟨aC5,caC5,eaC5⟩:=y9 hT base (A:=aC4) (by omega) 5 ⟨#[99]⟩ ⟨#[110,117,108,108]⟩ ⟨#[]⟩ 0 ⟨#[]⟩ (xs:=.s (.slice none 0 0)) (ls:=.s (.slice none 0 0)) rfl rfl
 have yaC5:=eaC5.le;obtain ⟨aG,haG⟩:∃ X,aC5 ++ [Ob.cells 0 [.s (.int .u8 1),.s (.string ⟨#[120]⟩),.s (.string ⟨#[]⟩),.s (.string ⟨#[]⟩),.s (.int .i64 2),.s (.string ⟨#[]⟩),.s (.slice none 0 0),.s (.slice none 0 0),.s (.int .u8 2),.s (.string ⟨#[121]⟩),.s (.string ⟨#[]⟩),.s (.string ⟨#[]⟩),.s (.int .i64 1),.s (.string ⟨#[]⟩),.s (.slice none 0 0),.s (.slice none 0 0),.s (.int .u8 3),.s (.string ⟨#[122]⟩),.s (.string ⟨#[]⟩),.s (.string ⟨#[]⟩),.s (.int .i64 0),.s (.string ⟨#[]⟩),.s (.slice none 0 0),.s (.slice none 0 0),.s (.int .u8 4),.s (.string ⟨#[102]⟩),.s (.string ⟨#[]⟩),.s (.string ⟨#[]⟩),.s (.int .i64 0),.s (.string ⟨#[109,97,105,110]⟩),.s (.slice none 0 0),.s (.slice none 0 0),.s (.int .u8 5),.s (.string ⟨#[99]⟩),.s (.string ⟨#[110,117,108,108]⟩),.s (.string ⟨#[]⟩),.s (.int .i64 0),.s (.string ⟨#[]⟩),.s (.slice none 0 0),.s (.slice none 0 0)]]=X:=⟨_,rfl⟩;have eaG:Ext aC5 aG:=haG ▸ Ext.app _ _;have zaC5:Ext aC5 aG:=eaG;have zaC4:Ext aC4 aG:=eaC5.trans zaC5;have zaC3:Ext aC3 aG:=eaC4.trans zaC4;have zaC2:Ext aC2 aG:=eaC3.trans zaC3;have zaC1:Ext aC1 aG:=eaC2.trans zaC2;have zA0:Ext A aG:=eaC1.trans zaC1
 refine ⟨aC5.length,aG,?_,zA0,aso (R:=[qy ⟨1,⟨#[120]⟩,⟨#[]⟩,⟨#[]⟩,2,⟨#[]⟩,[],[]⟩ (.s (.slice none 0 0)) (.s (.slice none 0 0)),qy ⟨2,⟨#[121]⟩,⟨#[]⟩,⟨#[]⟩,1,⟨#[]⟩,[],[]⟩ (.s (.slice none 0 0)) (.s (.slice none 0 0)),qy ⟨3,⟨#[122]⟩,⟨#[]⟩,⟨#[]⟩,0,⟨#[]⟩,[],[]⟩ (.s (.slice none 0 0)) (.s (.slice none 0 0)),qy ⟨4,⟨#[102]⟩,⟨#[]⟩,⟨#[]⟩,0,⟨#[109,97,105,110]⟩,[],[]⟩ (.s (.slice none 0 0)) (.s (.slice none 0 0)),qy ⟨5,⟨#[99]⟩,⟨#[110,117,108,108]⟩,⟨#[]⟩,0,⟨#[]⟩,[],[]⟩ (.s (.slice none 0 0)) (.s (.slice none 0 0))]) (haG ▸ ib aC5 0 _) (azz rfl) rfl rfl (by decide) (a5q.at ⟨sw _ rfl rfl,sw _ rfl rfl,sw _ rfl rfl,sw _ rfl rfl,sw _ rfl rfl,trivial⟩)⟩
 simp only [Iz,apj,aa,reduceIte,reduceCtorEq,Nat.reduceEqDiff,Nat.reduceLT,Nat.reduceLeDiff,Nat.reduceBEq,Nat.reduceAdd,Nat.reduceMul,caC1,caC2,caC3,caC4,caC5,haG,bq,ed]
set_option maxHeartbeats 4000000 in
theorem bbv (hT:CT ayk=some (.code ahs)) (base:Nat) {A:Heap} (hb:base≤A.length) {u9 u13:V} {n11:Int}:
 ∃ id G,evC (dn CT) itW base (.region R7_17 [] [12,127,128,129,130,131,132,133,134,135,136,137,138,139,140,141,142,143,144,145,146,147,148,149,150,151,152,153,154,155,156,157,158,159,160,161,162]) (fq 204 [(9,u9),(11,Iz n11),(12,.fn 14 [] []),(13,u13)]) A=some (.nrm,fq 204 [(9,u9),(11,Iz n11),(13,u13),(14,.sl id 0 0 14 8)],G)∧Ext A G∧RdL 8 abu G (.sl id 0 0 14 8) knI2:=by
 obtain ⟨bP1,hbP1⟩:∃ X,A ++ [Ob.cells 0 [.s (.string ⟨#[120]⟩),.s (.string ⟨#[110,117,108,108]⟩)]]=X:=⟨_,rfl⟩;have ebP1:Ext A bP1:=hbP1 ▸ Ext.app _ _;have ybP1:=ebP1.le;have gbP1:getC bP1 A.length 0=some [.s (.string ⟨#[120]⟩),.s (.string ⟨#[110,117,108,108]⟩)]:=hbP1 ▸ ib A 0 _;obtain ⟨bP2,hbP2⟩:∃ X,bP1 ++ [Ob.cells 0 [.s (.string ⟨#[97]⟩),.s (.string ⟨#[98]⟩)]]=X:=⟨_,rfl⟩;have ebP2:Ext bP1 bP2:=hbP2 ▸ Ext.app _ _;have ybP2:=ebP2.le;have gbP2:getC bP2 bP1.length 0=some [.s (.string ⟨#[97]⟩),.s (.string ⟨#[98]⟩)]:=hbP2 ▸ ib bP1 0 _
 obtain ⟨bC1,cbC1,ebC1⟩:=y9 hT base (A:=bP2) (by omega) 6 ⟨#[104]⟩ ⟨#[]⟩ ⟨#[]⟩ 0 ⟨#[]⟩ (xs:=.sl A.length 0 0 2 1) (ls:=.sl bP1.length 0 0 2 1) rfl rfl
 have ybC1:=ebC1.le
 obtain ⟨bC2,cbC2,ebC2⟩:=y9 hT base (A:=bC1) (by omega) 7 ⟨#[100]⟩ ⟨#[120]⟩ ⟨#[]⟩ 1 ⟨#[]⟩ (xs:=.s (.slice none 0 0)) (ls:=.s (.slice none 0 0)) rfl rfl
 have ybC2:=ebC2.le
 obtain ⟨bC3,cbC3,ebC3⟩:=y9 hT base (A:=bC2) (by omega) 8 ⟨#[108]⟩ ⟨#[100]⟩ ⟨#[]⟩ 0 ⟨#[]⟩ (xs:=.s (.slice none 0 0)) (ls:=.s (.slice none 0 0)) rfl rfl
 have ybC3:=ebC3.le
 obtain ⟨bC4,cbC4,ebC4⟩:=y9 hT base (A:=bC3) (by omega) 9 ⟨#[]⟩ ⟨#[120]⟩ ⟨#[108]⟩ 0 ⟨#[]⟩ (xs:=.s (.slice none 0 0)) (ls:=.s (.slice none 0 0)) rfl rfl
 have ybC4:=ebC4.le;obtain ⟨bP3,hbP3⟩:∃ X,bC4 ++ [Ob.cells 0 [.s (.string ⟨#[112]⟩),.s (.string ⟨#[120]⟩)]]=X:=⟨_,rfl⟩;have ebP3:Ext bC4 bP3:=hbP3 ▸ Ext.app _ _;have ybP3:=ebP3.le;have gbP3:getC bP3 bC4.length 0=some [.s (.string ⟨#[112]⟩),.s (.string ⟨#[120]⟩)]:=hbP3 ▸ ib bC4 0 _
 obtain ⟨bC5,cbC5,ebC5⟩:=y9 hT base (A:=bP3) (by omega) 10 ⟨#[114]⟩ ⟨#[]⟩ ⟨#[]⟩ 0 ⟨#[109,97,105,110]⟩ (xs:=.sl bC4.length 0 0 2 1) (ls:=.s (.slice none 0 0)) rfl rfl
 have ybC5:=ebC5.le
 obtain ⟨bC6,cbC6,ebC6⟩:=y9 hT base (A:=bC5) (by omega) 10 ⟨#[]⟩ ⟨#[]⟩ ⟨#[]⟩ 0 ⟨#[109,97,105,110]⟩ (xs:=.s (.slice none 0 0)) (ls:=.s (.slice none 0 0)) rfl rfl
 have ybC6:=ebC6.le;obtain ⟨bP4,hbP4⟩:∃ X,bC6 ++ [Ob.cells 0 [.s (.string ⟨#[110,117,108,108]⟩)]]=X:=⟨_,rfl⟩;have ebP4:Ext bC6 bP4:=hbP4 ▸ Ext.app _ _;have ybP4:=ebP4.le;have gbP4:getC bP4 bC6.length 0=some [.s (.string ⟨#[110,117,108,108]⟩)]:=hbP4 ▸ ib bC6 0 _
 obtain ⟨bC7,cbC7,ebC7⟩:=y9 hT base (A:=bP4) (by omega) 11 ⟨#[105]⟩ ⟨#[102]⟩ ⟨#[]⟩ 0 ⟨#[]⟩ (xs:=.sl bC6.length 0 0 1 1) (ls:=.s (.slice none 0 0)) rfl rfl
 have ybC7:=ebC7.le;obtain ⟨bP5,hbP5⟩:∃ X,bC7 ++ [Ob.cells 0 [.s (.string ⟨#[97]⟩),.s (.string ⟨#[98]⟩)]]=X:=⟨_,rfl⟩;have ebP5:Ext bC7 bP5:=hbP5 ▸ Ext.app _ _;have ybP5:=ebP5.le;have gbP5:getC bP5 bC7.length 0=some [.s (.string ⟨#[97]⟩),.s (.string ⟨#[98]⟩)]:=hbP5 ▸ ib bC7 0 _
 obtain ⟨bC8,cbC8,ebC8⟩:=y9 hT base (A:=bP5) (by omega) 11 ⟨#[]⟩ ⟨#[102]⟩ ⟨#[]⟩ 0 ⟨#[]⟩ (xs:=.sl bC7.length 0 0 2 1) (ls:=.s (.slice none 0 0)) rfl rfl
 have ybC8:=ebC8.le;obtain ⟨bP6,hbP6⟩:∃ X,bC8 ++ [Ob.cells 0 [.s (.string ⟨#[97]⟩),.s (.string ⟨#[98]⟩)]]=X:=⟨_,rfl⟩;have ebP6:Ext bC8 bP6:=hbP6 ▸ Ext.app _ _;have ybP6:=ebP6.le;have gbP6:getC bP6 bC8.length 0=some [.s (.string ⟨#[97]⟩),.s (.string ⟨#[98]⟩)]:=hbP6 ▸ ib bC8 0 _
 obtain ⟨bC9,cbC9,ebC9⟩:=y9 hT base (A:=bP6) (by omega) 12 ⟨#[]⟩ ⟨#[]⟩ ⟨#[]⟩ 0 ⟨#[]⟩ (xs:=.s (.slice none 0 0)) (ls:=.sl bC8.length 0 0 2 1) rfl rfl
 have ybC9:=ebC9.le
 obtain ⟨bC10,cbC10,ebC10⟩:=y9 hT base (A:=bC9) (by omega) 5 ⟨#[114,101,116]⟩ ⟨#[114,101,116]⟩ ⟨#[]⟩ 0 ⟨#[]⟩ (xs:=.s (.slice none 0 0)) (ls:=.s (.slice none 0 0)) rfl rfl
 have ybC10:=ebC10.le
 obtain ⟨bC11,cbC11,ebC11⟩:=y9 hT base (A:=bC10) (by omega) 3 ⟨#[103,111,116,111]⟩ ⟨#[]⟩ ⟨#[]⟩ 0 ⟨#[]⟩ (xs:=.s (.slice none 0 0)) (ls:=.s (.slice none 0 0)) rfl rfl
 have ybC11:=ebC11.le;obtain ⟨bP7,hbP7⟩:∃ X,bC11 ++ [Ob.cells 0 [.s (.string ⟨#[97]⟩)]]=X:=⟨_,rfl⟩;have ebP7:Ext bC11 bP7:=hbP7 ▸ Ext.app _ _;have ybP7:=ebP7.le;have gbP7:getC bP7 bC11.length 0=some [.s (.string ⟨#[97]⟩)]:=hbP7 ▸ ib bC11 0 _
 obtain ⟨bC12,cbC12,ebC12⟩:=y9 hT base (A:=bP7) (by omega) 13 ⟨#[]⟩ ⟨#[]⟩ ⟨#[]⟩ 0 ⟨#[]⟩ (xs:=.s (.slice none 0 0)) (ls:=.sl bC11.length 0 0 1 1) rfl rfl
 have ybC12:=ebC12.le
 obtain ⟨bC13,cbC13,ebC13⟩:=y9 hT base (A:=bC12) (by omega) 14 ⟨#[]⟩ ⟨#[120]⟩ ⟨#[]⟩ 0 ⟨#[]⟩ (xs:=.s (.slice none 0 0)) (ls:=.s (.slice none 0 0)) rfl rfl
 have ybC13:=ebC13.le
 obtain ⟨bC14,cbC14,ebC14⟩:=y9 hT base (A:=bC13) (by omega) 14 ⟨#[]⟩ ⟨#[]⟩ ⟨#[]⟩ 0 ⟨#[]⟩ (xs:=.s (.slice none 0 0)) (ls:=.s (.slice none 0 0)) rfl rfl
 have ybC14:=ebC14.le;obtain ⟨bG,hbG⟩:∃ X,bC14 ++ [Ob.cells 0 ((V.s (.int .u8 6):V) :: (V.s (.string ⟨#[104]⟩):V) :: (V.s (.string ⟨#[]⟩):V) :: (V.s (.string ⟨#[]⟩):V) :: (V.s (.int .i64 0):V) :: (V.s (.string ⟨#[]⟩):V) :: (V.sl A.length 0 0 2 1:V) :: (V.sl bP1.length 0 0 2 1:V) :: (V.s (.int .u8 7):V) :: (V.s (.string ⟨#[100]⟩):V) :: (V.s (.string ⟨#[120]⟩):V) :: (V.s (.string ⟨#[]⟩):V) :: (V.s (.int .i64 1):V) :: (V.s (.string ⟨#[]⟩):V) :: (V.s (.slice none 0 0):V) :: (V.s (.slice none 0 0):V) :: (V.s (.int .u8 8):V) :: (V.s (.string ⟨#[108]⟩):V) :: (V.s (.string ⟨#[100]⟩):V) :: (V.s (.string ⟨#[]⟩):V) :: (V.s (.int .i64 0):V) :: (V.s (.string ⟨#[]⟩):V) :: (V.s (.slice none 0 0):V) :: (V.s (.slice none 0 0):V) :: (V.s (.int .u8 9):V) :: (V.s (.string ⟨#[]⟩):V) :: (V.s (.string ⟨#[120]⟩):V) :: (V.s (.string ⟨#[108]⟩):V) :: (V.s (.int .i64 0):V) :: (V.s (.string ⟨#[]⟩):V) :: (V.s (.slice none 0 0):V) :: (V.s (.slice none 0 0):V) :: (V.s (.int .u8 10):V) :: (V.s (.string ⟨#[114]⟩):V) :: (V.s (.string ⟨#[]⟩):V) :: (V.s (.string ⟨#[]⟩):V) :: (V.s (.int .i64 0):V) :: (V.s (.string ⟨#[109,97,105,110]⟩):V) :: (V.sl bC4.length 0 0 2 1:V) :: (V.s (.slice none 0 0):V) :: (V.s (.int .u8 10):V) :: (V.s (.string ⟨#[]⟩):V) :: (V.s (.string ⟨#[]⟩):V) :: (V.s (.string ⟨#[]⟩):V) :: (V.s (.int .i64 0):V) :: (V.s (.string ⟨#[109,97,105,110]⟩):V) :: (V.s (.slice none 0 0):V) :: (V.s (.slice none 0 0):V) :: (V.s (.int .u8 11):V) :: (V.s (.string ⟨#[105]⟩):V) :: (V.s (.string ⟨#[102]⟩):V) :: (V.s (.string ⟨#[]⟩):V) :: (V.s (.int .i64 0):V) :: (V.s (.string ⟨#[]⟩):V) :: (V.sl bC6.length 0 0 1 1:V) :: (V.s (.slice none 0 0):V) :: (V.s (.int .u8 11):V) :: (V.s (.string ⟨#[]⟩):V) :: (V.s (.string ⟨#[102]⟩):V) :: (V.s (.string ⟨#[]⟩):V) :: (V.s (.int .i64 0):V) :: (V.s (.string ⟨#[]⟩):V) :: (V.sl bC7.length 0 0 2 1:V) :: (V.s (.slice none 0 0):V) :: (V.s (.int .u8 12):V) :: (V.s (.string ⟨#[]⟩):V) :: (V.s (.string ⟨#[]⟩):V) :: (V.s (.string ⟨#[]⟩):V) :: (V.s (.int .i64 0):V) :: (V.s (.string ⟨#[]⟩):V) :: (V.s (.slice none 0 0):V) :: (V.sl bC8.length 0 0 2 1:V) :: (V.s (.int .u8 5):V) :: (V.s (.string ⟨#[114,101,116]⟩):V) :: (V.s (.string ⟨#[114,101,116]⟩):V) :: (V.s (.string ⟨#[]⟩):V) :: (V.s (.int .i64 0):V) :: (V.s (.string ⟨#[]⟩):V) :: (V.s (.slice none 0 0):V) :: (V.s (.slice none 0 0):V) :: (V.s (.int .u8 3):V) :: (V.s (.string ⟨#[103,111,116,111]⟩):V) :: (V.s (.string ⟨#[]⟩):V) :: (V.s (.string ⟨#[]⟩):V) :: (V.s (.int .i64 0):V) :: (V.s (.string ⟨#[]⟩):V) :: (V.s (.slice none 0 0):V) :: (V.s (.slice none 0 0):V) :: (V.s (.int .u8 13):V) :: (V.s (.string ⟨#[]⟩):V) :: (V.s (.string ⟨#[]⟩):V) :: (V.s (.string ⟨#[]⟩):V) :: (V.s (.int .i64 0):V) :: (V.s (.string ⟨#[]⟩):V) :: (V.s (.slice none 0 0):V) :: (V.sl bC11.length 0 0 1 1:V) :: (V.s (.int .u8 14):V) :: (V.s (.string ⟨#[]⟩):V) :: (V.s (.string ⟨#[120]⟩):V) :: (V.s (.string ⟨#[]⟩):V) :: (V.s (.int .i64 0):V) :: (V.s (.string ⟨#[]⟩):V) :: (V.s (.slice none 0 0):V) :: (V.s (.slice none 0 0):V) :: (V.s (.int .u8 14):V) :: (V.s (.string ⟨#[]⟩):V) :: (V.s (.string ⟨#[]⟩):V) :: (V.s (.string ⟨#[]⟩):V) :: (V.s (.int .i64 0):V) :: (V.s (.string ⟨#[]⟩):V) :: (V.s (.slice none 0 0):V) :: (V.s (.slice none 0 0):V) :: [])]=X:=⟨_,rfl⟩;have ebG:Ext bC14 bG:=hbG ▸ Ext.app _ _;have zbC14:Ext bC14 bG:=ebG;have zbC13:Ext bC13 bG:=ebC14.trans zbC14;have zbC12:Ext bC12 bG:=ebC13.trans zbC13;have zbP7:Ext bP7 bG:=ebC12.trans zbC12;have zbC11:Ext bC11 bG:=ebP7.trans zbP7;have zbC10:Ext bC10 bG:=ebC11.trans zbC11;have zbC9:Ext bC9 bG:=ebC10.trans zbC10;have zbP6:Ext bP6 bG:=ebC9.trans zbC9;have zbC8:Ext bC8 bG:=ebP6.trans zbP6;have zbP5:Ext bP5 bG:=ebC8.trans zbC8;have zbC7:Ext bC7 bG:=ebP5.trans zbP5;have zbP4:Ext bP4 bG:=ebC7.trans zbC7;have zbC6:Ext bC6 bG:=ebP4.trans zbP4;have zbC5:Ext bC5 bG:=ebC6.trans zbC6;have zbP3:Ext bP3 bG:=ebC5.trans zbC5;have zbC4:Ext bC4 bG:=ebP3.trans zbP3;have zbC3:Ext bC3 bG:=ebC4.trans zbC4;have zbC2:Ext bC2 bG:=ebC3.trans zbC3;have zbC1:Ext bC1 bG:=ebC2.trans zbC2;have zbP2:Ext bP2 bG:=ebC1.trans zbC1
 have zbP1:Ext bP1 bG:=ebP2.trans zbP2;have zA0:Ext A bG:=ebP1.trans zbP1
 refine ⟨bC14.length,bG,?_,zA0,aso (R:=[qy ⟨6,⟨#[104]⟩,⟨#[]⟩,⟨#[]⟩,0,⟨#[]⟩,[⟨#[120]⟩,⟨#[110,117,108,108]⟩],[⟨#[97]⟩,⟨#[98]⟩]⟩ (.sl A.length 0 0 2 1) (.sl bP1.length 0 0 2 1),qy ⟨7,⟨#[100]⟩,⟨#[120]⟩,⟨#[]⟩,1,⟨#[]⟩,[],[]⟩ (.s (.slice none 0 0)) (.s (.slice none 0 0)),qy ⟨8,⟨#[108]⟩,⟨#[100]⟩,⟨#[]⟩,0,⟨#[]⟩,[],[]⟩ (.s (.slice none 0 0)) (.s (.slice none 0 0)),qy ⟨9,⟨#[]⟩,⟨#[120]⟩,⟨#[108]⟩,0,⟨#[]⟩,[],[]⟩ (.s (.slice none 0 0)) (.s (.slice none 0 0)),qy ⟨10,⟨#[114]⟩,⟨#[]⟩,⟨#[]⟩,0,⟨#[109,97,105,110]⟩,[⟨#[112]⟩,⟨#[120]⟩],[]⟩ (.sl bC4.length 0 0 2 1) (.s (.slice none 0 0)),qy ⟨10,⟨#[]⟩,⟨#[]⟩,⟨#[]⟩,0,⟨#[109,97,105,110]⟩,[],[]⟩ (.s (.slice none 0 0)) (.s (.slice none 0 0)),qy ⟨11,⟨#[105]⟩,⟨#[102]⟩,⟨#[]⟩,0,⟨#[]⟩,[⟨#[110,117,108,108]⟩],[]⟩ (.sl bC6.length 0 0 1 1) (.s (.slice none 0 0)),qy ⟨11,⟨#[]⟩,⟨#[102]⟩,⟨#[]⟩,0,⟨#[]⟩,[⟨#[97]⟩,⟨#[98]⟩],[]⟩ (.sl bC7.length 0 0 2 1) (.s (.slice none 0 0)),qy ⟨12,⟨#[]⟩,⟨#[]⟩,⟨#[]⟩,0,⟨#[]⟩,[],[⟨#[97]⟩,⟨#[98]⟩]⟩ (.s (.slice none 0 0)) (.sl bC8.length 0 0 2 1),qy ⟨5,⟨#[114,101,116]⟩,⟨#[114,101,116]⟩,⟨#[]⟩,0,⟨#[]⟩,[],[]⟩ (.s (.slice none 0 0)) (.s (.slice none 0 0)),qy ⟨3,⟨#[103,111,116,111]⟩,⟨#[]⟩,⟨#[]⟩,0,⟨#[]⟩,[],[]⟩ (.s (.slice none 0 0)) (.s (.slice none 0 0)),qy ⟨13,⟨#[]⟩,⟨#[]⟩,⟨#[]⟩,0,⟨#[]⟩,[],[⟨#[97]⟩]⟩ (.s (.slice none 0 0)) (.sl bC11.length 0 0 1 1),qy ⟨14,⟨#[]⟩,⟨#[120]⟩,⟨#[]⟩,0,⟨#[]⟩,[],[]⟩ (.s (.slice none 0 0)) (.s (.slice none 0 0)),qy ⟨14,⟨#[]⟩,⟨#[]⟩,⟨#[]⟩,0,⟨#[]⟩,[],[]⟩ (.s (.slice none 0 0)) (.s (.slice none 0 0))]) (hbG ▸ ib bC14 0 _) (azz rfl) rfl rfl (by decide) (a5q.at ⟨⟨.sl A.length 0 0 2 1,.sl bP1.length 0 0 2 1,rfl,aed (gm gbP1 zbP1),aoi _ _ _ _ _,aed (gm gbP2 zbP2),aoi _ _ _ _ _,by decide,by decide⟩,sw _ rfl rfl,sw _ rfl rfl,sw _ rfl rfl,⟨.sl bC4.length 0 0 2 1,.s (.slice none 0 0),rfl,aed (gm gbP3 zbP3),aoi _ _ _ _ _,Rd.nil _,afm,by decide,by decide⟩,sw _ rfl rfl,⟨.sl bC6.length 0 0 1 1,.s (.slice none 0 0),rfl,aed (gm gbP4 zbP4),aoi _ _ _ _ _,Rd.nil _,afm,by decide,by decide⟩,⟨.sl bC7.length 0 0 2 1,.s (.slice none 0 0),rfl,aed (gm gbP5 zbP5),aoi _ _ _ _ _,Rd.nil _,afm,by decide,by decide⟩,⟨.s (.slice none 0 0),.sl bC8.length 0 0 2 1,rfl,Rd.nil _,afm,aed (gm gbP6 zbP6),aoi _ _ _ _ _,by decide,by decide⟩,sw _ rfl rfl,sw _ rfl rfl,⟨.s (.slice none 0 0),.sl bC11.length 0 0 1 1,rfl,Rd.nil _,afm,aed (gm gbP7 zbP7),aoi _ _ _ _ _,by decide,by decide⟩,sw _ rfl rfl,sw _ rfl rfl,trivial⟩)⟩
 simp only [Iz,apj,aa,reduceIte,reduceCtorEq,Nat.reduceEqDiff,Nat.reduceLT,Nat.reduceLeDiff,Nat.reduceBEq,Nat.reduceAdd,Nat.reduceMul,hbP1,hbP2,cbC1,cbC2,cbC3,cbC4,hbP3,cbC5,cbC6,hbP4,cbC7,hbP5,cbC8,hbP6,cbC9,cbC10,cbC11,hbP7,cbC12,cbC13,cbC14,hbG,bq,ed]
end
open Go.AM
section
variable {CT:Nat→Option CFun}
theorem a2f {A P:Heap} (h:A ++ [Ob.cells 0 ((V.s (.string ⟨#[102,117,110,99,32,102,40,41,32,123,32,97,58]⟩):V) :: (V.s (.int .i64 40):V) :: (V.s (.int .i64 1):V) :: (V.s (.int .i64 12):V) :: (V.s (.string ⟨#[102,117,110,99,32,102,40,10,41,32,123]⟩):V) :: (V.s (.int .i64 40):V) :: (V.s (.int .i64 2):V) :: (V.s (.int .i64 1):V) :: (V.s (.string ⟨#[102,117,110,99,32,102,40,41,32,123,10,97,58,10,120,32,61,32,99,111,112,121,10,125]⟩):V) :: (V.s (.int .i64 40):V) :: (V.s (.int .i64 4):V) :: (V.s (.int .i64 1):V) :: (V.s (.string ⟨#[102,117,110,99,32,102,40,41,32,123,10,97,58,10,114,101,116]⟩):V) :: (V.s (.int .i64 41):V) :: (V.s (.int .i64 3):V) :: (V.s (.int .i64 4):V) :: (V.s (.string ⟨#[102,117,110,99,32,102,40,41,32,123,10,120,32,61,32,110,117,108,108,10,125]⟩):V) :: (V.s (.int .i64 40):V) :: (V.s (.int .i64 2):V) :: (V.s (.int .i64 3):V) :: (V.s (.string ⟨#[102,117,110,99]⟩):V) :: (V.s (.int .i64 41):V) :: (V.s (.int .i64 1):V) :: (V.s (.int .i64 5):V) :: (V.s (.string ⟨#[102,117,110,32,102,40,41,32,123]⟩):V) :: (V.s (.int .i64 40):V) :: (V.s (.int .i64 1):V) :: (V.s (.int .i64 1):V) :: (V.s (.string ⟨#[102,117,110,99,32,49,40,41,32,123]⟩):V) :: (V.s (.int .i64 40):V) :: (V.s (.int .i64 1):V) :: (V.s (.int .i64 6):V) :: (V.s (.string ⟨#[102,117,110,99,32,102,40,97,32,98,41,32,123]⟩):V) :: (V.s (.int .i64 40):V) :: (V.s (.int .i64 1):V) :: (V.s (.int .i64 10):V) :: (V.s (.string ⟨#[102,117,110,99,32,102,40,97,44,41,32,123]⟩):V) :: (V.s (.int .i64 40):V) :: (V.s (.int .i64 1):V) :: (V.s (.int .i64 10):V) :: (V.s (.string ⟨#[102,117,110,99,32,102,40,41,10,123]⟩):V) :: (V.s (.int .i64 40):V) :: (V.s (.int .i64 2):V) :: (V.s (.int .i64 1):V) :: (V.s (.string ⟨#[102,117,110,99,32,102,40,41,32,123,10,125,32,125]⟩):V) :: (V.s (.int .i64 40):V) :: (V.s (.int .i64 2):V) :: (V.s (.int .i64 3):V) :: (V.s (.string ⟨#[102,117,110,99,32,102,40,41,32,123,10,125,10,120]⟩):V) :: (V.s (.int .i64 40):V) :: (V.s (.int .i64 3):V) :: (V.s (.int .i64 1):V) :: (V.s (.string ⟨#[102,117,110,99,32,102,40,41,32,123,10,97,58,32,114,101,116,10,125]⟩):V) :: (V.s (.int .i64 40):V) :: (V.s (.int .i64 2):V) :: (V.s (.int .i64 4):V) :: (V.s (.string ⟨#[102,117,110,99,32,102,40,41,32,123,10,97,10,58,10,125]⟩):V) :: (V.s (.int .i64 40):V) :: (V.s (.int .i64 3):V) :: (V.s (.int .i64 1):V) :: (V.s (.string ⟨#[120,10,49,97]⟩):V) :: (V.s (.int .i64 31):V) :: (V.s (.int .i64 2):V) :: (V.s (.int .i64 1):V) :: (V.s (.string ⟨#[102,117,110,99,32,102,40,41,32,123,10,97,58,10,120,32,61,32,99,111,112,121,10,114,101,116,10,125]⟩):V) :: (V.s (.int .i64 40):V) :: (V.s (.int .i64 4):V) :: (V.s (.int .i64 1):V) :: (V.s (.string ⟨#[102,117,110,99,32,102,40,41,32,123,10,97,58,10,98,114,32,97,10,98,10,125]⟩):V) :: (V.s (.int .i64 40):V) :: (V.s (.int .i64 4):V) :: (V.s (.int .i64 1):V) :: (V.s (.string ⟨#[102,117,110,99,32,102,40,41,32,123,10,97,58,10,49,10,125]⟩):V) :: (V.s (.int .i64 40):V) :: (V.s (.int .i64 3):V) :: (V.s (.int .i64 1):V) :: (V.s (.string ⟨#[102,117,110,99,32,102,40,41,32,123,10,97,58,10,40,10,125]⟩):V) :: (V.s (.int .i64 40):V) :: (V.s (.int .i64 3):V) :: (V.s (.int .i64 1):V) :: [])] ++ [Ob.cells 0 [.s (.string ⟨#[120,32,61,32,97,108,108,111,99,97,32,121]⟩),.s (.string ⟨#[120,32,61,32,109,97,108,108,111,99,32,40]⟩),.s (.string ⟨#[120,32,61,32,110,117,108,108,32,121]⟩),.s (.string ⟨#[120,32,61,32,97,100,100,114,32,49]⟩),.s (.string ⟨#[120,32,61,32,99,111,112,121,32,49]⟩),.s (.string ⟨#[120,32,61,32,108,111,97,100,32,41]⟩),.s (.string ⟨#[120,32,61,32,102,105,101,108,100,32,121,32,122]⟩),.s (.string ⟨#[120,32,61,32,112,104,105,32,121]⟩),.s (.string ⟨#[120,32,61,32,112,104,105,32,91,93]⟩),.s (.string ⟨#[120,32,61,32,112,104,105,32,91,97,32,98,93]⟩),.s (.string ⟨#[120,32,61,32,112,104,105,32,91,97,58,32,98,32,99,93]⟩),.s (.string ⟨#[120,32,61,32,112,104,105,32,91,97,58,32,98,44,93]⟩),.s (.string ⟨#[120,32,61,32,112,104,105,32,91,97,58,32,49,93]⟩),.s (.string ⟨#[120,32,61,32,99,97,108,108,32,49]⟩),.s (.string ⟨#[120,32,61,32,99,97,108,108,32,102,32,97]⟩),.s (.string ⟨#[120,32,61,32,99,97,108,108,32,102,40,97,32,98,41]⟩),.s (.string ⟨#[120,32,61,32,105,99,97,108,108,32,102,40,44,41]⟩),.s (.string ⟨#[120,32,61,32,102,111,111,32,121]⟩),.s (.string ⟨#[120,32,61,32,49]⟩),.s (.string ⟨#[99,97,108,108,32,102,32,97]⟩),.s (.string ⟨#[105,99,97,108,108,32,49]⟩),.s (.string ⟨#[115,116,111,114,101,32,97,32,98]⟩),.s (.string ⟨#[115,116,111,114,101,32,97,44,32,49]⟩),.s (.string ⟨#[98,114,32,97,32,49]⟩),.s (.string ⟨#[98,114,32,97,32,98,32,99]⟩),.s (.string ⟨#[103,111,116,111,32,49]⟩),.s (.string ⟨#[103,111,116,111,32,97,32,98]⟩),.s (.string ⟨#[114,101,116,32,49]⟩),.s (.string ⟨#[114,101,116,32,97,32,98]⟩),.s (.string ⟨#[102,111,111,32,98,97,114]⟩),.s (.string ⟨#[102,111,111,32,40]⟩),.s (.string ⟨#[120,32,61,32,114,101,116]⟩),.s (.string ⟨#[120,32,58,32,121]⟩)]] ++ [Ob.cells 0 [.s (.int .i64 12),.s (.int .i64 12),.s (.int .i64 10),.s (.int .i64 10),.s (.int .i64 10),.s (.int .i64 10),.s (.int .i64 13),.s (.int .i64 9),.s (.int .i64 10),.s (.int .i64 12),.s (.int .i64 15),.s (.int .i64 15),.s (.int .i64 13),.s (.int .i64 10),.s (.int .i64 12),.s (.int .i64 14),.s (.int .i64 13),.s (.int .i64 5),.s (.int .i64 5),.s (.int .i64 8),.s (.int .i64 7),.s (.int .i64 9),.s (.int .i64 10),.s (.int .i64 6),.s (.int .i64 8),.s (.int .i64 6),.s (.int .i64 8),.s (.int .i64 5),.s (.int .i64 7),.s (.int .i64 5),.s (.int .i64 5),.s (.int .i64 5),.s (.int .i64 5)]]=P):KnP A.length 0 (.sl A.length 0 0 20 4,P):=by
 have l:P.length=A.length+3:=by rw [← h,iq,iq,iq]
 subst h
 refine ⟨⟨_,_,_,rfl,by omega,by omega⟩,⟨azz rfl,.inr ⟨A.length,0,rfl,?_,ag _⟩⟩,Nat.le_of_eq l.symm,?_,?_⟩
 ·exact gm (gm (ib A 0 _) (Ext.app _ _)) (Ext.app _ _)
 ·exact gm (by have:=ib (A ++ [Ob.cells 0 ((V.s (.string ⟨#[102,117,110,99,32,102,40,41,32,123,32,97,58]⟩):V) :: (V.s (.int .i64 40):V) :: (V.s (.int .i64 1):V) :: (V.s (.int .i64 12):V) :: (V.s (.string ⟨#[102,117,110,99,32,102,40,10,41,32,123]⟩):V) :: (V.s (.int .i64 40):V) :: (V.s (.int .i64 2):V) :: (V.s (.int .i64 1):V) :: (V.s (.string ⟨#[102,117,110,99,32,102,40,41,32,123,10,97,58,10,120,32,61,32,99,111,112,121,10,125]⟩):V) :: (V.s (.int .i64 40):V) :: (V.s (.int .i64 4):V) :: (V.s (.int .i64 1):V) :: (V.s (.string ⟨#[102,117,110,99,32,102,40,41,32,123,10,97,58,10,114,101,116]⟩):V) :: (V.s (.int .i64 41):V) :: (V.s (.int .i64 3):V) :: (V.s (.int .i64 4):V) :: (V.s (.string ⟨#[102,117,110,99,32,102,40,41,32,123,10,120,32,61,32,110,117,108,108,10,125]⟩):V) :: (V.s (.int .i64 40):V) :: (V.s (.int .i64 2):V) :: (V.s (.int .i64 3):V) :: (V.s (.string ⟨#[102,117,110,99]⟩):V) :: (V.s (.int .i64 41):V) :: (V.s (.int .i64 1):V) :: (V.s (.int .i64 5):V) :: (V.s (.string ⟨#[102,117,110,32,102,40,41,32,123]⟩):V) :: (V.s (.int .i64 40):V) :: (V.s (.int .i64 1):V) :: (V.s (.int .i64 1):V) :: (V.s (.string ⟨#[102,117,110,99,32,49,40,41,32,123]⟩):V) :: (V.s (.int .i64 40):V) :: (V.s (.int .i64 1):V) :: (V.s (.int .i64 6):V) :: (V.s (.string ⟨#[102,117,110,99,32,102,40,97,32,98,41,32,123]⟩):V) :: (V.s (.int .i64 40):V) :: (V.s (.int .i64 1):V) :: (V.s (.int .i64 10):V) :: (V.s (.string ⟨#[102,117,110,99,32,102,40,97,44,41,32,123]⟩):V) :: (V.s (.int .i64 40):V) :: (V.s (.int .i64 1):V) :: (V.s (.int .i64 10):V) :: (V.s (.string ⟨#[102,117,110,99,32,102,40,41,10,123]⟩):V) :: (V.s (.int .i64 40):V) :: (V.s (.int .i64 2):V) :: (V.s (.int .i64 1):V) :: (V.s (.string ⟨#[102,117,110,99,32,102,40,41,32,123,10,125,32,125]⟩):V) :: (V.s (.int .i64 40):V) :: (V.s (.int .i64 2):V) :: (V.s (.int .i64 3):V) :: (V.s (.string ⟨#[102,117,110,99,32,102,40,41,32,123,10,125,10,120]⟩):V) :: (V.s (.int .i64 40):V) :: (V.s (.int .i64 3):V) :: (V.s (.int .i64 1):V) :: (V.s (.string ⟨#[102,117,110,99,32,102,40,41,32,123,10,97,58,32,114,101,116,10,125]⟩):V) :: (V.s (.int .i64 40):V) :: (V.s (.int .i64 2):V) :: (V.s (.int .i64 4):V) :: (V.s (.string ⟨#[102,117,110,99,32,102,40,41,32,123,10,97,10,58,10,125]⟩):V) :: (V.s (.int .i64 40):V) :: (V.s (.int .i64 3):V) :: (V.s (.int .i64 1):V) :: (V.s (.string ⟨#[120,10,49,97]⟩):V) :: (V.s (.int .i64 31):V) :: (V.s (.int .i64 2):V) :: (V.s (.int .i64 1):V) :: (V.s (.string ⟨#[102,117,110,99,32,102,40,41,32,123,10,97,58,10,120,32,61,32,99,111,112,121,10,114,101,116,10,125]⟩):V) :: (V.s (.int .i64 40):V) :: (V.s (.int .i64 4):V) :: (V.s (.int .i64 1):V) :: (V.s (.string ⟨#[102,117,110,99,32,102,40,41,32,123,10,97,58,10,98,114,32,97,10,98,10,125]⟩):V) :: (V.s (.int .i64 40):V) :: (V.s (.int .i64 4):V) :: (V.s (.int .i64 1):V) :: (V.s (.string ⟨#[102,117,110,99,32,102,40,41,32,123,10,97,58,10,49,10,125]⟩):V) :: (V.s (.int .i64 40):V) :: (V.s (.int .i64 3):V) :: (V.s (.int .i64 1):V) :: (V.s (.string ⟨#[102,117,110,99,32,102,40,41,32,123,10,97,58,10,40,10,125]⟩):V) :: (V.s (.int .i64 40):V) :: (V.s (.int .i64 3):V) :: (V.s (.int .i64 1):V) :: [])]) 0 [.s (.string ⟨#[120,32,61,32,97,108,108,111,99,97,32,121]⟩),.s (.string ⟨#[120,32,61,32,109,97,108,108,111,99,32,40]⟩),.s (.string ⟨#[120,32,61,32,110,117,108,108,32,121]⟩),.s (.string ⟨#[120,32,61,32,97,100,100,114,32,49]⟩),.s (.string ⟨#[120,32,61,32,99,111,112,121,32,49]⟩),.s (.string ⟨#[120,32,61,32,108,111,97,100,32,41]⟩),.s (.string ⟨#[120,32,61,32,102,105,101,108,100,32,121,32,122]⟩),.s (.string ⟨#[120,32,61,32,112,104,105,32,121]⟩),.s (.string ⟨#[120,32,61,32,112,104,105,32,91,93]⟩),.s (.string ⟨#[120,32,61,32,112,104,105,32,91,97,32,98,93]⟩),.s (.string ⟨#[120,32,61,32,112,104,105,32,91,97,58,32,98,32,99,93]⟩),.s (.string ⟨#[120,32,61,32,112,104,105,32,91,97,58,32,98,44,93]⟩),.s (.string ⟨#[120,32,61,32,112,104,105,32,91,97,58,32,49,93]⟩),.s (.string ⟨#[120,32,61,32,99,97,108,108,32,49]⟩),.s (.string ⟨#[120,32,61,32,99,97,108,108,32,102,32,97]⟩),.s (.string ⟨#[120,32,61,32,99,97,108,108,32,102,40,97,32,98,41]⟩),.s (.string ⟨#[120,32,61,32,105,99,97,108,108,32,102,40,44,41]⟩),.s (.string ⟨#[120,32,61,32,102,111,111,32,121]⟩),.s (.string ⟨#[120,32,61,32,49]⟩),.s (.string ⟨#[99,97,108,108,32,102,32,97]⟩),.s (.string ⟨#[105,99,97,108,108,32,49]⟩),.s (.string ⟨#[115,116,111,114,101,32,97,32,98]⟩),.s (.string ⟨#[115,116,111,114,101,32,97,44,32,49]⟩),.s (.string ⟨#[98,114,32,97,32,49]⟩),.s (.string ⟨#[98,114,32,97,32,98,32,99]⟩),.s (.string ⟨#[103,111,116,111,32,49]⟩),.s (.string ⟨#[103,111,116,111,32,97,32,98]⟩),.s (.string ⟨#[114,101,116,32,49]⟩),.s (.string ⟨#[114,101,116,32,97,32,98]⟩),.s (.string ⟨#[102,111,111,32,98,97,114]⟩),.s (.string ⟨#[102,111,111,32,40]⟩),.s (.string ⟨#[120,32,61,32,114,101,116]⟩),.s (.string ⟨#[120,32,58,32,121]⟩)];rwa [iq] at this) (Ext.app _ _)
 ·have:=ib (A ++ [Ob.cells 0 ((V.s (.string ⟨#[102,117,110,99,32,102,40,41,32,123,32,97,58]⟩):V) :: (V.s (.int .i64 40):V) :: (V.s (.int .i64 1):V) :: (V.s (.int .i64 12):V) :: (V.s (.string ⟨#[102,117,110,99,32,102,40,10,41,32,123]⟩):V) :: (V.s (.int .i64 40):V) :: (V.s (.int .i64 2):V) :: (V.s (.int .i64 1):V) :: (V.s (.string ⟨#[102,117,110,99,32,102,40,41,32,123,10,97,58,10,120,32,61,32,99,111,112,121,10,125]⟩):V) :: (V.s (.int .i64 40):V) :: (V.s (.int .i64 4):V) :: (V.s (.int .i64 1):V) :: (V.s (.string ⟨#[102,117,110,99,32,102,40,41,32,123,10,97,58,10,114,101,116]⟩):V) :: (V.s (.int .i64 41):V) :: (V.s (.int .i64 3):V) :: (V.s (.int .i64 4):V) :: (V.s (.string ⟨#[102,117,110,99,32,102,40,41,32,123,10,120,32,61,32,110,117,108,108,10,125]⟩):V) :: (V.s (.int .i64 40):V) :: (V.s (.int .i64 2):V) :: (V.s (.int .i64 3):V) :: (V.s (.string ⟨#[102,117,110,99]⟩):V) :: (V.s (.int .i64 41):V) :: (V.s (.int .i64 1):V) :: (V.s (.int .i64 5):V) :: (V.s (.string ⟨#[102,117,110,32,102,40,41,32,123]⟩):V) :: (V.s (.int .i64 40):V) :: (V.s (.int .i64 1):V) :: (V.s (.int .i64 1):V) :: (V.s (.string ⟨#[102,117,110,99,32,49,40,41,32,123]⟩):V) :: (V.s (.int .i64 40):V) :: (V.s (.int .i64 1):V) :: (V.s (.int .i64 6):V) :: (V.s (.string ⟨#[102,117,110,99,32,102,40,97,32,98,41,32,123]⟩):V) :: (V.s (.int .i64 40):V) :: (V.s (.int .i64 1):V) :: (V.s (.int .i64 10):V) :: (V.s (.string ⟨#[102,117,110,99,32,102,40,97,44,41,32,123]⟩):V) :: (V.s (.int .i64 40):V) :: (V.s (.int .i64 1):V) :: (V.s (.int .i64 10):V) :: (V.s (.string ⟨#[102,117,110,99,32,102,40,41,10,123]⟩):V) :: (V.s (.int .i64 40):V) :: (V.s (.int .i64 2):V) :: (V.s (.int .i64 1):V) :: (V.s (.string ⟨#[102,117,110,99,32,102,40,41,32,123,10,125,32,125]⟩):V) :: (V.s (.int .i64 40):V) :: (V.s (.int .i64 2):V) :: (V.s (.int .i64 3):V) :: (V.s (.string ⟨#[102,117,110,99,32,102,40,41,32,123,10,125,10,120]⟩):V) :: (V.s (.int .i64 40):V) :: (V.s (.int .i64 3):V) :: (V.s (.int .i64 1):V) :: (V.s (.string ⟨#[102,117,110,99,32,102,40,41,32,123,10,97,58,32,114,101,116,10,125]⟩):V) :: (V.s (.int .i64 40):V) :: (V.s (.int .i64 2):V) :: (V.s (.int .i64 4):V) :: (V.s (.string ⟨#[102,117,110,99,32,102,40,41,32,123,10,97,10,58,10,125]⟩):V) :: (V.s (.int .i64 40):V) :: (V.s (.int .i64 3):V) :: (V.s (.int .i64 1):V) :: (V.s (.string ⟨#[120,10,49,97]⟩):V) :: (V.s (.int .i64 31):V) :: (V.s (.int .i64 2):V) :: (V.s (.int .i64 1):V) :: (V.s (.string ⟨#[102,117,110,99,32,102,40,41,32,123,10,97,58,10,120,32,61,32,99,111,112,121,10,114,101,116,10,125]⟩):V) :: (V.s (.int .i64 40):V) :: (V.s (.int .i64 4):V) :: (V.s (.int .i64 1):V) :: (V.s (.string ⟨#[102,117,110,99,32,102,40,41,32,123,10,97,58,10,98,114,32,97,10,98,10,125]⟩):V) :: (V.s (.int .i64 40):V) :: (V.s (.int .i64 4):V) :: (V.s (.int .i64 1):V) :: (V.s (.string ⟨#[102,117,110,99,32,102,40,41,32,123,10,97,58,10,49,10,125]⟩):V) :: (V.s (.int .i64 40):V) :: (V.s (.int .i64 3):V) :: (V.s (.int .i64 1):V) :: (V.s (.string ⟨#[102,117,110,99,32,102,40,41,32,123,10,97,58,10,40,10,125]⟩):V) :: (V.s (.int .i64 40):V) :: (V.s (.int .i64 3):V) :: (V.s (.int .i64 1):V) :: [])] ++ [Ob.cells 0 [.s (.string ⟨#[120,32,61,32,97,108,108,111,99,97,32,121]⟩),.s (.string ⟨#[120,32,61,32,109,97,108,108,111,99,32,40]⟩),.s (.string ⟨#[120,32,61,32,110,117,108,108,32,121]⟩),.s (.string ⟨#[120,32,61,32,97,100,100,114,32,49]⟩),.s (.string ⟨#[120,32,61,32,99,111,112,121,32,49]⟩),.s (.string ⟨#[120,32,61,32,108,111,97,100,32,41]⟩),.s (.string ⟨#[120,32,61,32,102,105,101,108,100,32,121,32,122]⟩),.s (.string ⟨#[120,32,61,32,112,104,105,32,121]⟩),.s (.string ⟨#[120,32,61,32,112,104,105,32,91,93]⟩),.s (.string ⟨#[120,32,61,32,112,104,105,32,91,97,32,98,93]⟩),.s (.string ⟨#[120,32,61,32,112,104,105,32,91,97,58,32,98,32,99,93]⟩),.s (.string ⟨#[120,32,61,32,112,104,105,32,91,97,58,32,98,44,93]⟩),.s (.string ⟨#[120,32,61,32,112,104,105,32,91,97,58,32,49,93]⟩),.s (.string ⟨#[120,32,61,32,99,97,108,108,32,49]⟩),.s (.string ⟨#[120,32,61,32,99,97,108,108,32,102,32,97]⟩),.s (.string ⟨#[120,32,61,32,99,97,108,108,32,102,40,97,32,98,41]⟩),.s (.string ⟨#[120,32,61,32,105,99,97,108,108,32,102,40,44,41]⟩),.s (.string ⟨#[120,32,61,32,102,111,111,32,121]⟩),.s (.string ⟨#[120,32,61,32,49]⟩),.s (.string ⟨#[99,97,108,108,32,102,32,97]⟩),.s (.string ⟨#[105,99,97,108,108,32,49]⟩),.s (.string ⟨#[115,116,111,114,101,32,97,32,98]⟩),.s (.string ⟨#[115,116,111,114,101,32,97,44,32,49]⟩),.s (.string ⟨#[98,114,32,97,32,49]⟩),.s (.string ⟨#[98,114,32,97,32,98,32,99]⟩),.s (.string ⟨#[103,111,116,111,32,49]⟩),.s (.string ⟨#[103,111,116,111,32,97,32,98]⟩),.s (.string ⟨#[114,101,116,32,49]⟩),.s (.string ⟨#[114,101,116,32,97,32,98]⟩),.s (.string ⟨#[102,111,111,32,98,97,114]⟩),.s (.string ⟨#[102,111,111,32,40]⟩),.s (.string ⟨#[120,32,61,32,114,101,116]⟩),.s (.string ⟨#[120,32,58,32,121]⟩)]]) 0 [.s (.int .i64 12),.s (.int .i64 12),.s (.int .i64 10),.s (.int .i64 10),.s (.int .i64 10),.s (.int .i64 10),.s (.int .i64 13),.s (.int .i64 9),.s (.int .i64 10),.s (.int .i64 12),.s (.int .i64 15),.s (.int .i64 15),.s (.int .i64 13),.s (.int .i64 10),.s (.int .i64 12),.s (.int .i64 14),.s (.int .i64 13),.s (.int .i64 5),.s (.int .i64 5),.s (.int .i64 8),.s (.int .i64 7),.s (.int .i64 9),.s (.int .i64 10),.s (.int .i64 6),.s (.int .i64 8),.s (.int .i64 6),.s (.int .i64 8),.s (.int .i64 5),.s (.int .i64 7),.s (.int .i64 5),.s (.int .i64 5),.s (.int .i64 5),.s (.int .i64 5)]
  rwa [iq,iq] at this
set_option maxHeartbeats 4000000 in
theorem ax8 (hP:aha CT) (hS:SamT CT) (hR:CT a7w=some (.code aln)) (hI:CT ayk=some (.code ahs)) (hT:CT k_f7=some (.code auj)) (base:Nat) {A:Heap} (hbA:base≤A.length):
 ∃ H',dn CT (.fn k_f7 [] []) [] base A=some (.s (.bool true),H'):=by
 obtain ⟨P1,hP1⟩:∃ X,A ++ [Ob.cells 0 ((V.s (.string ⟨#[102,117,110,99,32,102,40,41,32,123,32,97,58]⟩):V) :: (V.s (.int .i64 40):V) :: (V.s (.int .i64 1):V) :: (V.s (.int .i64 12):V) :: (V.s (.string ⟨#[102,117,110,99,32,102,40,10,41,32,123]⟩):V) :: (V.s (.int .i64 40):V) :: (V.s (.int .i64 2):V) :: (V.s (.int .i64 1):V) :: (V.s (.string ⟨#[102,117,110,99,32,102,40,41,32,123,10,97,58,10,120,32,61,32,99,111,112,121,10,125]⟩):V) :: (V.s (.int .i64 40):V) :: (V.s (.int .i64 4):V) :: (V.s (.int .i64 1):V) :: (V.s (.string ⟨#[102,117,110,99,32,102,40,41,32,123,10,97,58,10,114,101,116]⟩):V) :: (V.s (.int .i64 41):V) :: (V.s (.int .i64 3):V) :: (V.s (.int .i64 4):V) :: (V.s (.string ⟨#[102,117,110,99,32,102,40,41,32,123,10,120,32,61,32,110,117,108,108,10,125]⟩):V) :: (V.s (.int .i64 40):V) :: (V.s (.int .i64 2):V) :: (V.s (.int .i64 3):V) :: (V.s (.string ⟨#[102,117,110,99]⟩):V) :: (V.s (.int .i64 41):V) :: (V.s (.int .i64 1):V) :: (V.s (.int .i64 5):V) :: (V.s (.string ⟨#[102,117,110,32,102,40,41,32,123]⟩):V) :: (V.s (.int .i64 40):V) :: (V.s (.int .i64 1):V) :: (V.s (.int .i64 1):V) :: (V.s (.string ⟨#[102,117,110,99,32,49,40,41,32,123]⟩):V) :: (V.s (.int .i64 40):V) :: (V.s (.int .i64 1):V) :: (V.s (.int .i64 6):V) :: (V.s (.string ⟨#[102,117,110,99,32,102,40,97,32,98,41,32,123]⟩):V) :: (V.s (.int .i64 40):V) :: (V.s (.int .i64 1):V) :: (V.s (.int .i64 10):V) :: (V.s (.string ⟨#[102,117,110,99,32,102,40,97,44,41,32,123]⟩):V) :: (V.s (.int .i64 40):V) :: (V.s (.int .i64 1):V) :: (V.s (.int .i64 10):V) :: (V.s (.string ⟨#[102,117,110,99,32,102,40,41,10,123]⟩):V) :: (V.s (.int .i64 40):V) :: (V.s (.int .i64 2):V) :: (V.s (.int .i64 1):V) :: (V.s (.string ⟨#[102,117,110,99,32,102,40,41,32,123,10,125,32,125]⟩):V) :: (V.s (.int .i64 40):V) :: (V.s (.int .i64 2):V) :: (V.s (.int .i64 3):V) :: (V.s (.string ⟨#[102,117,110,99,32,102,40,41,32,123,10,125,10,120]⟩):V) :: (V.s (.int .i64 40):V) :: (V.s (.int .i64 3):V) :: (V.s (.int .i64 1):V) :: (V.s (.string ⟨#[102,117,110,99,32,102,40,41,32,123,10,97,58,32,114,101,116,10,125]⟩):V) :: (V.s (.int .i64 40):V) :: (V.s (.int .i64 2):V) :: (V.s (.int .i64 4):V) :: (V.s (.string ⟨#[102,117,110,99,32,102,40,41,32,123,10,97,10,58,10,125]⟩):V) :: (V.s (.int .i64 40):V) :: (V.s (.int .i64 3):V) :: (V.s (.int .i64 1):V) :: (V.s (.string ⟨#[120,10,49,97]⟩):V) :: (V.s (.int .i64 31):V) :: (V.s (.int .i64 2):V) :: (V.s (.int .i64 1):V) :: (V.s (.string ⟨#[102,117,110,99,32,102,40,41,32,123,10,97,58,10,120,32,61,32,99,111,112,121,10,114,101,116,10,125]⟩):V) :: (V.s (.int .i64 40):V) :: (V.s (.int .i64 4):V) :: (V.s (.int .i64 1):V) :: (V.s (.string ⟨#[102,117,110,99,32,102,40,41,32,123,10,97,58,10,98,114,32,97,10,98,10,125]⟩):V) :: (V.s (.int .i64 40):V) :: (V.s (.int .i64 4):V) :: (V.s (.int .i64 1):V) :: (V.s (.string ⟨#[102,117,110,99,32,102,40,41,32,123,10,97,58,10,49,10,125]⟩):V) :: (V.s (.int .i64 40):V) :: (V.s (.int .i64 3):V) :: (V.s (.int .i64 1):V) :: (V.s (.string ⟨#[102,117,110,99,32,102,40,41,32,123,10,97,58,10,40,10,125]⟩):V) :: (V.s (.int .i64 40):V) :: (V.s (.int .i64 3):V) :: (V.s (.int .i64 1):V) :: [])]=X:=⟨_,rfl⟩;obtain ⟨P2,hP2⟩:∃ X,P1 ++ [Ob.cells 0 [.s (.string ⟨#[120,32,61,32,97,108,108,111,99,97,32,121]⟩),.s (.string ⟨#[120,32,61,32,109,97,108,108,111,99,32,40]⟩),.s (.string ⟨#[120,32,61,32,110,117,108,108,32,121]⟩),.s (.string ⟨#[120,32,61,32,97,100,100,114,32,49]⟩),.s (.string ⟨#[120,32,61,32,99,111,112,121,32,49]⟩),.s (.string ⟨#[120,32,61,32,108,111,97,100,32,41]⟩),.s (.string ⟨#[120,32,61,32,102,105,101,108,100,32,121,32,122]⟩),.s (.string ⟨#[120,32,61,32,112,104,105,32,121]⟩),.s (.string ⟨#[120,32,61,32,112,104,105,32,91,93]⟩),.s (.string ⟨#[120,32,61,32,112,104,105,32,91,97,32,98,93]⟩),.s (.string ⟨#[120,32,61,32,112,104,105,32,91,97,58,32,98,32,99,93]⟩),.s (.string ⟨#[120,32,61,32,112,104,105,32,91,97,58,32,98,44,93]⟩),.s (.string ⟨#[120,32,61,32,112,104,105,32,91,97,58,32,49,93]⟩),.s (.string ⟨#[120,32,61,32,99,97,108,108,32,49]⟩),.s (.string ⟨#[120,32,61,32,99,97,108,108,32,102,32,97]⟩),.s (.string ⟨#[120,32,61,32,99,97,108,108,32,102,40,97,32,98,41]⟩),.s (.string ⟨#[120,32,61,32,105,99,97,108,108,32,102,40,44,41]⟩),.s (.string ⟨#[120,32,61,32,102,111,111,32,121]⟩),.s (.string ⟨#[120,32,61,32,49]⟩),.s (.string ⟨#[99,97,108,108,32,102,32,97]⟩),.s (.string ⟨#[105,99,97,108,108,32,49]⟩),.s (.string ⟨#[115,116,111,114,101,32,97,32,98]⟩),.s (.string ⟨#[115,116,111,114,101,32,97,44,32,49]⟩),.s (.string ⟨#[98,114,32,97,32,49]⟩),.s (.string ⟨#[98,114,32,97,32,98,32,99]⟩),.s (.string ⟨#[103,111,116,111,32,49]⟩),.s (.string ⟨#[103,111,116,111,32,97,32,98]⟩),.s (.string ⟨#[114,101,116,32,49]⟩),.s (.string ⟨#[114,101,116,32,97,32,98]⟩),.s (.string ⟨#[102,111,111,32,98,97,114]⟩),.s (.string ⟨#[102,111,111,32,40]⟩),.s (.string ⟨#[120,32,61,32,114,101,116]⟩),.s (.string ⟨#[120,32,58,32,121]⟩)]]=X:=⟨_,rfl⟩
 obtain ⟨P3,hP3⟩:∃ X,P2 ++ [Ob.cells 0 [.s (.int .i64 12),.s (.int .i64 12),.s (.int .i64 10),.s (.int .i64 10),.s (.int .i64 10),.s (.int .i64 10),.s (.int .i64 13),.s (.int .i64 9),.s (.int .i64 10),.s (.int .i64 12),.s (.int .i64 15),.s (.int .i64 15),.s (.int .i64 13),.s (.int .i64 10),.s (.int .i64 12),.s (.int .i64 14),.s (.int .i64 13),.s (.int .i64 5),.s (.int .i64 5),.s (.int .i64 8),.s (.int .i64 7),.s (.int .i64 9),.s (.int .i64 10),.s (.int .i64 6),.s (.int .i64 8),.s (.int .i64 6),.s (.int .i64 8),.s (.int .i64 5),.s (.int .i64 7),.s (.int .i64 5),.s (.int .i64 5),.s (.int .i64 5),.s (.int .i64 5)]]=X:=⟨_,rfl⟩
 have l1:P1.length=A.length+1:=by rw [← hP1,iq]
 have l2:P2.length=A.length+2:=by rw [← hP2,iq,l1]
 have l3:P3.length=A.length+3:=by rw [← hP3,iq,l2]
 obtain ⟨v,D0,i0,q0⟩:=kn_l0 (CT:=CT) base hbA (a2f (A:=A) (P:=P3) (by rw [hP1,hP2,hP3]))
 obtain ⟨_,q2,q3,_,_⟩:=q0;dsimp only at q2 q3
 rw [yw (by rw [aya];exact ag _)] at q2
 obtain ⟨D1,i1,x1⟩:=kn_l1 hP base (F:=D0) (by omega) q2.rd
 have y1:=x1.le
 obtain ⟨pv,B1,B2,ea,hB2,xa,ba,ba1,la,la0,oa,ra,ga,ga1⟩:=alv hP base (H:=D1) (by omega) knT a7k
 dsimp only at ea hB2 ra ga ga1;have z00:((0:Nat):Int)=0:=rfl;simp only [z00] at ea hB2 ga1
 have sB:B2.set (B1.length+1) (.cells 0 [.s (.int .i64 0),.s (.int .i64 0)])=B2:=by rw [← hB2];exact bx4 _ _ _ _
 have ya:=xa.le
 obtain ⟨j1,G1,e16,z16,r16⟩:=bbw hI base (A:=B2) (by omega) (u9:=.ref B1.length 0 0) (u13:=und) (n11:=0)
 have y16:=z16.le
 obtain ⟨j2,G2,e17,z17,r17⟩:=bbv hI base (A:=G1) (by omega) (u9:=.ref B1.length 0 0) (u13:=.sl j1 0 0 5 8) (n11:=0)
 have y17:=z17.le;obtain ⟨Q1,hQ1⟩:∃ X,G2 ++ [Ob.cells 0 [.s (.string ⟨#[112]⟩),.s (.string ⟨#[113]⟩)]]=X:=⟨_,rfl⟩;obtain ⟨Q2,hQ2⟩:∃ X,Q1 ++ [Ob.cells 0 [.s (.string ⟨#[97]⟩),.sl j1 0 0 5 8,.s (.string ⟨#[98]⟩),.sl j2 0 0 14 8,.s (.string ⟨#[114,101,116]⟩),.s (.slice none 0 0)]]=X:=⟨_,rfl⟩;obtain ⟨Q3,hQ3⟩:∃ X,Q2 ++ [Ob.cells 0 [.s (.string ⟨#[109,97,105,110]⟩),.sl G2.length 0 0 2 1,.sl Q1.length 0 0 3 2,.s (.string ⟨#[110,117,108,108]⟩),.s (.slice none 0 0),.s (.slice none 0 0)]]=X:=⟨_,rfl⟩;obtain ⟨Q4,hQ4⟩:∃ X,Q3 ++ [Ob.cells 0 [.s (.slice none 0 0)]]=X:=⟨_,rfl⟩;obtain ⟨Q5,hQ5⟩:∃ X,Q3 ++ [Ob.cells 0 [.sl Q2.length 0 0 2 3]]=X:=⟨_,rfl⟩
 have n1:Q1.length=G2.length+1:=by rw [← hQ1,iq]
 have n2:Q2.length=G2.length+2:=by rw [← hQ2,iq,n1]
 have n3:Q3.length=G2.length+3:=by rw [← hQ3,iq,n2]
 have n5:Q5.length=G2.length+4:=by rw [← hQ5,iq,n3]
 have k1:Ext G2 Q1:=hQ1 ▸ Ext.app _ _;have k2:Ext Q1 Q2:=hQ2 ▸ Ext.app _ _;have k3:Ext Q2 Q3:=hQ3 ▸ Ext.app _ _;have k5:Ext Q3 Q5:=hQ5 ▸ Ext.app _ _;have g4:getC Q4 Q3.length 0=some [.s (.slice none 0 0)]:=hQ4 ▸ ib Q3 0 _
 have s4:Q4.set Q3.length (Ob.cells 0 [.sl Q2.length 0 0 2 3])=Q5:=by rw [← hQ4,p8,hQ5]
 have f25:Ext Q2 Q5:=k3.trans k5;have f15:Ext Q1 Q5:=k2.trans f25;have fG5:Ext G2 Q5:=k1.trans f15;have w1:getC Q5 G2.length 0=some [.s (.string ⟨#[112]⟩),.s (.string ⟨#[113]⟩)]:=gm (hQ1 ▸ ib G2 0 _) f15;have w2:getC Q5 Q1.length 0=some [.s (.string ⟨#[97]⟩),.sl j1 0 0 5 8,.s (.string ⟨#[98]⟩),.sl j2 0 0 14 8,.s (.string ⟨#[114,101,116]⟩),.s (.slice none 0 0)]:=gm (hQ2 ▸ ib Q1 0 _) f25;have w3:getC Q5 Q2.length 0=some [.s (.string ⟨#[109,97,105,110]⟩),.sl G2.length 0 0 2 1,.sl Q1.length 0 0 3 2,.s (.string ⟨#[110,117,108,108]⟩),.s (.slice none 0 0),.s (.slice none 0 0)]:=gm (hQ3 ▸ ib Q2 0 _) k5;have w5:getC Q5 Q3.length 0=some [.sl Q2.length 0 0 2 3]:=hQ5 ▸ ib Q3 0 _;have c1:=ada r16 (z17.trans fG5);have c2:=ada r17 fG5
 have blks:RdL 2 ae6 Q5 (.sl Q1.length 0 0 3 2) [⟨⟨#[97]⟩,knI1⟩,⟨⟨#[98]⟩,knI2⟩,⟨⟨#[114,101,116]⟩,[]⟩]:=aso (R:=[[.s (.string ⟨#[97]⟩),.sl j1 0 0 5 8],[.s (.string ⟨#[98]⟩),.sl j2 0 0 14 8],[.s (.string ⟨#[114,101,116]⟩),mf]]) w2 (azz rfl) rfl rfl (by decide) (a5q.at ⟨⟨_,rfl,c1⟩,⟨_,rfl,c2⟩,⟨_,rfl,aw1 _ _ _⟩,trivial⟩)
 have prog:aal Q5 (.sl Q2.length 0 0 2 3) knF:=aso (R:=[[.s (.string ⟨#[109,97,105,110]⟩),.sl G2.length 0 0 2 1,.sl Q1.length 0 0 3 2],[.s (.string ⟨#[110,117,108,108]⟩),mf,mf]]) w3 (azz rfl) rfl rfl (by decide) (a5q.at ⟨⟨_,_,rfl,aed w1,aoi _ _ _ _ _,by decide,blks⟩,⟨_,_,rfl,Rd.nil _,afm,by decide,aw1 _ _ _⟩,trivial⟩)
 obtain ⟨pw,R1,R2,eb,hR2,xb,bb,bb1,lb,lb0,ob,rb,gb,gb1⟩:=alv hP base (H:=Q5) (by omega) knN a7l
 dsimp only at eb hR2 rb gb gb1;simp only [z00] at eb hR2 gb1
 have sR:R2.set (R1.length+1) (.cells 0 [.s (.int .i64 0),.s (.int .i64 0)])=R2:=by rw [← hR2];exact bx4 _ _ _ _
 have yb:=xb.le;have x25:Ext B2 R2:=z16.trans (z17.trans (fG5.trans xb))
 obtain ⟨S1,sm,xs⟩:=awj hS base (A:=R2) (by omega) (RdL.ext (P:=aec) aec.ext ra x25) (RdL.ext (P:=aec) aec.ext prog xb)
 have ys:=xs.le
 obtain ⟨S2,rd,xr⟩:=aw0 hP hR base (A:=S1) (by omega)
 refine ⟨S2,nk (c:=auj) hT (by simp [auj]) ?_⟩
 have e0:evC (dn CT) itW base (.regionE R7_0 K7_0 []) (fq auj.ntmps (pg auj.ntmps ([] ++ [] ++ []) 0)) A=some (.nrm,fq 204 [],A):=by
  simp only [auj,apj,aa,reduceIte,reduceCtorEq,Nat.reduceEqDiff,Nat.reduceLT,Nat.reduceLeDiff,Nat.reduceBEq,Nat.reduceAdd,Nat.reduceMul]
 have e1:evC (dn CT) itW base (.region R7_1 [] [19,20,21,22,23,24,25,26,27,28,29,30,31,32,33,34,35,36,37,38,39]) (fq 204 []) A=some (.nrm,fq 204 [(1,.sl A.length 0 0 20 4)],P1):=by
  simp only [apj,aa,reduceIte,reduceCtorEq,Nat.reduceEqDiff,Nat.reduceLT,Nat.reduceLeDiff,Nat.reduceBEq,Nat.reduceAdd,Nat.reduceMul,hP1]
 have e2:evC (dn CT) itW base (.region R7_2 [] [40]) (fq 204 [(1,.sl A.length 0 0 20 4)]) P1=some (.nrm,fq 204 [(1,.sl A.length 0 0 20 4),(2,.sl (A.length+1) 0 0 33 1)],P2):=by
  simp only [apj,aa,reduceIte,reduceCtorEq,Nat.reduceEqDiff,Nat.reduceLT,Nat.reduceLeDiff,Nat.reduceBEq,Nat.reduceAdd,Nat.reduceMul,hP2,l1]
 have e3:evC (dn CT) itW base (.region R7_3 [] [41]) (fq 204 [(1,.sl A.length 0 0 20 4),(2,.sl (A.length+1) 0 0 33 1)]) P2=some (.nrm,fq 204 [(1,.sl A.length 0 0 20 4),(2,.sl (A.length+1) 0 0 33 1),(3,.sl (A.length+2) 0 0 33 1)],P3):=by
  simp only [apj,aa,reduceIte,reduceCtorEq,Nat.reduceEqDiff,Nat.reduceLT,Nat.reduceLeDiff,Nat.reduceBEq,Nat.reduceAdd,Nat.reduceMul,hP3,l2]
 simp only [Iz,bl] at i0 i1 e16 e17
 have e4:evC (dn CT) itW base (.seq (.regionE R7_4 [] [4]) (.block 0 (.loop [] aiq))) (fq 204 [(1,.sl A.length 0 0 20 4),(2,.sl (A.length+1) 0 0 33 1),(3,.sl (A.length+2) 0 0 33 1)]) P3=some (.nrm,fq 204 [(1,v),(2,.sl (A.length+1) 0 0 33 1),(3,.sl (A.length+2) 0 0 33 1),(4,.s (.int .i64 33)),(45,.s (.bool false))],D0):=by
  simp only [apj,aa,reduceIte,reduceCtorEq,Nat.reduceEqDiff,Nat.reduceLT,Nat.reduceLeDiff,Nat.reduceBEq,Nat.reduceAdd,Nat.reduceMul,l3,i0]
 have e8:evC (dn CT) itW base (.seq (.regionE R7_8 [2,3,4,45] [5]) (.block 2 (.loop [] aio))) (fq 204 [(1,v),(2,.sl (A.length+1) 0 0 33 1),(3,.sl (A.length+2) 0 0 33 1),(4,.s (.int .i64 33)),(45,.s (.bool false))]) D0=some (.nrm,fq 204 [(1,v),(5,.s (.int .i64 53)),(65,.s (.bool false))],D1):=by
  simp only [apj,aa,reduceIte,reduceCtorEq,Nat.reduceEqDiff,Nat.reduceLT,Nat.reduceLeDiff,Nat.reduceBEq,Nat.reduceAdd,Nat.reduceMul,i1]
 have e14:evC (dn CT) itW base (.region R7_14 [] [1,5,10,65,111,112,113,114,115]) (fq 204 [(1,v),(5,.s (.int .i64 53)),(65,.s (.bool false))]) D1=some (.nrm,fq 204 [(9,.ref B1.length 0 0),(11,.s (.int .i64 0))],B2):=by
  simp only [knT] at ea;simp only [Iz,Sb,bl,apj,aa,reduceIte,reduceCtorEq,Nat.reduceEqDiff,Nat.reduceLT,Nat.reduceLeDiff,Nat.reduceBEq,Nat.reduceAdd,Nat.reduceMul,ea,bx1,bx2,bx3,bx4,bx5,oa,ba,ba1,hB2,ga1,sB,bq,ed,aib,az,gu,iw,ig,o5,mo,ja,aj,bu,dh,dz]
  try rfl
 have e15:evC (dn CT) itW base (.regionE R7_15 [] [12]) (fq 204 [(9,.ref B1.length 0 0),(11,.s (.int .i64 0))]) B2=some (.nrm,fq 204 [(9,.ref B1.length 0 0),(11,.s (.int .i64 0)),(12,.fn 14 [] [])],B2):=by
  simp only [apj,aa,reduceIte,reduceCtorEq,Nat.reduceEqDiff,Nat.reduceLT,Nat.reduceLeDiff,Nat.reduceBEq,Nat.reduceAdd,Nat.reduceMul]
 have e18:evC (dn CT) itW base (.region R7_18 [] [13,14,163,164,165,166,167,168,169,170,171,172,173]) (fq 204 [(9,.ref B1.length 0 0),(11,.s (.int .i64 0)),(13,.sl j1 0 0 5 8),(14,.sl j2 0 0 14 8)]) G2=some (.nrm,fq 204 [(9,.ref B1.length 0 0),(11,.s (.int .i64 0)),(15,.ref Q3.length 0 0)],Q5):=by
  have b4:base≤Q3.length:=by omega
  simp only [apj,aa,reduceIte,reduceCtorEq,Nat.reduceEqDiff,Nat.reduceLT,Nat.reduceLeDiff,Nat.reduceBEq,Nat.reduceAdd,Nat.reduceMul,hQ1,hQ2,hQ3,hQ4,g4,s4,b4,az,bq,ed,gu,iw,ig,o5,mo,ja,aj,bu,dh,dz]
  try rfl
 have e19:evC (dn CT) itW base (.region R7_19 [] [174,175,176,177,178]) (fq 204 [(9,.ref B1.length 0 0),(11,.s (.int .i64 0)),(15,.ref Q3.length 0 0)]) Q5=some (.nrm,fq 204 [(9,.ref B1.length 0 0),(11,.s (.int .i64 0)),(15,.ref Q3.length 0 0),(16,.ref R1.length 0 0),(17,.ref (R1.length+1) 0 0),(18,.s (.int .i64 0))],R2):=by
  simp only [knN] at eb;simp only [Iz,Sb,bl,apj,aa,reduceIte,reduceCtorEq,Nat.reduceEqDiff,Nat.reduceLT,Nat.reduceLeDiff,Nat.reduceBEq,Nat.reduceAdd,Nat.reduceMul,eb,bx1,bx2,bx3,bx4,bx5,ob,bb,bb1,hR2,gb1,sR,bq,ed,aib,az,gu,iw,ig,o5,mo,ja,aj,bu,dh,dz]
  try rfl
 have a9:=gm ga (z16.trans (z17.trans (fG5.trans xb)));have a15:=gm w5 xb;have p1:=gm gb xs;have p2:=gm gb1 xs;have pl:=RdL.len (RdL.ext (P:=aec) aec.ext rb xs);rw [ed] at pl;have z0:(((0:Nat):Int) == 0)=true:=rfl;have z1:((0:Int) == 0)=true:=rfl
 have e20:evC (dn CT) itW base (.region R7_20 [] [9,11,15,16,17,18,179,180,181,182,183,184,185,186,187,188,189,190,191,192,193,194,195,196,197,198,199,200,201,202,203]) (fq 204 [(9,.ref B1.length 0 0),(11,.s (.int .i64 0)),(15,.ref Q3.length 0 0),(16,.ref R1.length 0 0),(17,.ref (R1.length+1) 0 0),(18,.s (.int .i64 0))]) R2=some (.nrm,fq 204 [(0,.s (.bool true))],S2):=by
  simp only [bl] at sm rd;simp only [Iz,Sb,bl,apj,aa,reduceIte,reduceCtorEq,Nat.reduceEqDiff,Nat.reduceLT,Nat.reduceLeDiff,Nat.reduceBEq,Nat.reduceAdd,Nat.reduceMul,a9,a15,p1,p2,pl,z0,z1,sm,rd,a5y,az,gu,iw,ig,o5,mo,ja,aj,bu,dh,dz]
  try rfl
 have hall:evC (dn CT) itW base auj.body (fq auj.ntmps (pg auj.ntmps ([] ++ [] ++ []) 0)) A=some (.ret,fq 204 [(0,.s (.bool true))],S2):=
  (jm e0).trans ((jm e1).trans ((jm e2).trans ((jm e3).trans ((jm e4).trans ((jm e8).trans ((jm e14).trans ((jm e15).trans ((jm e16).trans ((jm e17).trans ((jm e18).trans ((jm e19).trans (jm e20))))))))))))
 rw [hall];rfl
end
end Go.Proofs.YtbocmenkkjbigaaDoor
