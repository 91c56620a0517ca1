/- Texts of the proof: RdsA, TokP6, RdsB, AmJ, AmV, AmR, RdX, RdJ1, RdJ2, RdJ3, RdY1, RdS5, RdJ4. -/
import Derived.Test.YtbocmenkkjbigaaDoorP0
import Derived.Test.YtbocmenkkjbigaaDoorP1
import Derived.Test.YtbocmenkkjbigaaDoorP2
import Derived.Test.YtbocmenkkjbigaaDoorP3
import Derived.Test.YtbocmenkkjbigaaDoorP4
import Derived.Shelf.Small.Strs
import Derived.Shelf.Strconv.Atoi
import Derived.ProofKit
import Derived.OpenShut
import Derived.ChangeArms
import Derived.FnData
import Derived.DataReads
import Derived.ChangeOld
import Derived.LaidMore
import Derived.Stop.Joined
import Derived.SevenTiedAt
import Derived.Test.YtbocmenkkjbigaaDoorRows
import Derived.Test.YtbocmenkkjbigaaDoorCards
import Derived.Test.YtbocmenkkjbigaaDoorTie
set_option linter.all false
set_option maxRecDepth 100000
namespace Go.Proofs.YtbocmenkkjbigaaDoor
open Go.AM
theorem w63 {n:Nat} (h:n+1 < 2 ^ 63):IntKind.i64.wrap ((n:Int)+1)=((n+1:Nat):Int):=by rw [IntKind.wrap_i64];omega
theorem ag2 {H H':Heap} {v:V} {l:List InsD} (h:RdL 8 ac7 H v l) (k:Ext H H'):RdL 8 ac7 H' v l:=RdL.ext (P:=ac7) ac7.ext h k
theorem ag3 {H H':Heap} {v:V} {l:List BlkD} (h:RdL 2 agb H v l) (k:Ext H H'):RdL 2 agb H' v l:=RdL.ext (P:=agb) agb.ext h k
theorem RdL.lt {α:Type} {w:Nat} {P:Heap→List V→α→Prop} {H:Heap} {v:V} {l:List α} (h:RdL w P H v l):l.length < 2 ^ 63:=by obtain ⟨_,_,_,h,_⟩:=h;exact h
structure SamT (CT:Nat→Option CFun):Prop where
 texts:CT a7w=some (.code aln)
 same:CT bby=some (.code alp)
section
variable {CT:Nat→Option CFun}
theorem st_l0 (base:Nat) {D:Heap} {v w:V} {l:List ByteArray} (q1:Rd D v (l.map Sb)) (q2:ajt v) (r1:Rd D w (l.map Sb)) (r2:ajt w) (hn:l.length < 2 ^ 63):
 itW (evC (fu CT) itW base ahz) [] D.length (ig 26 [(0,v),(1,w),(5,Iz 0)]) D=some (.ext 0,ig 26 [(0,v),(1,w),(5,Iz l.length),(14,bl false)],D):=by
 have hpl:=atu q1
 have h:=bbz l.length (fun k=>itW (evC (fu CT) itW base ahz) [] D.length (ig 26 [(0,v),(1,w),(5,Iz k)]) D) (fun k hk=>by
  have hlt':((k:Int) < ((l.length:Nat):Int)):=by omega
  have hwk:=w63 (n:=k) (by omega)
  obtain ⟨y,y1,y2⟩:=bcl q1 q2 hk;obtain ⟨z,z1,z2⟩:=bcl r1 r2 hk;have e:((l.getD k ⟨#[]⟩).data.toList == (l.getD k ⟨#[]⟩).data.toList)=true:=beq_self_eq_true _;rw [nz];simp only [Iz,Sb,bl,a9c,aa,reduceIte,reduceCtorEq,Nat.reduceEqDiff,Nat.reduceLT,Nat.reduceLeDiff,Nat.reduceBEq,Nat.reduceAdd,Nat.reduceMul,hpl,hlt',y1,y2,z1,z2,e,hwk,ada rfl]) 0 (jf _)
 rw [azq] at h;refine h.trans ?_;rw [nz];simp only [Iz,Sb,bl,a9c,aa,reduceIte,reduceCtorEq,Nat.reduceEqDiff,Nat.reduceLT,Nat.reduceLeDiff,Nat.reduceBEq,Nat.reduceAdd,Nat.reduceMul,hpl,abt,ada rfl]
theorem ail (hT:CT a7w=some (.code aln)) (base:Nat) {D:Heap} {v w:V} {l:List ByteArray} (q1:Rd D v (l.map Sb)) (q2:ajt v) (r1:Rd D w (l.map Sb)) (r2:ajt w) (hn:l.length < 2 ^ 63):
 fu CT (.fn a7w [] []) [v,w] base D=some (bl true,D):=by
 have f0:=st_l0 (CT:=CT) base q1 q2 r1 r2 hn;have hp1:=atu q1;have hp2:=atu r1;have e:(((l.length:Nat):Int) == ((l.length:Nat):Int))=true:=beq_self_eq_true _
 refine og (c:=aln) hT (by simp [aln]) ?_
 simp only [Iz,Sb,bl] at f0;simp only [Iz,Sb,bl,aln,a9c,aa,reduceIte,reduceCtorEq,Nat.reduceEqDiff,Nat.reduceLT,Nat.reduceLeDiff,Nat.reduceBEq,Nat.reduceAdd,Nat.reduceMul,hp1,hp2,e,f0]
set_option maxHeartbeats 1000000 in
theorem sm_l0 (h:SamT CT) (base:Nat) {C0:Heap} (hb:base≤C0.length) {z9 z10:Nat} {lb cv cw:V} {l:List InsD} (hg9:getC C0 z9 0=some [lb,cv]) (hg10:getC C0 z10 0=some [lb,cw]) (hc:RdL 8 ac7 C0 cv l) (hd:RdL 8 ac7 C0 cw l) {v2 v3 v6 v7:V} {n5 n8:Int}:
 ∃ C',itW (evC (fu CT) itW base ah2) [] C0.length (ig 164 [(2,v2),(3,v3),(5,Iz n5),(6,v6),(7,v7),(8,Iz n8),(9,.ref z9 0 0),(10,.ref z10 0 0),(11,Iz 0)]) C0=some (.ext 4,(ig 164 [(2,v2),(3,v3),(5,Iz n5),(6,v6),(7,v7),(8,Iz n8),(9,.ref z9 0 0),(10,.ref z10 0 0),(11,Iz l.length),(95,bl false)]),C')∧Ext C0 C':=by
 have hn:=hc.lt
 obtain ⟨C,e2,e3⟩:=as8 l.length (fun _ C=>Ext C0 C) (fun k C=>itW (evC (fu CT) itW base ah2) [] C0.length (ig 164 [(2,v2),(3,v3),(5,Iz n5),(6,v6),(7,v7),(8,Iz n8),(9,.ref z9 0 0),(10,.ref z10 0 0),(11,Iz k)]) C) (by
  intro k C hk hE
  have hlt':((k:Int) < ((l.length:Nat):Int)):=by omega
  have hwk:=w63 (n:=k) (by omega)
  have hbC:base≤C.length:=by have:=hE.le;omega
  have g9:=iq hg9 hE;have g10:=iq hg10 hE;have hpl:=(ag2 hc hE).len;have hxk:l[k]?=some (l[k]):=ah hk;obtain ⟨x,hxe⟩:∃ x,l[k]=x:=⟨_,rfl⟩;rw [hxe] at hxk;obtain ⟨y,re,y1,y2,y3,_⟩:=hc.at2 hxk;obtain ⟨z,rf,z1,z2,z3,_⟩:=hd.at2 hxk;have ly:=y3 C hE;have lz:=z3 C hE;obtain ⟨av,lv,rfl,q1,q2,q3,q4,n1,n2⟩:=y2;obtain ⟨aw,lw,rfl,p1,p2,p3,p4,_⟩:=z2;obtain ⟨D1,hD1⟩:∃ D,C ++ [Ob.cells 0 (w9 x av lv)]=D:=⟨_,rfl⟩;obtain ⟨D,hD⟩:∃ D,D1 ++ [Ob.cells 0 (w9 x aw lw)]=D:=⟨_,rfl⟩
  have l1:D1.length=C.length+1:=by rw [← hD1,jl]
  have e1:Ext C D1:=hD1 ▸ Ext.app _ _;have e2:Ext D1 D:=hD ▸ Ext.app _ _;have hE2:=hE.trans (e1.trans e2);have hg1:getC D C.length 0=some (w9 x av lv):=iq (hD1 ▸ jh C 0 _) e2
  have hg2:getC D (C.length+1) 0=some (w9 x aw lw):=by rw [← l1,← hD];exact jh D1 0 _
  have f1:=ail h.texts base (q1.ext hE2) q2 (p1.ext hE2) p2 n1;have f2:=ail h.texts base (q3.ext hE2) q4 (p3.ext hE2) p4 n2;have b0:(x.op == x.op:Bool)=true:=beq_self_eq_true _;have b1:(x.d.data.toList == x.d.data.toList:Bool)=true:=beq_self_eq_true _;have b2:(x.a.data.toList == x.a.data.toList:Bool)=true:=beq_self_eq_true _;have b3:(x.b.data.toList == x.b.data.toList:Bool)=true:=beq_self_eq_true _;have b4:(x.k == x.k:Bool)=true:=beq_self_eq_true _;have b5:(x.f.data.toList == x.f.data.toList:Bool)=true:=beq_self_eq_true _;have o1:=q1.one;have o2:=q3.one;have o3:=p1.one;have o4:=p3.one;obtain ⟨Z1,hZ1⟩:∃ X,C ++ [Ob.cells 0 aae]=X:=⟨_,rfl⟩;obtain ⟨Z2,hZ2⟩:∃ X,Z1 ++ [Ob.cells 0 aae]=X:=⟨_,rfl⟩
  have lZ1:Z1.length=C.length+1:=by rw [← hZ1,jl]
  have lZ2:Z2.length=C.length+2:=by rw [← hZ2,jl,lZ1]
  have zz1:getC Z2 C.length 0=some aae:=iq (hZ1 ▸ jh C 0 _) (hZ2 ▸ Ext.app _ _)
  have ss1:Z2.set C.length (Ob.cells 0 (w9 x av lv))=D1 ++ [Ob.cells 0 aae]:=by
   rw [← hZ2,List.set_append_left _ _ (by omega),← hZ1,qh,hD1]
  have zz2:getC (D1 ++ [Ob.cells 0 aae]) (C.length+1) 0=some aae:=by rw [← l1];exact jh D1 0 _
  have ss2:(D1 ++ [Ob.cells 0 aae]).set (C.length+1) (Ob.cells 0 (w9 x aw lw))=D:=by rw [← l1,qh,hD]
  have hb1:base≤C.length+1:=by omega
  refine ⟨trim C0.length (ig 164 [(2,v2),(3,v3),(5,Iz n5),(6,v6),(7,v7),(8,Iz n8),(9,.ref z9 0 0),(10,.ref z10 0 0),(11,Iz (k+1:Nat))]) D,?_,hE2.trim (ak _) _⟩;simp only [bl] at f1 f2;simp only [w9,Sb,aae,oh] at hZ1 hZ2 zz1 ss1 zz2 ss2 hg1 hg2 ly lz;rw [nz];simp only [Iz,Sb,bl,ash,aa,reduceIte,reduceCtorEq,Nat.reduceEqDiff,Nat.reduceLT,Nat.reduceLeDiff,Nat.reduceBEq,Nat.reduceAdd,Nat.reduceMul,g9,g10,hpl,hlt',y1,z1,ly,lz,hZ1,lZ1,hZ2,zz1,ss1,zz2,ss2,hbC,hb1,o1,o2,o3,o4,ik,jd,ja,qi,and_self,if_true,bq,dm,eu,gu,hg1,hg2,b0,b1,b2,b3,b4,b5,f1,f2,hwk]) 0 C0 (jf _) (Ext.refl _)
 rw [azq] at e2;refine ⟨trim C0.length (ig 164 [(2,v2),(3,v3),(5,Iz n5),(6,v6),(7,v7),(8,Iz n8),(9,.ref z9 0 0),(10,.ref z10 0 0),(11,Iz l.length),(95,bl false)]) C,e2.trans ?_,e3.trim (ak _) _⟩;have g9:=iq hg9 e3;have hpl:=(ag2 hc e3).len;rw [nz];simp only [Iz,bl,ash,aa,reduceIte,reduceCtorEq,Nat.reduceEqDiff,Nat.reduceLT,Nat.reduceLeDiff,Nat.reduceBEq,Nat.reduceAdd,Nat.reduceMul,g9,hpl,abt]
set_option maxHeartbeats 1000000 in
theorem sm_l1 (h:SamT CT) (base:Nat) {C0:Heap} (hb:base≤C0.length) {q6 q7:Nat} {nm pv pw bv bw:V} {l:List BlkD} (hg6:getC C0 q6 0=some [nm,pv,bv]) (hg7:getC C0 q7 0=some [nm,pw,bw]) (hc:RdL 2 agb C0 bv l) (hd:RdL 2 agb C0 bw l) {v2 v3:V} {n5:Int}:
 ∃ C',itW (evC (fu CT) itW base ah1) [] C0.length (ig 164 [(2,v2),(3,v3),(5,Iz n5),(6,.ref q6 0 0),(7,.ref q7 0 0),(8,Iz 0)]) C0=some (.ext 2,(ig 164 [(2,v2),(3,v3),(5,Iz n5),(6,.ref q6 0 0),(7,.ref q7 0 0),(8,Iz l.length),(64,bl false)]),C')∧Ext C0 C':=by
 have hn:=hc.lt
 obtain ⟨C,e2,e3⟩:=as8 l.length (fun _ C=>Ext C0 C) (fun k C=>itW (evC (fu CT) itW base ah1) [] C0.length (ig 164 [(2,v2),(3,v3),(5,Iz n5),(6,.ref q6 0 0),(7,.ref q7 0 0),(8,Iz k)]) C) (by
  intro k C hk hE
  have hlt':((k:Int) < ((l.length:Nat):Int)):=by omega
  have hwk:=w63 (n:=k) (by omega)
  have hbC:base≤C.length:=by have:=hE.le;omega
  have g6:=iq hg6 hE;have g7:=iq hg7 hE;have hpl:=(ag3 hc hE).len;have hxk:l[k]?=some (l[k]):=ah hk;obtain ⟨B,hxe⟩:∃ x,l[k]=x:=⟨_,rfl⟩;rw [hxe] at hxk;obtain ⟨y,re,y1,y2,y3,_⟩:=hc.at2 hxk;obtain ⟨z,rf,z1,z2,z3,_⟩:=hd.at2 hxk;obtain ⟨cv,rfl,hcv⟩:=y2;obtain ⟨cw,rfl,hcw⟩:=z2;have hco:=hcv.one;have hcw1:=hcw.one;obtain ⟨C1,hC1⟩:∃ X,C ++ [Ob.cells 0 [Sb B.label,cv]]=X:=⟨_,rfl⟩;obtain ⟨C2,hC2⟩:∃ X,C1 ++ [Ob.cells 0 [Sb B.label,cw]]=X:=⟨_,rfl⟩
  have l1:C1.length=C.length+1:=by rw [← hC1,jl]
  have l2:C2.length=C.length+2:=by rw [← hC2,jl,l1]
  have x1:Ext C C1:=hC1 ▸ Ext.app _ _;have x2:Ext C1 C2:=hC2 ▸ Ext.app _ _;have ly:=y3 C hE;have lz:=z3 C hE;have k9:getC C2 C.length 0=some [Sb B.label,cv]:=iq (hC1 ▸ jh C 0 _) x2
  have k10:getC C2 (C.length+1) 0=some [Sb B.label,cw]:=by rw [← l1,← hC2];exact jh C1 0 _
  have hE2:=hE.trans (x1.trans x2)
  obtain ⟨C',f1,x3⟩:=sm_l0 h base (C0:=C2) (by omega) (v2:=v2) (v3:=v3) (v6:=.ref q6 0 0) (v7:=.ref q7 0 0) (n5:=n5) (n8:=k) k9 k10 (ag2 hcv hE2) (ag2 hcw hE2)
  have c1l:=(ag2 hcv hE2).len;have c2l:=(ag2 hcw hE2).len;obtain ⟨Z1,hZ1⟩:∃ X,C ++ [Ob.cells 0 [V.s (.string ⟨#[]⟩),oh]]=X:=⟨_,rfl⟩;obtain ⟨Z2,hZ2⟩:∃ X,Z1 ++ [Ob.cells 0 [V.s (.string ⟨#[]⟩),oh]]=X:=⟨_,rfl⟩
  have lZ1:Z1.length=C.length+1:=by rw [← hZ1,jl]
  have zz1:getC Z2 C.length 0=some [V.s (.string ⟨#[]⟩),oh]:=iq (hZ1 ▸ jh C 0 _) (hZ2 ▸ Ext.app _ _)
  have ss1:Z2.set C.length (Ob.cells 0 [Sb B.label,cv])=C1 ++ [Ob.cells 0 [V.s (.string ⟨#[]⟩),oh]]:=by
   rw [← hZ2,List.set_append_left _ _ (by omega),← hZ1,qh,hC1]
  have zz2:getC (C1 ++ [Ob.cells 0 [V.s (.string ⟨#[]⟩),oh]]) (C.length+1) 0=some [V.s (.string ⟨#[]⟩),oh]:=by rw [← l1];exact jh C1 0 _
  have ss2:(C1 ++ [Ob.cells 0 [V.s (.string ⟨#[]⟩),oh]]).set (C.length+1) (Ob.cells 0 [Sb B.label,cw])=C2:=by rw [← l1,qh,hC2]
  have hb1:base≤C.length+1:=by omega
  have b1:(B.label.data.toList == B.label.data.toList:Bool)=true:=beq_self_eq_true _;have b2:(((B.code.length:Nat):Int) == ((B.code.length:Nat):Int))=true:=beq_self_eq_true _;refine ⟨trim C0.length (ig 164 [(2,v2),(3,v3),(5,Iz n5),(6,.ref q6 0 0),(7,.ref q7 0 0),(8,Iz (k+1:Nat))]) C',?_,(hE2.trans x3).trim (ak _) _⟩;rw [l2] at f1;simp only [bl,Iz,Sb,oh] at f1 ly lz hZ1 hZ2 zz1 ss1 zz2 ss2 k9 k10;rw [nz];simp only [Iz,Sb,bl,ash,aa,reduceIte,reduceCtorEq,Nat.reduceEqDiff,Nat.reduceLT,Nat.reduceLeDiff,Nat.reduceBEq,Nat.reduceAdd,Nat.reduceMul,g6,g7,hpl,hlt',y1,z1,ly,lz,hZ1,lZ1,hZ2,zz1,ss1,zz2,ss2,hbC,hb1,hco,hcw1,ik,jd,ja,qi,and_self,if_true,bq,dm,eu,gu,l2,k9,k10,c1l,c2l,b1,b2,f1,hwk]) 0 C0 (jf _) (Ext.refl _)
 rw [azq] at e2;refine ⟨trim C0.length (ig 164 [(2,v2),(3,v3),(5,Iz n5),(6,.ref q6 0 0),(7,.ref q7 0 0),(8,Iz l.length),(64,bl false)]) C,e2.trans ?_,e3.trim (ak _) _⟩;have g6:=iq hg6 e3;have hpl:=(ag3 hc e3).len;rw [nz];simp only [Iz,bl,ash,aa,reduceIte,reduceCtorEq,Nat.reduceEqDiff,Nat.reduceLT,Nat.reduceLeDiff,Nat.reduceBEq,Nat.reduceAdd,Nat.reduceMul,g6,hpl,abt]
set_option maxHeartbeats 1000000 in
theorem sm_l2 (h:SamT CT) (base:Nat) {C0:Heap} (hb:base≤C0.length) {p2 p3:Nat} {fv fw:V} {fs:List FunD} (hg2:getC C0 p2 0=some [fv]) (hg3:getC C0 p3 0=some [fw]) (hc:zq C0 fv fs) (hd:zq C0 fw fs):
 ∃ C',itW (evC (fu CT) itW base ah0) [] C0.length (ig 164 [(2,.ref p2 0 0),(3,.ref p3 0 0),(5,Iz 0)]) C0=some (.ext 0,(ig 164 [(2,.ref p2 0 0),(3,.ref p3 0 0),(5,Iz fs.length),(25,bl false)]),C')∧Ext C0 C':=by
 have hn:=RdL.lt hc
 obtain ⟨C,e2,e3⟩:=as8 fs.length (fun _ C=>Ext C0 C) (fun k C=>itW (evC (fu CT) itW base ah0) [] C0.length (ig 164 [(2,.ref p2 0 0),(3,.ref p3 0 0),(5,Iz k)]) C) (by
  intro k C hk hE
  have hlt':((k:Int) < ((fs.length:Nat):Int)):=by omega
  have hwk:=w63 (n:=k) (by omega)
  have hbC:base≤C.length:=by have:=hE.le;omega
  have g2:=iq hg2 hE;have g3:=iq hg3 hE;have hpl:=RdL.len (hc.ext hE);have hxk:fs[k]?=some (fs[k]):=ah hk;obtain ⟨f,hxe⟩:∃ x,fs[k]=x:=⟨_,rfl⟩;rw [hxe] at hxk;obtain ⟨y,re,y1,y2,y3,_⟩:=hc.at2 hxk;obtain ⟨z,rf,z1,z2,z3,_⟩:=hd.at2 hxk;obtain ⟨pv,bv,rfl,u1,u2,u3,u4⟩:=y2;obtain ⟨pw,bw,rfl,w1,w2,w3,w4⟩:=z2;have o1:=u1.one;have o2:=u4.one;have o3:=w1.one;have o4:=w4.one;obtain ⟨C1,hC1⟩:∃ X,C ++ [Ob.cells 0 [Sb f.name,pv,bv]]=X:=⟨_,rfl⟩;obtain ⟨C2,hC2⟩:∃ X,C1 ++ [Ob.cells 0 [Sb f.name,pw,bw]]=X:=⟨_,rfl⟩
  have l1:C1.length=C.length+1:=by rw [← hC1,jl]
  have l2:C2.length=C.length+2:=by rw [← hC2,jl,l1]
  have x1:Ext C C1:=hC1 ▸ Ext.app _ _;have x2:Ext C1 C2:=hC2 ▸ Ext.app _ _;have ly:=y3 C hE;have lz:=z3 C hE;have k6:getC C2 C.length 0=some [Sb f.name,pv,bv]:=iq (hC1 ▸ jh C 0 _) x2
  have k7:getC C2 (C.length+1) 0=some [Sb f.name,pw,bw]:=by rw [← l1,← hC2];exact jh C1 0 _
  have hE2:=hE.trans (x1.trans x2);have ft:=ail h.texts base (D:=C2) (u1.ext hE2) u2 (w1.ext hE2) w2 u3
  obtain ⟨C',f1,x3⟩:=sm_l1 h base (C0:=C2) (by omega) (v2:=.ref p2 0 0) (v3:=.ref p3 0 0) (n5:=k) k6 k7 (ag3 u4 hE2) (ag3 w4 hE2)
  have c1l:=(ag3 u4 hE2).len;have c2l:=(ag3 w4 hE2).len;obtain ⟨Z1,hZ1⟩:∃ X,C ++ [Ob.cells 0 aas]=X:=⟨_,rfl⟩;obtain ⟨Z2,hZ2⟩:∃ X,Z1 ++ [Ob.cells 0 aas]=X:=⟨_,rfl⟩
  have lZ1:Z1.length=C.length+1:=by rw [← hZ1,jl]
  have zz1:getC Z2 C.length 0=some aas:=iq (hZ1 ▸ jh C 0 _) (hZ2 ▸ Ext.app _ _)
  have ss1:Z2.set C.length (Ob.cells 0 [Sb f.name,pv,bv])=C1 ++ [Ob.cells 0 aas]:=by
   rw [← hZ2,List.set_append_left _ _ (by omega),← hZ1,qh,hC1]
  have zz2:getC (C1 ++ [Ob.cells 0 aas]) (C.length+1) 0=some aas:=by rw [← l1];exact jh C1 0 _
  have ss2:(C1 ++ [Ob.cells 0 aas]).set (C.length+1) (Ob.cells 0 [Sb f.name,pw,bw])=C2:=by rw [← l1,qh,hC2]
  have hb1:base≤C.length+1:=by omega
  have b1:(f.name.data.toList == f.name.data.toList:Bool)=true:=beq_self_eq_true _;have b2:(((f.blocks.length:Nat):Int) == ((f.blocks.length:Nat):Int))=true:=beq_self_eq_true _;refine ⟨trim C0.length (ig 164 [(2,.ref p2 0 0),(3,.ref p3 0 0),(5,Iz (k+1:Nat))]) C',?_,(hE2.trans x3).trim (ak _) _⟩;rw [l2] at f1;simp only [bl,Iz,Sb,aas,oh] at f1 ly lz hZ1 hZ2 zz1 ss1 zz2 ss2 k6 k7 ft;rw [nz];simp only [Iz,Sb,bl,ash,aa,reduceIte,reduceCtorEq,Nat.reduceEqDiff,Nat.reduceLT,Nat.reduceLeDiff,Nat.reduceBEq,Nat.reduceAdd,Nat.reduceMul,g2,g3,hpl,hlt',y1,z1,ly,lz,hZ1,lZ1,hZ2,zz1,ss1,zz2,ss2,hbC,hb1,o1,o2,o3,o4,ik,jd,ja,qi,and_self,if_true,bq,dm,eu,gu,l2,k6,k7,c1l,c2l,b1,b2,ft,f1,hwk]) 0 C0 (jf _) (Ext.refl _)
 rw [azq] at e2;refine ⟨trim C0.length (ig 164 [(2,.ref p2 0 0),(3,.ref p3 0 0),(5,Iz fs.length),(25,bl false)]) C,e2.trans ?_,e3.trim (ak _) _⟩;have g2:=iq hg2 e3;have hpl:=RdL.len (hc.ext e3);rw [nz];simp only [Iz,bl,ash,aa,reduceIte,reduceCtorEq,Nat.reduceEqDiff,Nat.reduceLT,Nat.reduceLeDiff,Nat.reduceBEq,Nat.reduceAdd,Nat.reduceMul,g2,hpl,abt]
theorem awp (h:SamT CT) (base:Nat) {A:Heap} (hb:base≤A.length) {fv fw:V} {fs:List FunD} (hc:zq A fv fs) (hd:zq A fw fs):
 ∃ H',fu CT (.fn bby [] []) [.agg [fv],.agg [fw]] base A=some (bl true,H')∧Ext A H':=by
 have o1:=hc.one;have o2:=hd.one;obtain ⟨C1,hC1⟩:∃ X,A ++ [Ob.cells 0 [fv]]=X:=⟨_,rfl⟩;obtain ⟨C2,hC2⟩:∃ X,C1 ++ [Ob.cells 0 [fw]]=X:=⟨_,rfl⟩
 have l1:C1.length=A.length+1:=by rw [← hC1,jl]
 have l2:C2.length=A.length+2:=by rw [← hC2,jl,l1]
 have x1:Ext A C1:=hC1 ▸ Ext.app _ _;have x2:Ext C1 C2:=hC2 ▸ Ext.app _ _;have e:=x1.trans x2;have g2:getC C2 A.length 0=some [fv]:=iq (hC1 ▸ jh A 0 _) x2
 have g3:getC C2 (A.length+1) 0=some [fw]:=by rw [← l1,← hC2];exact jh C1 0 _
 have p1:=RdL.len (hc.ext e);have p2:=RdL.len (hd.ext e);have b2:(((fs.length:Nat):Int) == ((fs.length:Nat):Int))=true:=beq_self_eq_true _
 obtain ⟨C',f1,x3⟩:=sm_l2 h base (C0:=C2) (by omega) g2 g3 (hc.ext e) (hd.ext e)
 refine ⟨C',nu (c:=alp) (k:=2) h.same rfl (by decide) aqu ?_,e.trans x3⟩
 rw [l2] at f1;simp only [bl,Iz] at f1;simp only [Iz,Sb,bl,alp,ash,aa,reduceIte,reduceCtorEq,Nat.reduceEqDiff,Nat.reduceLT,Nat.reduceLeDiff,Nat.reduceBEq,Nat.reduceAdd,Nat.reduceMul,o1,o2,hC1,l1,hC2,l2,g2,g3,p1,p2,b2,f1]
end
end Go.Proofs.YtbocmenkkjbigaaDoor
namespace Go.AM.Tok
def lexN:Nat→List UInt8→Nat→Nat→Out
 | 0,_,_,_=>.bad 0 0 0
 | _+1,[],ln,cl=>.done [⟨4,[],0,ln,cl⟩]
 | n+1,c :: l,ln,cl=>
   if blank c then (if c=10 then lexN n l (ln+1) 1 else lexN n l ln (cl+1))
   else if c=59 then lexN n (l.drop (far other l)) ln (cl+(far other l+1))
   else if letter c then (lexN n (l.drop (far within l)) ln (cl+(far within l+1))).cons ⟨1,c :: l.take (far within l),0,ln,cl⟩
   else if digit c then
    if 9 < far digit l+1∨(1 < far digit l+1∧c=48)∨far digit l < far within l then .bad 31 ln cl
    else (lexN n (l.drop (far digit l)) ln (cl+(far digit l+1))).cons ⟨2,c :: l.take (far digit l),val (c :: l.take (far digit l)),ln,cl⟩
   else if sign c then (lexN n l ln (cl+1)).cons ⟨3,[c],0,ln,cl⟩
   else .bad 30 ln cl
theorem lexN_eq:∀ (n:Nat) (l:List UInt8) (ln cl:Nat),l.length < n→lexN n l ln cl=lex l ln cl:=by
 intro n
 induction n with
 | zero=>intro l ln cl h;omega
 | succ n ih=>
   intro l ln cl h;cases l with
   | nil=>rw [lex_nil,lexN]
   | cons c l=>
     have hl:l.length < n:=by simpa using h
     have hd:∀ m,(l.drop m).length < n:=fun m=>by rw [iw];omega
     rw [lex_cons,lexN,ih _ _ _ hl,ih _ _ _ hl,ih _ _ _ (hd _),ih _ _ _ (hd _),ih _ _ _ (hd _)]
end Go.AM.Tok
set_option maxRecDepth 100000
namespace Go.Proofs.YtbocmenkkjbigaaDoor
open Go.AM
def reT:ByteArray:=⟨#[102,117,110,99,32,109,97,105,110,40,112,41,32,123,10,97,58,32,59,32,120,10,32,32,120,32,61,32,102,105,101,108,100,32,112,32,51,10,32,32,114,101,116,10,125,10]⟩
def bdn:InsD:=⟨7,⟨#[120]⟩,⟨#[112]⟩,⟨#[]⟩,3,⟨#[]⟩,[],[]⟩
def reI2:InsD:=⟨14,⟨#[]⟩,⟨#[]⟩,⟨#[]⟩,0,⟨#[]⟩,[],[]⟩
def reF:List FunD:=[⟨⟨#[109,97,105,110]⟩,[⟨#[112]⟩],[⟨⟨#[97]⟩,[bdn,reI2]⟩]⟩]
def amh (l:List UInt8):List Tok.T × (Nat × Nat) × Nat:=if 1048576 < l.length then ([],(0,0),2) else match Tok.lexN (l.length+1) l 1 1 with
 | .done ts=>(ts,(0,0),0)
 | .bad e a q=>([],(a,q),e)
theorem bbu (l:List UInt8):adq l=amh l:=by
 unfold adq amh;rw [Tok.lexN_eq _ _ _ _ (Nat.lt_succ_self _)];rfl
def bbe (l:List UInt8):List FunD × (Nat × Nat) × Nat:=
 if (amh l).2.2=0 then match a5c (amh l).1 with
  | .ok fs=>(fs,(0,0),0)
  | .error j=>([],(((amh l).1.getD j tkE).line,((amh l).1.getD j tkE).col),if ((amh l).1.getD j tkE).kind=4 then 41 else 40)
 else ([],(amh l).2.1,(amh l).2.2)
theorem bbd (l:List UInt8):abm l=bbe l:=by
 unfold abm bbe;rw [bbu];rfl
theorem aw5:abm reT.data.toList=(reF,(0,0),0):=(bbd _).trans (by kernel_rfl)
section
variable {CT:Nat→Option CFun}
def ajv (CT:Nat→Option CFun):Prop:=∀ (base:Nat) (H:Heap) (b:ByteArray),base≤H.length→∃ v H',fu CT (.fn a9n [] []) [.s (.string b)] base H=some (.tup [.agg [v],.agg [Iz (abm b.data.toList).2.1.1,Iz (abm b.data.toList).2.1.2],Iz (abm b.data.toList).2.2],H')∧Ext H H'∧∀ H'',(∀ id,H.length≤id→id < H'.length→H''[id]?=H'[id]?)→zq H'' v (abm b.data.toList).1
theorem ai2 (hP:ajv CT) (hT:CT a7x=some (.code alo)) (base:Nat) {A:Heap} (hb:base≤A.length):
 ∃ H',fu CT (.fn a7x [] []) [] base A=some (bl true,H')∧Ext A H':=by
 obtain ⟨v,H1,h1,e1,h3⟩:=hP base A reT hb;rw [aw5] at h1 h3;have hr:=h3 H1 fun _ _ _=>rfl;have hvo:=hr.one;obtain ⟨H2,hH2⟩:∃ X,H1 ++ [Ob.cells 0 [v]]=X:=⟨_,rfl⟩;obtain ⟨H3,hH3⟩:∃ X,H2 ++ [Ob.cells 0 [Iz 0,Iz 0]]=X:=⟨_,rfl⟩
 have l2:H2.length=H1.length+1:=by rw [← hH2,jl]
 have e2:Ext H1 H2:=hH2 ▸ Ext.app _ _;have e3:Ext H2 H3:=hH3 ▸ Ext.app _ _;have g1:getC H3 H1.length 0=some [v]:=iq (hH2 ▸ jh H1 0 _) e3;have hE:=e2.trans e3;have hr3:=hr.ext hE;have c0:=RdL.len hr3;obtain ⟨a,r,a1,hf,_,a3⟩:=hr3.at2 (i:=0) (x:=reF.getD 0 a9q) rfl;obtain ⟨pv,bv,rfl,p1,p2,p3,hbv⟩:=hf;obtain ⟨x1,x2,x3⟩:=a3 1 _ rfl;obtain ⟨y1,y2,y3⟩:=a3 2 _ rfl;have cp:=atu p1;have cb:=hbv.len;obtain ⟨b1,rb,b2,hbb,_,b3⟩:=hbv.at2 (i:=0) (x:=⟨⟨#[97]⟩,[bdn,reI2]⟩) rfl;obtain ⟨cv,rfl,hcv⟩:=hbb;obtain ⟨d1,d2,d3⟩:=b3 1 _ rfl;have cc:=hcv.len;obtain ⟨f1,rf,f2,hff,_,f3⟩:=hcv.at2 (i:=0) (x:=bdn) rfl;obtain ⟨av,lv,rfl,_⟩:=hff;obtain ⟨k1,k2,k3⟩:=f3 4 _ rfl;obtain ⟨m1,m2,m3⟩:=f3 2 _ rfl;have x4:=x3 H3 (Ext.refl _);have y4:=y3 H3 (Ext.refl _);have d4:=d3 H3 (Ext.refl _);have k4:=k3 H3 (Ext.refl _);have m4:=m3 H3 (Ext.refl _);obtain ⟨Z1,hZ1⟩:∃ X,H1 ++ [Ob.cells 0 [oh]]=X:=⟨_,rfl⟩;obtain ⟨Z2,hZ2⟩:∃ X,Z1 ++ [Ob.cells 0 [Iz 0,Iz 0]]=X:=⟨_,rfl⟩
 have lZ1:Z1.length=H1.length+1:=by rw [← hZ1,jl]
 have zz1:getC Z2 H1.length 0=some [oh]:=iq (hZ1 ▸ jh H1 0 _) (hZ2 ▸ Ext.app _ _)
 have ss1:Z2.set H1.length (Ob.cells 0 [v])=H3:=by
  rw [← hZ2,List.set_append_left _ _ (by omega),← hZ1,qh,hH2,hH3]
 have zz2:getC H3 (H1.length+1) 0=some [Iz 0,Iz 0]:=by rw [← l2,← hH3];exact jh H2 0 _
 have ss2:H3.set (H1.length+1) (Ob.cells 0 [Iz 0,Iz 0])=H3:=by rw [← hH3,← l2,qh]
 have hbH:base≤H1.length:=by have:=e1.le;omega
 have hb1:base≤H1.length+1:=by omega
 refine ⟨H3,og (c:=alo) hT (by simp [alo]) ?_,e1.trans hE⟩
 have z0:((0:Nat):Int)=0:=rfl;have n1:(((reF.length:Nat):Int) == 1)=true:=rfl;simp only [reT,Iz,z0] at h1;simp only [Iz,oh] at hZ1 hZ2 zz1 ss1 zz2 ss2;simp only [Iz,z0,bdn,Sb] at a1 b2 f2 k4 m4 c0 cp cb cc d4;have q1:(((reF.length:Nat):Int) == 1)=true:=rfl;have q2:((((reF.getD 0 a9q).ps.length:Nat):Int) == 1)=true:=rfl;have q3:((((reF.getD 0 a9q).blocks.length:Nat):Int) == 1)=true:=rfl;simp only [Iz,oh,bl,alo,a_f12,aa,reduceIte,reduceCtorEq,Nat.reduceEqDiff,Nat.reduceLT,Nat.reduceLeDiff,Nat.reduceBEq,Nat.reduceAdd,Nat.reduceMul,h1,hZ1,lZ1,hZ2,zz1,ss1,zz2,ss2,hbH,hb1,hvo,bu,ik,jd,ja,qi,and_self,if_true,bq,dm,eu,gu,g1,c0,q1,a1,x2,x4,cp,q2,y2,y4,cb,q3,b2,d2,d4,cc,f2,k2,k4,m2,m4]
 try rfl
end
end Go.Proofs.YtbocmenkkjbigaaDoor
namespace Go.AM
open Go.RowKit
section
variable {P:Program}
theorem bb7 {pure':PX} {k:Nat} (hent:∀ xs w,(callFunc k xs).run P w=.ok (.enter k xs) w)
 (hs:∀ (s:ByteArray) (c:Int) (w:World),Calls P k #[.string s,.int .u8 c] w fun e w'=>e=.returned (.int .i64 (Lib.indexByte s.data.toList c.toNat.toUInt8))∧w'=w):abg P pure' k (.prim a9p):=by
 refine ⟨hent,fun vs base H r H' hg=>?_⟩;unfold a9p at hg;split at hg
 ·rename_i b c;cases hg;refine ⟨Floor.refl _ _,fun μ Mt w cs hH hvs n=>?_⟩;obtain ⟨h1,h2⟩:=hvs
  match cs,h1 with
  | [x,y],_=>
    have e1:=yt (h2 0 _ x rfl rfl);have e2:=yt (h2 1 _ y rfl rfl);subst e1 e2;refine callsIn_wide.2 ((hs b c w).mono ?_);rintro e w' ⟨rfl,rfl⟩;exact ⟨_,μ,Mt,rfl,.s _,Post.refl hH⟩
 ·cases hg
theorem ajb {α:Type} (x:α) (f:α→α):∀ l:List α,(l ++ [x]).modify l.length f=l ++ [f x]
 | []=>rfl
 | y :: l=>by
   have:=ajb x f l;simp only [bq,dx,List.modify_succ_cons,this]
theorem aq8 {α:Type} (a:Array α) (x:α) (f:α→α):(a.push x).modify a.size f=a.push (f x):=by
 apply ru;rw [Array.toList_modify,ahv,ahv,show a.size=a.toList.length from rfl];exact ajb x f _
theorem avm {CC:CX} {μ:Mu} {Mt:Nat→Prop} {w:World} {H:Heap} (h:HR CC μ Mt w H) (e:TypeId) (s:ByteArray):Post CC μ Mt w H μ Mt (Lib.bytesWorld w e s) H:=by
 refine aqw [.cells (Lib.bytesCells w e s) e ((Lib.bytesCells w e s).size,(Lib.bytesCells w e s).size+1)] w _ h ?_ rfl rfl rfl;unfold Lib.bytesWorld World.freeze
 rw [if_neg (by decide)]
 obtain ⟨o,ho⟩:∃ o,Obj.cells (Lib.bytesCells w e s) e=o:=⟨_,rfl⟩;have hp:(w.drew.alloc o).heap=w.heap.push o:=rfl;simp only [ho,hp];rw [aq8,← ho];rfl
theorem a8y {pure':PX} {k:Nat} {t:TypeId} (hent:∀ xs w,(callFunc k xs).run P w=.ok (.enter k xs) w)
 (hs:∀ (s:ByteArray) (n:Int),s.size≤18→Lib.atoi s.data.toList=some n→∀ (w:World),Calls P k #[.string s] w fun e w'=>e=.returned (.tuple #[.int .i64 n,.nilIface])∧∃ b,w'=Lib.bytesWorld w t b):abg P pure' k (.prim apr):=by
 refine ⟨hent,fun vs base H r H' hg=>?_⟩;unfold apr at hg;split at hg
 ·rename_i b;split at hg
  ·rename_i hb;cases hn:Lib.atoi b.data.toList with
   | none=>rw [hn] at hg;cases hg
   | some n=>
     rw [hn] at hg;cases hg;refine ⟨Floor.refl _ _,fun μ Mt w cs hH hvs m=>?_⟩;obtain ⟨h1,h2⟩:=hvs
     match cs,h1 with
     | [x],_=>
       have e1:=yt (h2 0 _ x rfl rfl);subst e1;refine callsIn_wide.2 ((hs b n hb hn w).mono ?_);rintro e w' ⟨rfl,s,rfl⟩;refine ⟨_,μ,Mt,rfl,?_,avm hH t s⟩;refine .tup _ _ rfl fun i a c ha hc=>?_
       match i with
       | 0=>cases ha;cases hc;exact .s _
       | 1=>cases ha;cases hc;exact .s _
       | i+2=>simp at ha
  ·cases hg
 ·cases hg
end
inductive Ty where
 | int (k:IntKind) | bool | str
 | sl (e:Ty)
 | st (fs:List Ty)
 deriving Inhabited
mutual
def Ty.width:Ty→Nat
 | .int _=>1
 | .bool=>1
 | .str=>1
 | .sl _=>1
 | .st fs=>ahj fs
def ahj:List Ty→Nat
 | []=>0
 | f :: fs=>f.width+ahj fs
end
mutual
def akc (P:Program):Nat→Ty→TypeId→Bool
 | 0,_,_=>false
 | n+1,ty,t=>match ty,P.underlying t with
   | .int k,some (.int k')=>k == k'
   | .bool,some .bool=>true
   | .str,some .string=>true
   | .sl e,some (.slice e')=>akc P n e e' && P.cellsOf e' == e.width && decide (0 < e.width)
   | .st fs,some (.struct gs)=>P.cellsOf t == ahj fs && ap2 P n 0 fs gs.toList
   | _,_=>false
def ap2 (P:Program):Nat→Nat→List Ty→List Field→Bool
 | 0,_,_,_=>false
 | n+1,off,fs,gs=>match fs,gs with
   | [],[]=>true
   | f :: fs,g :: gs=>g.offset == off && P.cellsOf g.type == f.width && akc P n f g.type && ap2 P n (off+f.width) fs gs
   | _,_=>false
end
mutual
def IsV:Ty→List V→Prop
 | .int k,cs=>∃ n,cs=[.s (.int k n)]∧k.min≤n∧n≤k.max
 | .bool,cs=>∃ b,cs=[.s (.bool b)]
 | .str,cs=>∃ b,cs=[.s (.string b)]∧b.size≤maxLen
 | .sl e,cs=>cs=[oh]∨∃ es:List (List V),cs=[.psl es e.width]∧es.length≤maxLen∧∀ x∈es,IsV e x
 | .st fs,cs=>a9l fs cs
def a9l:List Ty→List V→Prop
 | [],cs=>cs=[]
 | f :: fs,cs=>∃ a b,cs=a ++ b∧IsV f a∧a9l fs b
end
mutual
theorem IsV.len:∀ (t:Ty) {cs:List V},IsV t cs→cs.length=t.width
 | .int _,cs,h=>by obtain ⟨n,rfl,_⟩:=h;rfl
 | .bool,cs,h=>by obtain ⟨n,rfl⟩:=h;rfl
 | .str,cs,h=>by obtain ⟨n,rfl,_⟩:=h;rfl
 | .sl e,cs,h=>by rcases h with rfl | ⟨es,rfl,_⟩ <;> rfl
 | .st fs,cs,h=>a9l.len fs h
theorem a9l.len:∀ (fs:List Ty) {cs:List V},a9l fs cs→cs.length=ahj fs
 | [],cs,h=>by cases h;rfl
 | f :: fs,cs,h=>by
   obtain ⟨a,b,rfl,h1,h2⟩:=h;rw [dh,IsV.len f h1,a9l.len fs h2];rfl
end
abbrev PRs (w:World) (vs:List V) (cs:List Value):Prop:=vs.length=cs.length∧∀ (i:Nat) (a:V) (b:Value),vs[i]?=some a→cs[i]?=some b→PR (fun _=>False) w a b
theorem PRs.app {w:World} {a b:List V} {c d:List Value} (h:PRs w a c) (k:PRs w b d):PRs w (a ++ b) (c ++ d):=by
 refine ⟨by simp [h.1,k.1],fun i x y hx hy=>?_⟩
 by_cases hi:i < a.length
 ·rw [ag hi] at hx
  rw [ag (by rw [← h.1];exact hi)] at hy
  exact h.2 i x y hx hy
 ·rw [az (by omega)] at hx
  rw [az (by rw [← h.1];omega),← h.1] at hy
  exact k.2 _ x y hx hy
theorem PRs.one {w:World} {a:V} {b:Value} (h:PR (fun _=>False) w a b):PRs w [a] [b]:=⟨rfl,fun i x y hx hy=>by
 cases i with
 | zero=>simp at hx hy;rw [← hx,← hy];exact h
 | succ i=>simp at hx⟩
theorem PRs.vrs {w:World} {vs:List V} {cs:List Value} (h:PRs w vs cs):VRs (fun _ _=>none) (fun _=>False) w vs cs:=⟨h.1,fun i a b ha hb=>(h.2 i a b ha hb).vr⟩
theorem a2a {α β:Type} {f:α→Option β} {l:List α} {us:List β} (h:l.mapM f=some us):us.length=l.length∧∀ (i:Nat) (v:α),l[i]?=some v→∃ u,us[i]?=some u∧f v=some u:=by
 obtain ⟨h1,h2⟩:=aot h;refine ⟨h1,fun i v hv=>?_⟩
 have hi:i < us.length:=by rw [h1];exact (af.1 hv).1
 exact ⟨us[i],ah hi,h2 i v _ hv (ah hi)⟩
section
variable {H:Type} {enc:TypeId × Value→H} {P:Program} {w:World} {base:Nat} {sp:Nat→Bool} {held:Bool}
theorem add_block (a:Addr) (j:Nat):(a.add j).block=a.block:=by unfold Addr.add;split <;> rfl
theorem az1 {a:Addr} (h:a.spot=none) (j:Nat):(a.add j).off=a.off+j:=by
 unfold Addr.add;split
 ·rename_i e;subst e;rfl
 ·rfl
theorem apl {a:Addr} {n:Nat} {cs:List Value} (h:w.cells? base a n=some cs) (hn:0 < n):∃ arr e fr,w.heap[a.block]?=some (.cells arr e fr)∧a.spot=none∧cs.length=n∧a.off+n≤arr.size∧∀ j,j < n→cs[j]?=arr[a.off+j]?:=by
 unfold World.cells? at h;split at h
 ·obtain ⟨h1,h2⟩:=a2a h;simp only [List.length_range] at h1
  have key:∀ j,j < n→∃ u,cs[j]?=some u∧w.cell? (a.add j)=some u:=fun j hj=>h2 j j (by simp [hj])
  obtain ⟨u0,_,hc0⟩:=key 0 hn;unfold World.cell? at hc0;split at hc0
  ·rename_i c e fr hh;have hbl:∀ j,(a.add j).block=a.block:=fun j=>add_block a j;rw [hbl] at hh;split at hc0
   ·cases hc0
   ·rename_i hsp
    have hsp:a.spot=none:=by
     cases hs:a.spot with
     | none=>rfl
     | some x=>exact absurd (by show (a.add 0).spot.isSome=true;simp [Addr.add,hs]) hsp
    have all:∀ j,j < n→cs[j]?=c[a.off+j]?:=by
     intro j hj;obtain ⟨u,hu,hc⟩:=key j hj;unfold World.cell? at hc;rw [hbl,hh] at hc;simp only [] at hc;split at hc
     ·cases hc
     ·rw [hu];have:(a.add j).off=a.off+j:=az1 hsp j;rw [← this];exact hc.symm
    refine ⟨c,e,fr,hh,hsp,h1,?_,all⟩
    have hl:=all (n - 1) (by omega)
    have:cs[n - 1]?=some cs[n - 1]:=ah (by omega)
    rw [this] at hl;have:=(jb.1 hl.symm).1;omega
  ·cases hc0
 ·cases h
theorem a0i {n:Nat} {k:IntKind} {t:TypeId} (h:akc P n (.int k) t=true):P.underlying t=some (.int k):=by
 cases n with
 | zero=>simp [akc] at h
 | succ n=>
   simp only [akc] at h;split at h <;> simp_all
theorem av0 {n:Nat} {t:TypeId} (h:akc P n .bool t=true):P.underlying t=some .bool:=by
 cases n with
 | zero=>simp [akc] at h
 | succ n=>
   simp only [akc] at h;split at h <;> simp_all
theorem a0h {n:Nat} {t:TypeId} (h:akc P n .str t=true):P.underlying t=some .string:=by
 cases n with
 | zero=>simp [akc] at h
 | succ n=>
   simp only [akc] at h;split at h <;> simp_all
theorem a6b {n:Nat} {e:Ty} {t:TypeId} (h:akc P n (.sl e) t=true):∃ m e',P.underlying t=some (.slice e')∧akc P m e e'=true∧P.cellsOf e'=e.width∧0 < e.width:=by
 cases n with
 | zero=>simp [akc] at h
 | succ n=>
   simp only [akc] at h;split at h <;> simp_all;exact ⟨n,h.1.1⟩
theorem a6a {n:Nat} {fs:List Ty} {t:TypeId} (h:akc P n (.st fs) t=true):∃ m gs,P.underlying t=some (.struct gs)∧P.cellsOf t=ahj fs∧ap2 P m 0 fs gs.toList=true:=by
 cases n with
 | zero=>simp [akc] at h
 | succ n=>
   simp only [akc] at h;split at h <;> simp_all;exact ⟨n,h.2⟩
theorem a6p:∀ (fuel n:Nat) (ty:Ty) (t:TypeId) (cs:List Value) (x:DataW H × List MemPlace),akc P n ty t=true→DataW.trod enc P w base sp held fuel t cs=some x→∃ vs,IsV ty vs∧PRs w vs cs:=by
 intro fuel
 induction fuel with
 | zero=>intro n ty t cs x _ h;simp [DataW.trod] at h
 | succ fuel ih=>
   intro n ty t cs x ht h;cases ty with
   | int k=>
     obtain ⟨m,rfl,_,hw⟩:=DataW.trod_int (a0i ht) h;simp only [Lit.wf,bi,decide_eq_true_eq] at hw;exact ⟨[.s (.int k m)],⟨m,rfl,hw.1,hw.2⟩,PRs.one (.s _)⟩
   | bool=>
     obtain ⟨b,rfl,_⟩:=DataW.trod_bool (av0 ht) h;exact ⟨[.s (.bool b)],⟨b,rfl⟩,PRs.one (.s _)⟩
   | str=>
     obtain ⟨b,rfl,_,hb⟩:=DataW.trod_string (a0h ht) h;exact ⟨[.s (.string b)],⟨b,rfl,hb⟩,PRs.one (.s _)⟩
   | sl e=>
     obtain ⟨m,e',hu,he,hw,h0⟩:=a6b ht
     rcases DataW.trod_slice hu h with ⟨rfl,_⟩ | ⟨a,len,cap,elems,rest,n2,hn,rfl,_,hb,hlc,hcm,hel,hall,_⟩
     ·exact ⟨[oh],.inl rfl,PRs.one (.s _)⟩
     ·have hn2:n2=fuel:=by omega
      subst hn2;rw [hw] at hall;by_cases hl:len=0
      ·subst hl
       exact ⟨[.psl [] e.width],.inr ⟨[],rfl,jf _,fun x hx=>by cases hx⟩,PRs.one (.psl0 _ _ _)⟩
      ·
       have one:∀ i,i < len→∃ cs vs,w.cells? base (a.add (i * e.width)) e.width=some cs∧IsV e vs∧PRs w vs cs:=by
        intro i hi;have hh:=hall i hi
        have:elems[i]?=some elems[i]:=ah (by omega)
        rw [this,aj] at hh;obtain ⟨cs,h1,h2⟩:=hh;obtain ⟨vs,h3,h4⟩:=ih m e e' cs _ he h2;exact ⟨cs,vs,h1,h3,h4⟩
       obtain ⟨c0,_,hc0,_,_⟩:=one 0 (by omega)
       rw [az5] at hc0
       have ha0:a.add 0=a:=by simp [Addr.add]
       rw [ha0] at hc0;obtain ⟨arr,el,fr,hB,hsp,_,_,_⟩:=apl hc0 h0
       have pos:∀ i,i < len→∃ vs,IsV e vs∧a.off+i * e.width+e.width≤arr.size∧∀ (j:Nat) (x:V) (y:Value),vs[j]?=some x→arr[a.off+i * e.width+j]?=some y→PR (fun _=>False) w x y:=by
        intro i hi;obtain ⟨cs,vs,h1,h2,h3⟩:=one i hi;obtain ⟨arr',el',fr',hB',_,hcl,hsz,hcj⟩:=apl h1 h0;rw [add_block,hB] at hB';cases hB';rw [az1 hsp] at hsz hcj;refine ⟨vs,h2,hsz,fun j x y hx hy=>?_⟩
        have hj:j < e.width:=by rw [← h2.len];exact (af.1 hx).1
        exact h3.2 j x y hx (by rw [hcj j hj];exact hy)
       obtain ⟨es,he1,he2⟩:∃ es:List (List V),es.length=len∧∀ i vs,es[i]?=some vs→IsV e vs∧a.off+i * e.width+e.width≤arr.size∧∀ (j:Nat) (x:V) (y:Value),vs[j]?=some x→arr[a.off+i * e.width+j]?=some y→PR (fun _=>False) w x y:=by
        have:∀ k,k≤len→∃ es:List (List V),es.length=k∧∀ i vs,es[i]?=some vs→IsV e vs∧a.off+i * e.width+e.width≤arr.size∧∀ (j:Nat) (x:V) (y:Value),vs[j]?=some x→arr[a.off+i * e.width+j]?=some y→PR (fun _=>False) w x y:=by
         intro k
         induction k with
         | zero=>intro _;exact ⟨[],rfl,fun i vs h=>by simp at h⟩
         | succ k ihk=>
           intro hk
           obtain ⟨es,h1,h2⟩:=ihk (by omega)
           obtain ⟨vs,h3⟩:=pos k (by omega)
           refine ⟨es ++ [vs],by simp [h1],fun i us hi=>?_⟩
           by_cases c:i < es.length
           ·rw [ag c] at hi;exact h2 i us hi
           ·rw [az (by omega)] at hi
            have:i - es.length=0:=by
             have:=(af.1 hi).1;simp at this;omega
            rw [this] at hi;simp at hi
            have hik:i=k:=by omega
            subst hik;subst hi;exact h3
        exact this len (ak _)
       refine ⟨[.psl es e.width],.inr ⟨es,rfl,by omega,fun x hx=>?_⟩,PRs.one ?_⟩
       ·obtain ⟨i,hi⟩:=acz.1 hx;exact (he2 i x hi).1
       ·have hslice:Value.slice (some a) len cap=.slice (some ⟨a.block,a.off,none⟩) es.length cap:=by
         rw [he1]
         congr 2
         cases a;simp at hsp;subst hsp;rfl
        rw [hslice]
        refine .psl es e.width a.block a.off cap arr el fr hB (fun h=>h) (by omega) (fun i vs hi=>(he2 i vs hi).1.len) ?_ (fun i vs j x y hi hx hy=>(he2 i vs hi).2.2 j x y hx hy)
        have hlast:=(he2 (len - 1) es[len - 1] (ah (by omega))).2.1
        rw [he1]
        have:len * e.width=(len - 1) * e.width+e.width:=by
         obtain ⟨k,rfl⟩:∃ k,len=k+1:=⟨len - 1,by omega⟩
         rw [Nat.add_sub_cancel,uy,a5s]
        omega
   | st fs=>
     obtain ⟨m,gs,hu,hw,hts⟩:=a6a ht;obtain ⟨xs,n2,hn,_,hcl,hxl,hall⟩:=DataW.trod_struct hu h
     have hn2:n2=fuel:=by omega
     subst hn2
     have key:∀ (fs:List Ty) (m off:Nat) (gl:List Field),ap2 P m off fs gl=true→(∀ g∈gl,∃ y,DataW.trod enc P w base sp held n2 g.type ((cs.drop g.offset).take (P.cellsOf g.type))=some y)→off+ahj fs=cs.length→∃ vs,a9l fs vs∧PRs w vs (cs.drop off):=by
      intro fs
      induction fs with
      | nil=>
        intro m off gl _ _ ho;refine ⟨[],rfl,?_⟩
        rw [om (by simp [ahj] at ho;omega)]
        exact ⟨rfl,fun i a b h=>by simp at h⟩
      | cons f fs ihf=>
        intro m off gl htk hg ho;cases m with
        | zero=>simp [ap2] at htk
        | succ m=>
          cases gl with
          | nil=>simp [ap2] at htk
          | cons g gl=>
            simp only [ap2,bi,beq_iff_eq] at htk;obtain ⟨⟨⟨h1,h2⟩,h3⟩,h4⟩:=htk;obtain ⟨y,hy⟩:=hg g gm;obtain ⟨va,ha1,ha2⟩:=ih m f g.type _ y h3 hy
            obtain ⟨vb,hb1,hb2⟩:=ihf m (off+f.width) gl h4 (fun g hg'=>hg g (d9 _ hg')) (by simp only [ahj] at ho;omega)
            refine ⟨va ++ vb,⟨va,vb,rfl,ha1,hb1⟩,?_⟩;rw [h1,h2] at ha2
            have:cs.drop off=(cs.drop off).take f.width ++ cs.drop (off+f.width):=by
             rw [← acx,ou]
            rw [this];exact ha2.app hb2
     obtain ⟨vs,h1,h2⟩:=key fs m 0 gs.toList hts (fun g hg=>by
      obtain ⟨i,hi⟩:=acz.1 hg
      have hi':gs[i]?=some g:=by simpa using hi
      have h3:=hall i g hi';have hlt:=(jb.1 hi').1
      exact ⟨xs[i]'(by omega),by rw [h3];exact ah (by omega)⟩) (by omega)
     exact ⟨vs,h1,by simpa using h2⟩
def argV:Ty→List V→V
 | .st _,vs=>.agg vs
 | _,[v]=>v
 | _,_=>.unk
theorem asv {n:Nat} {ty:Ty} {t:TypeId} {v:Value} {d:DataW H} {ps:List MemPlace} (ht:akc P n ty t=true) (hf:(match ty with | .st _=>∃ vs,v=.agg vs | _=>v.cells.toList=[v])) (h:DataW.Trod enc P w base sp held t v d ps):
 ∃ vs,IsV ty vs∧VR (fun _ _=>none) (fun _=>False) w (argV ty vs) v:=by
 obtain ⟨fuel,h⟩:=h;obtain ⟨vs,h1,h2⟩:=a6p fuel n ty t _ _ ht h;refine ⟨vs,h1,?_⟩
 have one:vs.length=1→v.cells.toList=[v]→∃ x,vs=[x]∧VR (fun _ _=>none) (fun _=>False) w x v:=by
  intro hl hc
  match vs,hl with
  | [x],_=>
    rw [hc] at h2;exact ⟨x,rfl,(h2.2 0 x v rfl rfl).vr⟩
 cases ty with
 | st fs=>
   obtain ⟨us,rfl⟩:=hf;exact ac9 (vs:=us.toList) h2.vrs
 | _=>
   obtain ⟨x,rfl,hx⟩:=one h1.len hf;exact hx
end
end Go.AM
set_option maxRecDepth 100000
namespace Go.Proofs.YtbocmenkkjbigaaDoor
open Go.ChangeShapes Go.WideShapes Go.ChangeAt Go.RowKit Go.AM
theorem mixed:Tryd.prog.follows .mixedOrders=true:=by kernel_rfl
theorem atf {px:PX}:abg Tryd.prog px 27 (.prim a9p):=bb7 (Go.Proofs.enters_of Tryd.func27 (by kernel_rfl) rfl) (fun s c w=>Any.strings_IndexByte Tryd.idxK s c w)
theorem apq {px:PX}:abg Tryd.prog px 33 (.prim apr):=a8y (t:=Tryd.atoiK_ren.t 5) (Go.Proofs.enters_of Tryd.func33 (by kernel_rfl) rfl) (fun s n h1 h2 w=>Any.strconv_Atoi Tryd.atoiK s n h1 h2 w)
def CT0:Nat→Option CFun
 | 13=>some (.code adi)
 | 16=>some (.code afr)
 | 18=>some (.code adh)
 | 25=>some (.code aj6)
 | 26=>some (.code aiz)
 | 27=>some (.prim a9p)
 | 28=>some (.code aj5)
 | 29=>some (.code aj4)
 | 30=>some (.code aj3)
 | 31=>some (.code aj2)
 | 32=>some (.code aj1)
 | 33=>some (.prim apr)
 | 34=>some (.code aj0)
 | 35=>some (.code afq)
 | 36=>some (.code aiy)
 | 37=>some (.code agr)
 | 38=>some (.code ac5)
 | 39=>some (.code aeg)
 | 49=>some (.code aiw)
 | 50=>some (.code aez)
 | 51=>some (.code agq)
 | 52=>some (.code alj)
 | 53=>some (.code ali)
 | 60=>some (.code ac4)
 | 61=>some (.code afp)
 | 62=>some (.code afo)
 | 63=>some (.code aew)
 | 64=>some (.code aiu)
 | 65=>some (.code agp)
 | 66=>some (.code ais)
 | 67=>some (.code aqb)
 | 68=>some (.code aiq)
 | 69=>some (.code aio)
 | 70=>some (.code afn)
 | 71=>some (.code aes)
 | _=>none
theorem bdl:∀ k c,CT0 k=some c→abg Tryd.prog (PXf (fun _=>none)) k c:=by
 intro k c h;unfold CT0 at h;split at h
 ·cases h;exact lc (fun _=>none) a5r
 ·cases h;exact lc (fun _=>none) bdj
 ·cases h;exact lc (fun _=>none) bcu
 ·cases h;exact lc (fun _=>none) a5q
 ·cases h;exact lc (fun _=>none) a5p
 ·cases h;exact atf
 ·cases h;exact lc (fun _=>none) a5o
 ·cases h;exact lc (fun _=>none) a5n
 ·cases h;exact lc (fun _=>none) a5m
 ·cases h;exact lc (fun _=>none) a5l
 ·cases h;exact lc (fun _=>none) a5k
 ·cases h;exact apq
 ·cases h;exact lc (fun _=>none) bdi
 ·cases h;exact lc (fun _=>none) bdh
 ·cases h;exact lc (fun _=>none) bdg
 ·cases h;exact lc (fun _=>none) bdf
 ·cases h;exact lc (fun _=>none) bde
 ·cases h;exact lc (fun _=>none) bct
 ·cases h;exact lc (fun _=>none) bdd
 ·cases h;exact lc (fun _=>none) bdc
 ·cases h;exact lc (fun _=>none) bdb
 ·cases h;exact lc (fun _=>none) bcs
 ·cases h;exact lc (fun _=>none) bcr
 ·cases h;exact lc (fun _=>none) bda
 ·cases h;exact lc (fun _=>none) bc9
 ·cases h;exact lc (fun _=>none) bc8
 ·cases h;exact lc (fun _=>none) bc7
 ·cases h;exact lc (fun _=>none) bc6
 ·cases h;exact lc (fun _=>none) bc5
 ·cases h;exact lc (fun _=>none) bc4
 ·cases h;exact lc (fun _=>none) bcz
 ·cases h;exact lc (fun _=>none) bcy
 ·cases h;exact lc (fun _=>none) bcx
 ·cases h;exact lc (fun _=>none) bcw
 ·cases h;exact lc (fun _=>none) bcv
 ·cases h
theorem tl0:TL CT0:=⟨rfl,rfl,rfl,rfl,rfl,rfl,rfl,rfl,rfl⟩
theorem tr0:RdT CT0:=by constructor <;> rfl
theorem to0:OpsT CT0:=by constructor <;> first | exact tr0 | rfl
theorem ti0:InsT CT0:=by constructor <;> first | exact to0 | rfl
theorem tf0:FunT CT0:=by constructor <;> first | exact ti0 | rfl
theorem auy:abg Tryd.prog (PXf (fun _=>none)) 9 (.prim (a5d CT0)):=a1h mixed bdl a1l
theorem a1i {CT:Nat→Option CFun} (hT:CT a9n=some (.prim (a5d CT0))):ajv CT:=fun base _ b hb=>aw8 hT tf0 rfl tl0 base hb b
theorem a4b (os:Os) (args:Array Value):laidMetH Tryd.prog Rows.readParsesRow.laid ((World.doorLaid Tryd.prog 400 os).forCall (fun _ _=>0) ⟨#[],args,[]⟩).memory:=by
 rw [MakeChecks.laidMetH_plain _ _ _ (by kernel_rfl)]
 exact laidMet_of_run' 8 (by kernel_rfl) (by kernel_rfl)
open Go.AM
structure Goes (W V:Vw) (k:Nat):Prop where
 kind:∀ a,a < k→V.kind a=W.kind a
 text:∀ a,a < k→V.text a=W.text a
 num:∀ a,a < k→V.num a=W.num a
 same:∀ a,a < k→V.same a=W.same a
 kk:W.kind k=4
 kt:W.text k=[]
 ks:V.same k=false
def Sim {α:Type} (k:Nat) (r s:Except Nat (α × Nat)):Prop:=match r with
 | .ok p=>p.2≤k∧s=.ok p
 | .error j=>j < k→s=.error j
theorem Sim.bind {α β:Type} {k a:Nat} {f f':Rx α} {g g':α→Rx β} (h:Sim k (f a) (f' a)) (hg:∀ x b,b≤k→f a=.ok (x,b)→Sim k (g x b) (g' x b)):Sim k (Rx.bind f g a) (Rx.bind f' g' a):=by
 unfold Rx.bind;unfold Sim at h;cases hf:f a with
 | error j=>
   rw [hf] at h;intro hj;rw [h hj]
 | ok p=>
   obtain ⟨x,b⟩:=p;rw [hf] at h;obtain ⟨h1,h2⟩:=h;rw [h2];exact hg x b h1 hf
section
variable {W V:Vw} {k:Nat}
theorem Goes.isT (h:Goes W V k) (s:List UInt8) {a:Nat} (ha:a≤k):isT V s a=isT W s a:=by
 unfold Go.Proofs.YtbocmenkkjbigaaDoor.isT
 rcases Nat.lt_or_ge a k with hlt | hge
 ·rw [h.same a hlt,h.kind a hlt,h.text a hlt]
 ·have:a=k:=by omega
  subst this;rw [h.ks,h.kk];simp
theorem Goes.isT_lt (h:Goes W V k) {s:List UInt8} {a:Nat} (ha:a≤k) (hi:Go.Proofs.YtbocmenkkjbigaaDoor.isT W s a=true):a < k:=by
 rcases Nat.lt_or_ge a k with hlt | hge
 ·exact hlt
 ·have:a=k:=by omega
  subst this;unfold Go.Proofs.YtbocmenkkjbigaaDoor.isT at hi;rw [h.kk] at hi;simp at hi
theorem Goes.kd (h:Goes W V k) {n:Nat} (hn:n≠4) {a:Nat} (ha:a≤k):(V.same a && V.kind a == n)=(W.same a && W.kind a == n)∧((W.same a && W.kind a == n)=true→a < k):=by
 rcases Nat.lt_or_ge a k with hlt | hge
 ·exact ⟨by rw [h.same a hlt,h.kind a hlt],fun _=>hlt⟩
 ·have:a=k:=by omega
  subst this
  have hf:(W.same a && W.kind a == n)=false:=by rw [h.kk,show ((4:Nat) == n)=false from by rw [beq_eq_false_iff_ne];exact pu hn,Bool.and_false]
  exact ⟨by rw [hf,h.ks,ow],fun e=>by rw [hf] at e;cases e⟩
theorem Goes.name (h:Goes W V k) {a:Nat} (ha:a≤k):Sim k (oo W a) (oo V a):=by
 obtain ⟨h1,h2⟩:=h.kd (n:=1) (by decide) ha
 unfold oo Sim;by_cases hk:(W.same a && W.kind a == 1)=true
 ·rw [if_pos hk,if_pos (h1.trans hk),h.text a (h2 hk)];exact ⟨h2 hk,rfl⟩
 ·rw [if_neg hk,if_neg (by rw [h1];exact hk)]
  exact fun _=>rfl
theorem Goes.size (h:Goes W V k) {a:Nat} (ha:a≤k):Sim k (ry W a) (ry V a):=by
 obtain ⟨h1,h2⟩:=h.kd (n:=2) (by decide) ha
 unfold ry Sim;by_cases hk:(W.same a && W.kind a == 2)=true
 ·rw [if_pos hk,if_pos (h1.trans hk),h.num a (h2 hk)];exact ⟨h2 hk,rfl⟩
 ·rw [if_neg hk,if_neg (by rw [h1];exact hk)]
  exact fun _=>rfl
theorem Goes.sign (h:Goes W V k) (s:List UInt8) {a:Nat} (ha:a≤k):Sim k (qz W s a) (qz V s a):=by
 have h1:=h.isT s ha;unfold qz Sim;by_cases hk:Go.Proofs.YtbocmenkkjbigaaDoor.isT W s a=true
 ·rw [if_pos hk,if_pos (h1.trans hk)];exact ⟨h.isT_lt ha hk,rfl⟩
 ·rw [if_neg hk,if_neg (by rw [h1];exact hk)]
  exact fun _=>rfl
theorem Goes.begT (h:Goes W V k) {a:Nat} (ha:a≤k):begT V a=begT W a:=by
 unfold Go.Proofs.YtbocmenkkjbigaaDoor.begT
 rcases Nat.lt_or_ge a k with hlt | hge
 ·rw [h.same a hlt,h.kind a hlt]
 ·have:a=k:=by omega
  subst this;rw [h.ks,h.kk];simp
theorem Goes.secT (h:Goes W V k) (s:List UInt8) {a:Nat} (ha:a < k):secT V s a=secT W s a∧(secT W s a=true→a+2≤k):=by
 unfold Go.Proofs.YtbocmenkkjbigaaDoor.secT;rw [h.kind a ha]
 rcases Nat.lt_or_ge (a+1) k with hlt | hge
 ·exact ⟨by rw [h.same _ hlt,h.kind _ hlt,h.text _ hlt],fun _=>hlt⟩
 ·have e:a+1=k:=by omega
  rw [e,h.ks,h.kk];simp
theorem Goes.list (h:Goes W V k):∀ (n n':Nat) {acc:List ByteArray} {a:Nat},a≤k→k < a+n→k < a+n'→Sim k (aat W n acc a) (aat V n' acc a):=by
 intro n
 induction n with
 | zero=>intro n' acc a ha hk;omega
 | succ n ih=>
   intro n' acc a ha hk hk';cases n' with
   | zero=>omega
   | succ n'=>
     rw [aat,aat,h.isT [41] ha];by_cases hi:Go.Proofs.YtbocmenkkjbigaaDoor.isT W [41] a=true
     ·rw [if_pos hi,if_pos hi];exact ⟨ha,rfl⟩
     ·rw [if_neg hi,if_neg hi];by_cases h0:acc.length > 0
      ·rw [if_pos h0,if_pos h0];refine (h.sign [44] ha).bind fun u b hb hs=>(h.name hb).bind fun x c hc hn=>?_;have:=pg hs;have:=lh hn
       exact ih n' hc (by omega) (by omega)
      ·rw [if_neg h0,if_neg h0];refine (h.name ha).bind fun x c hc hn=>?_;have:=lh hn
       exact ih n' hc (by omega) (by omega)
theorem Goes.listT (h:Goes W V k) {N N':Nat} (hN:k < N) (hN':k < N') {a:Nat} (ha:a≤k):Sim k (listT W N a) (listT V N' a):=
 (h.sign [40] ha).bind fun _ b hb _=>(h.list N N' hb (by omega) (by omega)).bind fun _ c hc _=>(h.sign [41] hc).bind fun _ d hd _=>⟨hd,rfl⟩
theorem Goes.phi (h:Goes W V k):∀ (n n':Nat) {ls xs:List ByteArray} {a:Nat},a≤k→k < a+n→k < a+n'→Sim k (amb W n ls xs a) (amb V n' ls xs a):=by
 intro n
 induction n with
 | zero=>intro n' ls xs a ha hk;omega
 | succ n ih=>
   intro n' ls xs a ha hk hk';cases n' with
   | zero=>omega
   | succ n'=>
     rw [amb,amb];refine (h.name ha).bind fun l b hb hl=>(h.sign [58] hb).bind fun u c hc hu=>(h.name hc).bind fun x d hd hx=>?_;have:=lh hl;have:=pg hu;have:=lh hx;rw [h.isT [44] hd];by_cases hi:Go.Proofs.YtbocmenkkjbigaaDoor.isT W [44] d=true
     ·rw [if_pos hi,if_pos hi];refine (h.sign [44] hd).bind fun u e he hs=>?_;have:=pg hs
      exact ih n' he (by omega) (by omega)
     ·rw [if_neg hi,if_neg hi];exact ⟨hd,rfl⟩
theorem Goes.op (h:Goes W V k) {N N':Nat} (hN:k < N) (hN':k < N') (o:Nat) (x:InsD) {a:Nat} (ha:a≤k):Sim k (opT W N o x a) (opT V N' o x a):=by
 unfold opT;split
 ·exact (h.size ha).bind fun n b hb _=>⟨hb,rfl⟩
 ·exact (h.size ha).bind fun n b hb _=>⟨hb,rfl⟩
 ·exact ⟨ha,rfl⟩
 ·exact (h.name ha).bind fun n b hb _=>⟨hb,rfl⟩
 ·exact (h.name ha).bind fun n b hb _=>⟨hb,rfl⟩
 ·exact (h.name ha).bind fun n b hb _=>⟨hb,rfl⟩
 ·exact (h.sign [91] ha).bind fun _ b hb _=>(h.phi N N' hb (by omega) (by omega)).bind fun p c hc _=>(h.sign [93] hc).bind fun _ d hd _=>⟨hd,rfl⟩
 ·exact (h.name ha).bind fun s b hb _=>(h.size hb).bind fun n c hc _=>⟨hc,rfl⟩
 ·exact (h.name ha).bind fun s b hb _=>(h.sign [44] hb).bind fun _ c hc _=>(h.name hc).bind fun t d hd _=>⟨hd,rfl⟩
 ·exact (h.name ha).bind fun s b hb _=>(h.listT hN hN' hb).bind fun l c hc _=>⟨hc,rfl⟩
 ·exact (h.name ha).bind fun s b hb _=>(h.listT hN hN' hb).bind fun l c hc _=>⟨hc,rfl⟩
 ·exact (h.name ha).bind fun s b hb _=>(h.name hb).bind fun t c hc _=>⟨hc,rfl⟩
 ·exact (h.name ha).bind fun s b hb _=>⟨hb,rfl⟩
 ·dsimp only
  obtain ⟨h1,_⟩:=h.kd (n:=1) (by decide) ha
  rw [h1];by_cases hk:(W.same a && W.kind a == 1)=true
  ·rw [if_pos hk,if_pos hk];exact (h.name ha).bind fun n b hb _=>⟨hb,rfl⟩
  ·rw [if_neg hk,if_neg hk];exact ⟨ha,rfl⟩
 ·exact fun _=>rfl
theorem Goes.ins (h:Goes W V k) {N N':Nat} (hN:k < N) (hN':k < N') (d:ByteArray) (l:List (List UInt8 × Nat)) {b:Nat} (hb:b < k):Sim k (arp W N d l b) (arp V N' d l b):=by
 unfold arp;rw [h.text b hb,h.kind b hb];cases amf l (W.text b) with
 | none=>
   dsimp only;split <;> exact fun _=>rfl
 | some o=>
   dsimp only;by_cases h1:W.kind b=1
   ·rw [if_pos h1,if_pos h1];exact h.op hN hN' o _ hb
   ·rw [if_neg h1,if_neg h1];exact fun _=>rfl
theorem look_nil:amf an1 []=none:=by decide
theorem Goes.instr (h:Goes W V k) {N N':Nat} (hN:k < N) (hN':k < N') {a:Nat} (ha:a < k) (hnm:W.kind a=1→W.text a≠[]):Sim k (abo W N a) (abo V N' a):=by
 obtain ⟨h1,h2⟩:=h.secT [61] ha;unfold abo;rw [h1];by_cases hs:Go.Proofs.YtbocmenkkjbigaaDoor.secT W [61] a=true
 ·rw [if_pos hs,if_pos hs];have hk:=h2 hs;rw [h.text a ha]
  have hk1:W.kind a=1:=by
   unfold Go.Proofs.YtbocmenkkjbigaaDoor.secT at hs;rw [bi,beq_iff_eq] at hs;exact hs.1
  rcases Nat.lt_or_ge (a+2) k with hlt | hge
  ·rw [h.same _ hlt];by_cases hm:W.same (a+2)=true
   ·rw [if_pos hm,if_pos hm];exact h.ins hN hN' _ _ hlt
   ·rw [if_neg hm,if_neg hm];exact fun _=>rfl
  ·have e:a+2=k:=by omega
   rw [e,h.ks];by_cases hm:W.same k=true
   ·rw [if_pos hm];unfold arp;rw [h.kt,look_nil];dsimp only
    rw [if_neg (by exact hnm hk1)]
    intro hj;omega
   ·rw [if_neg hm];intro hj;omega
 ·rw [if_neg hs,if_neg hs];exact h.ins hN hN' _ _ ha
theorem Goes.blk (h:Goes W V k) {N N':Nat} (hN:k < N) (hN':k < N') (hnm:∀ a,a < k→W.kind a=1→W.text a≠[]) (h4:∀ a,a < k→W.kind a≠4) (nm:ByteArray) (ps:List ByteArray):∀ (n n':Nat) {bs:List BlkD} {a:Nat},a≤k→k < a+n→k < a+n'→Sim k (anh W N nm ps n bs a) (anh V N' nm ps n' bs a):=by
 intro n
 induction n with
 | zero=>intro n' bs a ha hk;omega
 | succ n ih=>
   intro n' bs a ha hk hk';cases n' with
   | zero=>omega
   | succ n'=>
     rw [anh,anh,h.begT ha];by_cases hb:Go.Proofs.YtbocmenkkjbigaaDoor.begT W a=true
     ·rw [if_pos hb,if_pos hb];exact fun _=>rfl
     rw [if_neg hb,if_neg hb]
     rcases Nat.lt_or_ge a k with hlt | hge
     ·rw [h.kind a hlt,h.text a hlt,(h.secT [58] hlt).1];by_cases hc:(W.kind a == 3 && W.text a == [125])=true
      ·rw [if_pos hc,if_pos hc,h.begT (a:=a+1) hlt];by_cases hb2:Go.Proofs.YtbocmenkkjbigaaDoor.begT W (a+1)=true
       ·rw [if_pos hb2];exact fun _=>rfl
       ·rw [if_neg hb2];exact ⟨hlt,rfl⟩
      rw [if_neg hc,if_neg hc];by_cases hs:Go.Proofs.YtbocmenkkjbigaaDoor.secT W [58] a=true
      ·rw [if_pos hs,if_pos hs]
       exact ih n' ((h.secT [58] hlt).2 hs) (by omega) (by omega)
      rw [if_neg hs,if_neg hs]
      by_cases hq:(W.kind a != 1 || bs.length == 0)=true
      ·rw [if_pos hq,if_pos hq];split <;> exact fun _=>rfl
      rw [if_neg hq,if_neg hq];refine (h.instr hN hN' hlt (hnm a hlt)).bind fun x b hb' hi=>?_;have:=ad8 hi
      exact ih n' hb' (by omega) (by omega)
     ·have e:a=k:=by omega
      subst e;rw [h.kk]
      rw [if_neg (by simp),if_neg (by unfold Go.Proofs.YtbocmenkkjbigaaDoor.secT;rw [h.kk];simp),if_pos (by rfl),if_neg (by decide)]
      intro hj;omega
theorem Goes.fun' (h:Goes W V k) {N N':Nat} (hN:k < N) (hN':k < N') (hnm:∀ a,a < k→W.kind a=1→W.text a≠[]) (h4:∀ a,a < k→W.kind a≠4) {a:Nat} (ha:a < k):Sim k (apv W N a) (apv V N' a):=by
 unfold apv
 exact (h.name ha).bind fun nm b hb _=>(h.listT hN hN' hb).bind fun ps c hc _=>(h.sign [123] hc).bind fun _ d hd _=>h.blk hN hN' hnm h4 nm ps N N' hd (by omega) (by omega)
theorem Goes.par (h:Goes W V k) {N N':Nat} (hN:k < N) (hN':k < N') (hnm:∀ a,a < k→W.kind a=1→W.text a≠[]) (h4:∀ a,a < k→W.kind a≠4):∀ (n n':Nat) {fs:List FunD} {a:Nat},a≤k→k < a+n→k < a+n'→match agf W N n fs a with
 | .ok (fs',b)=>b=k∧∃ m,n'+a≤m+k∧agf V N' n' fs a=agf V N' m fs' k
 | .error j=>j < k→agf V N' n' fs a=.error j:=by
 intro n
 induction n with
 | zero=>intro n' fs a ha hk;omega
 | succ n ih=>
   intro n' fs a ha hk hk';cases n' with
   | zero=>omega
   | succ n'=>
     rcases Nat.lt_or_ge a k with hlt | hge
     ·rw [agf,agf,h.kind a hlt,h.text a hlt,if_neg (h4 a hlt),if_neg (h4 a hlt)]
      by_cases hb:(W.kind a != 1 || W.text a != [102,117,110,99])=true
      ·rw [if_pos hb,if_pos hb];exact fun _=>rfl
      rw [if_neg hb,if_neg hb];have hs:=h.fun' hN hN' hnm h4 hlt;unfold Rx.bind;unfold Sim at hs;cases hf:apv W N a with
      | error j=>
        rw [hf] at hs;intro hj;rw [hs hj]
      | ok p=>
        obtain ⟨f,b⟩:=p;rw [hf] at hs;obtain ⟨s1,s2⟩:=hs;rw [s2];dsimp only at s1 ⊢;have:=(ams hf).1
        have q:=ih n' (fs:=fs ++ [f]) s1 (by omega) (by omega)
        cases hp:agf W N n (fs ++ [f]) b with
        | error j=>rw [hp] at q;exact q
        | ok r=>
          obtain ⟨fs',c⟩:=r;rw [hp] at q;obtain ⟨q1,m,q2,q3⟩:=q
          exact ⟨q1,m,by omega,q3⟩
     ·have e:a=k:=by omega
      subst e;rw [agf,if_pos h.kk]
      exact ⟨rfl,n'+1,by omega,rfl⟩
end
open Go.AM
structure Shift (U V:Vw) (k K:Nat):Prop where
 kind:∀ a,a≤K→V.kind (a+k)=U.kind a
 text:∀ a,a≤K→V.text (a+k)=U.text a
 num:∀ a,a≤K→V.num (a+k)=U.num a
 same:∀ a,a≤K→V.same (a+k)=U.same a
 kk:U.kind K=4
 k4:∀ a,a < K→U.kind a≠4
 nm:∀ a,a < K→U.kind a=1→U.text a≠[]
def ShR {α:Type} (k K:Nat) (r s:Except Nat (α × Nat)):Prop:=match r with
 | .ok p=>p.2≤K∧s=.ok (p.1,p.2+k)
 | .error j=>j≤K∧s=.error (j+k)
theorem ShR.bind {α β:Type} {k K a:Nat} {f f':Rx α} {g g':α→Rx β} (h:ShR k K (f a) (f' (a+k))) (hg:∀ x b,b≤K→f a=.ok (x,b)→ShR k K (g x b) (g' x (b+k))):ShR k K (Rx.bind f g a) (Rx.bind f' g' (a+k)):=by
 unfold Rx.bind;unfold ShR at h;cases hf:f a with
 | error j=>
   rw [hf] at h;rw [h.2];exact ⟨h.1,rfl⟩
 | ok p=>
   obtain ⟨x,b⟩:=p;rw [hf] at h;obtain ⟨h1,h2⟩:=h;rw [h2];exact hg x b h1 hf
section
variable {U V:Vw} {k K:Nat}
theorem Shift.isT (h:Shift U V k K) (s:List UInt8) {a:Nat} (ha:a≤K):isT V s (a+k)=isT U s a:=by
 unfold Go.Proofs.YtbocmenkkjbigaaDoor.isT;rw [h.same a ha,h.kind a ha,h.text a ha]
theorem Shift.isT_lt (h:Shift U V k K) {s:List UInt8} {a:Nat} (ha:a≤K) (hi:Go.Proofs.YtbocmenkkjbigaaDoor.isT U s a=true):a < K:=by
 rcases Nat.lt_or_ge a K with hlt | hge
 ·exact hlt
 ·have:a=K:=by omega
  subst this;unfold Go.Proofs.YtbocmenkkjbigaaDoor.isT at hi;rw [h.kk] at hi;simp at hi
theorem Shift.kd (h:Shift U V k K) {n:Nat} (hn:n≠4) {a:Nat} (ha:a≤K):(V.same (a+k) && V.kind (a+k) == n)=(U.same a && U.kind a == n)∧((U.same a && U.kind a == n)=true→a < K):=by
 refine ⟨by rw [h.same a ha,h.kind a ha],fun hi=>?_⟩
 rcases Nat.lt_or_ge a K with hlt | hge
 ·exact hlt
 ·have:a=K:=by omega
  subst this
  rw [h.kk,show ((4:Nat) == n)=false from by rw [beq_eq_false_iff_ne];exact pu hn,Bool.and_false] at hi
  cases hi
theorem Shift.name (h:Shift U V k K) {a:Nat} (ha:a≤K):ShR k K (oo U a) (oo V (a+k)):=by
 obtain ⟨h1,h2⟩:=h.kd (n:=1) (by decide) ha
 unfold oo ShR;by_cases hk:(U.same a && U.kind a == 1)=true
 ·rw [if_pos hk,if_pos (h1.trans hk),h.text a ha]
  exact ⟨h2 hk,by rw [Nat.add_right_comm]⟩
 ·rw [if_neg hk,if_neg (by rw [h1];exact hk)]
  exact ⟨ha,rfl⟩
theorem Shift.size (h:Shift U V k K) {a:Nat} (ha:a≤K):ShR k K (ry U a) (ry V (a+k)):=by
 obtain ⟨h1,h2⟩:=h.kd (n:=2) (by decide) ha
 unfold ry ShR;by_cases hk:(U.same a && U.kind a == 2)=true
 ·rw [if_pos hk,if_pos (h1.trans hk),h.num a ha]
  exact ⟨h2 hk,by rw [Nat.add_right_comm]⟩
 ·rw [if_neg hk,if_neg (by rw [h1];exact hk)]
  exact ⟨ha,rfl⟩
theorem Shift.sign (h:Shift U V k K) (s:List UInt8) {a:Nat} (ha:a≤K):ShR k K (qz U s a) (qz V s (a+k)):=by
 have h1:=h.isT s ha;unfold qz ShR;by_cases hk:Go.Proofs.YtbocmenkkjbigaaDoor.isT U s a=true
 ·rw [if_pos hk,if_pos (h1.trans hk)]
  exact ⟨h.isT_lt ha hk,by rw [Nat.add_right_comm]⟩
 ·rw [if_neg hk,if_neg (by rw [h1];exact hk)]
  exact ⟨ha,rfl⟩
theorem Shift.begT (h:Shift U V k K) {a:Nat} (ha:a≤K):begT V (a+k)=begT U a:=by
 unfold Go.Proofs.YtbocmenkkjbigaaDoor.begT;rw [h.same a ha,h.kind a ha]
theorem Shift.secT (h:Shift U V k K) (s:List UInt8) {a:Nat} (ha:a < K):secT V s (a+k)=secT U s a∧(secT U s a=true→a+2≤K):=by
 unfold Go.Proofs.YtbocmenkkjbigaaDoor.secT;rw [h.kind a (Nat.le_of_lt ha),Nat.add_right_comm,h.same _ ha,h.kind _ ha,h.text _ ha];refine ⟨rfl,fun hi=>?_⟩
 rcases Nat.lt_or_ge (a+1) K with hlt | hge
 ·exact hlt
 ·have e:a+1=K:=by omega
  rw [e,h.kk] at hi;simp at hi
theorem Shift.list (h:Shift U V k K):∀ (n n':Nat) {acc:List ByteArray} {a:Nat},a≤K→K < a+n→K < a+n'→ShR k K (aat U n acc a) (aat V n' acc (a+k)):=by
 intro n
 induction n with
 | zero=>intro n' acc a ha hk;omega
 | succ n ih=>
   intro n' acc a ha hk hk';cases n' with
   | zero=>omega
   | succ n'=>
     rw [aat,aat,h.isT [41] ha];by_cases hi:Go.Proofs.YtbocmenkkjbigaaDoor.isT U [41] a=true
     ·rw [if_pos hi,if_pos hi];exact ⟨ha,rfl⟩
     ·rw [if_neg hi,if_neg hi];by_cases h0:acc.length > 0
      ·rw [if_pos h0,if_pos h0];refine (h.sign [44] ha).bind fun u b hb hs=>(h.name hb).bind fun x c hc hn=>?_;have:=pg hs;have:=lh hn
       exact ih n' hc (by omega) (by omega)
      ·rw [if_neg h0,if_neg h0];refine (h.name ha).bind fun x c hc hn=>?_;have:=lh hn
       exact ih n' hc (by omega) (by omega)
theorem Shift.listT (h:Shift U V k K) {N N':Nat} (hN:K < N) (hN':K < N') {a:Nat} (ha:a≤K):ShR k K (listT U N a) (listT V N' (a+k)):=
 (h.sign [40] ha).bind fun _ b hb _=>(h.list N N' hb (by omega) (by omega)).bind fun _ c hc _=>(h.sign [41] hc).bind fun _ d hd _=>⟨hd,rfl⟩
theorem Shift.phi (h:Shift U V k K):∀ (n n':Nat) {ls xs:List ByteArray} {a:Nat},a≤K→K < a+n→K < a+n'→ShR k K (amb U n ls xs a) (amb V n' ls xs (a+k)):=by
 intro n
 induction n with
 | zero=>intro n' ls xs a ha hk;omega
 | succ n ih=>
   intro n' ls xs a ha hk hk';cases n' with
   | zero=>omega
   | succ n'=>
     rw [amb,amb];refine (h.name ha).bind fun l b hb hl=>(h.sign [58] hb).bind fun u c hc hu=>(h.name hc).bind fun x d hd hx=>?_;have:=lh hl;have:=pg hu;have:=lh hx;rw [h.isT [44] hd];by_cases hi:Go.Proofs.YtbocmenkkjbigaaDoor.isT U [44] d=true
     ·rw [if_pos hi,if_pos hi];refine (h.sign [44] hd).bind fun u e he hs=>?_;have:=pg hs
      exact ih n' he (by omega) (by omega)
     ·rw [if_neg hi,if_neg hi];exact ⟨hd,rfl⟩
theorem Shift.op (h:Shift U V k K) {N N':Nat} (hN:K < N) (hN':K < N') (o:Nat) (x:InsD) {a:Nat} (ha:a≤K):ShR k K (opT U N o x a) (opT V N' o x (a+k)):=by
 unfold opT;split
 ·exact (h.size ha).bind fun n b hb _=>⟨hb,rfl⟩
 ·exact (h.size ha).bind fun n b hb _=>⟨hb,rfl⟩
 ·exact ⟨ha,rfl⟩
 ·exact (h.name ha).bind fun n b hb _=>⟨hb,rfl⟩
 ·exact (h.name ha).bind fun n b hb _=>⟨hb,rfl⟩
 ·exact (h.name ha).bind fun n b hb _=>⟨hb,rfl⟩
 ·exact (h.sign [91] ha).bind fun _ b hb _=>(h.phi N N' hb (by omega) (by omega)).bind fun p c hc _=>(h.sign [93] hc).bind fun _ d hd _=>⟨hd,rfl⟩
 ·exact (h.name ha).bind fun s b hb _=>(h.size hb).bind fun n c hc _=>⟨hc,rfl⟩
 ·exact (h.name ha).bind fun s b hb _=>(h.sign [44] hb).bind fun _ c hc _=>(h.name hc).bind fun t d hd _=>⟨hd,rfl⟩
 ·exact (h.name ha).bind fun s b hb _=>(h.listT hN hN' hb).bind fun l c hc _=>⟨hc,rfl⟩
 ·exact (h.name ha).bind fun s b hb _=>(h.listT hN hN' hb).bind fun l c hc _=>⟨hc,rfl⟩
 ·exact (h.name ha).bind fun s b hb _=>(h.name hb).bind fun t c hc _=>⟨hc,rfl⟩
 ·exact (h.name ha).bind fun s b hb _=>⟨hb,rfl⟩
 ·dsimp only
  obtain ⟨h1,_⟩:=h.kd (n:=1) (by decide) ha
  rw [h1];by_cases hk:(U.same a && U.kind a == 1)=true
  ·rw [if_pos hk,if_pos hk];exact (h.name ha).bind fun n b hb _=>⟨hb,rfl⟩
  ·rw [if_neg hk,if_neg hk];exact ⟨ha,rfl⟩
 ·exact ⟨ha,rfl⟩
theorem Shift.ins (h:Shift U V k K) {N N':Nat} (hN:K < N) (hN':K < N') (d:ByteArray) (l:List (List UInt8 × Nat)) {b:Nat} (hb:b≤K) (hd:b < K∨d.data.toList≠[]):ShR k K (arp U N d l b) (arp V N' d l (b+k)):=by
 unfold arp;rw [h.text b hb,h.kind b hb];cases amf l (U.text b) with
 | none=>
   dsimp only;split
   ·rename_i e
    refine ⟨?_,by rw [Nat.add_right_comm]⟩
    rcases hd with q | q
    ·exact q
    ·exact absurd e q
   ·exact ⟨hb,rfl⟩
 | some o=>
   dsimp only;by_cases h1:U.kind b=1
   ·rw [if_pos h1,if_pos h1,Nat.add_right_comm]
    exact h.op hN hN' o _ (by
     rcases Nat.lt_or_ge b K with q | q
     ·exact q
     ·have e:b=K:=by omega
      rw [e,h.kk] at h1;cases h1)
   ·rw [if_neg h1,if_neg h1];exact ⟨hb,rfl⟩
theorem a8x {l:List UInt8} (h:l≠[]):(bOf l).data.toList≠[]:=by
 simpa [bOf] using h
theorem Shift.instr (h:Shift U V k K) {N N':Nat} (hN:K < N) (hN':K < N') {a:Nat} (ha:a < K):ShR k K (abo U N a) (abo V N' (a+k)):=by
 obtain ⟨h1,h2⟩:=h.secT [61] ha;unfold abo;rw [h1];by_cases hs:Go.Proofs.YtbocmenkkjbigaaDoor.secT U [61] a=true
 ·rw [if_pos hs,if_pos hs];have hk:=h2 hs
  have hk1:U.kind a=1:=by
   unfold Go.Proofs.YtbocmenkkjbigaaDoor.secT at hs;rw [bi,beq_iff_eq] at hs;exact hs.1
  rw [h.text a (by omega),Nat.add_right_comm,h.same _ hk]
  by_cases hm:U.same (a+2)=true
  ·rw [if_pos hm,if_pos hm];exact h.ins hN hN' _ _ hk (Or.inr (a8x (h.nm a ha hk1)))
  ·rw [if_neg hm,if_neg hm];exact ⟨hk,rfl⟩
 ·rw [if_neg hs,if_neg hs];exact h.ins hN hN' _ _ (Nat.le_of_lt ha) (Or.inl ha)
theorem Shift.blk (h:Shift U V k K) {N N':Nat} (hN:K < N) (hN':K < N') (nm:ByteArray) (ps:List ByteArray):∀ (n n':Nat) {bs:List BlkD} {a:Nat},a≤K→K < a+n→K < a+n'→ShR k K (anh U N nm ps n bs a) (anh V N' nm ps n' bs (a+k)):=by
 intro n
 induction n with
 | zero=>intro n' bs a ha hk;omega
 | succ n ih=>
   intro n' bs a ha hk hk';cases n' with
   | zero=>omega
   | succ n'=>
     rw [anh,anh,h.begT ha];by_cases hb:Go.Proofs.YtbocmenkkjbigaaDoor.begT U a=true
     ·rw [if_pos hb,if_pos hb];exact ⟨ha,rfl⟩
     rw [if_neg hb,if_neg hb]
     rcases Nat.lt_or_ge a K with hlt | hge
     ·rw [h.kind a ha,h.text a ha,(h.secT [58] hlt).1];by_cases hc:(U.kind a == 3 && U.text a == [125])=true
      ·rw [if_pos hc,if_pos hc,Nat.add_right_comm,h.begT (a:=a+1) hlt];by_cases hb2:Go.Proofs.YtbocmenkkjbigaaDoor.begT U (a+1)=true
       ·rw [if_pos hb2,if_pos hb2];exact ⟨hlt,rfl⟩
       ·rw [if_neg hb2,if_neg hb2];exact ⟨hlt,rfl⟩
      rw [if_neg hc,if_neg hc];by_cases hs:Go.Proofs.YtbocmenkkjbigaaDoor.secT U [58] a=true
      ·rw [if_pos hs,if_pos hs,Nat.add_right_comm]
       exact ih n' ((h.secT [58] hlt).2 hs) (by omega) (by omega)
      rw [if_neg hs,if_neg hs]
      by_cases hq:(U.kind a != 1 || bs.length == 0)=true
      ·rw [if_pos hq,if_pos hq];split
       ·exact ⟨hlt,by rw [Nat.add_right_comm]⟩
       ·exact ⟨ha,rfl⟩
      rw [if_neg hq,if_neg hq];refine (h.instr hN hN' hlt).bind fun x b hb' hi=>?_;have:=ad8 hi
      exact ih n' hb' (by omega) (by omega)
     ·have e:a=K:=by omega
      have k1:V.kind (a+k)=4:=by rw [h.kind a ha,e,h.kk]
      have k2:U.kind a=4:=by rw [e,h.kk]
      have q1:Go.Proofs.YtbocmenkkjbigaaDoor.secT U [58] a=false:=by unfold Go.Proofs.YtbocmenkkjbigaaDoor.secT;rw [k2];rfl
      have q2:Go.Proofs.YtbocmenkkjbigaaDoor.secT V [58] (a+k)=false:=by unfold Go.Proofs.YtbocmenkkjbigaaDoor.secT;rw [k1];rfl
      rw [k1,k2,q1,q2];exact ⟨ha,rfl⟩
theorem Shift.fun' (h:Shift U V k K) {N N':Nat} (hN:K < N) (hN':K < N') {a:Nat} (ha:a < K):ShR k K (apv U N a) (apv V N' (a+k)):=by
 unfold apv;rw [Nat.add_right_comm]
 exact (h.name ha).bind fun nm b hb _=>(h.listT hN hN' hb).bind fun ps c hc _=>(h.sign [123] hc).bind fun _ d hd _=>h.blk hN hN' nm ps N N' hd (by omega) (by omega)
theorem Shift.par (h:Shift U V k K) {N N':Nat} (hN:K < N) (hN':K < N') (gs:List FunD):∀ (n n':Nat) {fs:List FunD} {a:Nat},a≤K→K < a+n→K < a+n'→match agf U N n fs a with
 | .ok (fs',b)=>agf V N' n' (gs ++ fs) (a+k)=.ok (gs ++ fs',b+k)
 | .error j=>j≤K∧agf V N' n' (gs ++ fs) (a+k)=.error (j+k):=by
 intro n
 induction n with
 | zero=>intro n' fs a ha hk;omega
 | succ n ih=>
   intro n' fs a ha hk hk';cases n' with
   | zero=>omega
   | succ n'=>
     rcases Nat.lt_or_ge a K with hlt | hge
     ·rw [agf,agf,h.kind a ha,h.text a ha,if_neg (h.k4 a hlt),if_neg (h.k4 a hlt)]
      by_cases hb:(U.kind a != 1 || U.text a != [102,117,110,99])=true
      ·rw [if_pos hb,if_pos hb];exact ⟨ha,rfl⟩
      rw [if_neg hb,if_neg hb];have hs:=h.fun' hN hN' hlt;unfold Rx.bind;unfold ShR at hs;cases hf:apv U N a with
      | error j=>
        rw [hf] at hs;dsimp only;rw [hs.2];exact ⟨hs.1,rfl⟩
      | ok p=>
        obtain ⟨f,b⟩:=p;rw [hf] at hs;obtain ⟨s1,s2⟩:=hs;rw [s2];dsimp only at s1 ⊢;have:=(ams hf).1;rw [jg]
        exact ih n' (fs:=fs ++ [f]) s1 (by omega) (by omega)
     ·have e:a=K:=by omega
      have k1:V.kind (a+k)=4:=by rw [h.kind a ha,e,h.kk]
      have k2:U.kind a=4:=by rw [e,h.kk]
      rw [agf,if_pos k2,agf,if_pos k1]
end
open Go.AM
structure Wd (us:List Tok.T) (ln L:Nat):Prop where
 le:ln≤L
 all:∀ t∈us,t.kind≠4∧(t.kind=1→t.text≠[])∧ln≤t.line∧t.line≤L
theorem Wd.nil (ln:Nat):Wd [] ln ln:=⟨ak _,fun t ht=>by simp at ht⟩
theorem Wd.low {us:List Tok.T} {ln ln' L:Nat} (h:Wd us ln L) (hl:ln'≤ln):Wd us ln' L:=⟨kr hl h.le,fun t ht=>by obtain ⟨a,b,c,d⟩:=h.all t ht;exact ⟨a,b,kr hl c,d⟩⟩
theorem Wd.cons {us:List Tok.T} {ln L:Nat} {t:Tok.T} (h:Wd us ln L) (h4:t.kind≠4) (h1:t.kind=1→t.text≠[]) (hl:t.line=ln):Wd (t :: us) ln L:=⟨h.le,fun x hx=>by
 rcases kz.1 hx with rfl | hx
 ·exact ⟨h4,h1,Nat.le_of_eq hl.symm,by rw [hl];exact h.le⟩
 ·exact h.all x hx⟩
theorem bbt:∀ (n:Nat) (l:List UInt8) (ln cl:Nat) (ts:List Tok.T),l.length≤n→Tok.lex l ln cl=.done ts→∃ us L c,ts=us ++ [⟨4,[],0,L,c⟩]∧Wd us ln L:=by
 intro n
 induction n with
 | zero=>
   intro l ln cl ts hl h
   have:l=[]:=di (by omega)
   subst this;rw [Tok.lex_nil] at h;cases h;exact ⟨[],ln,cl,rfl,Wd.nil _⟩
 | succ n ih=>
   intro l ln cl ts hl h;cases l with
   | nil=>
     rw [Tok.lex_nil] at h;cases h;exact ⟨[],ln,cl,rfl,Wd.nil _⟩
   | cons c l=>
     rw [dx] at hl;rw [Tok.lex_cons] at h;split at h
     ·split at h
      ·obtain ⟨us,L,c,e,w⟩:=ih _ _ _ _ (by omega) h
       exact ⟨us,L,c,e,w.low (bd2 _)⟩
      ·exact ih _ _ _ _ (by omega) h
     split at h
     ·exact ih _ _ _ _ (by rw [iw];omega) h
     split at h
     ·obtain ⟨us,hu,rfl⟩:=Tok.cons_done h
      obtain ⟨vs,L,c,e,w⟩:=ih _ _ _ _ (by rw [iw];omega) hu
      exact ⟨_ :: vs,L,c,by rw [e];rfl,w.cons (fun e=>by cases e) (fun _=>by simp) rfl⟩
     split at h
     ·split at h
      ·cases h
      ·obtain ⟨us,hu,rfl⟩:=Tok.cons_done h
       obtain ⟨vs,L,c,e,w⟩:=ih _ _ _ _ (by rw [iw];omega) hu
       exact ⟨_ :: vs,L,c,by rw [e];rfl,w.cons (fun e=>by cases e) (fun e=>by cases e) rfl⟩
     split at h
     ·obtain ⟨us,hu,rfl⟩:=Tok.cons_done h
      obtain ⟨vs,L,c,e,w⟩:=ih _ _ _ _ (by omega) hu
      exact ⟨_ :: vs,L,c,by rw [e];rfl,w.cons (fun e=>by cases e) (fun e=>by cases e) rfl⟩
     ·cases h
theorem sj {us vs:List Tok.T} {a:Nat} (h:a < us.length):(us ++ vs).getD a tkE=us.getD a tkE:=by
 rw [ma,ag h,← ma]
theorem af0 (us vs:List Tok.T) (a:Nat):(us ++ vs).getD (a+us.length) tkE=vs.getD a tkE:=by
 rw [ma,az (by omega),Nat.add_sub_cancel,← ma]
theorem ad9 (us:List Tok.T) (e:Tok.T):(us ++ [e]).getD us.length tkE=e:=by
 have:=af0 us [e] 0;rw [kg] at this;rw [this];rfl
theorem Wd.at {us:List Tok.T} {ln L:Nat} (h:Wd us ln L) {a:Nat} (ha:a < us.length):(us.getD a tkE).kind≠4∧((us.getD a tkE).kind=1→(us.getD a tkE).text≠[])∧ln≤(us.getD a tkE).line∧(us.getD a tkE).line≤L:=by
 have e:us.getD a tkE=us[a]:=by rw [ma,ah ha];rfl
 rw [e];exact h.all _ (qx ha)
theorem a8c {us vs:List Tok.T} {L c:Nat} (h:Wd us 1 L) (hv:L < (vs.getD 0 tkE).line):Goes (Vw.of (us ++ [⟨4,[],0,L,c⟩])) (Vw.of (us ++ vs)) us.length where
 kind a ha:=by show ((us ++ vs).getD a tkE).kind=_;rw [sj ha];exact (congrArg Tok.T.kind (sj ha)).symm
 text a ha:=by show ((us ++ vs).getD a tkE).text=_;rw [sj ha];exact (congrArg Tok.T.text (sj ha)).symm
 num a ha:=by show ((us ++ vs).getD a tkE).n=_;rw [sj ha];exact (congrArg Tok.T.n (sj ha)).symm
 same a ha:=by
  show (decide (a > 0) && ((us ++ vs).getD (a - 1) tkE).line == ((us ++ vs).getD a tkE).line)=(decide (a > 0) && ((us ++ [_]).getD (a - 1) tkE).line == ((us ++ [_]).getD a tkE).line)
  rw [sj ha,sj ha,sj (show a - 1 < us.length by omega),sj (show a - 1 < us.length by omega)]
 kk:=by show ((us ++ [_]).getD us.length tkE).kind=4;rw [ad9]
 kt:=by show ((us ++ [_]).getD us.length tkE).text=[];rw [ad9]
 ks:=by
  show (decide (us.length > 0) && ((us ++ vs).getD (us.length - 1) tkE).line == ((us ++ vs).getD us.length tkE).line)=false;have e:=af0 us vs 0;rw [kg] at e;rw [e];by_cases h0:us.length > 0
  ·rw [sj (show us.length - 1 < us.length by omega)]
   have:=(h.at (a:=us.length - 1) (by omega)).2.2.2
   rw [beq_eq_false_iff_ne.2 (by omega),Bool.and_false]
  ·rw [decide_eq_false h0,ow]
theorem ajg (vs:List Tok.T) (m:Nat) {a:Nat} (h:a < vs.length):(vs.map (Tok.T.down m)).getD a tkE=(vs.getD a tkE).down m:=by
 rw [ma,ma,ng,ah h];rfl
theorem a0q {us ws:List Tok.T} {L M c:Nat} (h:Wd us 1 L) (hw:Wd ws 1 M):Shift (Vw.of (ws ++ [⟨4,[],0,M,c⟩])) (Vw.of (us ++ (ws ++ [(⟨4,[],0,M,c⟩:Tok.T)]).map (Tok.T.down L))) us.length ws.length:=by
 obtain ⟨vs,hvs⟩:∃ x,ws ++ [(⟨4,[],0,M,c⟩:Tok.T)]=x:=⟨_,rfl⟩
 have lv:vs.length=ws.length+1:=by rw [← hvs];simp
 have key:∀ a,a≤ws.length→(us ++ vs.map (Tok.T.down L)).getD (a+us.length) tkE=(vs.getD a tkE).down L:=fun a ha=>by rw [af0,ajg _ _ (by omega)]
 have h0:1≤(vs.getD 0 tkE).line:=by
  rw [← hvs];cases hl:ws.length with
  | zero=>
    have e:=ad9 ws (⟨4,[],0,M,c⟩:Tok.T);rw [hl] at e;rw [e];exact hw.le
  | succ n=>rw [sj (by omega)];exact (hw.at (by omega)).2.2.1
 rw [hvs]
 refine ⟨fun a ha=>by show ((us ++ vs.map (Tok.T.down L)).getD (a+us.length) tkE).kind=_;rw [key a ha];rfl,fun a ha=>by show ((us ++ vs.map (Tok.T.down L)).getD (a+us.length) tkE).text=_;rw [key a ha];rfl,fun a ha=>by show ((us ++ vs.map (Tok.T.down L)).getD (a+us.length) tkE).n=_;rw [key a ha];rfl,fun a ha=>?_,?_,fun a ha=>?_,fun a ha hk=>?_⟩
 ·show (decide (a+us.length > 0) && ((us ++ vs.map (Tok.T.down L)).getD (a+us.length - 1) tkE).line == ((us ++ vs.map (Tok.T.down L)).getD (a+us.length) tkE).line)=(decide (a > 0) && (vs.getD (a - 1) tkE).line == (vs.getD a tkE).line);rw [key a ha];cases a with
  | zero=>
    rw [decide_eq_false (show ¬ 0 > 0 by omega),ow]
    by_cases hu:us.length > 0
    ·rw [kg,sj (show us.length - 1 < us.length by omega)]
     have:=(h.at (a:=us.length - 1) (by omega)).2.2.2
     have e:((vs.getD 0 tkE).down L).line=(vs.getD 0 tkE).line+L:=rfl
     rw [e,beq_eq_false_iff_ne.2 (by omega),Bool.and_false]
    ·rw [decide_eq_false (show ¬ 0+us.length > 0 by omega),ow]
  | succ a=>
    rw [show a+1+us.length - 1=a+us.length by omega,key a (by omega),decide_eq_true (show a+1+us.length > 0 by omega),decide_eq_true (show a+1 > 0 by omega),oq,oq]
    show ((vs.getD a tkE).line+L == (vs.getD (a+1) tkE).line+L)=((vs.getD a tkE).line == (vs.getD (a+1) tkE).line);rw [lq,beq_iff_eq,beq_iff_eq];omega
 ·show (vs.getD ws.length tkE).kind=4;rw [← hvs,ad9]
 ·show (vs.getD a tkE).kind≠4;rw [← hvs,sj ha];exact (hw.at ha).1
 ·replace hk:(vs.getD a tkE).kind=1:=hk;show (vs.getD a tkE).text≠[];rw [← hvs,sj ha] at hk ⊢;exact (hw.at ha).2.1 hk
theorem ag8 (l:List UInt8) (hl:l.length≤1048576):(∃ us L c,Wd us 1 L∧Tok.lex l 1 1=.done (us ++ [⟨4,[],0,L,c⟩])∧adq l=(us ++ [⟨4,[],0,L,c⟩],(0,0),0))∨(∃ e p q,(e=30∨e=31)∧Tok.lex l 1 1=.bad e p q∧adq l=([],(p,q),e)):=by
 unfold adq
 rw [if_neg (by omega)]
 cases hx:Tok.lex l 1 1 with
 | done ts=>
   obtain ⟨us,L,c,rfl,w⟩:=bbt l.length l 1 1 ts (ak _) hx;exact Or.inl ⟨us,L,c,w,rfl,rfl⟩
 | bad e p q=>exact Or.inr ⟨e,p,q,(Tok.lex_ahead l.length l (1,1) e p q (ak _) hx).1,rfl,rfl⟩
def bdr (ts:List Tok.T) (j:Nat):List FunD × (Nat × Nat) × Nat:=([],((ts.getD j tkE).line,(ts.getD j tkE).col),if (ts.getD j tkE).kind=4 then 41 else 40)
def ansR (ts:List Tok.T):Except Nat (List FunD)→List FunD × (Nat × Nat) × Nat
 | .ok fs=>(fs,(0,0),0)
 | .error j=>bdr ts j
theorem aft {l:List UInt8} {ts:List Tok.T} (h:adq l=(ts,(0,0),0)):abm l=ansR ts (a5c ts):=by
 unfold abm;rw [h];dsimp only;rw [if_pos rfl];cases a5c ts <;> rfl
theorem afu {l:List UInt8} {p q e:Nat} (h:adq l=([],(p,q),e)) (he:e=30∨e=31):abm l=([],(p,q),e):=by
 unfold abm;rw [h];dsimp only
 rw [if_neg (by omega)]
theorem ar7 (ts:List Tok.T) (j:Nat):(bdr ts j).2.2≠0:=by
 unfold bdr;dsimp only;split <;> decide
def parV (V:Vw) (n:Nat):Except Nat (List FunD):=match agf V n n [] 0 with
 | .error e=>.error e
 | .ok (fs,_)=>.ok fs
theorem axb (ts:List Tok.T):a5c ts=parV (Vw.of ts) (ts.length+1):=rfl
theorem a2r {a b:List UInt8} (ha:a.length≤1500) (hb:b.length≤1500):
 ((abm a).2.2≠0→(abm a).2.2=41∨(abm (a ++ 10 :: b)).2.2≠0)∧
 ((abm a).2.2=0→(adq a).2.2=0∧∃ us L c,Wd us 1 L∧(adq a).1=us ++ [⟨4,[],0,L,c⟩]∧
  ((abm b).2.2≠0→(abm (a ++ 10 :: b)).2.2=(abm b).2.2∧(abm (a ++ 10 :: b)).2.1=((abm b).2.1.1+L,(abm b).2.1.2))∧
  ((abm b).2.2=0→abm (a ++ 10 :: b)=((abm a).1 ++ (abm b).1,(0,0),0))):=by
 have hj:=Tok.lex_join b a.length a 1 1 (ak _)
 have lj:(a ++ 10 :: b).length≤1048576:=by simp;omega
 rcases ag8 a (by omega) with ⟨us,L,c,w,h1,h2⟩ | ⟨e,p,q,he,h1,h2⟩
 ·have hm:((us ++ [(⟨4,[],0,L,c⟩:Tok.T)]).getLast?.map Tok.T.line).getD 0=L:=by simp
  have hd:(us ++ [(⟨4,[],0,L,c⟩:Tok.T)]).dropLast=us:=by simp
  have hdn:=Tok.lex_down L b.length b 1 1 (ak _);rw [h1] at hj
  unfold Tok.Out.then' at hj
  dsimp only at hj;rw [hm,hd,Nat.add_comm L 1,hdn] at hj;have hA:=aft h2
  have lA:(us ++ [(⟨4,[],0,L,c⟩:Tok.T)]).length=us.length+1:=by simp
  have k4:∀ x,x < us.length→(Vw.of (us ++ [(⟨4,[],0,L,c⟩:Tok.T)])).kind x≠4:=fun x hx=>by
   show ((us ++ [_]).getD x tkE).kind≠4;rw [sj hx];exact (w.at hx).1
  have knm:∀ x,x < us.length→(Vw.of (us ++ [(⟨4,[],0,L,c⟩:Tok.T)])).kind x=1→(Vw.of (us ++ [(⟨4,[],0,L,c⟩:Tok.T)])).text x≠[]:=fun x hx=>by
   show ((us ++ [_]).getD x tkE).kind=1→((us ++ [_]).getD x tkE).text≠[];rw [sj hx];exact (w.at hx).2.1
  rcases ag8 b (by omega) with ⟨ws,M,d,w',g1,g2⟩ | ⟨e,p,q,he,g1,g2⟩
  ·
   rw [g1] at hj;have hB:=aft g2;obtain ⟨vs,hvs⟩:∃ x,(ws ++ [(⟨4,[],0,M,d⟩:Tok.T)]).map (Tok.T.down L)=x:=⟨_,rfl⟩
   have hJ:adq (a ++ 10 :: b)=(us ++ vs,(0,0),0):=by
    unfold adq
    rw [if_neg (by omega),hj]
    dsimp only [Tok.Out.down,Tok.Out.app];rw [hvs]
   have hR:=aft hJ
   have lv:vs.length=ws.length+1:=by rw [← hvs];simp
   have hv0:L < (vs.getD 0 tkE).line:=by
    rw [← hvs,ajg _ _ (by simp)]
    show L < ((ws ++ [_]).getD 0 tkE).line+L
    have:1≤((ws ++ [(⟨4,[],0,M,d⟩:Tok.T)]).getD 0 tkE).line:=by
     cases hl:ws.length with
     | zero=>
       have e:=ad9 ws (⟨4,[],0,M,d⟩:Tok.T);rw [hl] at e;rw [e];exact w'.le
     | succ n=>rw [sj (by omega)];exact (w'.at (by omega)).2.2.1
    omega
   have G:=a8c (c:=c) w hv0;have S:=a0q (L:=L) (c:=d) w w';rw [hvs] at S
   have gp:=G.par (N:=us.length+1+1) (N':=(us ++ vs).length+1) (by omega) (by rw [dh];omega) knm k4 (us.length+1+1) ((us ++ vs).length+1) (fs:=[]) (a:=0) (jf _) (by omega) (by rw [dh];omega)
   rw [hA,hR,hB,axb,axb,axb,lA];unfold parV;cases hp:agf (Vw.of (us ++ [⟨4,[],0,L,c⟩])) (us.length+1+1) (us.length+1+1) [] 0 with
   | error j=>
     rw [hp] at gp;dsimp only;refine ⟨fun _=>?_,fun h=>absurd h (ar7 _ _)⟩
     rcases Nat.lt_or_ge j us.length with hlt | hge
     ·right;rw [gp hlt];exact ar7 _ _
     ·left
      show (if ((us ++ [(⟨4,[],0,L,c⟩:Tok.T)]).getD j tkE).kind=4 then 41 else 40)=41
      rw [if_pos]
      rcases Nat.eq_or_lt_of_le hge with e | hgt
      ·rw [← e,ad9]
      ·rw [ma,jo (by rw [lA];omega)]
       rfl
   | ok r=>
     obtain ⟨fs,x⟩:=r;rw [hp] at gp;obtain ⟨rfl,m,g3,g4⟩:=gp;dsimp only
     refine ⟨fun h=>absurd rfl h,fun _=>⟨by rw [h2],us,L,c,w,by rw [h2],?_⟩⟩
     have sp:=S.par (N:=ws.length+1+1) (N':=(us ++ vs).length+1) (by omega) (by rw [dh];omega) fs (ws.length+1+1) m (fs:=[]) (a:=0) (jf _) (by omega) (by rw [dh] at g3;omega)
     rw [g4];rw [yc,kg] at sp
     rw [show (ws ++ [(⟨4,[],0,M,d⟩:Tok.T)]).length+1=ws.length+1+1 by simp]
     cases hq:agf (Vw.of (ws ++ [⟨4,[],0,M,d⟩])) (ws.length+1+1) (ws.length+1+1) [] 0 with
     | error j=>
       rw [hq] at sp;obtain ⟨s1,s2⟩:=sp;rw [s2];refine ⟨fun _=>?_,fun h=>absurd h (ar7 _ _)⟩;dsimp only [ansR,bdr]
       rw [← hvs,af0,ajg _ _ (by simp;omega)]
       exact ⟨rfl,rfl⟩
     | ok r=>
       obtain ⟨fs',y⟩:=r;rw [hq] at sp;dsimp only at sp ⊢;rw [sp];exact ⟨fun h=>absurd rfl h,fun _=>rfl⟩
  ·rw [g1] at hj;have hB:=afu g2 he
   have hJ:adq (a ++ 10 :: b)=([],(p+L,q),e):=by
    unfold adq
    rw [if_neg (by omega),hj]
    rfl
   have hR:=afu hJ he;rw [hA,hR,hB]
   refine ⟨fun _=>Or.inr (by show e≠0;omega),fun _=>⟨by rw [h2],us,L,c,w,by rw [h2],fun _=>⟨rfl,rfl⟩,fun h=>?_⟩⟩
   exact absurd h (by show e≠0;omega)
 ·rw [h1] at hj
  have hJ:adq (a ++ 10 :: b)=([],(p,q),e):=by
   unfold adq
   rw [if_neg (by omega),hj]
   rfl
  rw [afu h2 he,afu hJ he]
  exact ⟨fun _=>Or.inr (by show e≠0;omega),fun h=>absurd h (by show e≠0;omega)⟩
open Go.AM
theorem qo.look {m:Nat} {F:Heap} {v:V} {R:List (List V)} (h:qo m 5 F v R):∃ id g,∀ (i:Nat) (r:List V),R[i]?=some r→mf 5 v (.s (.int .i64 i))=some (.ref id g (i * 5))∧∀ H,bn F.length [] F H→ve H true 5 (.ref id g (i * 5))=some (.agg r)∧∀ (o:Nat) (x:V),r[o]?=some x→ve H false 1 (.ref id g (i * 5+o))=some x:=by
 obtain ⟨hR,⟨rfl,rfl⟩ | ⟨id,g,rfl,hc,hid⟩⟩:=h
 ·exact ⟨0,0,fun i r hr=>by simp at hr⟩
 ·refine ⟨id,g,fun i r hr=>?_⟩
  have key:∀ H,bn F.length [] F H→∃ a,mf 5 (.sl id g 0 R.length 5) (.s (.int .i64 i))=some a∧ve H true 5 a=some (.agg r)∧∀ (o:Nat) (x:V),r[o]?=some x→∃ b,xy o a=some b∧ve H false 1 b=some x:=fun H k=>(RdW.sl (k.getC hc (o7 hc) (by simp)) hR).at' i r hr
  have hi:=(af.1 hr).1
  have ea:mf 5 (.sl id g 0 R.length 5) (.s (.int .i64 i))=some (.ref id g (i * 5)):=by
   rw [at5,if_pos ⟨by omega,by omega,rfl⟩,ni,kg]
  refine ⟨ea,fun H k=>?_⟩;obtain ⟨a,a1,a2,a3⟩:=key H k;rw [ea] at a1;cases a1;refine ⟨a2,fun o x hx=>?_⟩;obtain ⟨b,b1,b2⟩:=a3 o x hx;cases b1;exact b2
theorem as7:∀ (n:Nat) (l:List UInt8) (ln cl:Nat) (ts:List Tok.T),l.length≤n→Tok.lex l ln cl=.done ts→∀ t∈ts,t.line≤ln+l.length:=by
 intro n
 induction n with
 | zero=>
   intro l ln cl ts h e
   obtain rfl:l=[]:=di (by omega)
   rw [Tok.lex_nil] at e;cases e;simp
 | succ n ih=>
   intro l ln cl ts h e;cases l with
   | nil=>rw [Tok.lex_nil] at e;cases e;simp
   | cons c l=>
     have hl:l.length≤n:=by simpa using h
     have hd:∀ m,(l.drop m).length≤n:=fun m=>by rw [iw];omega
     have hd2:∀ m,(l.drop m).length≤l.length:=fun m=>by rw [iw];omega
     rw [dx];rw [Tok.lex_cons] at e;split at e
     ·split at e
      ·exact fun t ht=>by have:=ih _ _ _ _ hl e t ht;omega
      ·exact fun t ht=>by have:=ih _ _ _ _ hl e t ht;omega
     ·split at e
      ·exact fun t ht=>by have:=ih _ _ _ _ (hd _) e t ht;have:=hd2 (Tok.far Tok.other l);omega
      ·split at e
       ·obtain ⟨us,e1,rfl⟩:=Tok.cons_done e;intro t ht
        rcases kz.1 ht with rfl | ht
        ·simp only;omega
        ·have:=ih _ _ _ _ (hd _) e1 t ht;have:=hd2 (Tok.far Tok.within l);omega
       ·split at e
        ·split at e
         ·cases e
         ·obtain ⟨us,e1,rfl⟩:=Tok.cons_done e;intro t ht
          rcases kz.1 ht with rfl | ht
          ·simp only;omega
          ·have:=ih _ _ _ _ (hd _) e1 t ht;have:=hd2 (Tok.far Tok.digit l);omega
        ·split at e
         ·obtain ⟨us,e1,rfl⟩:=Tok.cons_done e;intro t ht
          rcases kz.1 ht with rfl | ht
          ·simp only;omega
          ·have:=ih _ _ _ _ hl e1 t ht;omega
         ·cases e
theorem a1m (V:Vw) (N:Nat):∀ (n:Nat) {fs gs:List FunD} {a b:Nat},agf V N n fs a=.ok (gs,b)→gs.length≤fs.length+n:=by
 intro n
 induction n with
 | zero=>intro fs gs a b h;cases h
 | succ n ih=>
   intro fs gs a b h;rw [agf] at h;split at h
   ·cases h;omega
   ·split at h
    ·cases h
    ·unfold Rx.bind at h;split at h
     ·cases h
     ·have:=ih h;rw [dh,bu] at this;omega
theorem akl {l:List UInt8} (h:l.length≤1048576):(abm l).1.length≤l.length+2∧(abm l).2.1.1≤1+l.length:=by
 rcases ag8 l h with ⟨us,L,c,w,h1,h2⟩ | ⟨e,p,q,he,h1,h2⟩
 ·rw [aft h2];have hln:=as7 _ _ _ _ _ (ak _) h1;have hgt:=(a5g l.length l 1 1 _ (ak _) h1).len;generalize us ++ [⟨4,[],0,L,c⟩]=ts at hln hgt;cases hp:a5c ts with
  | ok fs=>
    refine ⟨?_,by show 0≤_;omega⟩
    show fs.length≤_;unfold a5c at hp;split at hp
    ·cases hp
    ·rename_i gs b e;cases hp;have:=a1m _ _ _ e;rw [ic] at this;omega
  | error j=>
    refine ⟨jf _,?_⟩;show (ts.getD j tkE).line≤_;rw [ma];cases e:ts[j]? with
    | none=>exact jf _
    | some t=>exact hln t (acz.2 ⟨j,e⟩)
 ·rw [afu h2 he];obtain ⟨_,u,v,hu,_,_,hsp⟩:=Tok.lex_ahead _ _ (1,1) _ _ _ (ak _) h1;have hpq:=ale u (1,1);rw [← hsp] at hpq;dsimp only at hpq ⊢;refine ⟨jf _,?_⟩;rw [hu,dh];omega
theorem bx1 (H:Heap) (a:V) (c:Ob):getC (H ++ [.cells 0 [a]] ++ [c]) H.length 0=some [a]:=iq (jh H 0 [a]) (Ext.app _ _)
theorem bx2 (H:Heap) (a b:Ob) (c:Ob):(H ++ [a] ++ [c]).set H.length b=H ++ [b] ++ [c]:=by
 rw [List.set_append_left _ _ (by rw [jl];omega),qh]
theorem bx3 (H:Heap) (a:Ob) (c:List V):getC (H ++ [a] ++ [.cells 0 c]) (H.length+1) 0=some c:=by
 have:=jh (H ++ [a]) 0 c
 rwa [jl] at this
theorem bx4 (H:Heap) (a:Ob) (b c:Ob):(H ++ [a] ++ [b]).set (H.length+1) c=H ++ [a] ++ [c]:=by
 have:=qh (H ++ [a]) b c
 rwa [jl] at this
theorem a6c (a b c d:Int):nk [Leaf.int IntKind.i64,Leaf.int IntKind.i64] [.s (.int .i64 a),.s (.int .i64 b)] [.s (.int .i64 c),.s (.int .i64 d)]=some (a == c && b == d):=by
 simp only [nk,apf,and_self,if_true,ja]
theorem bx5 (H:Heap) (a:Ob):(H ++ [a]).length=H.length+1:=jl H a
section
variable {CT:Nat→Option CFun}
theorem alx (hP:ajv CT) (base:Nat) {H:Heap} (hb:base≤H.length) (b:ByteArray) {p:List FunD × (Nat × Nat) × Nat} (hp:abm b.data.toList=p):∃ v H1 H2,fu CT (.fn a9n [] []) [.s (.string b)] base H=some (.tup [.agg [v],.agg [.s (.int .i64 p.2.1.1),.s (.int .i64 p.2.1.2)],.s (.int .i64 p.2.2)],H1)∧
 H1 ++ [Ob.cells 0 [v]] ++ [Ob.cells 0 [.s (.int .i64 p.2.1.1),.s (.int .i64 p.2.1.2)]]=H2∧Ext H H2∧base≤H1.length∧base≤H1.length+1∧H2.length=H1.length+2∧H.length≤H1.length∧v.one=true∧zq H2 v p.1∧getC H2 H1.length 0=some [v]∧getC H2 (H1.length+1) 0=some [.s (.int .i64 p.2.1.1),.s (.int .i64 p.2.1.2)]:=by
 obtain ⟨v,H1,h1,e1,h3⟩:=hP base H b hb;rw [hp] at h1 h3;have hr:=h3 H1 fun _ _ _=>rfl;obtain ⟨H2,hH2⟩:∃ X,H1 ++ [Ob.cells 0 [v]] ++ [Ob.cells 0 [.s (.int .i64 p.2.1.1),.s (.int .i64 p.2.1.2)]]=X:=⟨_,rfl⟩;have e2:Ext H1 H2:=hH2 ▸ (Ext.app _ _).trans (Ext.app _ _);have hl:=e1.le
 refine ⟨v,H1,H2,h1,hH2,e1.trans e2,by omega,by omega,by rw [← hH2,jl,jl],hl,hr.one,hr.ext e2,hH2 ▸ bx1 _ _ _,hH2 ▸ bx3 _ _ _⟩
end
open Go.AM
abbrev k_f8:Nat:=8
def K8_0:List Nat:=List.range' 2 106
theorem aup:zm K8_0 (qf 108 [] 2)=[]:=by kernel_rfl
def R8_0:LO:=[q 4 (.move (.c (.s (.bool false))))]
def R8_1:LO:=[oM 18 0,q 19 (.lenS .p (.t 18)),q 20 (.bin .gtr (.t 19) (.c (.s (.int .i64 1500)))),oM 21 20,gM 22 1 21 false,qg 23 (.lenS .p (.t 22)) 21 false,qg 24 (.bin .gtr (.t 23) (.c (.s (.int .i64 1500)))) 21 false,q 25 (.pick (.t 21) (.c (.s (.bool true))) (.t 24))]
def R8_2:LO:=[q 4 (.move (.c (.s (.bool true))))]
def R8_3t7:LO:=[oM 7 31]
def R8_3t6:LO:=⟨none,.store 2 (.t 6) (.t 30),none⟩ :: R8_3t7
def R8_3t5:LO:=⟨none,.store 1 (.t 5) (.t 29),none⟩ :: R8_3t6
def R8_3t4:LO:=⟨some 6,.alloc [.s (.int .i64 0),.s (.int .i64 0)],none⟩ :: R8_3t5
def R8_3t3:LO:=⟨some 5,.alloc [.s (.slice none 0 0)],none⟩ :: R8_3t4
def R8_3p2:LO:=[oM 26 28,q 29 (.extract (.t 26) 0),q 30 (.extract (.t 26) 1),q 31 (.extract (.t 26) 2)]
def R8_3t2:LO:=R8_3p2 ++ R8_3t3
def R8_3t1:LO:=⟨some 28,.call (.c (.fn 9 [] [])) [.t 27],none⟩ :: R8_3t2
def R8_3p0:LO:=[oM 27 0]
def R8_3:LO:=R8_3p0 ++ R8_3t1
def R8_4t7:LO:=[oM 10 37]
def R8_4t6:LO:=⟨none,.store 2 (.t 9) (.t 36),none⟩ :: R8_4t7
def R8_4t5:LO:=⟨none,.store 1 (.t 8) (.t 35),none⟩ :: R8_4t6
def R8_4t4:LO:=⟨some 9,.alloc [.s (.int .i64 0),.s (.int .i64 0)],none⟩ :: R8_4t5
def R8_4t3:LO:=⟨some 8,.alloc [.s (.slice none 0 0)],none⟩ :: R8_4t4
def R8_4p2:LO:=[oM 32 34,q 35 (.extract (.t 32) 0),q 36 (.extract (.t 32) 1),q 37 (.extract (.t 32) 2)]
def R8_4t2:LO:=R8_4p2 ++ R8_4t3
def R8_4t1:LO:=⟨some 34,.call (.c (.fn 9 [] [])) [.t 33],none⟩ :: R8_4t2
def R8_4p0:LO:=[oM 33 1]
def R8_4:LO:=R8_4p0 ++ R8_4t1
def R8_5t7:LO:=[oM 13 46]
def R8_5t6:LO:=⟨none,.store 2 (.t 12) (.t 45),none⟩ :: R8_5t7
def R8_5t5:LO:=⟨none,.store 1 (.t 11) (.t 44),none⟩ :: R8_5t6
def R8_5t4:LO:=⟨some 12,.alloc [.s (.int .i64 0),.s (.int .i64 0)],none⟩ :: R8_5t5
def R8_5t3:LO:=⟨some 11,.alloc [.s (.slice none 0 0)],none⟩ :: R8_5t4
def R8_5p2:LO:=[oM 38 43,q 44 (.extract (.t 38) 0),q 45 (.extract (.t 38) 1),q 46 (.extract (.t 38) 2)]
def R8_5t2:LO:=R8_5p2 ++ R8_5t3
def R8_5t1:LO:=⟨some 43,.call (.c (.fn 9 [] [])) [.t 42],none⟩ :: R8_5t2
def R8_5p0:LO:=[oM 39 0,q 40 (.bin .add (.t 39) (.c (.s (.string ⟨#[10]⟩)))),oM 41 1,q 42 (.bin .add (.t 40) (.t 41))]
def R8_5:LO:=R8_5p0 ++ R8_5t1
def R8_6:LO:=[oM 47 7,q 48 (.bin .neq (.t 47) (.c (.s (.int .i64 0))))]
def R8_7t2:LO:=[q 57 (.pick (.t 55) (.t 56) (.c (.s (.bool false)))),oM 4 57]
def R8_7t1:LO:=⟨some 56,.call (.c (.fn 12 [] [])) [],some (55,true)⟩ :: R8_7t2
def R8_7p0:LO:=[oM 49 7,q 50 (.bin .eql (.t 49) (.c (.s (.int .i64 41)))),oM 51 50,gM 52 13 51 false,qg 53 (.bin .neq (.t 52) (.c (.s (.int .i64 0)))) 51 false,q 54 (.pick (.t 51) (.c (.s (.bool true))) (.t 53)),oM 55 54]
def R8_7:LO:=R8_7p0 ++ R8_7t1
def R8_8:LO:=[oM 58 10,q 59 (.bin .neq (.t 58) (.c (.s (.int .i64 0))))]
def R8_9t6:LO:=[oM 16 65]
def R8_9t5:LO:=⟨none,.store 2 (.t 15) (.t 64),none⟩ :: R8_9t6
def R8_9p4:LO:=[oM 14 63]
def R8_9t4:LO:=R8_9p4 ++ R8_9t5
def R8_9t3:LO:=⟨some 15,.alloc [.s (.int .i64 0),.s (.int .i64 0)],none⟩ :: R8_9t4
def R8_9p2:LO:=[oM 60 62,q 63 (.extract (.t 60) 0),q 64 (.extract (.t 60) 1),q 65 (.extract (.t 60) 2)]
def R8_9t2:LO:=R8_9p2 ++ R8_9t3
def R8_9t1:LO:=⟨some 62,.call (.c (.fn 13 [] [])) [.t 61],none⟩ :: R8_9t2
def R8_9p0:LO:=[oM 61 0]
def R8_9:LO:=R8_9p0 ++ R8_9t1
def R8_10:LO:=[oM 66 14,oM 67 14,q 68 (.lenS .s (.t 67)),q 69 (.bin .sub (.t 68) (.c (.s (.int .i64 1)))),q 70 (.indexAddr 5 (.t 66) (.t 69)),oF 71 3 70,oF 72 0 71,oL 73 72,oM 17 73]
def R8_11t2:LO:=[q 90 (.pick (.t 88) (.t 89) (.c (.s (.bool false)))),oM 4 90]
def R8_11t1:LO:=⟨some 89,.call (.c (.fn 12 [] [])) [],some (88,true)⟩ :: R8_11t2
def R8_11p0:LO:=[oM 74 13,oM 75 10,q 76 (.bin .eql (.t 74) (.t 75)),oM 77 76,qg 78 (.load true 2 (.t 12)) 77 true,gF 79 0 9 77 true,gL 80 79 77 true,gM 81 17 77 true,qg 82 (.bin .add (.t 80) (.t 81)) 77 true,gF 83 1 9 77 true,gL 84 83 77 true,qg 85 (.build [.s (.int .i64 0),.s (.int .i64 0)] [(0,1),(1,1)] [(0,.t 82),(1,.t 84)]) 77 true,qg 86 (.eqAgg false [.int .i64,.int .i64] (.t 78) (.t 85)) 77 true,q 87 (.pick (.t 77) (.t 86) (.c (.s (.bool false)))),oM 88 87]
def R8_11:LO:=R8_11p0 ++ R8_11t1
def R8_12:LO:=[⟨some 91,.move (.t 13),none⟩,⟨some 92,.bin .eql (.t 91) (.c (.s (.int .i64 0))),none⟩,⟨some 93,.move (.t 92),none⟩,⟨some 94,.load true 1 (.t 11),some (93,true)⟩,⟨some 95,.buildSl 3 0 [] [],some (93,true)⟩,⟨some 96,.fieldAddr 0 (.t 5),some (93,true)⟩,⟨some 97,.load false 1 (.t 96),some (93,true)⟩,⟨some 98,.append 3 64 (.t 95) (.t 97),some (93,true)⟩,⟨some 99,.fieldAddr 0 (.t 8),some (93,true)⟩,⟨some 100,.load false 1 (.t 99),some (93,true)⟩,⟨some 101,.append 3 64 (.t 98) (.t 100),some (93,true)⟩,⟨some 102,.build [.s (.slice none 0 0)] [(0,1)] [(0,.t 101)],some (93,true)⟩,⟨some 103,.call (.c (.fn 11 [] [])) [.t 94,.t 102],some (93,true)⟩,⟨some 104,.pick (.t 93) (.t 103) (.c (.s (.bool false))),none⟩,⟨some 105,.move (.t 104),none⟩,⟨some 106,.call (.c (.fn 12 [] [])) [],some (105,true)⟩,⟨some 107,.pick (.t 105) (.t 106) (.c (.s (.bool false))),none⟩,⟨some 4,.move (.t 107),none⟩]
theorem X8_12 (call:ll) (it:yn) (base:Nat) (f:List V) (H:Heap):evC call it base (.region R8_12 [(3,7),(7,9),(3,10)] [0,5,8,9,10,11,12,13,59,91,92,93,94,95,96,97,98,99,100,101,102,103,104,105,106,107]) f H=bdo [0,5,8,9,10,11,12,13,59,91,92,93,94,95,96,97,98,99,100,101,102,103,104,105,106,107] (fun f'=>List.all [(3,7),(7,9),(3,10)] (zi call base R8_12 f H f')) (jw call base [⟨some 91,.move (.t 13),none⟩,⟨some 92,.bin .eql (.t 91) (.c (.s (.int .i64 0))),none⟩,⟨some 93,.move (.t 92),none⟩,⟨some 94,.load true 1 (.t 11),some (93,true)⟩,⟨some 95,.buildSl 3 0 [] [],some (93,true)⟩,⟨some 96,.fieldAddr 0 (.t 5),some (93,true)⟩,⟨some 97,.load false 1 (.t 96),some (93,true)⟩,⟨some 98,.append 3 64 (.t 95) (.t 97),some (93,true)⟩,⟨some 99,.fieldAddr 0 (.t 8),some (93,true)⟩,⟨some 100,.load false 1 (.t 99),some (93,true)⟩,⟨some 101,.append 3 64 (.t 98) (.t 100),some (93,true)⟩,⟨some 102,.build [.s (.slice none 0 0)] [(0,1)] [(0,.t 101)],some (93,true)⟩,⟨some 103,.call (.c (.fn 11 [] [])) [.t 94,.t 102],some (93,true)⟩,⟨some 104,.pick (.t 93) (.t 103) (.c (.s (.bool false))),none⟩,⟨some 105,.move (.t 104),none⟩,⟨some 106,.call (.c (.fn 12 [] [])) [],some (105,true)⟩,⟨some 107,.pick (.t 105) (.t 106) (.c (.s (.bool false))),none⟩,⟨some 4,.move (.t 107),none⟩] f H):=a0x call it base _ _ _ f H
def an8:ACFun:={ ntmps:=108,results:=[.tmp 4],body:=
 (.seq (.regionE R8_0 K8_0 [])
 (.seq (.seq (.regionE R8_1 [18,19,20,21,22,23,24] [25])
 (.cond (.t 25)
 (.seq (.regionE R8_2 [0,1,25] [4])
 .ret)
 .skip))
 (.seq (.region R8_3 [] [6,25,26,27,28,29,30,31])
 (.seq (.region R8_4 [] [32,33,34,35,36,37])
 (.seq (.region R8_5 [] [1,38,39,40,41,42,43,44,45,46])
 (.seq (.seq (.regionE R8_6 [47] [48])
 (.cond (.t 48)
 (.seq (.region R8_7 [] [0,5,7,8,9,10,11,12,13,48,49,50,51,52,53,54,55,56,57])
 .ret)
 .skip))
 (.seq (.seq (.regionE R8_8 [7,48,58] [59])
 (.cond (.t 59)
 (.seq (.region R8_9 [] [0,5,8,11,15,16,59,60,61,62,63,64,65])
 (.seq (.regionE R8_10 [14,66,67,68,69,70,71,72,73] [17])
 (.seq (.region R8_11 [] [9,10,12,13,17,74,75,76,77,78,79,80,81,82,83,84,85,86,87,88,89,90])
 .ret)))
 .skip))
 (.seq (.region R8_12 [(3,7),(7,9),(3,10)] [0,5,8,9,10,11,12,13,59,91,92,93,94,95,96,97,98,99,100,101,102,103,104,105,106,107])
 .ret)))))))) }
def bdt:=ai (hT R8_0 K8_0 [] 5 [] [] [.cc (.s (.bool false))]) (ai aup (ai (hK K8_0 0) (ai (hK K8_0 1) (ai (hT R8_1 [18,19,20,21,22,23,24] [25] 26 [] [(25,.pick (.op (.bin .gtr (.t 0) (.c (.s (.int .i64 1500)))) [.op (.lenS .p (.t 0)) [.t 0],.c (.s (.int .i64 1500))]) (.c (.s (.bool true))) (.op (.bin .gtr (.t 0) (.c (.s (.int .i64 1500)))) [.op (.lenS .p (.t 0)) [.t 1],.c (.s (.int .i64 1500))]))] [.tt 0,sb [0,0],sb [0],sb [0],.sub 0 [2,0,0] [21],.sub 0 [2,0] [21],.sub 0 [2] [21],sb []]) (ai (hT R8_2 [0,1,25] [4] 5 [] [(4,.c (.s (.bool true)))] [.cc (.s (.bool true))]) (ai (hU R8_3 [25] [27] [6,25,26,27,28,29,30,31] 28 [] [(27,.t 0)] [.tt 0]) (ai (hP R8_3t1 [27] [6,25,26,27,28,29,30,31]) (ai (hU R8_3t2 [26,28] [29,30,31] [6,25,26,27,28,29,30,31] 32 [] [(29,.op (.extract (.t 0) 0) [.t 28]),(30,.op (.extract (.t 0) 1) [.t 28]),(31,.op (.extract (.t 0) 2) [.t 28])] [.tt 28,sb [],.sub 1 [] [],.sub 2 [] []]) (ai (hP R8_3t3 [] [6,25,26,27,28,29,30,31]) (ai (hP R8_3t4 [] [6,25,26,27,28,29,30,31]) (ai (hP R8_3t5 [29] [6,25,26,27,28,29,30,31]) (ai (hP R8_3t6 [6,30] [6,25,26,27,28,29,30,31]) (ai (hV R8_3t7 [6,25,26,27,28,29,30,31] [7] 8 [] [(7,.t 31)] [.tt 31]) (ai (hU R8_4 [] [33] [32,33,34,35,36,37] 34 [] [(33,.t 1)] [.tt 1]) (ai (hP R8_4t1 [33] [32,33,34,35,36,37]) (ai (hU R8_4t2 [32,34] [35,36,37] [32,33,34,35,36,37] 38 [] [(35,.op (.extract (.t 0) 0) [.t 34]),(36,.op (.extract (.t 0) 1) [.t 34]),(37,.op (.extract (.t 0) 2) [.t 34])] [.tt 34,sb [],.sub 1 [] [],.sub 2 [] []]) (ai (hP R8_4t3 [] [32,33,34,35,36,37]) (ai (hP R8_4t4 [] [32,33,34,35,36,37]) (ai (hP R8_4t5 [35] [32,33,34,35,36,37]) (ai (hP R8_4t6 [36] [32,33,34,35,36,37]) (ai (hV R8_4t7 [32,33,34,35,36,37] [10] 11 [] [(10,.t 37)] [.tt 37]) (ai (hU R8_5 [1,39,40,41] [42] [1,38,39,40,41,42,43,44,45,46] 43 [] [(42,.op (.bin .add (.t 0) (.t 1)) [.op (.bin .add (.t 0) (.c (.s (.string ⟨#[10]⟩)))) [.t 0,.c (.s (.string ⟨#[10]⟩))],.t 1])] [.tt 0,sb [0],.tt 1,sb []]) (ai (hP R8_5t1 [42] [1,38,39,40,41,42,43,44,45,46]) (ai (hU R8_5t2 [38,43] [44,45,46] [1,38,39,40,41,42,43,44,45,46] 47 [] [(44,.op (.extract (.t 0) 0) [.t 43]),(45,.op (.extract (.t 0) 1) [.t 43]),(46,.op (.extract (.t 0) 2) [.t 43])] [.tt 43,sb [],.sub 1 [] [],.sub 2 [] []]) (ai (hP R8_5t3 [] [1,38,39,40,41,42,43,44,45,46]) (ai (hP R8_5t4 [] [1,38,39,40,41,42,43,44,45,46]) (ai (hP R8_5t5 [44] [1,38,39,40,41,42,43,44,45,46]) (ai (hP R8_5t6 [45] [1,38,39,40,41,42,43,44,45,46]) (ai (hV R8_5t7 [1,38,39,40,41,42,43,44,45,46] [13] 14 [] [(13,.t 46)] [.tt 46]) (ai (hT R8_6 [47] [48] 49 [] [(48,.op (.bin .neq (.t 0) (.c (.s (.int .i64 0)))) [.t 7,.c (.s (.int .i64 0))])] [.tt 7,sb []]) (ai (hU R8_7 [0,5,7,8,9,10,11,12,13,48,49,50,51,52,53,54] [55] [0,5,7,8,9,10,11,12,13,48,49,50,51,52,53,54,55,56,57] 56 [] [(55,.pick (.op (.bin .eql (.t 0) (.c (.s (.int .i64 41)))) [.t 7,.c (.s (.int .i64 41))]) (.c (.s (.bool true))) (.op (.bin .neq (.t 0) (.c (.s (.int .i64 0)))) [.t 13,.c (.s (.int .i64 0))]))] [.tt 7,sb [0],sb [0],.sub 0 [2,0] [51],.sub 0 [2] [51],sb [],sb []]) (ai (hP R8_7t1 [] [0,5,7,8,9,10,11,12,13,48,49,50,51,52,53,54,55,56,57]) (ai (hV R8_7t2 [0,5,7,8,9,10,11,12,13,48,49,50,51,52,53,54,55,56,57] [4] 58 [] [(4,.pick (.t 55) (.t 56) (.c (.s (.bool false))))] [sb [],sb []]) (ai (hT R8_8 [7,48,58] [59] 60 [] [(59,.op (.bin .neq (.t 0) (.c (.s (.int .i64 0)))) [.t 10,.c (.s (.int .i64 0))])] [.tt 10,sb []]) (ai (hU R8_9 [0,5,8,11,59] [61] [0,5,8,11,15,16,59,60,61,62,63,64,65] 62 [] [(61,.t 0)] [.tt 0]) (ai (hP R8_9t1 [61] [0,5,8,11,15,16,59,60,61,62,63,64,65]) (ai (hU R8_9t2 [60,62] [63,64,65] [0,5,8,11,15,16,59,60,61,62,63,64,65] 66 [] [(63,.op (.extract (.t 0) 0) [.t 62]),(64,.op (.extract (.t 0) 1) [.t 62]),(65,.op (.extract (.t 0) 2) [.t 62])] [.tt 62,sb [],.sub 1 [] [],.sub 2 [] []]) (ai (hP R8_9t3 [] [0,5,8,11,15,16,59,60,61,62,63,64,65]) (ai (hU R8_9t4 [63] [14] [0,5,8,11,15,16,59,60,61,62,63,64,65] 15 [] [(14,.t 63)] [.tt 63]) (ai (hP R8_9t5 [15,64] [0,5,8,11,15,16,59,60,61,62,63,64,65]) (ai (hV R8_9t6 [0,5,8,11,15,16,59,60,61,62,63,64,65] [] 17 [] [] [.tt 65]) (ai (hT R8_10 [14,66,67,68,69,70,71,72,73] [17] 74 [] [(17,eL (eF 0 (eF 3 (.op (.indexAddr 5 (.t 0) (.t 1)) [.t 14,.op (.bin .sub (.t 0) (.c (.s (.int .i64 1)))) [.op (.lenS .s (.t 0)) [.t 14],.c (.s (.int .i64 1))]]))))] [.tt 14,.tt 14,sb [0,0,0,1,0],sb [0,0,0,1],sb [0,0,0],sb [0,0],sb [0],sb [],sb []]) (ai (hU R8_11 [9,10,12,13,17,74,75,76,77,78,79,80,81,82,83,84,85,86,87] [88] [9,10,12,13,17,74,75,76,77,78,79,80,81,82,83,84,85,86,87,88,89,90] 89 [] [(88,.pick (.op (.bin .eql (.t 0) (.t 1)) [.t 13,.t 10]) (.op (.eqAgg false [.int .i64,.int .i64] (.t 0) (.t 1)) [.op (.load true 2 (.t 0)) [.t 12],.op (.build [.s (.int .i64 0),.s (.int .i64 0)] [(0,1),(1,1)] [(0,.t 0),(1,.t 1)]) [.op (.bin .add (.t 0) (.t 1)) [eL (eF 0 (.t 9)),.t 17],eL (eF 1 (.t 9))]]) (.c (.s (.bool false))))] [.tt 13,.tt 10,sb [0],sb [0],.sub 0 [1,0] [77],.sub 0 [1,1,0,0,0] [77],.sub 0 [1,1,0,0] [77],.sub 0 [1,1,0,1] [77],.sub 0 [1,1,0] [77],.sub 0 [1,1,1,0] [77],.sub 0 [1,1,1] [77],.sub 0 [1,1] [77],.sub 0 [1] [77],sb [],sb []]) (ai (hP R8_11t1 [] [9,10,12,13,17,74,75,76,77,78,79,80,81,82,83,84,85,86,87,88,89,90]) ((hV R8_11t2 [9,10,12,13,17,74,75,76,77,78,79,80,81,82,83,84,85,86,87,88,89,90] [4] 91 [] [(4,.pick (.t 88) (.t 89) (.c (.s (.bool false))))] [sb [],sb []]))))))))))))))))))))))))))))))))))))))))))))))
theorem RA5_8:xu Tryd.prog PX0 8=some (false,an8.ntmps,an8.results,an8.body.bare):=by kernel_rfl
open Go.AM
theorem a2s {base:Nat} {H:Heap} (hb:base≤H.length) {v v':V} {fs gs:List FunD} (h:zq H v fs) (h':zq H v' gs) (hs:(fs.length+gs.length) * 64≤2 ^ 47):
 ∃ w H1 w' H2,mh H base 3 64 .esl v=some (w,H1)∧mh H1 base 3 64 w v'=some (w',H2)∧Ext H H1∧Ext H H2∧zq H2 w' (fs ++ gs)∧(V.appObj w=some none∨∃ id,V.appObj w=some (some id)∧H.length≤id):=by
 have fl:∀ {H:Heap} {v:V} {l:List FunD} {R:List (List V)},R.length=l.length→(∀ (i:Nat) (x:FunD),l[i]?=some x→∃ r:List V,R[i]?=some r∧aju H r x)→(∀ r∈R,r.length=3)∧R.flatten.all V.one=true:=by
  intro H v l R hl hp
  have key:∀ r∈R,r.length=3∧r.all V.one=true:=by
   intro r hr;obtain ⟨i,hi⟩:=acz.1 hr;have hil:=(af.1 hi).1
   obtain ⟨r',r1,r2⟩:=hp i l[i] (ah (by omega))
   rw [hi] at r1;cases r1;obtain ⟨pv,bv,rfl,u1,u2,u3,u4⟩:=r2;refine ⟨rfl,?_⟩;simp only [ik,jd,u1.one,u4.one,ja];rfl
  refine ⟨fun r hr=>(key r hr).1,?_⟩;rw [bg];intro x hx;obtain ⟨r,hr,hxr⟩:=ajw.1 hx;exact bg.1 (key r hr).2 x hxr
 obtain ⟨R,h1,h2,h3,h4⟩:=h;obtain ⟨S,g1,g2,g3,g4⟩:=h';obtain ⟨r3,ro⟩:=fl (v:=v) h2 h4;obtain ⟨s3,so⟩:=fl (v:=v') g2 g4;have he:=h1.el;by_cases h0:R=[]
 ·subst h0
  have hf:fs=[]:=di (by rw [← h2];rfl)
  subst hf
  have e1:mh H base 3 64 .esl v=some (.esl,H):=by
   rw [ic,List.flatten_nil] at he;simp only [mh,he,jd,if_true]
  by_cases g0:S=[]
  ·subst g0
   have hg:gs=[]:=di (by rw [← g2];rfl)
   subst hg;have ge:=g1.el;rw [ic,List.flatten_nil] at ge
   refine ⟨.esl,H,.esl,H,e1,by simp only [mh,ge,jd,if_true],Ext.refl _,Ext.refl _,⟨[],⟨rfl,rfl,rfl,fun i r hr=>by simp at hr⟩,rfl,by decide,fun i x hx=>by simp at hx⟩,.inl rfl⟩
  ·have ge:=g1.el;have hn:¬ S.length=0:=fun e=>g0 (di e)
   have hsz:S.length * 64≤2 ^ 47:=by rw [g2];simp at hs;omega
   refine ⟨.esl,H,.sl H.length 0 0 S.length 3,H ++ [.cells 0 S.flatten],e1,?_,Ext.refl _,Ext.app _ _,⟨S,RdW.sl (jh H 0 _) s3,by rw [dm];exact g2,by rw [dm];exact g3,fun i x hx=>?_⟩,.inl rfl⟩
   ·simp only [mh,ge,so,if_true,hn,if_false,hsz]
   ·rw [dm] at hx;obtain ⟨r,q1,q2⟩:=g4 i x hx;exact ⟨r,q1,q2.ext (Ext.app _ _)⟩
 ·have hn:¬ R.length=0:=fun e=>h0 (di e)
  have hsz:R.length * 64≤2 ^ 47:=by rw [h2];omega
  have x1:Ext H (H ++ [Ob.cells 0 R.flatten]):=Ext.app _ _
  have e1:mh H base 3 64 .esl v=some (.sl H.length 0 0 R.length 3,H ++ [.cells 0 R.flatten]):=by
   simp only [mh,he,ro,if_true,hn,if_false,hsz]
  have ha:qo H.length 3 (H ++ [Ob.cells 0 R.flatten]) (.sl H.length 0 0 R.length 3) R:=⟨r3,.inr ⟨_,_,rfl,jh H 0 _,ak _⟩⟩
  obtain ⟨w',H2,a1,a2,a3,a4⟩:=ha.append0 (base:=base) (bytes:=64) hb (by rw [jl];omega) (S:=S) s3 (g1.ext2 x1).el so (by rw [h2,g2];exact hs)
  have e2:Ext H H2:=Ext.of_get (by rw [jl] at a3;omega) fun i hi=>by
   rw [a4 i (by rw [jl];omega) (fun g n e=>by cases e;omega),x1.get hi]
  refine ⟨_,_,w',H2,e1,a1,x1,e2,⟨R ++ S,a2.rd,by rw [dh,dh,h2,g2],by rw [dh];omega,fun i x hx=>?_⟩,.inr ⟨_,rfl,ak _⟩⟩
  rcases Nat.lt_or_ge i fs.length with hlt | hge
  ·rw [ag hlt] at hx;obtain ⟨r,q1,q2⟩:=h4 i x hx
   exact ⟨r,by rw [ag (by omega)];exact q1,q2.ext e2⟩
  ·rw [az hge] at hx;obtain ⟨r,q1,q2⟩:=g4 _ x hx
   exact ⟨r,by rw [az (by omega),h2];exact q1,q2.ext e2⟩
section
variable {CT:Nat→Option CFun}
set_option maxHeartbeats 2000000 in
theorem ayj (hP:ajv CT) (hS:SamT CT) (hR:CT a7x=some (.code alo)) (hL:CT ao7=some (.code adi)) (T:TL CT) (hT:CT k_f8=some (.code an8)) (base:Nat) {A:Heap} (hbA:base≤A.length) (a b:ByteArray):
 ∃ H',fu CT (.fn k_f8 [] []) [.s (.string a),.s (.string b)] base A=some (.s (.bool true),H'):=by
 cases hg:(decide ((a.size:Int) > 1500) || decide ((b.size:Int) > 1500)) with
 | true=>
   refine ⟨A,?_⟩
   refine og (c:=an8) hT (by simp [an8]) ?_
   simp only [an8,bdt,aa,reduceIte,reduceCtorEq,Nat.reduceEqDiff,Nat.reduceLT,Nat.reduceLeDiff,Nat.reduceBEq,Nat.reduceAdd,Nat.reduceMul,hg]
 | false=>
   have ha:a.data.toList.length≤1500:=by
    simp only [ug,decide_eq_false_iff_not] at hg;have h1:=hg.1;show a.size≤1500;omega
   have hb:b.data.toList.length≤1500:=by
    simp only [ug,decide_eq_false_iff_not] at hg;have h1:=hg.2;show b.size≤1500;omega
   obtain ⟨ab,hab⟩:∃ ab,a ++ ⟨#[10]⟩ ++ b=ab:=⟨_,rfl⟩
   have habl:ab.data.toList=a.data.toList ++ 10 :: b.data.toList:=by rw [← hab];simp [ByteArray.data_append]
   have hs1:(((a.size+(ByteArray.mk #[10]).size:Nat):Int) > IntKind.i64.max)=False:=by
    rw [eq_iff_iff,iff_false,show (ByteArray.mk #[10]).size=1 from rfl,show IntKind.i64.max=9223372036854775807 from rfl];have:a.size≤1500:=ha;omega
   have hs2:((((a ++ ⟨#[10]⟩:ByteArray).size+b.size:Nat):Int) > IntKind.i64.max)=False:=by
    rw [eq_iff_iff,iff_false,ByteArray.size_append,show (ByteArray.mk #[10]).size=1 from rfl,show IntKind.i64.max=9223372036854775807 from rfl];have:a.size≤1500:=ha;have:b.size≤1500:=hb;omega
   have hlaw:=a2r ha hb
   have hsa:=akl (l:=a.data.toList) (by omega)
   have hsb:=akl (l:=b.data.toList) (by omega)
   rw [← habl] at hlaw;obtain ⟨pa,hpa⟩:∃ x,abm a.data.toList=x:=⟨_,rfl⟩;obtain ⟨pb,hpb⟩:∃ x,abm b.data.toList=x:=⟨_,rfl⟩;obtain ⟨pr,hpr⟩:∃ x,abm ab.data.toList=x:=⟨_,rfl⟩;rw [hpa,hpb,hpr] at hlaw;rw [hpa] at hsa;rw [hpb] at hsb;obtain ⟨va,A1,B1,ea,rfl,xa,ba,ba1,la,la0,oa,ra,ga,ga1⟩:=alx hP base hbA a hpa;obtain ⟨B1,hB1⟩:∃ X,A1 ++ [Ob.cells 0 [va]] ++ [Ob.cells 0 [.s (.int .i64 pa.2.1.1),.s (.int .i64 pa.2.1.2)]]=X:=⟨_,rfl⟩;rw [hB1] at xa la ra ga ga1
   obtain ⟨vb,A2,B2,eb,hB2,xb,bb,bb1,lb,lb0,ob,rb,gb,gb1⟩:=alx hP base (H:=B1) (by omega) b hpb
   obtain ⟨vr,A3,B3,er,hB3,xr,br,br1,lr,lr0,orr,rr,gr,gr1⟩:=alx hP base (H:=B2) (by omega) ab hpr
   have ka:=iq ga (xb.trans xr);have kb:=iq gb xr;have kb1:=iq gb1 xr
   have hb3:base≤B3.length:=by omega
   have q0:∀ n:Nat,n≠0→(((n:Nat):Int) != 0)=true:=fun n hn=>by rw [bne_iff_ne];omega
   by_cases h0:pa.2.2=0
   ·obtain ⟨l0,us,L,c,w,l1,l2,l3⟩:=hlaw.2 h0
    have qa:(((pa.2.2:Nat):Int) != 0)=false:=by rw [h0];rfl
    by_cases hf:pb.2.2=0
    ·have hres:=l3 hf
     have qb:(((pb.2.2:Nat):Int) != 0)=false:=by rw [hf];rfl
     have qr:(((pr.2.2:Nat):Int) == 0)=true:=by rw [hres];rfl
     have rr':=rr;rw [hres] at rr';have R3a:=ra.ext (xb.trans xr);have R3b:=rb.ext xr;obtain ⟨B4,hB4⟩:∃ X,B3 ++ [Ob.cells 0 []]=X:=⟨_,rfl⟩;have x4:Ext B3 B4:=hB4 ▸ Ext.app _ _
     have l4:B4.length=B3.length+1:=by rw [← hB4,jl]
     obtain ⟨w1,C1,w2,C2,p1,p2,p30,p3,p4,p5⟩:=a2s (base:=base) (H:=B4) (by omega) (R3a.ext x4) (R3b.ext x4) (by omega)
     have w2o:=p4.one;have w2c:=apm w2o
     obtain ⟨C3,sm,x5⟩:=awp hS base (A:=C2) (by have:=p3.le;omega) (rr'.ext (x4.trans p3)) p4
     obtain ⟨C4,rd,x6⟩:=ai2 hP hR base (A:=C3) (by have:=p3.le;have:=x5.le;omega)
     refine ⟨C4,og (c:=an8) hT (by simp [an8]) ?_⟩
     have k4a:=iq ka x4;have k4b:=iq kb (x4.trans p30);have oR:∀ (a b c:Nat),V.obj? (.ref a b c)=some (some a):=fun _ _ _=>rfl;have oA:∀ i j:Nat,aps (some (some i)) (some (some j))=(i != j):=fun _ _=>rfl;have oB:∀ x:Option Nat,aps (some none) (some x)=true:=fun _=>rfl
     have oC:∀ x:Option Nat,aps (some x) (some none)=true:=fun x=>by cases x <;> rfl
     have oE:V.appObj .esl=some none:=rfl
     have fin:aps (some (some A3.length)) (V.appObj w1)=true:=by
      rcases p5 with e | ⟨id,e,hid⟩
      ·rw [e];rfl
      ·rw [e];show (A3.length != id)=true;rw [bne_iff_ne];omega
     simp only [bl] at sm rd;simp only [bl,an8,X8_12,bdo,bdt,aa,reduceIte,reduceCtorEq,Nat.reduceEqDiff,Nat.reduceLT,Nat.reduceLeDiff,Nat.reduceBEq,Nat.reduceAdd,Nat.reduceMul,hg,ea,eb,er,bx1,bx2,bx3,bx4,bx5,oa,ob,orr,ba,ba1,bb,bb1,br,br1,hs1,hs2,hab,hB1,hB2,hB3,qa,qb,qr,ka,kb,gr,hB4,k4a,k4b,p1,p2,w2c,w2o,bu,bdv,sm,rd,ik,jd,ja,qi,and_self,if_true,bq,dm,eu,gu];simp only [ik,jd,zi,avp,R8_12,iy,gy,az0,AOp.place,AOp.obj,aa,reduceIte,reduceCtorEq,Nat.reduceEqDiff,Nat.reduceLT,Nat.reduceLeDiff,Nat.reduceBEq,Nat.reduceAdd,Nat.reduceMul,oR,oA,oB,oC,oE,fin,ak6,qi,cond_true]
    ·obtain ⟨l4,l5⟩:=l2 hf;have qb:=q0 _ hf
     have qg:(((pr.2.2:Nat):Int) == ((pb.2.2:Nat):Int))=true:=by rw [l4];exact beq_self_eq_true _
     obtain ⟨tv,D1,t1,t2,t3⟩:=ax9 hL T base B3 hb3 a (adq a.data.toList) rfl;obtain ⟨D2,hD2⟩:∃ X,D1 ++ [Ob.cells 0 [.s (.int .i64 (adq a.data.toList).2.1.1),.s (.int .i64 (adq a.data.toList).2.1.2)]]=X:=⟨_,rfl⟩
     have e12:bn D1.length [] D1 D2:=⟨by rw [← hD2,jl];omega,fun id h1 _=>by rw [← hD2,ag h1]⟩
     have x32:Ext B3 D2:=Ext.of_get (by have:=t3.1;have:=e12.1;omega) fun i hi=>by
      have:=t3.1
      rw [e12.2 i (by omega) (by simp),t3.2 i hi (by simp)]
     have aw:=t2.d e12;rw [l1] at aw;obtain ⟨id1,g1,look1⟩:=qo.look aw
     have hr1:((us ++ [(⟨4,[],0,L,c⟩:Tok.T)]).map tV)[us.length]?=some (tV ⟨4,[],0,L,c⟩):=by simp
     obtain ⟨y1,y2⟩:=look1 _ _ hr1;have y3:=(y2 D2 (bn.refl [] D2)).2 3 (.s (.int .i64 L)) rfl;have n1:=aw.rd.len
     have n2:((us ++ [(⟨4,[],0,L,c⟩:Tok.T)]).map tV).length=us.length+1:=by simp
     rw [n2] at n1;have hok:=arf l0;have hlt:=(ayb l0).2.2;rw [l1] at hlt hok;rw [dh,bu] at hlt
     have hLl:=as7 _ _ _ _ _ (ak _) hok.2.1 ⟨4,[],0,L,c⟩ (by simp)
     dsimp only at hLl
     have w1:IntKind.i64.wrap (((us.length+1:Nat):Int) - 1)=((us.length:Nat):Int):=by rw [IntKind.wrap_i64];omega
     have w2:IntKind.i64.wrap (((pb.2.1.1:Nat):Int)+((L:Nat):Int))=((pb.2.1.1+L:Nat):Int):=by rw [IntKind.wrap_i64];omega
     have kr1:=iq gr1 x32;have kb2:=iq kb1 x32;rw [l5] at kr1
     obtain ⟨C4,rd,x6⟩:=ai2 hP hR base (A:=D2) (by have:=x32.le;omega)
     refine ⟨C4,og (c:=an8) hT (by simp [an8]) ?_⟩
     have hD1b:base≤D1.length:=by have:=t3.1;omega
     have gD:∀ c,getC (D1 ++ [Ob.cells 0 c]) D1.length 0=some c:=fun c=>jh D1 0 c;have sD:∀ c d,(D1 ++ [c]).set D1.length d=D1 ++ [d]:=fun c d=>qh D1 c d;have z0:((0:Nat):Int)=0:=rfl;simp only [bl] at rd;simp only [I] at t1;simp only [bl,an8,bdt,aa,reduceIte,reduceCtorEq,Nat.reduceEqDiff,Nat.reduceLT,Nat.reduceLeDiff,Nat.reduceBEq,Nat.reduceAdd,Nat.reduceMul,hg,ea,eb,er,bx1,bx2,bx3,bx4,bx5,oa,ob,orr,ba,ba1,bb,bb1,br,br1,hs1,hs2,hab,hB1,hB2,hB3,qa,qb,qg,t1,gD,sD,hD1b,hD2,n1,w1,y1,y3,kb2,kr1,w2,a6c,ab2,beq_self_eq_true,qi,rd,ik,jd,ja,qi,and_self,if_true,bq,dm,eu,gu]
   ·have qa:=q0 _ h0;obtain ⟨C4,rd,x6⟩:=ai2 hP hR base (A:=B3) hb3
    refine ⟨C4,og (c:=an8) hT (by simp [an8]) ?_⟩
    simp only [bl] at rd
    have q41:(bif (((pa.2.2:Nat):Int) == 41) then true else (((pr.2.2:Nat):Int) != 0))=true:=by
     rcases hlaw.1 h0 with e | e
     ·rw [e];rfl
     ·rw [q0 _ e,Bool.cond_self]
    simp only [bl,an8,bdt,aa,reduceIte,reduceCtorEq,Nat.reduceEqDiff,Nat.reduceLT,Nat.reduceLeDiff,Nat.reduceBEq,Nat.reduceAdd,Nat.reduceMul,hg,ea,eb,er,bx1,bx2,bx3,bx4,bx5,oa,ob,orr,ba,ba1,bb,bb1,br,br1,hs1,hs2,hab,hB1,hB2,hB3,qa,q41,rd,ik,jd,ja,qi,and_self,if_true,bq,dm,eu,gu]
end
end Go.Proofs.YtbocmenkkjbigaaDoor
