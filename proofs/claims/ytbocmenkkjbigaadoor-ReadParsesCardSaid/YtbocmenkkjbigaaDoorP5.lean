/- Texts of the proof: RdsA, TokP6, RdsB, AmJ, AmV, AmR, RdX, RdJ1, RdJ2, RdJ3, RdY1, RdS11, RdR1, RdR2, RdR3, RdS9, RdN1, RdN2, RdN3, RdR4, RdS12, RdR5, RdR6, RdR7, RdR8, RdR9, RdRA. -/
import Derived.Test.YtbocmenkkjbigaaDoorP0
import Derived.Test.YtbocmenkkjbigaaDoorP1
import Derived.Test.YtbocmenkkjbigaaDoorP2
import Derived.Test.YtbocmenkkjbigaaDoorP3
import Derived.Test.YtbocmenkkjbigaaDoorP4
import Derived.Shelf.Small.Strs
import Derived.Shelf.Strconv.Atoi
import Derived.ProofKit
import Derived.OpenShut
import Derived.ChangeArms
import Derived.FnData
import Derived.DataReads
import Derived.ChangeOld
import Derived.LaidMore
import Derived.Stop.Joined
import Derived.SevenTiedAt
import Derived.Test.YtbocmenkkjbigaaDoorRows
import Derived.Test.YtbocmenkkjbigaaDoorCards
import Derived.Test.YtbocmenkkjbigaaDoorTie
set_option linter.all false
set_option maxRecDepth 100000
namespace Go.Proofs.YtbocmenkkjbigaaDoor
open Go.AM
def w63{n:Nat}(h:n+1<2^63):IntKind.i64.wrap ((n:Int)+1)=((n+1:Nat):Int):=by rw[IntKind.wrap_i64];omega
def akh{H H' v l}(h:RdL 8 ac7 H v l)(k:Ext H H'):RdL 8 ac7 H' v l:=RdL.ext (P:=ac7) ac7.ext h k
def aki{H H' v l}(h:RdL 2 ajd H v l)(k:Ext H H'):RdL 2 ajd H' v l:=RdL.ext (P:=ajd) ajd.ext h k
def RdL.lt{α:Type}{w}{P:Heap->List V->α->Prop}{H v}{l:List α}(h:RdL w P H v l):l.length<2^63:=by obtain⟨_,_,_,h,_⟩:=h;exact h
structure SamT (CT:Nat->Option CFun):Prop where
 texts:CT bfn=some (.code aqt)
 same:CT bjt=some (.code aq0)
section
variable {CT:Nat->Option CFun}
def st_l0(base:Nat){D:Heap}{v w:V}{l:List ByteArray}(q1:Rd D v (l.map Sb))(q2:aak v)(r1:Rd D w (l.map Sb))(r2:aak w)(hn:l.length<2^63):
 itW (evC (gq CT) itW base alm) [] D.length (ja 26 [(0,v),(1,w),(5,Iz 0)]) D=some (.ext 0,ja 26 [(0,v),(1,w),(5,Iz l.length),(14,bl false)],D):=by
 have hpl:=auy q1
 have h:=bju l.length (fun k=>itW (evC (gq CT) itW base alm) [] D.length (ja 26 [(0,v),(1,w),(5,Iz k)]) D) (fun k hk=>by
  have hlt':((k:Int)<((l.length:Nat):Int)):=by omega
  have hwk:=w63 (n:=k) (by omega)
  obtain⟨y,y1,y2⟩:=a7e q1 q2 hk;obtain⟨z,z1,z2⟩:=a7e r1 r2 hk;have e:((l.getD k ⟨#[]⟩).data.toList==(l.getD k ⟨#[]⟩).data.toList)=true:=lg _;rw[kg];simp only[Iz,simprocAttr,bgv,aa,hpl,hlt',y1,y2,z1,z2,hwk,ach rfl]) 0 (jo _)
 rw[ah5]at h;refine h.trans ?_;rw[kg];simp only[Iz,simprocAttr,bl,bgv,aa,hpl,qm,ach rfl]
def amt(hT:CT bfn=some (.code aqt))(base:Nat){D:Heap}{v w:V}{l:List ByteArray}(q1:Rd D v (l.map Sb))(q2:aak v)(r1:Rd D w (l.map Sb))(r2:aak w)(hn:l.length<2^63):
 gq CT (.fn bfn [] []) [v,w] base D=some (bl true,D):=by
 have f0:=st_l0 (CT:=CT) base q1 q2 r1 r2 hn;have hp1:=auy q1;have hp2:=auy r1;have e:(((l.length:Nat):Int)==((l.length:Nat):Int))=true:=lg _
 refine qi (c:=aqt) hT (by simp[aqt]) ?_
 simp only[Iz,bl]at f0;simp only[bl,simprocAttr,aqt,bgv,aa,hp1,hp2,f0]
set_option maxHeartbeats 1000000 in
def sm_l0(h:SamT CT)(base:Nat){C0:Heap}(hb:base<=C0.length){z9 z10:Nat}{lb cv cw:V}{l:List InsD}(hg9:getC C0 z9 0=some [lb,cv])(hg10:getC C0 z10 0=some [lb,cw])(hc:RdL 8 ac7 C0 cv l)(hd:RdL 8 ac7 C0 cw l){v2 v3 v6 v7:V}{n5 n8:Int}:
 ∃C',itW (evC (gq CT) itW base als) [] C0.length (ja 164 [(2,v2),(3,v3),(5,Iz n5),(6,v6),(7,v7),(8,Iz n8),(9,.ref z9 0 0),(10,.ref z10 0 0),(11,Iz 0)]) C0=some (.ext 4,(ja 164 [(2,v2),(3,v3),(5,Iz n5),(6,v6),(7,v7),(8,Iz n8),(9,.ref z9 0 0),(10,.ref z10 0 0),(11,Iz l.length),(95,bl false)]),C')/\Ext C0 C':=by
 have hn:=hc.lt
 obtain⟨C,e2,e3⟩:=at7 l.length (fun _ C=>Ext C0 C) (fun k C=>itW (evC (gq CT) itW base als) [] C0.length (ja 164 [(2,v2),(3,v3),(5,Iz n5),(6,v6),(7,v7),(8,Iz n8),(9,.ref z9 0 0),(10,.ref z10 0 0),(11,Iz k)]) C) (by
  intro k C hk hE
  have hlt':((k:Int)<((l.length:Nat):Int)):=by omega
  have hwk:=w63 (n:=k) (by omega)
  have hbC:base<=C.length:=by have:=hE.le;omega
  have g9:=jd hg9 hE;have g10:=jd hg10 hE;have hpl:=(akh hc hE).len;have hxk:l[k]?=some (l[k]):=af hk;obtain⟨x,hxe⟩:∃x,l[k]=x:=⟨_,rfl⟩;rw[hxe]at hxk;obtain⟨y,re,y1,y2,y3,_⟩:=hc.at2 hxk;obtain⟨z,rf,z1,z2,z3,_⟩:=hd.at2 hxk;have ly:=y3 C hE;have lz:=z3 C hE;obtain⟨av,lv,rfl,q1,q2,q3,q4,n1,n2⟩:=y2;obtain⟨aw,lw,rfl,p1,p2,p3,p4,_⟩:=z2;obtain⟨D1,hD1⟩:∃D,C++[Ob.cells 0 (zw x av lv)]=D:=⟨_,rfl⟩;obtain⟨D,hD⟩:∃D,D1++[Ob.cells 0 (zw x aw lw)]=D:=⟨_,rfl⟩
  have l1:D1.length=C.length+1:=by rw[<- hD1,kw]
  have e1:Ext C D1:=hD1▸Ext.app _ _;have e2:Ext D1 D:=hD▸Ext.app _ _;have hE2:=hE.trans (e1.trans e2);have hg1:getC D C.length 0=some (zw x av lv):=jd (hD1▸jl C 0 _) e2
  have hg2:getC D (C.length+1) 0=some (zw x aw lw):=by rw[<- l1,<- hD];exact jl D1 0 _
  have f1:=amt h.texts base (q1.ext hE2) q2 (p1.ext hE2) p2 n1;have f2:=amt h.texts base (q3.ext hE2) q4 (p3.ext hE2) p4 n2;have b0:(x.op==x.op:Bool)=true:=lg _;have b1:(x.d.data.toList==x.d.data.toList:Bool)=true:=lg _;have b2:(x.a.data.toList==x.a.data.toList:Bool)=true:=lg _;have b3:(x.b.data.toList==x.b.data.toList:Bool)=true:=lg _;have b4:(x.k==x.k:Bool)=true:=lg _;have b5:(x.f.data.toList==x.f.data.toList:Bool)=true:=lg _;have o1:=q1.one;have o2:=q3.one;have o3:=p1.one;have o4:=p3.one;obtain⟨Z1,hZ1⟩:∃X,C++[Ob.cells 0 yt]=X:=⟨_,rfl⟩;obtain⟨Z2,hZ2⟩:∃X,Z1++[Ob.cells 0 yt]=X:=⟨_,rfl⟩
  have lZ1:Z1.length=C.length+1:=by rw[<- hZ1,kw]
  have lZ2:Z2.length=C.length+2:=by rw[<- hZ2,kw,lZ1]
  have zz1:getC Z2 C.length 0=some yt:=jd (hZ1▸jl C 0 _) (hZ2▸Ext.app _ _)
  have ss1:Z2.set C.length (Ob.cells 0 (zw x av lv))=D1++[Ob.cells 0 yt]:=by
   rw[<- hZ2,aau _ _ (by omega),<- hZ1,uw,hD1]
  have zz2:getC (D1++[Ob.cells 0 yt]) (C.length+1) 0=some yt:=by rw[<- l1];exact jl D1 0 _
  have ss2:(D1++[Ob.cells 0 yt]).set (C.length+1) (Ob.cells 0 (zw x aw lw))=D:=by rw[<- l1,uw,hD]
  have hb1:base<=C.length+1:=by omega
  refine⟨trim C0.length (ja 164 [(2,v2),(3,v3),(5,Iz n5),(6,v6),(7,v7),(8,Iz n8),(9,.ref z9 0 0),(10,.ref z10 0 0),(11,Iz (k+1:Nat))]) D,?_,hE2.trim (aj _) _⟩;simp only[bl]at f1 f2;simp only[zw,Sb,yt,ow]at hZ1 hZ2 zz1 ss1 zz2 ss2 hg1 hg2 ly lz;rw[kg];simp only[Iz,simprocAttr,axw,aa,g9,g10,hpl,hlt',y1,z1,ly,lz,hZ1,lZ1,hZ2,zz1,ss1,zz2,ss2,hbC,hb1,o1,o2,o3,o4,lq,hg1,hg2,f1,f2,hwk]) 0 C0 (jo _) (Ext.refl _)
 rw[ah5]at e2;refine⟨trim C0.length (ja 164 [(2,v2),(3,v3),(5,Iz n5),(6,v6),(7,v7),(8,Iz n8),(9,.ref z9 0 0),(10,.ref z10 0 0),(11,Iz l.length),(95,bl false)]) C,e2.trans ?_,e3.trim (aj _) _⟩;have g9:=jd hg9 e3;have hpl:=(akh hc e3).len;rw[kg];simp only[Iz,simprocAttr,bl,axw,aa,g9,hpl,qm]
set_option maxHeartbeats 1000000 in
def sm_l1(h:SamT CT)(base:Nat){C0}(hb:base<=C0.length){q6 q7:Nat}{nm pv pw bv bw l}(hg6:getC C0 q6 0=some [nm,pv,bv])(hg7:getC C0 q7 0=some [nm,pw,bw])(hc:RdL 2 ajd C0 bv l)(hd:RdL 2 ajd C0 bw l){v2 v3}{n5:Int}:
 ∃C',itW (evC (gq CT) itW base alr) [] C0.length (ja 164 [(2,v2),(3,v3),(5,Iz n5),(6,.ref q6 0 0),(7,.ref q7 0 0),(8,Iz 0)]) C0=some (.ext 2,(ja 164 [(2,v2),(3,v3),(5,Iz n5),(6,.ref q6 0 0),(7,.ref q7 0 0),(8,Iz l.length),(64,bl false)]),C')/\Ext C0 C':=by
 have hn:=hc.lt
 obtain⟨C,e2,e3⟩:=at7 l.length (fun _ C=>Ext C0 C) (fun k C=>itW (evC (gq CT) itW base alr) [] C0.length (ja 164 [(2,v2),(3,v3),(5,Iz n5),(6,.ref q6 0 0),(7,.ref q7 0 0),(8,Iz k)]) C) (by
  intro k C hk hE
  have hlt':((k:Int)<((l.length:Nat):Int)):=by omega
  have hwk:=w63 (n:=k) (by omega)
  have hbC:base<=C.length:=by have:=hE.le;omega
  have g6:=jd hg6 hE;have g7:=jd hg7 hE;have hpl:=(aki hc hE).len;have hxk:l[k]?=some (l[k]):=af hk;obtain⟨B,hxe⟩:∃x,l[k]=x:=⟨_,rfl⟩;rw[hxe]at hxk;obtain⟨y,re,y1,y2,y3,_⟩:=hc.at2 hxk;obtain⟨z,rf,z1,z2,z3,_⟩:=hd.at2 hxk;obtain⟨cv,rfl,hcv⟩:=y2;obtain⟨cw,rfl,hcw⟩:=z2;have hco:=hcv.one;have hcw1:=hcw.one;obtain⟨C1,hC1⟩:∃X,C++[Ob.cells 0 [Sb B.label,cv]]=X:=⟨_,rfl⟩;obtain⟨C2,hC2⟩:∃X,C1++[Ob.cells 0 [Sb B.label,cw]]=X:=⟨_,rfl⟩
  have l1:C1.length=C.length+1:=by rw[<- hC1,kw]
  have l2:C2.length=C.length+2:=by rw[<- hC2,kw,l1]
  have x1:Ext C C1:=hC1▸Ext.app _ _;have x2:Ext C1 C2:=hC2▸Ext.app _ _;have ly:=y3 C hE;have lz:=z3 C hE;have k9:getC C2 C.length 0=some [Sb B.label,cv]:=jd (hC1▸jl C 0 _) x2
  have k10:getC C2 (C.length+1) 0=some [Sb B.label,cw]:=by rw[<- l1,<- hC2];exact jl C1 0 _
  have hE2:=hE.trans (x1.trans x2)
  obtain⟨C',f1,x3⟩:=sm_l0 h base (C0:=C2) (by omega) (v2:=v2) (v3:=v3) (v6:=.ref q6 0 0) (v7:=.ref q7 0 0) (n5:=n5) (n8:=k) k9 k10 (akh hcv hE2) (akh hcw hE2)
  have c1l:=(akh hcv hE2).len;have c2l:=(akh hcw hE2).len;obtain⟨Z1,hZ1⟩:∃X,C++[Ob.cells 0 [V.s (.string ⟨#[]⟩),ow]]=X:=⟨_,rfl⟩;obtain⟨Z2,hZ2⟩:∃X,Z1++[Ob.cells 0 [V.s (.string ⟨#[]⟩),ow]]=X:=⟨_,rfl⟩
  have lZ1:Z1.length=C.length+1:=by rw[<- hZ1,kw]
  have zz1:getC Z2 C.length 0=some [V.s (.string ⟨#[]⟩),ow]:=jd (hZ1▸jl C 0 _) (hZ2▸Ext.app _ _)
  have ss1:Z2.set C.length (Ob.cells 0 [Sb B.label,cv])=C1++[Ob.cells 0 [V.s (.string ⟨#[]⟩),ow]]:=by
   rw[<- hZ2,aau _ _ (by omega),<- hZ1,uw,hC1]
  have zz2:getC (C1++[Ob.cells 0 [V.s (.string ⟨#[]⟩),ow]]) (C.length+1) 0=some [V.s (.string ⟨#[]⟩),ow]:=by rw[<- l1];exact jl C1 0 _
  have ss2:(C1++[Ob.cells 0 [V.s (.string ⟨#[]⟩),ow]]).set (C.length+1) (Ob.cells 0 [Sb B.label,cw])=C2:=by rw[<- l1,uw,hC2]
  have hb1:base<=C.length+1:=by omega
  have b1:(B.label.data.toList==B.label.data.toList:Bool)=true:=lg _;have b2:(((B.code.length:Nat):Int)==((B.code.length:Nat):Int))=true:=lg _;refine⟨trim C0.length (ja 164 [(2,v2),(3,v3),(5,Iz n5),(6,.ref q6 0 0),(7,.ref q7 0 0),(8,Iz (k+1:Nat))]) C',?_,(hE2.trans x3).trim (aj _) _⟩;rw[l2]at f1;simp only[bl,Iz,Sb,ow]at f1 ly lz hZ1 hZ2 zz1 ss1 zz2 ss2 k9 k10;rw[kg];simp only[Iz,simprocAttr,axw,aa,g6,g7,hpl,hlt',y1,z1,ly,lz,hZ1,lZ1,hZ2,zz1,ss1,zz2,ss2,hbC,hb1,hco,hcw1,lq,l2,k9,k10,c1l,c2l,f1,hwk]) 0 C0 (jo _) (Ext.refl _)
 rw[ah5]at e2;refine⟨trim C0.length (ja 164 [(2,v2),(3,v3),(5,Iz n5),(6,.ref q6 0 0),(7,.ref q7 0 0),(8,Iz l.length),(64,bl false)]) C,e2.trans ?_,e3.trim (aj _) _⟩;have g6:=jd hg6 e3;have hpl:=(aki hc e3).len;rw[kg];simp only[Iz,simprocAttr,bl,axw,aa,g6,hpl,qm]
set_option maxHeartbeats 1000000 in
def sm_l2(h:SamT CT)(base:Nat){C0:Heap}(hb:base<=C0.length){p2 p3:Nat}{fv fw:V}{fs:List FunD}(hg2:getC C0 p2 0=some [fv])(hg3:getC C0 p3 0=some [fw])(hc:ac0 C0 fv fs)(hd:ac0 C0 fw fs):
 ∃C',itW (evC (gq CT) itW base alq) [] C0.length (ja 164 [(2,.ref p2 0 0),(3,.ref p3 0 0),(5,Iz 0)]) C0=some (.ext 0,(ja 164 [(2,.ref p2 0 0),(3,.ref p3 0 0),(5,Iz fs.length),(25,bl false)]),C')/\Ext C0 C':=by
 have hn:=RdL.lt hc
 obtain⟨C,e2,e3⟩:=at7 fs.length (fun _ C=>Ext C0 C) (fun k C=>itW (evC (gq CT) itW base alq) [] C0.length (ja 164 [(2,.ref p2 0 0),(3,.ref p3 0 0),(5,Iz k)]) C) (by
  intro k C hk hE
  have hlt':((k:Int)<((fs.length:Nat):Int)):=by omega
  have hwk:=w63 (n:=k) (by omega)
  have hbC:base<=C.length:=by have:=hE.le;omega
  have g2:=jd hg2 hE;have g3:=jd hg3 hE;have hpl:=RdL.len (hc.ext hE);have hxk:fs[k]?=some (fs[k]):=af hk;obtain⟨f,hxe⟩:∃x,fs[k]=x:=⟨_,rfl⟩;rw[hxe]at hxk;obtain⟨y,re,y1,y2,y3,_⟩:=hc.at2 hxk;obtain⟨z,rf,z1,z2,z3,_⟩:=hd.at2 hxk;obtain⟨pv,bv,rfl,u1,u2,u3,u4⟩:=y2;obtain⟨pw,bw,rfl,w1,w2,w3,w4⟩:=z2;have o1:=u1.one;have o2:=u4.one;have o3:=w1.one;have o4:=w4.one;obtain⟨C1,hC1⟩:∃X,C++[Ob.cells 0 [Sb f.name,pv,bv]]=X:=⟨_,rfl⟩;obtain⟨C2,hC2⟩:∃X,C1++[Ob.cells 0 [Sb f.name,pw,bw]]=X:=⟨_,rfl⟩
  have l1:C1.length=C.length+1:=by rw[<- hC1,kw]
  have l2:C2.length=C.length+2:=by rw[<- hC2,kw,l1]
  have x1:Ext C C1:=hC1▸Ext.app _ _;have x2:Ext C1 C2:=hC2▸Ext.app _ _;have ly:=y3 C hE;have lz:=z3 C hE;have k6:getC C2 C.length 0=some [Sb f.name,pv,bv]:=jd (hC1▸jl C 0 _) x2
  have k7:getC C2 (C.length+1) 0=some [Sb f.name,pw,bw]:=by rw[<- l1,<- hC2];exact jl C1 0 _
  have hE2:=hE.trans (x1.trans x2);have ft:=amt h.texts base (D:=C2) (u1.ext hE2) u2 (w1.ext hE2) w2 u3
  obtain⟨C',f1,x3⟩:=sm_l1 h base (C0:=C2) (by omega) (v2:=.ref p2 0 0) (v3:=.ref p3 0 0) (n5:=k) k6 k7 (aki u4 hE2) (aki w4 hE2)
  have c1l:=(aki u4 hE2).len;have c2l:=(aki w4 hE2).len;obtain⟨Z1,hZ1⟩:∃X,C++[Ob.cells 0 ac1]=X:=⟨_,rfl⟩;obtain⟨Z2,hZ2⟩:∃X,Z1++[Ob.cells 0 ac1]=X:=⟨_,rfl⟩
  have lZ1:Z1.length=C.length+1:=by rw[<- hZ1,kw]
  have zz1:getC Z2 C.length 0=some ac1:=jd (hZ1▸jl C 0 _) (hZ2▸Ext.app _ _)
  have ss1:Z2.set C.length (Ob.cells 0 [Sb f.name,pv,bv])=C1++[Ob.cells 0 ac1]:=by
   rw[<- hZ2,aau _ _ (by omega),<- hZ1,uw,hC1]
  have zz2:getC (C1++[Ob.cells 0 ac1]) (C.length+1) 0=some ac1:=by rw[<- l1];exact jl C1 0 _
  have ss2:(C1++[Ob.cells 0 ac1]).set (C.length+1) (Ob.cells 0 [Sb f.name,pw,bw])=C2:=by rw[<- l1,uw,hC2]
  have hb1:base<=C.length+1:=by omega
  have b1:(f.name.data.toList==f.name.data.toList:Bool)=true:=lg _;have b2:(((f.blocks.length:Nat):Int)==((f.blocks.length:Nat):Int))=true:=lg _;refine⟨trim C0.length (ja 164 [(2,.ref p2 0 0),(3,.ref p3 0 0),(5,Iz (k+1:Nat))]) C',?_,(hE2.trans x3).trim (aj _) _⟩;rw[l2]at f1;simp only[bl,Iz,Sb,ac1,ow]at f1 ly lz hZ1 hZ2 zz1 ss1 zz2 ss2 k6 k7 ft;rw[kg];simp only[Iz,simprocAttr,axw,aa,g2,g3,hpl,hlt',y1,z1,ly,lz,hZ1,lZ1,hZ2,zz1,ss1,zz2,ss2,hbC,hb1,o1,o2,o3,o4,lq,l2,k6,k7,c1l,c2l,ft,f1,hwk]) 0 C0 (jo _) (Ext.refl _)
 rw[ah5]at e2;refine⟨trim C0.length (ja 164 [(2,.ref p2 0 0),(3,.ref p3 0 0),(5,Iz fs.length),(25,bl false)]) C,e2.trans ?_,e3.trim (aj _) _⟩;have g2:=jd hg2 e3;have hpl:=RdL.len (hc.ext e3);rw[kg];simp only[Iz,simprocAttr,bl,axw,aa,g2,hpl,qm]
def a2b(h:SamT CT)(base){A}(hb:base<=A.length){fv fw fs}(hc:ac0 A fv fs)(hd:ac0 A fw fs):
 ∃H',gq CT (.fn bjt [] []) [.agg [fv],.agg [fw]] base A=some (bl true,H')/\Ext A H':=by
 have o1:=hc.one;have o2:=hd.one;obtain⟨C1,hC1⟩:∃X,A++[Ob.cells 0 [fv]]=X:=⟨_,rfl⟩;obtain⟨C2,hC2⟩:∃X,C1++[Ob.cells 0 [fw]]=X:=⟨_,rfl⟩
 have l1:C1.length=A.length+1:=by rw[<- hC1,kw]
 have l2:C2.length=A.length+2:=by rw[<- hC2,kw,l1]
 have x1:Ext A C1:=hC1▸Ext.app _ _;have x2:Ext C1 C2:=hC2▸Ext.app _ _;have e:=x1.trans x2;have g2:getC C2 A.length 0=some [fv]:=jd (hC1▸jl A 0 _) x2
 have g3:getC C2 (A.length+1) 0=some [fw]:=by rw[<- l1,<- hC2];exact jl C1 0 _
 have p1:=RdL.len (hc.ext e);have p2:=RdL.len (hd.ext e);have b2:(((fs.length:Nat):Int)==((fs.length:Nat):Int))=true:=lg _
 obtain⟨C',f1,x3⟩:=sm_l2 h base (C0:=C2) (by omega) g2 g3 (hc.ext e) (hd.ext e)
 refine⟨C',p8 (c:=aq0) (k:=2) h.same rfl (by decide) av9 ?_,e.trans x3⟩
 rw[l2]at f1;simp only[bl,Iz]at f1;simp only[bl,simprocAttr,aq0,axw,aa,o1,o2,hC1,l1,hC2,l2,g2,g3,p1,p2,f1]
end
end Go.Proofs.YtbocmenkkjbigaaDoor
namespace Go.AM.Tok
def lexN:Nat->List UInt8->Nat->Nat->Out
 |0,_,_,_=>.bad 0 0 0
 |_+1,[],ln,cl=>.done [⟨4,[],0,ln,cl⟩]
 |n+1,c::l,ln,cl=>
   if blank c then(if c=10 then lexN n l (ln+1) 1 else lexN n l ln (cl+1))
   else if c=59 then lexN n (l.drop (far other l)) ln (cl+(far other l+1))
   else if letter c then(lexN n (l.drop (far within l)) ln (cl+(far within l+1))).cons ⟨1,c::l.take (far within l),0,ln,cl⟩
   else if digit c then
    if 9<far digit l+1\/(1<far digit l+1/\c=48)\/far digit l<far within l then .bad 31 ln cl
    else(lexN n (l.drop (far digit l)) ln (cl+(far digit l+1))).cons ⟨2,c::l.take (far digit l),val (c::l.take (far digit l)),ln,cl⟩
   else if sign c then(lexN n l ln (cl+1)).cons ⟨3,[c],0,ln,cl⟩
   else .bad 30 ln cl
def lexN_eq:∀(n:Nat) (l:List UInt8) (ln cl:Nat),l.length<n->lexN n l ln cl=lex l ln cl:=by
 intro n
 induction n with
 |zero=>intro l ln cl h;omega
 |succ n ih=>
   intro l ln cl h;cases l with
   |nil=>rw[lex_nil,lexN]
   |cons c l=>
     have hl:l.length<n:=by simpa using h
     have hd:∀m,(l.drop m).length<n:=fun m=>by rw[ig];omega
     rw[lex_cons,lexN,ih _ _ _ hl,ih _ _ _ hl,ih _ _ _ (hd _),ih _ _ _ (hd _),ih _ _ _ (hd _)]
end Go.AM.Tok
set_option maxRecDepth 100000
namespace Go.Proofs.YtbocmenkkjbigaaDoor
open Go.AM
def reT:ByteArray:=⟨#[102,117,110,99,32,109,97,105,110,40,112,41,32,123,10,97,58,32,59,32,120,10,32,32,120,32,61,32,102,105,101,108,100,32,112,32,51,10,32,32,114,101,116,10,125,10]⟩
def blz:InsD:=⟨7,⟨#[120]⟩,⟨#[112]⟩,⟨#[]⟩,3,⟨#[]⟩,[],[]⟩
def reI2:InsD:=⟨14,⟨#[]⟩,⟨#[]⟩,⟨#[]⟩,0,⟨#[]⟩,[],[]⟩
def reF:List FunD:=[⟨⟨#[109,97,105,110]⟩,[⟨#[112]⟩],[⟨⟨#[97]⟩,[blz,reI2]⟩]⟩]
def arf(l:List UInt8):List Tok.T × (Nat × Nat) × Nat:=if 1048576<l.length then([],(0,0),2)else match Tok.lexN (l.length+1) l 1 1 with
 |.done ts=>(ts,(0,0),0)
 |.bad e a q=>([],(a,q),e)
theorem bjo(l):aep l=arf l:=by
 unfold aep arf;rw[Tok.lexN_eq _ _ _ _ (abm _)]
 try rfl
def bi7(l:List UInt8):List FunD × (Nat × Nat) × Nat:=
 if(arf l).2.2=0 then match bg8 (arf l).1 with
  |.ok fs=>(fs,(0,0),0)
  |.error j=>([],(((arf l).1.getD j tkE).line,((arf l).1.getD j tkE).col),if((arf l).1.getD j tkE).kind=4 then 41 else 40)
 else([],(arf l).2.1,(arf l).2.2)
theorem bi6(l):akm l=bi7 l:=by
 unfold akm bi7;rw[bjo]
 try rfl
def a2v:akm reT.data.toList=(reF,(0,0),0):=(bi6 _).trans (by kernel_rfl)
section
variable {CT:Nat->Option CFun}
def aoh(CT:Nat->Option CFun):Prop:=∀(base:Nat) (H:Heap) (b:ByteArray),base<=H.length->∃v H',gq CT (.fn bg9 [] []) [.s (.string b)] base H=some (.tup [.agg [v],.agg [Iz (akm b.data.toList).2.1.1,Iz (akm b.data.toList).2.1.2],Iz (akm b.data.toList).2.2],H')/\Ext H H'/\∀H'',(∀id,H.length<=id->id<H'.length->H''[id]?=H'[id]?)->ac0 H'' v (akm b.data.toList).1
theorem a2w(hP:aoh CT)(hT:CT bfq=some (.code aqz))(base){A}(hb:base<=A.length):
 ∃H',gq CT (.fn bfq [] []) [] base A=some (bl true,H')/\Ext A H':=by
 obtain⟨v,H1,h1,e1,h3⟩:=hP base A reT hb;rw[a2v]at h1 h3;have hr:=h3 H1 fun _ _ _=>rfl;have hvo:=hr.one;obtain⟨H2,hH2⟩:∃X,H1++[Ob.cells 0 [v]]=X:=⟨_,rfl⟩;obtain⟨H3,hH3⟩:∃X,H2++[Ob.cells 0 [Iz 0,Iz 0]]=X:=⟨_,rfl⟩
 have l2:H2.length=H1.length+1:=by rw[<- hH2,kw]
 have e2:Ext H1 H2:=hH2▸Ext.app _ _;have e3:Ext H2 H3:=hH3▸Ext.app _ _;have g1:getC H3 H1.length 0=some [v]:=jd (hH2▸jl H1 0 _) e3;have hE:=e2.trans e3;have hr3:=hr.ext hE;have c0:=RdL.len hr3;obtain⟨a,r,a1,hf,_,a3⟩:=hr3.at2 (i:=0) (x:=reF.getD 0 bhc) rfl;obtain⟨pv,bv,rfl,p1,p2,p3,hbv⟩:=hf;obtain⟨x1,x2,x3⟩:=a3 1 _ rfl;obtain⟨y1,y2,y3⟩:=a3 2 _ rfl;have cp:=auy p1;have cb:=hbv.len;obtain⟨b1,rb,b2,hbb,_,b3⟩:=hbv.at2 (i:=0) (x:=⟨⟨#[97]⟩,[blz,reI2]⟩) rfl;obtain⟨cv,rfl,hcv⟩:=hbb;obtain⟨d1,d2,d3⟩:=b3 1 _ rfl;have cc:=hcv.len;obtain⟨f1,rf,f2,hff,_,f3⟩:=hcv.at2 (i:=0) (x:=blz) rfl;obtain⟨av,lv,rfl,_⟩:=hff;obtain⟨k1,k2,k3⟩:=f3 4 _ rfl;obtain⟨m1,m2,m3⟩:=f3 2 _ rfl;have x4:=x3 H3 (Ext.refl _);have y4:=y3 H3 (Ext.refl _);have d4:=d3 H3 (Ext.refl _);have k4:=k3 H3 (Ext.refl _);have m4:=m3 H3 (Ext.refl _);obtain⟨Z1,hZ1⟩:∃X,H1++[Ob.cells 0 [ow]]=X:=⟨_,rfl⟩;obtain⟨Z2,hZ2⟩:∃X,Z1++[Ob.cells 0 [Iz 0,Iz 0]]=X:=⟨_,rfl⟩
 have lZ1:Z1.length=H1.length+1:=by rw[<- hZ1,kw]
 have zz1:getC Z2 H1.length 0=some [ow]:=jd (hZ1▸jl H1 0 _) (hZ2▸Ext.app _ _)
 have ss1:Z2.set H1.length (Ob.cells 0 [v])=H3:=by
  rw[<- hZ2,aau _ _ (by omega),<- hZ1,uw,hH2,hH3]
 have zz2:getC H3 (H1.length+1) 0=some [Iz 0,Iz 0]:=by rw[<- l2,<- hH3];exact jl H2 0 _
 have ss2:H3.set (H1.length+1) (Ob.cells 0 [Iz 0,Iz 0])=H3:=by rw[<- hH3,<- l2,uw]
 have hbH:base<=H1.length:=by have:=e1.le;omega
 have hb1:base<=H1.length+1:=by omega
 refine⟨H3,qi (c:=aqz) hT (by simp[aqz]) ?_,e1.trans hE⟩
 have z0:((0:Nat):Int)=0:=rfl;have n1:(((reF.length:Nat):Int)==1)=true:=rfl;simp only[reT,Iz,z0]at h1;simp only[Iz,ow]at hZ1 hZ2 zz1 ss1 zz2 ss2;simp only[z0,blz,Sb]at a1 b2 f2 k4 m4 c0 cp cb cc d4;have q1:(((reF.length:Nat):Int)==1)=true:=rfl;have q2:((((reF.getD 0 bhc).ps.length:Nat):Int)==1)=true:=rfl;have q3:((((reF.getD 0 bhc).blocks.length:Nat):Int)==1)=true:=rfl;simp only[bl,simprocAttr,aqz,a_f12,aa,h1,hZ1,lZ1,hZ2,zz1,ss1,zz2,ss2,hbH,hb1,hvo,lq,g1,c0,q1,a1,x2,x4,cp,q2,y2,y4,cb,q3,b2,d2,d4,cc,f2,k2,k4,m2,m4]
 try rfl
end
end Go.Proofs.YtbocmenkkjbigaaDoor
namespace Go.AM
open Go.RowKit
section
variable {P:Program}
def bj0{pure':PX}{k}(hent:∀xs w,(callFunc k xs).run P w=.ok (.enter k xs) w)(hs:∀(s:ByteArray) (c:Int) (w:World),Calls P k #[.string s,.int .u8 c] w fun e w'=>e=.returned (.int .i64 (Lib.indexByte s.data.toList c.toNat.toUInt8))/\w'=w):adu P pure' k (.prim bhb):=by
 refine⟨hent,fun vs base H r H' hg=>?_⟩;unfold bhb at hg;split at hg
 .rename_i b c;cases hg;refine⟨Floor.refl _ _,fun μ Mt w cs hH hvs n=>?_⟩;obtain⟨h1,h2⟩:=hvs
  match cs,h1 with
  | [x,y],_=>
    have e1:=aa6 (h2 0 _ x rfl rfl);have e2:=aa6 (h2 1 _ y rfl rfl);subst e1 e2;refine callsIn_wide.2 ((hs b c w).mono ?_);rintro e w' ⟨rfl,rfl⟩;exact⟨_,μ,Mt,rfl,.s _,Post.refl hH⟩
 .cases hg
def anv{α:Type}(x:α)(f:α->α):∀l:List α,(l++[x]).modify l.length f=l++[f x]
 | []=>rfl
 |y::l=>by
   have:=anv x f l;simp only[bg,bn,List.modify_succ_cons,this]
def awv{α:Type}(a:Array α)(x:α)(f:α->α):(a.push x).modify a.size f=a.push (f x):=by
 apply xz;rw[Array.toList_modify,alf,alf,show a.size=a.toList.length from rfl];exact anv x f _
theorem a04{CC μ}{Mt:Nat->Prop}{w H}(h:HR CC μ Mt w H)(e s):Post CC μ Mt w H μ Mt (Lib.bytesWorld w e s) H:=by
 refine awi [.cells (Lib.bytesCells w e s) e ((Lib.bytesCells w e s).size,(Lib.bytesCells w e s).size+1)] w _ h ?_ rfl rfl rfl;unfold Lib.bytesWorld World.freeze
 rw[fu (by decide)]
 obtain⟨o,ho⟩:∃o,Obj.cells (Lib.bytesCells w e s) e=o:=⟨_,rfl⟩;have hp:(w.drew.alloc o).heap=w.heap.push o:=rfl;simp only[ho,hp];rw[awv,<- ho];rfl
def bgp{pure':PX}{k t}(hent:∀xs w,(callFunc k xs).run P w=.ok (.enter k xs) w)(hs:∀(s:ByteArray) (n:Int),s.size<=18->Lib.atoi s.data.toList=some n->∀(w:World),Calls P k #[.string s] w fun e w'=>e=.returned (.tuple #[.int .i64 n,.nilIface])/\∃b,w'=Lib.bytesWorld w t b):adu P pure' k (.prim auw):=by
 refine⟨hent,fun vs base H r H' hg=>?_⟩;unfold auw at hg;split at hg
 .rename_i b;split at hg
  .rename_i hb;cases hn:Lib.atoi b.data.toList with
   |none=>rw[hn]at hg;cases hg
   |some n=>
     rw[hn]at hg;cases hg;refine⟨Floor.refl _ _,fun μ Mt w cs hH hvs m=>?_⟩;obtain⟨h1,h2⟩:=hvs
     match cs,h1 with
     | [x],_=>
       have e1:=aa6 (h2 0 _ x rfl rfl);subst e1;refine callsIn_wide.2 ((hs b n hb hn w).mono ?_);rintro e w' ⟨rfl,s,rfl⟩;refine⟨_,μ,Mt,rfl,?_,a04 hH t s⟩;refine .tup _ _ rfl fun i a c ha hc=>?_
       match i with
       |0=>cases ha;cases hc;exact .s _
       |1=>cases ha;cases hc;exact .s _
       |i+2=>simp at ha
  .cases hg
 .cases hg
end
inductive Ty where
 |int (k:IntKind)|bool|str
 |sl (e:Ty)
 |st (fs:List Ty)
 deriving Inhabited
mutual
def Ty.width:Ty->Nat
 |.int _=>1
 |.bool=>1
 |.str=>1
 |.sl _=>1
 |.st fs=>ak2 fs
def ak2:List Ty->Nat
 | []=>0
 |f::fs=>f.width+ak2 fs
end
mutual
def ao5(P:Program):Nat->Ty->TypeId->Bool
 |0,_,_=>false
 |n+1,ty,t=>match ty,P.underlying t with
   |.int k,some (.int k')=>k==k'
   |.bool,some .bool=>true
   |.str,some .string=>true
   |.sl e,some (.slice e')=>ao5 P n e e'&&P.cellsOf e'==e.width&&decide (0<e.width)
   |.st fs,some (.struct gs)=>P.cellsOf t==ak2 fs&&au7 P n 0 fs gs.toList
   |_,_=>false
def au7(P:Program):Nat->Nat->List Ty->List Field->Bool
 |0,_,_,_=>false
 |n+1,off,fs,gs=>match fs,gs with
   | [],[]=>true
   |f::fs,g::gs=>g.offset==off&&P.cellsOf g.type==f.width&&ao5 P n f g.type&&au7 P n (off+f.width) fs gs
   |_,_=>false
end
mutual
def IsV:Ty->List V->Prop
 |.int k,cs=>∃n,cs=[.s (.int k n)]/\k.min<=n/\n<=k.max
 |.bool,cs=>∃b,cs=[.s (.bool b)]
 |.str,cs=>∃b,cs=[.s (.string b)]/\b.size<=maxLen
 |.sl e,cs=>cs=[ow]\/∃es:List (List V),cs=[.psl es e.width]/\es.length<=maxLen/\∀x∈es,IsV e x
 |.st fs,cs=>bg5 fs cs
def bg5:List Ty->List V->Prop
 | [],cs=>cs=[]
 |f::fs,cs=>∃a b,cs=a++b/\IsV f a/\bg5 fs b
end
mutual
theorem IsV.len:∀(t:Ty) {cs:List V},IsV t cs->cs.length=t.width
 |.int _,cs,h=>by obtain⟨n,rfl,_⟩:=h;rfl
 |.bool,cs,h=>by obtain⟨n,rfl⟩:=h;rfl
 |.str,cs,h=>by obtain⟨n,rfl,_⟩:=h;rfl
 |.sl e,cs,h=>by rcases h with rfl|⟨es,rfl,_⟩<;>rfl
 |.st fs,cs,h=>bg5.len fs h
theorem bg5.len:∀(fs:List Ty) {cs:List V},bg5 fs cs->cs.length=ak2 fs
 | [],cs,h=>by cases h;rfl
 |f::fs,cs,h=>by
   obtain⟨a,b,rfl,h1,h2⟩:=h;rw[gm,IsV.len f h1,bg5.len fs h2];rfl
end
abbrev PRs(w:World)(vs:List V)(cs:List Value):Prop:=vs.length=cs.length/\∀(i:Nat) (a:V) (b:Value),vs[i]?=some a->cs[i]?=some b->PR (fun _=>False) w a b
def PRs.app{w a b c d}(h:PRs w a c)(k:PRs w b d):PRs w (a++b) (c++d):=by
 refine⟨by simp[h.1,k.1],fun i x y hx hy=>?_⟩
 by_cases hi:i<a.length
 .rw[ah hi]at hx
  rw[ah (by rw[<- h.1];exact hi)]at hy
  exact h.2 i x y hx hy
 .rw[bz (by omega)]at hx
  rw[bz (by rw[<- h.1];omega),<- h.1]at hy
  exact k.2 _ x y hx hy
def PRs.one{w a b}(h:PR (fun _=>False) w a b):PRs w [a] [b]:=⟨rfl,fun i x y hx hy=>by
 cases i with
 |zero=>simp at hx hy;rw[<- hx,<- hy];exact h
 |succ i=>simp at hx⟩
def PRs.vrs{w vs cs}(h:PRs w vs cs):VRs (fun _ _=>none) (fun _=>False) w vs cs:=⟨h.1,fun i a b ha hb=>(h.2 i a b ha hb).vr⟩
def bae{α β:Type}{f:α->Option β}{l:List α}{us:List β}(h:l.mapM f=some us):us.length=l.length/\∀(i:Nat) (v:α),l[i]?=some v->∃u,us[i]?=some u/\f v=some u:=by
 obtain⟨h1,h2⟩:=atn h;refine⟨h1,fun i v hv=>?_⟩
 have hi:i<us.length:=by rw[h1];exact(bmk.1 hv).1
 exact⟨us[i],af hi,h2 i v _ hv (af hi)⟩
section
variable {H:Type} {enc:TypeId × Value->H} {P:Program} {w:World} {base:Nat} {sp:Nat->Bool} {held:Bool}
theorem add_block(a:Addr)(j:Nat):(a.add j).block=a.block:=by unfold Addr.add;split<;>rfl
theorem a7a{a:Addr}(h:a.spot=none)(j:Nat):(a.add j).off=a.off+j:=by
 unfold Addr.add;split
 .rename_i e;subst e;rfl
 .rfl
def aus{a:Addr}{n:Nat}{cs:List Value}(h:w.cells? base a n=some cs)(hn:0<n):∃arr e fr,w.heap[a.block]?=some (.cells arr e fr)/\a.spot=none/\cs.length=n/\a.off+n<=arr.size/\∀j,j<n->cs[j]?=arr[a.off+j]?:=by
 unfold World.cells? at h;split at h
 .obtain⟨h1,h2⟩:=bae h;simp only[List.length_range]at h1
  have key:∀j,j<n->∃u,cs[j]?=some u/\w.cell? (a.add j)=some u:=fun j hj=>h2 j j (by simp[hj])
  obtain⟨u0,_,hc0⟩:=key 0 hn;unfold World.cell? at hc0;split at hc0
  .rename_i c e fr hh;have hbl:∀j,(a.add j).block=a.block:=fun j=>add_block a j;rw[hbl]at hh;split at hc0
   .cases hc0
   .rename_i hsp
    have hsp:a.spot=none:=by
     cases hs:a.spot with
     |none=>rfl
     |some x=>exact absurd (by show(a.add 0).spot.isSome=true;simp[Addr.add,hs]) hsp
    have all:∀j,j<n->cs[j]?=c[a.off+j]?:=by
     intro j hj;obtain⟨u,hu,hc⟩:=key j hj;unfold World.cell? at hc;rw[hbl,hh]at hc;simp only[]at hc;split at hc
     .cases hc
     .rw[hu];have:(a.add j).off=a.off+j:=a7a hsp j;rw[<- this];exact hc.symm
    refine⟨c,e,fr,hh,hsp,h1,?_,all⟩
    have hl:=all (n-1) (by omega)
    have:cs[n-1]?=some cs[n-1]:=af (by omega)
    rw[this]at hl;have:=(bmv.1 hl.symm).1;omega
  .cases hc0
 .cases h
def a7v{n k t}(h:ao5 P n (.int k) t=true):P.underlying t=some (.int k):=by
 cases n with
 |zero=>simp[ao5]at h
 |succ n=>
   simp only[ao5]at h;split at h<;>simp_all
def a1m{n t}(h:ao5 P n .bool t=true):P.underlying t=some .bool:=by
 cases n with
 |zero=>simp[ao5]at h
 |succ n=>
   simp only[ao5]at h;split at h<;>simp_all
def a7u{n t}(h:ao5 P n .str t=true):P.underlying t=some .string:=by
 cases n with
 |zero=>simp[ao5]at h
 |succ n=>
   simp only[ao5]at h;split at h<;>simp_all
def bdy{n e t}(h:ao5 P n (.sl e) t=true):∃m e',P.underlying t=some (.slice e')/\ao5 P m e e'=true/\P.cellsOf e'=e.width/\0<e.width:=by
 cases n with
 |zero=>simp[ao5]at h
 |succ n=>
   simp only[ao5]at h;split at h<;>simp_all;exact⟨n,h.1.1⟩
def bdx{n fs t}(h:ao5 P n (.st fs) t=true):∃m gs,P.underlying t=some (.struct gs)/\P.cellsOf t=ak2 fs/\au7 P m 0 fs gs.toList=true:=by
 cases n with
 |zero=>simp[ao5]at h
 |succ n=>
   simp only[ao5]at h;split at h<;>simp_all;exact⟨n,h.2⟩
def bel:∀(fuel n:Nat) (ty:Ty) (t:TypeId) (cs:List Value) (x:DataW H × List MemPlace),ao5 P n ty t=true->DataW.trod enc P w base sp held fuel t cs=some x->∃vs,IsV ty vs/\PRs w vs cs:=by
 intro fuel
 induction fuel with
 |zero=>intro n ty t cs x _ h;simp[DataW.trod]at h
 |succ fuel ih=>
   intro n ty t cs x ht h;cases ty with
   |int k=>
     obtain⟨m,rfl,_,hw⟩:=DataW.trod_int (a7v ht) h;simp only[Lit.wf,au,lm]at hw;exact⟨[.s (.int k m)],⟨m,rfl,hw.1,hw.2⟩,PRs.one (.s _)⟩
   |bool=>
     obtain⟨b,rfl,_⟩:=DataW.trod_bool (a1m ht) h;exact⟨[.s (.bool b)],⟨b,rfl⟩,PRs.one (.s _)⟩
   |str=>
     obtain⟨b,rfl,_,hb⟩:=DataW.trod_string (a7u ht) h;exact⟨[.s (.string b)],⟨b,rfl,hb⟩,PRs.one (.s _)⟩
   |sl e=>
     obtain⟨m,e',hu,he,hw,h0⟩:=bdy ht
     rcases DataW.trod_slice hu h with⟨rfl,_⟩|⟨a,len,cap,elems,rest,n2,hn,rfl,_,hb,hlc,hcm,hel,hall,_⟩
     .exact⟨[ow],.inl rfl,PRs.one (.s _)⟩
     .have hn2:n2=fuel:=by omega
      subst hn2;rw[hw]at hall;by_cases hl:len=0
      .subst hl
       exact⟨[.psl [] e.width],.inr ⟨[],rfl,jo _,fun x hx=>by cases hx⟩,PRs.one (.psl0 _ _ _)⟩
      .
       have one:∀i,i<len->∃cs vs,w.cells? base (a.add (i*e.width)) e.width=some cs/\IsV e vs/\PRs w vs cs:=by
        intro i hi;have hh:=hall i hi
        have:elems[i]?=some elems[i]:=af (by omega)
        rw[this,ak]at hh;obtain⟨cs,h1,h2⟩:=hh;obtain⟨vs,h3,h4⟩:=ih m e e' cs _ he h2;exact⟨cs,vs,h1,h3,h4⟩
       obtain⟨c0,_,hc0,_,_⟩:=one 0 (by omega)
       rw[ap1]at hc0
       have ha0:a.add 0=a:=by simp[Addr.add]
       rw[ha0]at hc0;obtain⟨arr,el,fr,hB,hsp,_,_,_⟩:=aus hc0 h0
       have pos:∀i,i<len->∃vs,IsV e vs/\a.off+i*e.width+e.width<=arr.size/\∀(j:Nat) (x:V) (y:Value),vs[j]?=some x->arr[a.off+i*e.width+j]?=some y->PR (fun _=>False) w x y:=by
        intro i hi;obtain⟨cs,vs,h1,h2,h3⟩:=one i hi;obtain⟨arr',el',fr',hB',_,hcl,hsz,hcj⟩:=aus h1 h0;rw[add_block,hB]at hB';cases hB';rw[a7a hsp]at hsz hcj;refine⟨vs,h2,hsz,fun j x y hx hy=>?_⟩
        have hj:j<e.width:=by rw[<- h2.len];exact(bmk.1 hx).1
        exact h3.2 j x y hx (by rw[hcj j hj];exact hy)
       obtain⟨es,he1,he2⟩:∃es:List (List V),es.length=len/\∀i vs,es[i]?=some vs->IsV e vs/\a.off+i*e.width+e.width<=arr.size/\∀(j:Nat) (x:V) (y:Value),vs[j]?=some x->arr[a.off+i*e.width+j]?=some y->PR (fun _=>False) w x y:=by
        have:∀k,k<=len->∃es:List (List V),es.length=k/\∀i vs,es[i]?=some vs->IsV e vs/\a.off+i*e.width+e.width<=arr.size/\∀(j:Nat) (x:V) (y:Value),vs[j]?=some x->arr[a.off+i*e.width+j]?=some y->PR (fun _=>False) w x y:=by
         intro k
         induction k with
         |zero=>intro _;exact⟨[],rfl,fun i vs h=>by simp at h⟩
         |succ k ihk=>
           intro hk
           obtain⟨es,h1,h2⟩:=ihk (by omega)
           obtain⟨vs,h3⟩:=pos k (by omega)
           refine⟨es++[vs],by simp[h1],fun i us hi=>?_⟩
           by_cases c:i<es.length
           .rw[ah c]at hi;exact h2 i us hi
           .rw[bz (by omega)]at hi
            have:i-es.length=0:=by
             have:=(bmk.1 hi).1;simp at this;omega
            rw[this]at hi;simp at hi
            have hik:i=k:=by omega
            subst hik;subst hi;exact h3
        exact this len (aj _)
       refine⟨[.psl es e.width],.inr ⟨es,rfl,by omega,fun x hx=>?_⟩,PRs.one ?_⟩
       .obtain⟨i,hi⟩:=List.mem_iff_getElem?.1 hx;exact(he2 i x hi).1
       .have hslice:Value.slice (some a) len cap=.slice (some ⟨a.block,a.off,none⟩) es.length cap:=by
         rw[he1]
         congr 2
         cases a;simp at hsp;subst hsp;rfl
        rw[hslice]
        refine .psl es e.width a.block a.off cap arr el fr hB (fun h=>h) (by omega) (fun i vs hi=>(he2 i vs hi).1.len) ?_ (fun i vs j x y hi hx hy=>(he2 i vs hi).2.2 j x y hx hy)
        have hlast:=(he2 (len-1) es[len-1] (af (by omega))).2.1
        rw[he1]
        have:len*e.width=(len-1)*e.width+e.width:=by
         obtain⟨k,rfl⟩:∃k,len=k+1:=⟨len-1,by omega⟩
         rw[Nat.add_sub_cancel,zu,bdm]
        omega
   |st fs=>
     obtain⟨m,gs,hu,hw,hts⟩:=bdx ht;obtain⟨xs,n2,hn,_,hcl,hxl,hall⟩:=DataW.trod_struct hu h
     have hn2:n2=fuel:=by omega
     subst hn2
     have key:∀(fs:List Ty) (m off:Nat) (gl:List Field),au7 P m off fs gl=true->(∀g∈gl,∃y,DataW.trod enc P w base sp held n2 g.type ((cs.drop g.offset).take (P.cellsOf g.type))=some y)->off+ak2 fs=cs.length->∃vs,bg5 fs vs/\PRs w vs (cs.drop off):=by
      intro fs
      induction fs with
      |nil=>
        intro m off gl _ _ ho;refine⟨[],rfl,?_⟩
        rw[mf (by simp[ak2]at ho;omega)]
        exact⟨rfl,fun i a b h=>by simp at h⟩
      |cons f fs ihf=>
        intro m off gl htk hg ho;cases m with
        |zero=>simp[au7]at htk
        |succ m=>
          cases gl with
          |nil=>simp[au7]at htk
          |cons g gl=>
            simp only[au7,au,dz]at htk;obtain⟨⟨⟨h1,h2⟩,h3⟩,h4⟩:=htk;obtain⟨y,hy⟩:=hg g jh;obtain⟨va,ha1,ha2⟩:=ih m f g.type _ y h3 hy
            obtain⟨vb,hb1,hb2⟩:=ihf m (off+f.width) gl h4 (fun g hg'=>hg g (il _ hg')) (by simp only[ak2]at ho;omega)
            refine⟨va++vb,⟨va,vb,rfl,ha1,hb1⟩,?_⟩;rw[h1,h2]at ha2
            have:cs.drop off=(cs.drop off).take f.width++cs.drop (off+f.width):=by
             rw[<- qc,tq]
            rw[this];exact ha2.app hb2
     obtain⟨vs,h1,h2⟩:=key fs m 0 gs.toList hts (fun g hg=>by
      obtain⟨i,hi⟩:=List.mem_iff_getElem?.1 hg
      have hi':gs[i]?=some g:=by simpa using hi
      have h3:=hall i g hi';have hlt:=(bmv.1 hi').1
      exact⟨xs[i]'(by omega),by rw[h3];exact af (by omega)⟩) (by omega)
     exact⟨vs,h1,by simpa using h2⟩
def argV:Ty->List V->V
 |.st _,vs=>.agg vs
 |_,[v]=>v
 |_,_=>.unk
def a9b{n ty t v}{d:DataW H}{ps:List MemPlace}(ht:ao5 P n ty t=true)(hf:(match ty with|.st _=>∃vs,v=.agg vs|_=>v.cells.toList=[v]))(h:DataW.Trod enc P w base sp held t v d ps):
 ∃vs,IsV ty vs/\VR (fun _ _=>none) (fun _=>False) w (argV ty vs) v:=by
 obtain⟨fuel,h⟩:=h;obtain⟨vs,h1,h2⟩:=bel fuel n ty t _ _ ht h;refine⟨vs,h1,?_⟩
 have one:vs.length=1->v.cells.toList=[v]->∃x,vs=[x]/\VR (fun _ _=>none) (fun _=>False) w x v:=by
  intro hl hc
  match vs,hl with
  | [x],_=>
    rw[hc]at h2;exact⟨x,rfl,(h2.2 0 x v rfl rfl).vr⟩
 cases ty with
 |st fs=>
   obtain⟨us,rfl⟩:=hf;exact afy (vs:=us.toList) h2.vrs
 |_=>
   obtain⟨x,rfl,hx⟩:=one h1.len hf;exact hx
end
end Go.AM
set_option maxRecDepth 100000
namespace Go.Proofs.YtbocmenkkjbigaaDoor
open Go.ChangeShapes Go.WideShapes Go.ChangeAt Go.RowKit Go.AM
theorem mixed:Tryd.prog.follows .mixedOrders=true:=by kernel_rfl
def ayr{px:PX}:adu Tryd.prog px 27 (.prim bhb):=bj0 (Go.Proofs.enters_of Tryd.func27 (by kernel_rfl) rfl) (fun s c w=>Any.strings_IndexByte Tryd.idxK s c w)
def auv{px:PX}:adu Tryd.prog px 33 (.prim auw):=bgp (t:=Tryd.atoiK_ren.t 5) (Go.Proofs.enters_of Tryd.func33 (by kernel_rfl) rfl) (fun s n h1 h2 w=>Any.strconv_Atoi Tryd.atoiK s n h1 h2 w)
def CT0:Nat->Option CFun
 |13=>some (.code ag5)
 |16=>some (.code aiq)
 |18=>some (.code af3)
 |25=>some (.code aov)
 |26=>some (.code ang)
 |27=>some (.prim bhb)
 |28=>some (.code aou)
 |29=>some (.code aot)
 |30=>some (.code aos)
 |31=>some (.code aor)
 |32=>some (.code aoq)
 |33=>some (.prim auw)
 |34=>some (.code aoo)
 |35=>some (.code aio)
 |36=>some (.code anf)
 |37=>some (.code ajv)
 |38=>some (.code afq)
 |39=>some (.code ag4)
 |49=>some (.code anc)
 |50=>some (.code ahs)
 |51=>some (.code ajq)
 |52=>some (.code aqj)
 |53=>some (.code aqi)
 |60=>some (.code afp)
 |61=>some (.code ain)
 |62=>some (.code aim)
 |63=>some (.code ahp)
 |64=>some (.code ana)
 |65=>some (.code ajp)
 |66=>some (.code am8)
 |67=>some (.code avf)
 |68=>some (.code amy)
 |69=>some (.code amw)
 |70=>some (.code ail)
 |71=>some (.code ahl)
 |_=>none
def blw:∀k c,CT0 k=some c->adu Tryd.prog (PXf (fun _=>none)) k c:=by
 intro k c h;unfold CT0 at h;split at h
 .cases h;exact mr (fun _=>none) bdl
 .cases h;exact mr (fun _=>none) blu
 .cases h;exact mr (fun _=>none) bk8
 .cases h;exact mr (fun _=>none) bdk
 .cases h;exact mr (fun _=>none) bdj
 .cases h;exact ayr
 .cases h;exact mr (fun _=>none) bdi
 .cases h;exact mr (fun _=>none) bdh
 .cases h;exact mr (fun _=>none) bdg
 .cases h;exact mr (fun _=>none) bdf
 .cases h;exact mr (fun _=>none) bde
 .cases h;exact auv
 .cases h;exact mr (fun _=>none) blt
 .cases h;exact mr (fun _=>none) bls
 .cases h;exact mr (fun _=>none) blr
 .cases h;exact mr (fun _=>none) blq
 .cases h;exact mr (fun _=>none) blp
 .cases h;exact mr (fun _=>none) bk7
 .cases h;exact mr (fun _=>none) blo
 .cases h;exact mr (fun _=>none) bln
 .cases h;exact mr (fun _=>none) blm
 .cases h;exact mr (fun _=>none) bk6
 .cases h;exact mr (fun _=>none) bk5
 .cases h;exact mr (fun _=>none) bll
 .cases h;exact mr (fun _=>none) blj
 .cases h;exact mr (fun _=>none) bli
 .cases h;exact mr (fun _=>none) blh
 .cases h;exact mr (fun _=>none) blg
 .cases h;exact mr (fun _=>none) blf
 .cases h;exact mr (fun _=>none) ble
 .cases h;exact mr (fun _=>none) bld
 .cases h;exact mr (fun _=>none) blc
 .cases h;exact mr (fun _=>none) blb
 .cases h;exact mr (fun _=>none) bla
 .cases h;exact mr (fun _=>none) bk9
 .cases h
def tl0:TL CT0:=⟨rfl,rfl,rfl,rfl,rfl,rfl,rfl,rfl,rfl⟩
theorem tr0:RdT CT0:=by constructor<;>rfl
theorem to0:OpsT CT0:=by constructor<;>first|exact tr0|rfl
theorem ti0:InsT CT0:=by constructor<;>first|exact to0|rfl
theorem tf0:FunT CT0:=by constructor<;>first|exact ti0|rfl
def az7:adu Tryd.prog (PXf (fun _=>none)) 9 (.prim (bc5 CT0)):=a9m mixed blw a9q
def a9n{CT:Nat->Option CFun}(hT:CT bg9=some (.prim (bc5 CT0))):aoh CT:=fun base _ b hb=>a2z hT tf0 rfl tl0 base hb b
def bb8(os:Os)(args):laidMetH Tryd.prog Rows.readParsesRow.laid ((World.doorLaid Tryd.prog 400 os).forCall (fun _ _=>0) ⟨#[],args,[]⟩).memory:=by
 rw[MakeChecks.laidMetH_plain _ _ _ (by kernel_rfl)]
 exact laidMet_of_run' 8 (by kernel_rfl) (by kernel_rfl)
open Go.AM
section
variable {W V:Vw} {k:Nat}
end
open Go.AM
section
variable {U V:Vw} {k K:Nat}
end
open Go.AM
open Go.AM
def bx1(H a c):getC (H++[.cells 0 [a]]++[c]) H.length 0=some [a]:=jd (jl H 0 [a]) (Ext.app _ _)
def bx2(H:Heap)(a b c:Ob):(H++[a]++[c]).set H.length b=H++[b]++[c]:=by
 rw[aau _ _ (by rw[kw];omega),uw]
def bx3(H a c):getC (H++[a]++[.cells 0 c]) (H.length+1) 0=some c:=by
 have:=jl (H++[a]) 0 c
 rwa[kw]at this
def bx4(H:Heap)(a b c:Ob):(H++[a]++[b]).set (H.length+1) c=H++[a]++[c]:=by
 have:=uw (H++[a]) b c
 rwa[kw]at this
def bd2(a b c d):si [Leaf.int IntKind.i64,Leaf.int IntKind.i64] [.s (.int .i64 a),.s (.int .i64 b)] [.s (.int .i64 c),.s (.int .i64 d)]=some (a==c&&b==d):=by
 simp only[si,aum,l9,jf,gy]
def bx5(H:Heap)(a:Ob):(H++[a]).length=H.length+1:=kw H a
section
variable {CT:Nat->Option CFun}
def a9a(hP:aoh CT)(base){H}(hb:base<=H.length)(b){p}(hp:akm b.data.toList=p):∃v H1 H2,gq CT (.fn bg9 [] []) [.s (.string b)] base H=some (.tup [.agg [v],.agg [.s (.int .i64 p.2.1.1),.s (.int .i64 p.2.1.2)],.s (.int .i64 p.2.2)],H1)/\
 H1++[Ob.cells 0 [v]]++[Ob.cells 0 [.s (.int .i64 p.2.1.1),.s (.int .i64 p.2.1.2)]]=H2/\Ext H H2/\base<=H1.length/\base<=H1.length+1/\H2.length=H1.length+2/\H.length<=H1.length/\v.one=true/\ac0 H2 v p.1/\getC H2 H1.length 0=some [v]/\getC H2 (H1.length+1) 0=some [.s (.int .i64 p.2.1.1),.s (.int .i64 p.2.1.2)]:=by
 obtain⟨v,H1,h1,e1,h3⟩:=hP base H b hb;rw[hp]at h1 h3;have hr:=h3 H1 fun _ _ _=>rfl;obtain⟨H2,hH2⟩:∃X,H1++[Ob.cells 0 [v]]++[Ob.cells 0 [.s (.int .i64 p.2.1.1),.s (.int .i64 p.2.1.2)]]=X:=⟨_,rfl⟩;have e2:Ext H1 H2:=hH2▸(Ext.app _ _).trans (Ext.app _ _);have hl:=e1.le
 refine⟨v,H1,H2,h1,hH2,e1.trans e2,by omega,by omega,by rw[<- hH2,kw,kw],hl,hr.one,hr.ext e2,hH2▸bx1 _ _ _,hH2▸bx3 _ _ _⟩
end
open Go.AM
abbrev bfp:Nat:=20
def K20_0:=List.range' 2 110
theorem av6:aam K20_0 (uq 112 [] 2)=[]:=by kernel_rfl
def R20_0:=[bm2 4 (bml 0),bm2 5 bmo]
def R20_1:=[bm2 6 (bml 0)]
def R20_2:=[bm2 7 (bml 0)]
def R20_3:=[oM 12 7,oM 13 0,q 14 (.lenS .s (.t 13)),q 15 (.bin .lss (.t 12) (.t 14))]
def R20_4:=[bm2 8 bmn]
def R20_5:=[oM 18 0,oM 19 7,bm4 20 1 18 19,oL 21 20]
def R20_6:=[q 55 (.bin .eql (.t 21) (bmp #[78])),oM 54 55]
def R20_7t2:=[oM 8 58]
def R20_7t1:=bmz 58 44 [.t 56,.t 57,bmm 1,bmp #[]]::R20_7t2
def R20_7p0:=[oM 56 1,oM 57 6]
def R20_7:=R20_7p0++R20_7t1
def R20_8:=[q 60 (.bin .eql (.t 21) (bmp #[75])),oM 59 60]
def R20_9t2:=[oM 8 63]
def R20_9t1:=bmz 63 44 [.t 61,.t 62,bmm 2,bmp #[]]::R20_9t2
def R20_9p0:=[oM 61 1,oM 62 6]
def R20_9:=R20_9p0++R20_9t1
def R20_10:=[q 65 (.bin .eql (.t 21) (bmp #[63])),oM 64 65]
def R20_11t1:=[bmz 68 44 [.t 66,.t 67,bmm 1,bmp #[]]]
def R20_11p0:=[oM 66 1,oM 67 6]
def R20_11:=R20_11p0++R20_11t1
def R20_12:=[oM 69 6,q 70 (.bin .add (.t 69) (bml 1)),oM 6 70]
def R20_13:=[oM 71 6,oM 4 71,bm2 5 bmn]
def R20_14:=[q 73 (.bin .eql (.t 21) (bmp #[40])),oM 72 73]
def R20_15:=[q 74 (.bin .eql (.t 21) (bmp #[91])),oM 72 74]
def R20_16t2:=[q 82 (.un .not (.t 81))]
def R20_16t1:=bmz 81 44 [.t 75,.t 76,bmm 3,.t 80]::R20_16t2
def R20_16p0:=[oM 75 1,oM 76 6,oM 77 0,oM 78 7,bm4 79 1 77 78,oL 80 79]
def R20_16:=R20_16p0++R20_16t1
def R20_17:=[oM 83 6,oM 4 83,bm2 5 bmo]
def R20_18:=[bm2 9 (bmp #[41])]
def R20_19:=[oM 84 0,oM 85 7,bm4 86 1 84 85,oL 87 86,q 88 (.bin .eql (.t 87) (bmp #[91]))]
def R20_20:=[bm2 9 (bmp #[93])]
def R20_21t2:=[oM 89 99,bm5 100 89 0,bm5 101 89 1,oM 10 100,oM 11 101]
def R20_21t1:=bmz 99 45 [.t 90,.t 92,.t 97,.t 98]::R20_21t2
def R20_21p0:=[oM 90 1,oM 91 6,q 92 (.bin .add (.t 91) (bml 1)),oM 93 0,oM 94 7,bm4 95 1 93 94,oL 96 95,q 97 (.bin .eql (.t 96) (bmp #[91])),oM 98 9]
def R20_21:=R20_21p0++R20_21t1
def R20_22:=[oM 102 11,q 103 (.un .not (.t 102))]
def R20_23:=[oM 104 10,oM 4 104,bm2 5 bmo]
def R20_24:=[oM 105 10,oM 6 105]
def R20_25:=[oM 22 6,oM 23 1,q 24 (.lenS .s (.t 23)),q 25 (.bin .lss (.t 22) (.t 24)),oM 26 25,gM 27 1 26 true,gM 28 6 26 true,qg 29 (.indexAddr 5 (.t 27) (.t 28)) 26 true,gF 30 0 29 26 true,gL 31 30 26 true,qg 32 (.bin .eql (.t 31) (bmm 1)) 26 true,gM 33 32 26 true,gM 34 1 33 false,gM 35 6 33 false,qg 36 (.indexAddr 5 (.t 34) (.t 35)) 33 false,gF 37 0 36 33 false,gL 38 37 33 false,qg 39 (.bin .eql (.t 38) (bmm 3)) 33 false,qg 40 (.pick (.t 33) bmn (.t 39)) 26 true,bm6 41 (.t 26) (.t 40) bmo,oM 42 41,gM 43 1 42 true,gM 44 6 42 true,qg 45 (.indexAddr 5 (.t 43) (.t 44)) 42 true,gF 46 1 45 42 true,gL 47 46 42 true,gM 48 0 42 true,gM 49 7 42 true,qg 50 (.indexAddr 1 (.t 48) (.t 49)) 42 true,gL 51 50 42 true,qg 52 (.bin .eql (.t 47) (.t 51)) 42 true,bm6 53 (.t 42) (.t 52) bmo,oM 8 53]
def R20_26:=[oM 106 8,q 107 (.un .not (.t 106))]
def R20_27:=[oM 108 6,oM 4 108,bm2 5 bmo]
def R20_28:=[oM 109 6,q 110 (.bin .add (.t 109) (bml 1)),oM 6 110]
def R20_29:=[oM 16 7,q 17 (.bin .add (.t 16) (bml 1)),oM 7 17]
def aj2:ACode:=
 (.seq (.seq (.regionE R20_3 [12,13,14] [15])
 (.cond (.t 15)
 .skip
 (.exit 0)))
 (.seq (.block 1
 (.seq (.regionE R20_4 [8,15] [])
 (.seq (.seq (.regionE R20_5 [18,19,20] [21])
 (.block 2
 (.seq (.regionE R20_6 [55] [54])
 (.cond (.t 54)
 (.region R20_7 [] [21,54,56,57,58])
 (.seq (.regionE R20_8 [54,60] [59])
 (.cond (.t 59)
 (.region R20_9 [] [21,59,61,62,63])
 (.seq (.regionE R20_10 [59,65] [64])
 (.cond (.t 64)
 (.seq (.seq (.region R20_11 [] [0,1,7,21,64,66,67])
 (.cond (.t 68)
 (.regionE R20_12 [68,69,70] [6])
 .skip))
 (.seq (.regionE R20_13 [6,68,71] [4,5])
 .ret))
 (.seq (.seq (.regionE R20_14 [64,73] [72])
 (.cond (.t 72)
 .skip
 (.regionE R20_15 [21,74] [72])))
 (.cond (.t 72)
 (.seq (.seq (.region R20_16 [] [21,72,75,76,77,78,79,80,81])
 (.cond (.t 82)
 (.seq (.regionE R20_17 [0,1,6,7,82,83] [4,5])
 .ret)
 .skip))
 (.seq (.regionE R20_18 [82] [9])
 (.seq (.seq (.regionE R20_19 [84,85,86,87] [88])
 (.cond (.t 88)
 (.regionE R20_20 [88] [9])
 .skip))
 (.seq (.region R20_21 [] [6,9,88,89,90,91,92,93,94,95,96,97,98,99,100,101])
 (.seq (.seq (.regionE R20_22 [11,102] [103])
 (.cond (.t 103)
 (.seq (.regionE R20_23 [0,1,7,10,103,104] [4,5])
 .ret)
 .skip))
 (.seq (.regionE R20_24 [10,103,105] [6])
 (.exit 1)))))))
 (.regionE R20_25 [21,22,23,24,25,26,27,28,29,30,31,32,33,34,35,36,37,38,39,40,41,42,43,44,45,46,47,48,49,50,51,52,53,72] [8])))))))))))
 (.seq (.seq (.regionE R20_26 [8,106] [107])
 (.cond (.t 107)
 (.seq (.regionE R20_27 [0,1,6,7,107,108] [4,5])
 .ret)
 .skip))
 (.regionE R20_28 [107,109,110] [6])))))
 (.regionE R20_29 [16,17] [7])))
def alp:ACode:=aj2
def R20_30:=[oM 111 6,oM 4 111,bm2 5 bmn]
def aqv:ACFun:={ ntmps:=112,results:=[.tmp 4,.tmp 5],body:=
 (.seq (.regionE R20_0 K20_0 [])
 (.seq (.regionE R20_1 [] [6])
 (.seq (.seq (.regionE R20_2 [] [7])
 (.block 0
 (.loop [] alp)))
 (.seq (.regionE R20_30 [0,1,6,7,15,111] [4,5])
 .ret)))) }
abbrev ba4:Nat:=21
def K21_0:=[0]++List.range' 4 10
def R21_0t3:=[bm2 4 (bml 0)]
def R21_0t2:=q 3 (.alloc [bmu,bmu])::R21_0t3
def R21_0t1:=q 2 (.alloc [bms])::R21_0t2
def R21_0:=q 1 (.box (.t 0))::R21_0t1
def R21_1:=[oF 5 0 1,oL 6 5,q 7 (.bin .eql (.t 6) (bmm 4))]
def R21_2:LO:=[⟨some 8,.build [.s (.slice none 0 0)] [(0,1)] [],none⟩,⟨some 9,.fieldAddr 3 (.t 1),none⟩,⟨some 10,.load true 2 (.t 9),none⟩,⟨none,.store 1 (.t 2) (.t 8),none⟩,⟨none,.store 2 (.t 3) (.t 10),none⟩,⟨some 4,.move (.c (.s (.int .i64 41))),none⟩]
def X21_2(call:o8)(it:zn)(base f H):evC call it base (.region R21_2 [(2,3)] [1,7,8,9,10]) f H=a09 [1,7,8,9,10] (fun f'=>List.all [(2,3)] (zm call base R21_2 f H f')) (mg call base [⟨some 8,.build [.s (.slice none 0 0)] [(0,1)] [],none⟩,⟨some 9,.fieldAddr 3 (.t 1),none⟩,⟨some 10,.load true 2 (.t 9),none⟩,⟨none,.store 1 (.t 2) (.t 8),none⟩,⟨none,.store 2 (.t 3) (.t 10),none⟩,⟨some 4,.move (.c (.s (.int .i64 41))),none⟩] f H):=air call it base _ _ _ f H
def R21_3:LO:=[⟨some 11,.build [.s (.slice none 0 0)] [(0,1)] [],none⟩,⟨some 12,.fieldAddr 3 (.t 1),none⟩,⟨some 13,.load true 2 (.t 12),none⟩,⟨none,.store 1 (.t 2) (.t 11),none⟩,⟨none,.store 2 (.t 3) (.t 13),none⟩,⟨some 4,.move (.c (.s (.int .i64 40))),none⟩]
def X21_3(call:o8)(it:zn)(base f H):evC call it base (.region R21_3 [(2,3)] [1,7,11,12,13]) f H=a09 [1,7,11,12,13] (fun f'=>List.all [(2,3)] (zm call base R21_3 f H f')) (mg call base [⟨some 11,.build [.s (.slice none 0 0)] [(0,1)] [],none⟩,⟨some 12,.fieldAddr 3 (.t 1),none⟩,⟨some 13,.load true 2 (.t 12),none⟩,⟨none,.store 1 (.t 2) (.t 11),none⟩,⟨none,.store 2 (.t 3) (.t 13),none⟩,⟨some 4,.move (.c (.s (.int .i64 40))),none⟩] f H):=air call it base _ _ _ f H
def anh:ACFun:={ ntmps:=14,results:=[.cell 2 true 1,.cell 3 true 2,.tmp 4],body:=
 (.seq (.region R21_0 [] K21_0)
 (.seq (.seq (.regionE R21_1 [5,6] [7])
 (.cond (.t 7)
 (.seq (.region R21_2 [(2,3)] [1,7,8,9,10])
 .ret)
 .skip))
 (.seq (.region R21_3 [(2,3)] [1,7,11,12,13])
 .ret))) }
theorem av5:ql (List.range' 1 (anh.ntmps-1)) anh.body=true:=by kernel_rfl
abbrev bfo:Nat:=22
def K22_0:=List.range' 0 34
theorem av4:aam K22_0 (uq 34 [] 0)=[]:=by kernel_rfl
def R22_0:=[bm2 0 bmq]
def R22_1t33:=[oM 0 33]
def R22_1t32:=q 33 (.buildSl 2 16 [bmt,bms,bmt,bms,bmt,bms,bmt,bms,bmt,bms,bmt,bms,bmt,bms,bmt,bms,bmt,bms,bmt,bms,bmt,bms,bmt,bms,bmt,bms,bmt,bms,bmt,bms,bmt,bms] [(0,.t 2),(1,.t 4),(2,.t 6),(3,.t 8),(4,.t 10),(5,.t 12),(6,.t 14),(7,.t 16),(8,.t 18),(9,.t 20),(10,.t 22),(11,.t 24),(12,.t 26),(13,.t 28),(14,.t 30),(15,.t 32)])::R22_1t33
def R22_1p31:=[q 32 (.build [bmt,bms] [(0,1),(1,1)] [(0,bmm 14),(1,.t 31)])]
def R22_1t31:=R22_1p31++R22_1t32
def R22_1t30:=q 31 (.buildSl 1 2 [bmr,bmr] [(0,bmp #[114,101,116]),(1,bmp #[63])])::R22_1t31
def R22_1p29:=[q 30 (.build [bmt,bms] [(0,1),(1,1)] [(0,bmm 13),(1,.t 29)])]
def R22_1t29:=R22_1p29++R22_1t30
def R22_1t28:=q 29 (.buildSl 1 2 [bmr,bmr] [(0,bmp #[103,111,116,111]),(1,bmp #[78])])::R22_1t29
def R22_1p27:=[q 28 (.build [bmt,bms] [(0,1),(1,1)] [(0,bmm 12),(1,.t 27)])]
def R22_1t27:=R22_1p27++R22_1t28
def R22_1t26:=q 27 (.buildSl 1 3 [bmr,bmr,bmr] [(0,bmp #[98,114]),(1,bmp #[78]),(2,bmp #[78])])::R22_1t27
def R22_1p25:=[q 26 (.build [bmt,bms] [(0,1),(1,1)] [(0,bmm 9),(1,.t 25)])]
def R22_1t25:=R22_1p25++R22_1t26
def R22_1t24:=q 25 (.buildSl 1 4 [bmr,bmr,bmr,bmr] [(0,bmp #[115,116,111,114,101]),(1,bmp #[78]),(2,bmp #[44]),(3,bmp #[78])])::R22_1t25
def R22_1p23:=[q 24 (.build [bmt,bms] [(0,1),(1,1)] [(0,bmm 11),(1,.t 23)])]
def R22_1t23:=R22_1p23++R22_1t24
def R22_1t22:=q 23 (.buildSl 1 3 [bmr,bmr,bmr] [(0,bmp #[105,99,97,108,108]),(1,bmp #[78]),(2,bmp #[40])])::R22_1t23
def R22_1p21:=[q 22 (.build [bmt,bms] [(0,1),(1,1)] [(0,bmm 11),(1,.t 21)])]
def R22_1t21:=R22_1p21++R22_1t22
def R22_1t20:=q 21 (.buildSl 1 5 [bmr,bmr,bmr,bmr,bmr] [(0,bmp #[78]),(1,bmp #[61]),(2,bmp #[105,99,97,108,108]),(3,bmp #[78]),(4,bmp #[40])])::R22_1t21
def R22_1p19:=[q 20 (.build [bmt,bms] [(0,1),(1,1)] [(0,bmm 10),(1,.t 19)])]
def R22_1t19:=R22_1p19++R22_1t20
def R22_1t18:=q 19 (.buildSl 1 3 [bmr,bmr,bmr] [(0,bmp #[99,97,108,108]),(1,bmp #[78]),(2,bmp #[40])])::R22_1t19
def R22_1p17:=[q 18 (.build [bmt,bms] [(0,1),(1,1)] [(0,bmm 10),(1,.t 17)])]
def R22_1t17:=R22_1p17++R22_1t18
def R22_1t16:=q 17 (.buildSl 1 5 [bmr,bmr,bmr,bmr,bmr] [(0,bmp #[78]),(1,bmp #[61]),(2,bmp #[99,97,108,108]),(3,bmp #[78]),(4,bmp #[40])])::R22_1t17
def R22_1p15:=[q 16 (.build [bmt,bms] [(0,1),(1,1)] [(0,bmm 6),(1,.t 15)])]
def R22_1t15:=R22_1p15++R22_1t16
def R22_1t14:=q 15 (.buildSl 1 4 [bmr,bmr,bmr,bmr] [(0,bmp #[78]),(1,bmp #[61]),(2,bmp #[112,104,105]),(3,bmp #[91])])::R22_1t15
def R22_1p13:=[q 14 (.build [bmt,bms] [(0,1),(1,1)] [(0,bmm 7),(1,.t 13)])]
def R22_1t13:=R22_1p13++R22_1t14
def R22_1t12:=q 13 (.buildSl 1 5 [bmr,bmr,bmr,bmr,bmr] [(0,bmp #[78]),(1,bmp #[61]),(2,bmp #[102,105,101,108,100]),(3,bmp #[78]),(4,bmp #[75])])::R22_1t13
def R22_1p11:=[q 12 (.build [bmt,bms] [(0,1),(1,1)] [(0,bmm 8),(1,.t 11)])]
def R22_1t11:=R22_1p11++R22_1t12
def R22_1t10:=q 11 (.buildSl 1 4 [bmr,bmr,bmr,bmr] [(0,bmp #[78]),(1,bmp #[61]),(2,bmp #[108,111,97,100]),(3,bmp #[78])])::R22_1t11
def R22_1p9:=[q 10 (.build [bmt,bms] [(0,1),(1,1)] [(0,bmm 5),(1,.t 9)])]
def R22_1t9:=R22_1p9++R22_1t10
def R22_1t8:=q 9 (.buildSl 1 4 [bmr,bmr,bmr,bmr] [(0,bmp #[78]),(1,bmp #[61]),(2,bmp #[99,111,112,121]),(3,bmp #[78])])::R22_1t9
def R22_1p7:=[q 8 (.build [bmt,bms] [(0,1),(1,1)] [(0,bmm 4),(1,.t 7)])]
def R22_1t7:=R22_1p7++R22_1t8
def R22_1t6:=q 7 (.buildSl 1 4 [bmr,bmr,bmr,bmr] [(0,bmp #[78]),(1,bmp #[61]),(2,bmp #[97,100,100,114]),(3,bmp #[78])])::R22_1t7
def R22_1p5:=[q 6 (.build [bmt,bms] [(0,1),(1,1)] [(0,bmm 3),(1,.t 5)])]
def R22_1t5:=R22_1p5++R22_1t6
def R22_1t4:=q 5 (.buildSl 1 3 [bmr,bmr,bmr] [(0,bmp #[78]),(1,bmp #[61]),(2,bmp #[110,117,108,108])])::R22_1t5
def R22_1p3:=[q 4 (.build [bmt,bms] [(0,1),(1,1)] [(0,bmm 2),(1,.t 3)])]
def R22_1t3:=R22_1p3++R22_1t4
def R22_1t2:=q 3 (.buildSl 1 4 [bmr,bmr,bmr,bmr] [(0,bmp #[78]),(1,bmp #[61]),(2,bmp #[109,97,108,108,111,99]),(3,bmp #[75])])::R22_1t3
def R22_1p1:=[q 2 (.build [bmt,bms] [(0,1),(1,1)] [(0,bmm 1),(1,.t 1)])]
def R22_1t1:=R22_1p1++R22_1t2
def R22_1:=q 1 (.buildSl 1 4 [bmr,bmr,bmr,bmr] [(0,bmp #[78]),(1,bmp #[61]),(2,bmp #[97,108,108,111,99,97]),(3,bmp #[75])])::R22_1t1
def aqu:ACFun:={ ntmps:=34,results:=[.tmp 0],body:=
 (.seq (.regionE R22_0 K22_0 [])
 (.seq (.region R22_1 [] [1,2,3,4,5,6,7,8,9,10,11,12,13,14,15,16,17,18,19,20,21,22,23,24,25,26,27,28,29,30,31,32,33])
 .ret)) }
abbrev bav:Nat:=44
def K44_0:=List.range' 4 31
theorem avl:aam K44_0 (uq 35 [] 4)=[]:=by kernel_rfl
def R44_0:=[bm2 8 bmo]
def R44_1:=[oM 9 1,oM 10 0,q 11 (.lenS .s (.t 10)),q 12 (.bin .lss (.t 9) (.t 11)),oM 13 12,gM 14 0 13 true,gM 15 1 13 true,qg 16 (.indexAddr 5 (.t 14) (.t 15)) 13 true,gF 17 0 16 13 true,gL 18 17 13 true,gM 19 2 13 true,qg 20 (.bin .eql (.t 18) (.t 19)) 13 true,bm6 21 (.t 13) (.t 20) bmo,oM 22 21,gM 23 3 22 true,qg 24 (.bin .eql (.t 23) (bmp #[])) 22 true,gM 25 24 22 true,gM 26 0 25 false,gM 27 1 25 false,qg 28 (.indexAddr 5 (.t 26) (.t 27)) 25 false,gF 29 1 28 25 false,gL 30 29 25 false,gM 31 3 25 false,qg 32 (.bin .eql (.t 30) (.t 31)) 25 false,qg 33 (.pick (.t 25) bmn (.t 32)) 22 true,bm6 34 (.t 22) (.t 33) bmo,oM 8 34]
def ajs:ACFun:={ ntmps:=35,results:=[.tmp 8],body:=
 (.seq (.regionE R44_0 K44_0 [])
 (.seq (.regionE R44_1 [0,1,2,3,9,10,11,12,13,14,15,16,17,18,19,20,21,22,23,24,25,26,27,28,29,30,31,32,33,34] [8])
 .ret)) }
abbrev bjp:Nat:=45
def K45_0:=List.range' 4 51
theorem avk:aam K45_0 (uq 55 [] 4)=[]:=by kernel_rfl
def R45_0:=[bm2 8 (bml 0),bm2 9 bmo]
def R45_1t5:=[bm6 17 (.t 12) (.t 16) bmo]
def R45_1t4:=qg 16 (.call (.c (.fn 44 [] [])) [.t 13,.t 14,bmm 3,.t 15]) 12 true::R45_1t5
def R45_1t3:=gM 15 3 12 true::R45_1t4
def R45_1t2:=gM 14 1 12 true::R45_1t3
def R45_1t1:=gM 13 0 12 true::R45_1t2
def R45_1p0:=[oM 10 2,q 11 (.un .not (.t 10)),oM 12 11]
def R45_1:=R45_1p0++R45_1t1
def R45_2:=[oM 18 1,q 19 (.bin .add (.t 18) (bml 1)),oM 8 19,bm2 9 bmn]
def R45_3t2:=[q 23 (.un .not (.t 22))]
def R45_3t1:=bmz 22 44 [.t 20,.t 21,bmm 1,bmp #[]]::R45_3t2
def R45_3p0:=[oM 20 0,oM 21 1]
def R45_3:=R45_3p0++R45_3t1
def R45_4:=[oM 24 1,oM 8 24,bm2 9 bmo]
def R45_5:=[oM 25 1,q 26 (.bin .add (.t 25) (bml 1)),oM 1 26]
def R45_6:=[oM 27 2]
def R45_7t2:=[q 31 (.un .not (.t 30))]
def R45_7t1:=bmz 30 44 [.t 28,.t 29,bmm 3,bmp #[58]]::R45_7t2
def R45_7p0:=[oM 28 0,oM 29 1]
def R45_7:=R45_7p0++R45_7t1
def R45_8:=[oM 32 1,oM 8 32,bm2 9 bmo]
def R45_9:=[oM 33 1,q 34 (.bin .add (.t 33) (bml 1)),oM 1 34]
def R45_10t2:=[q 38 (.un .not (.t 37))]
def R45_10t1:=bmz 37 44 [.t 35,.t 36,bmm 1,bmp #[]]::R45_10t2
def R45_10p0:=[oM 35 0,oM 36 1]
def R45_10:=R45_10p0++R45_10t1
def R45_11:=[oM 39 1,oM 8 39,bm2 9 bmo]
def R45_12:=[oM 40 1,q 41 (.bin .add (.t 40) (bml 1)),oM 1 41]
def R45_13t1:=[bmz 45 44 [.t 42,.t 43,bmm 3,.t 44]]
def R45_13p0:=[oM 42 0,oM 43 1,oM 44 3]
def R45_13:=R45_13p0++R45_13t1
def R45_14:=[oM 46 1,q 47 (.bin .add (.t 46) (bml 1)),oM 8 47,bm2 9 bmn]
def R45_15t2:=[q 51 (.un .not (.t 50))]
def R45_15t1:=bmz 50 44 [.t 48,.t 49,bmm 3,bmp #[44]]::R45_15t2
def R45_15p0:=[oM 48 0,oM 49 1]
def R45_15:=R45_15p0++R45_15t1
def R45_16:=[oM 52 1,oM 8 52,bm2 9 bmo]
def R45_17:=[oM 53 1,q 54 (.bin .add (.t 53) (bml 1)),oM 1 54]
def ajr:ACode:=
 (.block 1
 (.seq (.seq (.region R45_3 [] [20,21,22])
 (.cond (.t 23)
 (.seq (.regionE R45_4 [0,1,2,3,23,24] [8,9])
 .ret)
 .skip))
 (.seq (.regionE R45_5 [23,25,26] [1])
 (.seq (.seq (.regionE R45_6 [] [27])
 (.cond (.t 27)
 (.seq (.seq (.region R45_7 [] [27,28,29,30])
 (.cond (.t 31)
 (.seq (.regionE R45_8 [0,1,2,3,31,32] [8,9])
 .ret)
 .skip))
 (.seq (.regionE R45_9 [31,33,34] [1])
 (.seq (.seq (.region R45_10 [] [35,36,37])
 (.cond (.t 38)
 (.seq (.regionE R45_11 [0,1,2,3,38,39] [8,9])
 .ret)
 .skip))
 (.regionE R45_12 [38,40,41] [1]))))
 .skip))
 (.seq (.seq (.region R45_13 [] [27,42,43,44])
 (.cond (.t 45)
 (.seq (.regionE R45_14 [0,1,2,3,45,46,47] [8,9])
 .ret)
 .skip))
 (.seq (.seq (.region R45_15 [] [45,48,49,50])
 (.cond (.t 51)
 (.seq (.regionE R45_16 [0,1,2,3,51,52] [8,9])
 .ret)
 .skip))
 (.regionE R45_17 [51,53,54] [1])))))))
def aqk:ACode:=ajr
def aom:ACFun:={ ntmps:=55,results:=[.tmp 8,.tmp 9],body:=
 (.seq (.regionE R45_0 K45_0 [])
 (.seq (.seq (.region R45_1 [] [10,11,12,13,14,15,16])
 (.cond (.t 17)
 (.seq (.regionE R45_2 [0,1,2,3,17,18,19] [8,9])
 .ret)
 .skip))
 (.block 0
 (.loop [17] aqk)))) }
def aeh:=ai (hT R20_0 K20_0 [] 6 [] [] [.cc (.s (.int .i64 0)),.cc (.s (.bool false))]) (ai av6 (ai (hK K20_0 0) (ai (hK K20_0 1) (ai (hT R20_1 [] [6] 7 [] [(6,bm8 0)] [.cc (.s (.int .i64 0))]) (ai (hT R20_2 [] [7] 8 [] [(7,bm8 0)] [.cc (.s (.int .i64 0))]) (ai (hT R20_3 [12,13,14] [15] 16 [] [(15,bno .lss (.t 7) (bnl (.t 0)))] [.tt 7,.tt 0,sb [1],sb []]) (ai (hT R20_4 [8,15] [] 9 [] [] [.cc (.s (.bool true))]) (ai (hT R20_5 [18,19,20] [21] 22 [] [(21,eL (bnj 1 (.t 0) (.t 7)))] [.tt 0,.tt 7,sb [0],sb []]) (ai (hT R20_6 [55] [54] 56 [] [(54,.op (.bin .eql (.t 0) (.c (.s (.string ⟨#[78]⟩)))) [.t 21,.c (.s (.string ⟨#[78]⟩))])] [sb [],sb []]) (ai (hU R20_7 [21,54] [56,57] [21,54,56,57,58] 58 [] [(56,.t 1),(57,.t 6)] [.tt 1,.tt 6]) (ai (hP R20_7t1 [56,57] [21,54,56,57,58]) (ai (hV R20_7t2 [21,54,56,57,58] [8] 9 [] [(8,.t 58)] [.tt 58]) (ai (hT R20_8 [54,60] [59] 61 [] [(59,.op (.bin .eql (.t 0) (.c (.s (.string ⟨#[75]⟩)))) [.t 21,.c (.s (.string ⟨#[75]⟩))])] [sb [],sb []]) (ai (hU R20_9 [21,59] [61,62] [21,59,61,62,63] 63 [] [(61,.t 1),(62,.t 6)] [.tt 1,.tt 6]) (ai (hP R20_9t1 [61,62] [21,59,61,62,63]) (ai (hV R20_9t2 [21,59,61,62,63] [8] 9 [] [(8,.t 63)] [.tt 63]) (ai (hT R20_10 [59,65] [64] 66 [] [(64,.op (.bin .eql (.t 0) (.c (.s (.string ⟨#[63]⟩)))) [.t 21,.c (.s (.string ⟨#[63]⟩))])] [sb [],sb []]) (ai (hU R20_11 [0,1,7,21,64] [66,67] [0,1,7,21,64,66,67] 68 [] [(66,.t 1),(67,.t 6)] [.tt 1,.tt 6]) (ai (hX R20_11t1 [0,1,7,21,64,66,67]) (ai (hT R20_12 [68,69,70] [6] 71 [] [(6,bnf 1 (.t 6))] [.tt 6,sb [],sb []]) (ai (hT R20_13 [6,68,71] bnx 72 [] [(4,.t 6),(5,bna)] [.tt 6,.tt 6,.cc (.s (.bool true))]) (ai (hT R20_14 [64,73] [72] 74 [] [(72,.op (.bin .eql (.t 0) (.c (.s (.string ⟨#[40]⟩)))) [.t 21,.c (.s (.string ⟨#[40]⟩))])] [sb [],sb []]) (ai (hT R20_15 [21,74] [72] 75 [] [(72,.op (.bin .eql (.t 0) (.c (.s (.string ⟨#[91]⟩)))) [.t 21,.c (.s (.string ⟨#[91]⟩))])] [sb [],sb []]) (ai (hU R20_16 [21,72,77,78,79] [75,76,80] [21,72,75,76,77,78,79,80,81] 81 [] [(75,.t 1),(76,.t 6),(80,eL (bnj 1 (.t 0) (.t 7)))] [.tt 1,.tt 6,.tt 0,.tt 7,.sub 2 [0] [],.sub 2 [] []]) (ai (hP R20_16t1 [75,76,80] [21,72,75,76,77,78,79,80,81]) (ai (hV R20_16t2 [21,72,75,76,77,78,79,80,81] [82] 83 [] [(82,bnn (.t 81))] [sb []]) (ai (hT R20_17 [0,1,6,7,82,83] bnx 84 [] [(4,.t 6),(5,bnb)] [.tt 6,.tt 6,.cc (.s (.bool false))]) (ai (hT R20_18 [82] [9] 10 [] [(9,.c (.s (.string ⟨#[41]⟩)))] [.cc (.s (.string ⟨#[41]⟩))]) (ai (hT R20_19 [84,85,86,87] [88] 89 [] [(88,.op (.bin .eql (.t 0) (.c (.s (.string ⟨#[91]⟩)))) [eL (bnj 1 (.t 0) (.t 7)),.c (.s (.string ⟨#[91]⟩))])] [.tt 0,.tt 7,sb [0,0],sb [0],sb []]) (ai (hT R20_20 [88] [9] 10 [] [(9,.c (.s (.string ⟨#[93]⟩)))] [.cc (.s (.string ⟨#[93]⟩))]) (ai (hU R20_21 [6,9,88,91,93,94,95,96] [90,92,97,98] bok 99 [] [(90,.t 1),(92,bnf 1 (.t 6)),(97,.op (.bin .eql (.t 0) (.c (.s (.string ⟨#[91]⟩)))) [eL (bnj 1 (.t 0) (.t 7)),.c (.s (.string ⟨#[91]⟩))]),(98,.t 9)] [.tt 1,.tt 6,.sub 1 [] [],.tt 0,.tt 7,.sub 2 [0,0] [],.sub 2 [0] [],.sub 2 [] [],.tt 9]) (ai (hP R20_21t1 [90,92,97,98] bok) (ai (hV R20_21t2 [6,9,88,89,90,91,92,93,94,95,96,97,98,99,100,101] [10,11] 102 [] [(10,bnh 0 (.t 99)),(11,bnh 1 (.t 99))] [.tt 99,sb [],.sub 1 [] [],sb [],.sub 1 [] []]) (ai (hT R20_22 [11,102] [103] 104 [] [(103,bnn (.t 11))] [.tt 11,sb []]) (ai (hT R20_23 [0,1,7,10,103,104] bnx 105 [] [(4,.t 10),(5,bnb)] [.tt 10,.tt 10,.cc (.s (.bool false))]) (ai (hT R20_24 [10,103,105] [6] 106 [] [(6,.t 10)] [.tt 10,.tt 10]) (ai (hT R20_25 [21,22,23,24,25,26,27,28,29,30,31,32,33,34,35,36,37,38,39,40,41,42,43,44,45,46,47,48,49,50,51,52,53,72] [8] 54 [] [(8,.pick (.pick (bno .lss (.t 6) (bnl (.t 1))) (.pick (bni 1 (eL (eF 0 (bnj 5 (.t 1) (.t 6))))) bna (bni 3 (eL (eF 0 (bnj 5 (.t 1) (.t 6)))))) bnb) (bno .eql (eL (eF 1 (bnj 5 (.t 1) (.t 6)))) (eL (bnj 1 (.t 0) (.t 7)))) bnb)] [.tt 6,.tt 1,sb [0,0,1],sb [0,0],sb [0,0],.sub 0 [0,1,0,0,0,0,0] [26],.sub 0 [0,1,0,0,0,0,1] [26],.sub 0 [0,1,0,0,0,0] [26],.sub 0 [0,1,0,0,0] [26],.sub 0 [0,1,0,0] [26],.sub 0 [0,1,0] [26],.sub 0 [0,1,0] [26],.sub 0 [0,1,2,0,0,0,0] [26,33],.sub 0 [0,1,2,0,0,0,1] [26,33],.sub 0 [0,1,2,0,0,0] [26,33],.sub 0 [0,1,2,0,0] [26,33],.sub 0 [0,1,2,0] [26,33],.sub 0 [0,1,2] [26,33],.sub 0 [0,1] [26],sb [0],sb [0],.sub 0 [1,0,0,0,0] [42],.sub 0 [1,0,0,0,1] [42],.sub 0 [1,0,0,0] [42],.sub 0 [1,0,0] [42],.sub 0 [1,0] [42],.sub 0 [1,1,0,0] [42],.sub 0 [1,1,0,1] [42],.sub 0 [1,1,0] [42],.sub 0 [1,1] [42],.sub 0 [1] [42],sb [],sb []]) (ai (hT R20_26 [8,106] [107] 108 [] [(107,bnn (.t 8))] [.tt 8,sb []]) (ai (hT R20_27 [0,1,6,7,107,108] bnx 109 [] [(4,.t 6),(5,bnb)] [.tt 6,.tt 6,.cc (.s (.bool false))]) (ai (hT R20_28 [107,109,110] [6] 111 [] [(6,bnf 1 (.t 6))] [.tt 6,sb [],sb []]) (ai (hT R20_29 [16,17] [7] 18 [] [(7,bnf 1 (.t 7))] [.tt 7,sb [],sb []]) (ai (hE alp aj2) (ai (hT R20_30 [0,1,6,7,15,111] bnx 112 [] [(4,.t 6),(5,bna)] [.tt 6,.tt 6,.cc (.s (.bool true))]) (aj2.eq_1))))))))))))))))))))))))))))))))))))))))))))
def bkk:=ai (hP R21_0 [0,2,3,4,5,6,7,8,9,10,11,12,13] K21_0) (ai (hP R21_0t1 [] K21_0) (ai (hP R21_0t2 [] K21_0) (ai (hV R21_0t3 K21_0 [] 5 [] [] [.cc (.s (.int .i64 0))]) (ai (hQ K21_0 0) (ai (hK K21_0 1) (ai (hK K21_0 2) (ai (hK K21_0 3) (ai (hQ K21_0 4) ((hT R21_1 [5,6] [7] 8 [] [(7,bni 4 (eL (eF 0 (.t 1))))] [sb [0,0],sb [0],sb []]))))))))))
def a_f22:=ai (hT R22_0 K22_0 [] 1 [] [] [.cc (.s (.slice none 0 0))]) (ai av4 (ai (hP R22_1 [] bol) (ai (hU R22_1t1 [1] [2] bol 3 [] [(2,.op (.build [.s (.int .u8 0),.s (.slice none 0 0)] [(0,1),(1,1)] [(0,.c (.s (.int .u8 1))),(1,.t 1)]) [.c (.s (.int .u8 1)),.t 1])] [sb []]) (ai (hP R22_1t2 [] bol) (ai (hU R22_1t3 [3] [4] bol 5 [] [(4,.op (.build [.s (.int .u8 0),.s (.slice none 0 0)] [(0,1),(1,1)] [(0,.c (.s (.int .u8 2))),(1,.t 1)]) [.c (.s (.int .u8 2)),.t 3])] [sb []]) (ai (hP R22_1t4 [] bol) (ai (hU R22_1t5 [5] [6] bol 7 [] [(6,.op (.build [.s (.int .u8 0),.s (.slice none 0 0)] [(0,1),(1,1)] [(0,.c (.s (.int .u8 3))),(1,.t 1)]) [.c (.s (.int .u8 3)),.t 5])] [sb []]) (ai (hP R22_1t6 [] bol) (ai (hU R22_1t7 [7] [8] bol 9 [] [(8,.op (.build [.s (.int .u8 0),.s (.slice none 0 0)] [(0,1),(1,1)] [(0,.c (.s (.int .u8 4))),(1,.t 1)]) [.c (.s (.int .u8 4)),.t 7])] [sb []]) (ai (hP R22_1t8 [] bol) (ai (hU R22_1t9 [9] [10] bol 11 [] [(10,.op (.build [.s (.int .u8 0),.s (.slice none 0 0)] [(0,1),(1,1)] [(0,.c (.s (.int .u8 5))),(1,.t 1)]) [.c (.s (.int .u8 5)),.t 9])] [sb []]) (ai (hP R22_1t10 [] bol) (ai (hU R22_1t11 [11] [12] bol 13 [] [(12,.op (.build [.s (.int .u8 0),.s (.slice none 0 0)] [(0,1),(1,1)] [(0,.c (.s (.int .u8 8))),(1,.t 1)]) [.c (.s (.int .u8 8)),.t 11])] [sb []]) (ai (hP R22_1t12 [] bol) (ai (hU R22_1t13 [13] [14] bol 15 [] [(14,.op (.build [.s (.int .u8 0),.s (.slice none 0 0)] [(0,1),(1,1)] [(0,.c (.s (.int .u8 7))),(1,.t 1)]) [.c (.s (.int .u8 7)),.t 13])] [sb []]) (ai (hP R22_1t14 [] bol) (ai (hU R22_1t15 [15] [16] bol 17 [] [(16,.op (.build [.s (.int .u8 0),.s (.slice none 0 0)] [(0,1),(1,1)] [(0,.c (.s (.int .u8 6))),(1,.t 1)]) [.c (.s (.int .u8 6)),.t 15])] [sb []]) (ai (hP R22_1t16 [] bol) (ai (hU R22_1t17 [17] [18] bol 19 [] [(18,.op (.build [.s (.int .u8 0),.s (.slice none 0 0)] [(0,1),(1,1)] [(0,.c (.s (.int .u8 10))),(1,.t 1)]) [.c (.s (.int .u8 10)),.t 17])] [sb []]) (ai (hP R22_1t18 [] bol) (ai (hU R22_1t19 [19] [20] bol 21 [] [(20,.op (.build [.s (.int .u8 0),.s (.slice none 0 0)] [(0,1),(1,1)] [(0,.c (.s (.int .u8 10))),(1,.t 1)]) [.c (.s (.int .u8 10)),.t 19])] [sb []]) (ai (hP R22_1t20 [] bol) (ai (hU R22_1t21 [21] [22] bol 23 [] [(22,.op (.build [.s (.int .u8 0),.s (.slice none 0 0)] [(0,1),(1,1)] [(0,.c (.s (.int .u8 11))),(1,.t 1)]) [.c (.s (.int .u8 11)),.t 21])] [sb []]) (ai (hP R22_1t22 [] bol) (ai (hU R22_1t23 [23] [24] bol 25 [] [(24,.op (.build [.s (.int .u8 0),.s (.slice none 0 0)] [(0,1),(1,1)] [(0,.c (.s (.int .u8 11))),(1,.t 1)]) [.c (.s (.int .u8 11)),.t 23])] [sb []]) (ai (hP R22_1t24 [] bol) (ai (hU R22_1t25 [25] [26] bol 27 [] [(26,.op (.build [.s (.int .u8 0),.s (.slice none 0 0)] [(0,1),(1,1)] [(0,.c (.s (.int .u8 9))),(1,.t 1)]) [.c (.s (.int .u8 9)),.t 25])] [sb []]) (ai (hP R22_1t26 [] bol) (ai (hU R22_1t27 [27] [28] bol 29 [] [(28,.op (.build [.s (.int .u8 0),.s (.slice none 0 0)] [(0,1),(1,1)] [(0,.c (.s (.int .u8 12))),(1,.t 1)]) [.c (.s (.int .u8 12)),.t 27])] [sb []]) (ai (hP R22_1t28 [] bol) (ai (hU R22_1t29 [29] [30] bol 31 [] [(30,.op (.build [.s (.int .u8 0),.s (.slice none 0 0)] [(0,1),(1,1)] [(0,.c (.s (.int .u8 13))),(1,.t 1)]) [.c (.s (.int .u8 13)),.t 29])] [sb []]) (ai (hP R22_1t30 [] bol) (ai (hU R22_1t31 [31] [32] bol 33 [] [(32,.op (.build [.s (.int .u8 0),.s (.slice none 0 0)] [(0,1),(1,1)] [(0,.c (.s (.int .u8 14))),(1,.t 1)]) [.c (.s (.int .u8 14)),.t 31])] [sb []]) (ai (hP R22_1t32 [2,4,6,8,10,12,14,16,18,20,22,24,26,28,30,32] bol) ((hV R22_1t33 [1,2,3,4,5,6,7,8,9,10,11,12,13,14,15,16,17,18,19,20,21,22,23,24,25,26,27,28,29,30,31,32,33] [0] 1 [] [(0,.t 33)] [.tt 33]))))))))))))))))))))))))))))))))))))
def bcm:=ai (hT R44_0 K44_0 [] 9 [] [] [.cc (.s (.bool false))]) (ai avl (ai (hK K44_0 0) (ai (hK K44_0 1) (ai (hK K44_0 2) (ai (hK K44_0 3) ((hT R44_1 [0,1,2,3,9,10,11,12,13,14,15,16,17,18,19,20,21,22,23,24,25,26,27,28,29,30,31,32,33,34] [8] 35 [] [(8,.pick (.pick (bno .lss (.t 1) (bnl (.t 0))) (bno .eql (eL (eF 0 (bnj 5 (.t 0) (.t 1)))) (.t 2)) (.c (.s (.bool false)))) (.pick (.op (.bin .eql (.t 0) (.c (.s (.string ⟨#[]⟩)))) [.t 3,.c (.s (.string ⟨#[]⟩))]) (.c (.s (.bool true))) (bno .eql (eL (eF 1 (bnj 5 (.t 0) (.t 1)))) (.t 3))) (.c (.s (.bool false))))] [.tt 1,.tt 0,sb [0,0,1],sb [0,0],sb [0,0],.sub 0 [0,1,0,0,0,0] [13],.sub 0 [0,1,0,0,0,1] [13],.sub 0 [0,1,0,0,0] [13],.sub 0 [0,1,0,0] [13],.sub 0 [0,1,0] [13],.sub 0 [0,1,1] [13],.sub 0 [0,1] [13],sb [0],sb [0],.sub 0 [1,0,0] [22],.sub 0 [1,0] [22],.sub 0 [1,0] [22],.sub 0 [1,2,0,0,0,0] [22,25],.sub 0 [1,2,0,0,0,1] [22,25],.sub 0 [1,2,0,0,0] [22,25],.sub 0 [1,2,0,0] [22,25],.sub 0 [1,2,0] [22,25],.sub 0 [1,2,1] [22,25],.sub 0 [1,2] [22,25],.sub 0 [1] [22],sb [],sb []])))))))
def akz:=ai (hT R45_0 K45_0 [] 10 [] [] [.cc (.s (.int .i64 0)),.cc (.s (.bool false))]) (ai avk (ai (hK K45_0 0) (ai (hK K45_0 1) (ai (hK K45_0 2) (ai (hK K45_0 3) (ai (hU R45_1 [10,11] [12] bom 13 [] [(12,bnn (.t 2))] [.tt 2,sb [],sb []]) (ai (hP R45_1t1 [] bom) (ai (hP R45_1t2 [] bom) (ai (hP R45_1t3 [] bom) (ai (hP R45_1t4 [13,14,15] bom) (ai (hV R45_1t5 [10,11,12,13,14,15,16] [17] 18 [] [(17,.pick (.t 12) (.t 16) bnb)] [sb []]) (ai (hT R45_2 [0,1,2,3,17,18,19] [8,9] 20 [] [(8,bnf 1 (.t 1)),(9,bna)] [.tt 1,sb [],sb [],.cc (.s (.bool true))]) (ai (hU R45_3 [] [20,21] [20,21,22] 22 [] [(20,.t 0),(21,.t 1)] [.tt 0,.tt 1]) (ai (hP R45_3t1 [20,21] [20,21,22]) (ai (hV R45_3t2 [20,21,22] [23] 24 [] [(23,bnn (.t 22))] [sb []]) (ai (hT R45_4 [0,1,2,3,23,24] [8,9] 25 [] [(8,.t 1),(9,bnb)] [.tt 1,.tt 1,.cc (.s (.bool false))]) (ai (hT R45_5 [23,25,26] [1] 27 [] [(1,bnf 1 (.t 1))] [.tt 1,sb [],sb []]) (ai (hT R45_6 [] [27] 28 [] [(27,.t 2)] [.tt 2]) (ai (hU R45_7 [27] [28,29] [27,28,29,30] 30 [] [(28,.t 0),(29,.t 1)] [.tt 0,.tt 1]) (ai (hP R45_7t1 [28,29] [27,28,29,30]) (ai (hV R45_7t2 [27,28,29,30] [31] 32 [] [(31,bnn (.t 30))] [sb []]) (ai (hT R45_8 [0,1,2,3,31,32] [8,9] 33 [] [(8,.t 1),(9,bnb)] [.tt 1,.tt 1,.cc (.s (.bool false))]) (ai (hT R45_9 [31,33,34] [1] 35 [] [(1,bnf 1 (.t 1))] [.tt 1,sb [],sb []]) (ai (hU R45_10 [] [35,36] [35,36,37] 37 [] [(35,.t 0),(36,.t 1)] [.tt 0,.tt 1]) (ai (hP R45_10t1 [35,36] [35,36,37]) (ai (hV R45_10t2 [35,36,37] [38] 39 [] [(38,bnn (.t 37))] [sb []]) (ai (hT R45_11 [0,1,2,3,38,39] [8,9] 40 [] [(8,.t 1),(9,bnb)] [.tt 1,.tt 1,.cc (.s (.bool false))]) (ai (hT R45_12 [38,40,41] [1] 42 [] [(1,bnf 1 (.t 1))] [.tt 1,sb [],sb []]) (ai (hU R45_13 [27] [42,43,44] [27,42,43,44] 45 [] [(42,.t 0),(43,.t 1),(44,.t 3)] [.tt 0,.tt 1,.tt 3]) (ai (hX R45_13t1 [27,42,43,44]) (ai (hT R45_14 [0,1,2,3,45,46,47] [8,9] 48 [] [(8,bnf 1 (.t 1)),(9,bna)] [.tt 1,sb [],sb [],.cc (.s (.bool true))]) (ai (hU R45_15 [45] [48,49] [45,48,49,50] 50 [] [(48,.t 0),(49,.t 1)] [.tt 0,.tt 1]) (ai (hP R45_15t1 [48,49] [45,48,49,50]) (ai (hV R45_15t2 [45,48,49,50] [51] 52 [] [(51,bnn (.t 50))] [sb []]) (ai (hT R45_16 [0,1,2,3,51,52] [8,9] 53 [] [(8,.t 1),(9,bnb)] [.tt 1,.tt 1,.cc (.s (.bool false))]) (ai (hT R45_17 [51,53,54] [1] 55 [] [(1,bnf 1 (.t 1))] [.tt 1,sb [],sb []]) (ai (hE aqk ajr) (ajr.eq_1))))))))))))))))))))))))))))))))))))))
theorem bku:yf Tryd.prog PX0 20=some (false,aqv.ntmps,aqv.results,aqv.body.bare):=by kernel_rfl
theorem bkt:yf Tryd.prog PX0 21=some (false,anh.ntmps,anh.results,anh.body.bare):=by kernel_rfl
theorem bks:yf Tryd.prog PX0 22=some (false,aqu.ntmps,aqu.results,aqu.body.bare):=by kernel_rfl
theorem bkr:yf Tryd.prog PX0 44=some (false,ajs.ntmps,ajs.results,ajs.body.bare):=by kernel_rfl
theorem bkq:yf Tryd.prog PX0 45=some (false,aom.ntmps,aom.results,aom.body.bare):=by kernel_rfl
open Go.AM
def Pz(H:Heap)(v:V)(l:List Tok.T):Prop:=∃id g off c,v=.sl id g off l.length 5/\getC H id g=some c/\(c.drop off).take (l.length*5)=(l.map tV).flatten
theorem bd1(l:List Tok.T):∀r∈l.map tV,r.length=5:=by
 intro r hr;obtain⟨t,_,rfl⟩:=aa4.1 hr;rfl
def Pz.ext{H H' v l}(h:Pz H v l)(k:Ext H H'):Pz H' v l:=by
 obtain⟨id,g,off,c,e,h1,h2⟩:=h;exact⟨id,g,off,c,e,jd h1 k,h2⟩
theorem Pz.len{H v l}(h:Pz H v l):afx H .s v=some (.s (.int .i64 l.length)):=by
 obtain⟨id,g,off,c,rfl,_⟩:=h;rfl
theorem Pz.at{H v l}(h:Pz H v l){i:Nat}{t}(ht:l[i]?=some t):∃id g p,pg 5 v (.s (.int .i64 i))=some (.ref id g p)/\y5 H true 5 (.ref id g p)=some (.agg [.s (.int .u8 t.kind),.s (.string ⟨t.text.toArray⟩),.s (.int .i64 t.n),.s (.int .i64 t.line),.s (.int .i64 t.col)])/\y5 H false 1 (.ref id g p)=some (.s (.int .u8 t.kind))/\y5 H false 1 (.ref id g (p+1))=some (.s (.string ⟨t.text.toArray⟩))/\y5 H false 1 (.ref id g (p+2))=some (.s (.int .i64 t.n))/\y5 H false 1 (.ref id g (p+3))=some (.s (.int .i64 t.line)):=by
 obtain⟨id,g,off,c,rfl,hc,hr⟩:=h;have hi:=(bmk.1 ht).1
 have hx:(l.map tV)[i]?=some (tV t):=by rw[nz,ht];rfl
 have hg:=ax5 _ (bd1 l) i _ hx
 rw[<- hr,List.drop_take,qc,List.take_take,ahe (by omega)]at hg
 have hl:∀(o:Nat) (x:V),(tV t)[o]?=some x->y5 H false 1 (.ref id g (off+i*5+o))=some x:=fun o x hx=>by
  have ho:o<5:=(bmk.1 hx).1
  have h1:c[off+i*5+o]?=some x:=by
   rw[<- hg,gu ho,jc]at hx;exact hx
  rw[aav,hc]
  have e:(c.drop (off+i*5+o)).take 1=[x]:=by
   obtain⟨hl,e⟩:=bmk.1 h1;rw[ed hl,e];rfl
  dsimp only;rw[e];rfl
 refine⟨id,g,off+i*5,by rw[alh,dw ⟨by omega,by omega,rfl⟩,og],?_,hl 0 _ rfl,hl 1 _ rfl,hl 2 _ rfl,hl 3 _ rfl⟩
 rw[aav,hc];dsimp only;rw[hg];rfl
def ou(l:List Tok.T)(a k:Nat)(s:List UInt8):Bool:=match l[a]? with
 |none=>false
 |some t=>t.kind==k&&(s==[]||t.text==s)
def ab6(a b:Nat):((a:Int)==(b:Int))=(a==b):=by
 rw[ib,dz,dz];omega
def aow(l:List Tok.T)(pr:Bool)(cl:List UInt8):Nat->Nat->Nat × Bool
 |0,a=>(a,false)
 |n+1,a=>
   if ou l a 1 []then
    if pr&&!ou l (a+1) 3 [58]then(a+1,false)
    else if pr&&!ou l (a+2) 1 []then(a+2,false)
    else
     let b:=if pr then a+3 else a+1
     if ou l b 3 cl then(b+1,true)
     else if ou l b 3 [44]then aow l pr cl n (b+1)else(b,false)
   else(a,false)
def alx(l:List Tok.T)(pr:Bool)(cl:List UInt8)(a:Nat):Nat × Bool:=if !pr&&ou l a 3 cl then(a+1,true)else aow l pr cl (l.length+1) a
def ry{l a k s}(h:ou l a k s=true):a<l.length:=by
 unfold ou at h;split at h
 .cases h
 .rename_i t e;exact(bmk.1 e).1
structure R4T (CT:Nat->Option CFun):Prop where
 word:CT bav=some (.code ajs)
 row:CT bjp=some (.code aom)
section
variable {CT:Nat->Option CFun}
def aaq(hT:CT bav=some (.code ajs))(base:Nat){H v l}(h:Pz H v l)(a k:Nat)(s:ByteArray):gq CT (.fn bav [] []) [v,.s (.int .i64 a),.s (.int .u8 k),.s (.string s)] base H=some (.s (.bool (ou l a k s.data.toList)),H):=by
 have hl:=h.len
 refine qi (c:=ajs) hT (by simp[ajs]) ?_
 unfold ou;cases ht:l[a]? with
 |none=>
   have hn:¬((a:Int)<((l.length:Nat):Int)):=by have:=List.getElem?_eq_none_iff.1 ht;omega
   simp only[ajs,simprocAttr,bcm,aa,hl,hn]
 |some t=>
   have hn:((a:Int)<((l.length:Nat):Int)):=by have:=(bmk.1 ht).1;omega
   obtain⟨id,g,p,h1,_,h2,h3,_⟩:=h.at ht;have nb:=ab6 t.kind k;have e0:(⟨#[]⟩:ByteArray).data.toList=[]:=rfl;have e1:(⟨t.text.toArray⟩:ByteArray).data.toList=t.text:=rfl;dsimp only;cases hk:t.kind==k with
   |false=>
     rw[hk]at nb;simp only[ajs,simprocAttr,bcm,aa,hl,hn,h1,h2,h3,nb]
   |true=>
     rw[hk]at nb;cases hs:(s.data.toList==([]:List UInt8))with
     |true=>simp only[ajs,simprocAttr,bcm,aa,hl,hn,h1,h2,h3,nb,hs]
     |false=>simp only[ajs,simprocAttr,bcm,aa,hl,hn,h1,h2,h3,nb,hs]
end
open Go.AM
section
variable {CT:Nat->Option CFun}
def biy(hT:CT bav=some (.code ajs))(base:Nat){H v l}(h:Pz H v l)(hn:l.length<2^40)(pr:Bool)(cl:ByteArray):∀(n a:Nat),l.length<a+n->a<=l.length+1->
 itW (evC (gq CT) itW base aqk) [17] H.length (ja 55 [(0,v),(1,.s (.int .i64 a)),(2,.s (.bool pr)),(3,.s (.string cl))]) H=some (.ret,ja 55 [(8,.s (.int .i64 (aow l pr cl.data.toList n a).1)),(9,.s (.bool (aow l pr cl.data.toList n a).2))],H):=by
 intro n
 induction n with
 |zero=>
   intro a ha ha2;have w0:=aaq hT base h a 1 ⟨#[]⟩
   have hw:ou l a 1 []=false:=by
    cases hw:ou l a 1 []with
    |false=>rfl
    |true=>have:=ry hw;omega
   rw[show(⟨#[]⟩:ByteArray).data.toList=[]from rfl,hw]at w0;rw[kg,aow];simp only[aaz]at w0;simp only[akz,simprocAttr,aa,w0]
 |succ n ih=>
   intro a ha ha2;have w0:=aaq hT base h a 1 ⟨#[]⟩;rw[show(⟨#[]⟩:ByteArray).data.toList=[]from rfl]at w0;simp only[aaz]at w0;rw[kg,aow];cases hw:ou l a 1 []with
   |false=>
     rw[hw]at w0;simp only[akz,simprocAttr,aa,w0]
   |true=>
     rw[hw]at w0;have hal:=ry hw
     have k1:=uf (n:=a) (by omega)
     have c3:((3:Nat):Int)=3:=rfl;rw[dw rfl];cases pr with
     |false=>
       have wb:=aaq hT base h (a+1) 3 cl;have wc:=aaq hT base h (a+1) 3 ⟨#[44]⟩;rw[show(⟨#[44]⟩:ByteArray).data.toList=[44]from rfl]at wc;rw[c3]at wb wc;simp only[ll,ic,ky];cases h3:ou l (a+1) 3 cl.data.toList with
       |true=>
         rw[h3]at wb
         have k2:=uf (n:=a+1) (by omega)
         simp only[akz,simprocAttr,aa,w0,k1,k2,wb]
       |false=>
         rw[h3]at wb;cases h4:ou l (a+1) 3 [44]with
         |false=>
           rw[h4]at wc;simp only[akz,simprocAttr,aa,w0,k1,wb,wc]
         |true=>
           rw[h4]at wc;have hl4:=ry h4
           have k2:=uf (n:=a+1) (by omega)
           have q:=ih (a+1+1) (by omega) (by omega)
           simp only[akz,simprocAttr,aa,w0,k1,k2,wb,wc,q]
     |true=>
       have wd:=aaq hT base h (a+1) 3 ⟨#[58]⟩;rw[show(⟨#[58]⟩:ByteArray).data.toList=[58]from rfl,c3]at wd;simp only[nk];cases h1:ou l (a+1) 3 [58]with
       |false=>
         rw[h1]at wd;simp only[akz,simprocAttr,aa,w0,k1,wd]
       |true=>
         rw[h1]at wd;have hl1:=ry h1
         have k2:=uf (n:=a+1) (by omega)
         have we:=aaq hT base h (a+2) 1 ⟨#[]⟩;rw[show(⟨#[]⟩:ByteArray).data.toList=[]from rfl]at we;simp only[aaz]at we;rw[show a+1+1=a+2 from rfl]at k2;cases h2:ou l (a+2) 1 []with
         |false=>
           rw[h2]at we;simp only[akz,simprocAttr,aa,w0,k1,k2,wd,we]
         |true=>
           rw[h2]at we;have hl2:=ry h2
           have k3:=uf (n:=a+2) (by omega)
           rw[show a+2+1=a+3 from rfl]at k3;have wb:=aaq hT base h (a+3) 3 cl;have wc:=aaq hT base h (a+3) 3 ⟨#[44]⟩;rw[show(⟨#[44]⟩:ByteArray).data.toList=[44]from rfl]at wc;rw[c3]at wb wc;simp only[yj,ic,ky,jf];cases h3:ou l (a+3) 3 cl.data.toList with
           |true=>
             rw[h3]at wb
             have k4:=uf (n:=a+3) (by omega)
             simp only[akz,simprocAttr,aa,w0,k1,k2,k3,k4,wd,we,wb]
           |false=>
             rw[h3]at wb;cases h4:ou l (a+3) 3 [44]with
             |false=>
               rw[h4]at wc;simp only[akz,simprocAttr,aa,w0,k1,k2,k3,wd,we,wb,wc]
             |true=>
               rw[h4]at wc;have hl4:=ry h4
               have k4:=uf (n:=a+3) (by omega)
               have q:=ih (a+3+1) (by omega) (by omega)
               simp only[akz,simprocAttr,aa,w0,k1,k2,k3,k4,wd,we,wb,wc,q]
def a2h(h4:R4T CT)(base){H v l}(h:Pz H v l)(hn:l.length<2^40)(pr cl){a}(ha:a<=l.length):gq CT (.fn bjp [] []) [v,.s (.int .i64 a),.s (.bool pr),.s (.string cl)] base H=some (.tup [.s (.int .i64 (alx l pr cl.data.toList a).1),.s (.bool (alx l pr cl.data.toList a).2)],H):=by
 have q:=biy h4.word base h hn pr cl (l.length+1) a (by omega) (by omega)
 have k1:=uf (n:=a) (by omega)
 refine qi (c:=aom) h4.row (by simp[aom]) ?_
 unfold alx;cases pr with
 |true=>simp only[aom,simprocAttr,akz,aa,q]
 |false=>
   have wb:=aaq h4.word base h a 3 cl;rw[show((3:Nat):Int)=3 from rfl]at wb;cases h3:ou l a 3 cl.data.toList with
   |true=>
     rw[h3]at wb;simp only[aom,simprocAttr,akz,aa,wb,k1]
   |false=>
     rw[h3]at wb;simp only[aom,simprocAttr,akz,aa,wb,q]
end
open Go.AM
def bal(l:List Tok.T)(a:Nat)(s:List UInt8):Bool:=match l[a]? with
 |none=>false
 |some t=>(t.kind==1||t.kind==3)&&t.text==s
def sw(l:List Tok.T):List (List UInt8)->Nat->Nat × Bool
 | [],a=>(a,true)
 |it::is,a=>
   if it==[78]then(if ou l a 1 []then sw l is (a+1)else(a,false))
   else if it==[75]then(if ou l a 2 []then sw l is (a+1)else(a,false))
   else if it==[63]then(if ou l a 1 []then a+1 else a,true)
   else if it==[40]||it==[91]then
    (if ou l a 3 it then(if(alx l (it==[91]) (if it==[91]then[93]else[41]) (a+1)).2 then sw l is (alx l (it==[91]) (if it==[91]then[93]else[41]) (a+1)).1 else((alx l (it==[91]) (if it==[91]then[93]else[41]) (a+1)).1,false))else(a,false))
   else if bal l a it then sw l is (a+1)else(a,false)
def be9{l a s}(h:bal l a s=true):a<l.length:=by
 unfold bal at h;split at h
 .cases h
 .rename_i t e;exact(bmk.1 e).1
def bd9{l pr cl}:∀(n:Nat) {a:Nat},(aow l pr cl n a).2=true->(aow l pr cl n a).1<=l.length/\a<(aow l pr cl n a).1:=by
 intro n
 induction n with
 |zero=>intro a h;cases h
 |succ n ih=>
   intro a h;rw[aow]at h |-;by_cases h1:ou l a 1 []=true
   .rw[dw h1]at h |-;by_cases h2:(pr&&!ou l (a+1) 3 [58])=true
    .rw[dw h2]at h;cases h
    .rw[fu h2]at h |-;by_cases h3:(pr&&!ou l (a+2) 1 [])=true
     .rw[dw h3]at h;cases h
     .rw[fu h3]at h |-
      obtain⟨b,hb⟩:∃b,(if pr=true then a+3 else a+1)=b:=⟨_,rfl⟩
      have hab:a<b:=by rw[<- hb];split<;>omega
      rw[hb]at h |-;dsimp only at h |-;by_cases h4:ou l b 3 cl=true
      .rw[dw h4];have:=ry h4
       exact⟨by show b+1<=_;omega,by show a<b+1;omega⟩
      .rw[fu h4]at h |-;by_cases h5:ou l b 3 [44]=true
       .rw[dw h5]at h |-;have:=ih h
        exact⟨this.1,by omega⟩
       .rw[fu h5]at h;cases h
   .rw[fu h1]at h;cases h
def a2j{l pr cl a}(h:(alx l pr cl a).2=true):(alx l pr cl a).1<=l.length/\a<(alx l pr cl a).1:=by
 unfold alx at h |-;by_cases h1:(!pr&&ou l a 3 cl)=true
 .rw[dw h1];simp only[au]at h1;have:=ry h1.2;exact⟨this,abm _⟩
 .rw[fu h1]at h |-;exact bd9 _ h
structure R4F (CT:Nat->Option CFun):Prop where
 T:R4T CT
 far:CT bfp=some (.code aqv)
section
variable {CT:Nat->Option CFun}
set_option maxHeartbeats 2000000 in
def bj2(h4:R4T CT)(base:Nat){H:Heap}{v:V}{l:List Tok.T}(h:Pz H v l)(hn:l.length<2^40){iv:V}{items:List ByteArray}(hi:Rd H iv (items.map Sb))(hw:aak iv)(hm:items.length<2^40):∀(is:List ByteArray) (j a:Nat),items.drop j=is->j<=items.length->a<=l.length->
 itW (evC (gq CT) itW base alp) [] H.length (ja 112 [(0,iv),(1,v),(6,.s (.int .i64 a)),(7,.s (.int .i64 j))]) H=some (.ret,ja 112 [(4,.s (.int .i64 (sw l (is.map fun b=>b.data.toList) a).1)),(5,.s (.bool (sw l (is.map fun b=>b.data.toList) a).2))],H)\/((sw l (is.map fun b=>b.data.toList) a).2=true/\
 itW (evC (gq CT) itW base alp) [] H.length (ja 112 [(0,iv),(1,v),(6,.s (.int .i64 a)),(7,.s (.int .i64 j))]) H=some (.ext 0,ja 112 [(0,iv),(1,v),(6,.s (.int .i64 (sw l (is.map fun b=>b.data.toList) a).1)),(7,.s (.int .i64 items.length)),(15,.s (.bool false))],H)):=by
 have hil:=auy hi;have hpl:=h.len;intro is
 induction is with
 |nil=>
   intro j a hd hj ha
   have hjl:j=items.length:=by
    have:=jv List.length hd;rw[ig,d9]at this;omega
   subst hjl;refine .inr ⟨rfl,?_⟩;rw[kg,ab2,sw];simp only[aeh,simprocAttr,aa,hil,qm]
 |cons it is ih=>
   intro j a hd hj ha
   have hjx:items[j]?=some it:=by have:=jv (·[0]?) hd;simp only[jc]at this;exact this
   have hjl:=(bmk.1 hjx).1
   have hd':items.drop (j+1)=is:=by
    have:=jv (List.drop 1) hd
    simpa[qc]using this
   have hlt:((j:Int)<((items.length:Nat):Int)):=by omega
   have kj:=uf (n:=j) (by omega)
   have ka:=uf (n:=a) (by omega)
   obtain⟨y,y1,y2⟩:=a7e hi hw hjl;rw[jm,hjx,aft]at y2;have c78:(⟨#[78]⟩:ByteArray).data.toList=[78]:=rfl;have c75:(⟨#[75]⟩:ByteArray).data.toList=[75]:=rfl;have c63:(⟨#[63]⟩:ByteArray).data.toList=[63]:=rfl;have c40:(⟨#[40]⟩:ByteArray).data.toList=[40]:=rfl;have c91:(⟨#[91]⟩:ByteArray).data.toList=[91]:=rfl;have c3:((3:Nat):Int)=3:=rfl;have c2:((2:Nat):Int)=2:=rfl;obtain⟨s,hs⟩:∃s,it.data.toList=s:=⟨_,rfl⟩;rw[pq,hs,sw,kg];cases b1:(s==[78])with
   |true=>
     rw[dw rfl];have w:=aaq h4.word base h a 1 ⟨#[]⟩;rw[show(⟨#[]⟩:ByteArray).data.toList=[]from rfl]at w;simp only[aaz]at w;cases hw1:ou l a 1 []with
     |true=>
       rw[hw1]at w;rw[dw rfl];have hal:=ry hw1
       have q:=ih (j+1) (a+1) hd' (by omega) (by omega)
       simp only[aeh,simprocAttr,aa,hil,hlt,y1,y2,hs,b1,w,ka,kj];exact q
     |false=>
       rw[hw1]at w;left;simp only[aeh,simprocAttr,aa,hil,hlt,y1,y2,hs,b1,w,ka]
   |false=>
   rw[fu aaj];cases b2:(s==[75])with
   |true=>
     rw[dw rfl];have w:=aaq h4.word base h a 2 ⟨#[]⟩;rw[show(⟨#[]⟩:ByteArray).data.toList=[]from rfl,c2]at w;cases hw1:ou l a 2 []with
     |true=>
       rw[hw1]at w;rw[dw rfl];have hal:=ry hw1
       have q:=ih (j+1) (a+1) hd' (by omega) (by omega)
       simp only[aeh,simprocAttr,aa,hil,hlt,y1,y2,hs,b1,b2,w,ka,kj];exact q
     |false=>
       rw[hw1]at w;left;simp only[aeh,simprocAttr,aa,hil,hlt,y1,y2,hs,b1,b2,w]
   |false=>
   rw[fu aaj];cases b3:(s==[63])with
   |true=>
     rw[dw rfl];left;have w:=aaq h4.word base h a 1 ⟨#[]⟩;rw[show(⟨#[]⟩:ByteArray).data.toList=[]from rfl]at w;simp only[aaz]at w;cases hw1:ou l a 1 []with
     |true=>
       rw[hw1]at w;simp only[aeh,simprocAttr,aa,hil,hlt,y1,y2,hs,b1,b2,b3,w,ka]
     |false=>
       rw[hw1]at w;simp only[aeh,simprocAttr,aa,hil,hlt,y1,y2,hs,b1,b2,b3,w,ka]
   |false=>
   rw[fu aaj];have w:=aaq h4.word base h a 3 it;rw[hs,c3]at w;cases b4:(s==[40])with
   |true=>
     have b5:(s==[91])=false:=by rw[eq_of_beq b4];rfl
     rw[b5,ru,dw rfl];simp only[ic,ky];cases hw1:ou l a 3 s with
     |false=>
       rw[hw1]at w;left;simp only[aeh,simprocAttr,aa,hil,hlt,y1,y2,hs,b1,b2,b3,b4,b5,w]
     |true=>
       rw[hw1]at w;have hal:=ry hw1
       have q:=a2h h4 base h hn false ⟨#[41]⟩ (a:=a+1) (by omega)
       rw[show(⟨#[41]⟩:ByteArray).data.toList=[41]from rfl]at q;rw[dw rfl];have hle:=a2j (l:=l) (pr:=false) (cl:=[41]) (a:=a+1);obtain⟨⟨k,ok⟩,hk⟩:∃r,alx l false [41] (a+1)=r:=⟨_,rfl⟩;rw[hk]at q hle |-;cases ok with
       |false=>
         left;simp only[aeh,simprocAttr,aa,hil,hlt,y1,y2,hs,b1,b2,b3,b4,b5,w,ka,q]
       |true=>
         have z:=ih (j+1) k hd' (by omega) (hle rfl).1
         simp only[aeh,simprocAttr,aa,hil,hlt,y1,y2,hs,b1,b2,b3,b4,b5,w,ka,kj,q];exact z
   |false=>
   cases b5:(s==[91])with
   |true=>
     rw[qo,dw rfl];simp only[jf];cases hw1:ou l a 3 s with
     |false=>
       rw[hw1]at w;left;simp only[aeh,simprocAttr,aa,hil,hlt,y1,y2,hs,b1,b2,b3,b4,b5,w]
     |true=>
       rw[hw1]at w;have hal:=ry hw1
       have q:=a2h h4 base h hn true ⟨#[93]⟩ (a:=a+1) (by omega)
       rw[show(⟨#[93]⟩:ByteArray).data.toList=[93]from rfl]at q;rw[dw rfl];have hle:=a2j (l:=l) (pr:=true) (cl:=[93]) (a:=a+1);obtain⟨⟨k,ok⟩,hk⟩:∃r,alx l true [93] (a+1)=r:=⟨_,rfl⟩;rw[hk]at q hle |-;cases ok with
       |false=>
         left;simp only[aeh,simprocAttr,aa,hil,hlt,y1,y2,hs,b1,b2,b3,b4,b5,w,ka,q]
       |true=>
         have z:=ih (j+1) k hd' (by omega) (hle rfl).1
         simp only[aeh,simprocAttr,aa,hil,hlt,y1,y2,hs,b1,b2,b3,b4,b5,w,ka,kj,q];exact z
   |false=>
   rw[a7h,fu aaj];unfold bal;cases ht:l[a]? with
   |none=>
     have hna:¬((a:Int)<((l.length:Nat):Int)):=by have:=List.getElem?_eq_none_iff.1 ht;omega
     left;simp only[aeh,simprocAttr,aa,hil,hpl,hlt,y1,y2,hs,b1,b2,b3,b4,b5,hna]
   |some t=>
     have hal:=(bmk.1 ht).1
     have hna:((a:Int)<((l.length:Nat):Int)):=by omega
     obtain⟨id,g,p,h1,_,h2,h3,_⟩:=h.at ht;have nb1:=ab6 t.kind 1;have nb3:=ab6 t.kind 3;simp only[aaz]at nb1;rw[c3]at nb3;have e1:(⟨t.text.toArray⟩:ByteArray).data.toList=t.text:=rfl
     have z:=ih (j+1) (a+1) hd' (by omega) (by omega)
     dsimp only
     have tf:∀x:Bool,x=true\/x=false:=fun x=>by cases x<;>simp
     rcases tf (t.kind==1)with k1|k1
     .rw[k1]at nb1
      rcases tf (t.text==s)with tx|tx
      .
       simp only[aeh,simprocAttr,aa,hil,hpl,hlt,y1,y2,hs,b1,b2,b3,b4,b5,hna,h1,h2,h3,nb1,tx,k1,ka,kj,lq];exact z
      .left;simp only[aeh,simprocAttr,aa,hil,hpl,hlt,y1,y2,hs,b1,b2,b3,b4,b5,hna,h1,h2,h3,nb1,tx,k1]
     .rw[k1]at nb1
      rcases tf (t.kind==3)with k3|k3
      .rw[k3]at nb3
       rcases tf (t.text==s)with tx|tx
       .
        simp only[aeh,simprocAttr,aa,hil,hpl,hlt,y1,y2,hs,b1,b2,b3,b4,b5,hna,h1,h2,h3,nb1,nb3,k1,k3,tx,ka,kj,lq];exact z
       .left;simp only[aeh,simprocAttr,aa,hil,hpl,hlt,y1,y2,hs,b1,b2,b3,b4,b5,hna,h1,h2,h3,nb1,nb3,k1,k3,tx]
      .rw[k3]at nb3;left;simp only[k1,simprocAttr,k3,aeh,aa,hil,hpl,hlt,y1,y2,hs,b1,b2,b3,b4,b5,hna,h1,h2,h3,nb1,nb3,a7h]
def ad3(h4:R4F CT)(base:Nat){H:Heap}{v:V}{l:List Tok.T}(h:Pz H v l)(hn:l.length<2^40){iv:V}{items:List ByteArray}(hi:Rd H iv (items.map Sb))(hw:aak iv)(hm:items.length<2^40):gq CT (.fn bfp [] []) [iv,v] base H=some (.tup [.s (.int .i64 (sw l (items.map fun b=>b.data.toList) 0).1),.s (.bool (sw l (items.map fun b=>b.data.toList) 0).2)],H):=by
 have q:=bj2 h4.T base h hn hi hw hm items 0 0 rfl (jo _) (jo _);rw[ah5]at q
 refine qi (c:=aqv) h4.far (by simp[aqv]) ?_
 rcases q with q|⟨q0,q⟩
 .simp only[aqv,simprocAttr,aeh,aa,q]
 .simp only[aqv,simprocAttr,aeh,aa,q,q0]
end
open Go.AM
open Go.AM
open Go.AM
def abr{H id l}(h:getC H id 0=some l):Rd H (.sl id 0 0 l.length 1) l:=by
 have:=Rd.sl h (off:=0) (n:=l.length) (by omega)
 rwa[dx,afu]at this
section
variable {CT:Nat->Option CFun}
end
open Go.AM
def blx{α β:Type}(Q:α->β->Prop):List α->List β->Prop
 | [],[]=>True
 |a::l,b::m=>Q a b/\blx Q l m
 |_,_=>False
def blx.at{α β:Type}{Q:α->β->Prop}:∀{l:List α} {m:List β},blx Q l m->∀(i:Nat) (a:α) (b:β),l[i]?=some a->m[i]?=some b->Q a b
 | [],_,_,i,a,b,h,_=>by simp at h
 |_::_,[],_,i,a,b,_,h=>by simp at h
 |x::l,y::m,⟨h1,h2⟩,0,a,b,ha,hb=>by cases ha;cases hb;exact h1
 |x::l,y::m,⟨h1,h2⟩,i+1,a,b,ha,hb=>by
   rw[wu]at ha hb;exact blx.at h2 i a b ha hb
def all_w{w:Nat}{R:List (List V)}(h:R.all (fun r=>r.length==w)=true):∀r∈R,r.length=w:=fun r hr=>eq_of_beq (bq.1 h r hr)
def bi1{α:Type}{w n id:Nat}{P:Heap->List V->α->Prop}{H:Heap}{R:List (List V)}{l:List α}(hg:getC H id 0=some R.flatten)(hw:∀r∈R,r.length=w)(hn:R.length=n)(hl:l.length=n)(hb:n<2^63)(h:∀(i:Nat) (r:List V) (x:α),R[i]?=some r->l[i]?=some x->P H r x):RdL w P H (.sl id 0 0 n w) l:=by
 subst hn
 refine⟨R,RdX.sl hg hw,hl.symm,by omega,fun i x hx=>?_⟩
 have hi:i<R.length:=by have:=(bmk.1 hx).1;omega
 exact⟨R[i],af hi,h i _ x (af hi) hx⟩
def bc7:aak ow:=fun _ _ e=>by cases e
def aee(i g o n z):aak (.sl i g o n z):=fun _ _ e=>by cases e
section
variable {CT:Nat->Option CFun}
end
open Go.AM
def xn:List (Nat × List ByteArray):=[(1,[⟨#[78]⟩,⟨#[61]⟩,⟨#[97,108,108,111,99,97]⟩,⟨#[75]⟩]),(2,[⟨#[78]⟩,⟨#[61]⟩,⟨#[109,97,108,108,111,99]⟩,⟨#[75]⟩]),(3,[⟨#[78]⟩,⟨#[61]⟩,⟨#[110,117,108,108]⟩]),(4,[⟨#[78]⟩,⟨#[61]⟩,⟨#[97,100,100,114]⟩,⟨#[78]⟩]),(5,[⟨#[78]⟩,⟨#[61]⟩,⟨#[99,111,112,121]⟩,⟨#[78]⟩]),(8,[⟨#[78]⟩,⟨#[61]⟩,⟨#[108,111,97,100]⟩,⟨#[78]⟩]),(7,[⟨#[78]⟩,⟨#[61]⟩,⟨#[102,105,101,108,100]⟩,⟨#[78]⟩,⟨#[75]⟩]),(6,[⟨#[78]⟩,⟨#[61]⟩,⟨#[112,104,105]⟩,⟨#[91]⟩]),(10,[⟨#[78]⟩,⟨#[61]⟩,⟨#[99,97,108,108]⟩,⟨#[78]⟩,⟨#[40]⟩]),(10,[⟨#[99,97,108,108]⟩,⟨#[78]⟩,⟨#[40]⟩]),(11,[⟨#[78]⟩,⟨#[61]⟩,⟨#[105,99,97,108,108]⟩,⟨#[78]⟩,⟨#[40]⟩]),(11,[⟨#[105,99,97,108,108]⟩,⟨#[78]⟩,⟨#[40]⟩]),(9,[⟨#[115,116,111,114,101]⟩,⟨#[78]⟩,⟨#[44]⟩,⟨#[78]⟩]),(12,[⟨#[98,114]⟩,⟨#[78]⟩,⟨#[78]⟩]),(13,[⟨#[103,111,116,111]⟩,⟨#[78]⟩]),(14,[⟨#[114,101,116]⟩,⟨#[63]⟩])]
def ay6(H:Heap)(r:List V)(f:Nat × List ByteArray):Prop:=∃iv,r=[.s (.int .u8 f.1),iv]/\Rd H iv (f.2.map Sb)/\aak iv
section
variable {CT:Nat->Option CFun}
set_option maxHeartbeats 4000000 in
def a5m(hT:CT bfo=some (.code aqu))(base:Nat){A:Heap}(hb:base<=A.length):∃fv H',gq CT (.fn bfo [] []) [] base A=some (fv,H')/\Ext A H'/\RdL 2 ay6 H' fv xn:=by
 obtain⟨P0,hP0⟩:∃X,A++[Ob.cells 0 [.s (.string ⟨#[78]⟩),.s (.string ⟨#[61]⟩),.s (.string ⟨#[97,108,108,111,99,97]⟩),.s (.string ⟨#[75]⟩)]]=X:=⟨_,rfl⟩;have e0:Ext A P0:=hP0▸Ext.app _ _;have g0:getC P0 A.length 0=some [.s (.string ⟨#[78]⟩),.s (.string ⟨#[61]⟩),.s (.string ⟨#[97,108,108,111,99,97]⟩),.s (.string ⟨#[75]⟩)]:=hP0▸jl A 0 _;obtain⟨P1,hP1⟩:∃X,P0++[Ob.cells 0 [.s (.string ⟨#[78]⟩),.s (.string ⟨#[61]⟩),.s (.string ⟨#[109,97,108,108,111,99]⟩),.s (.string ⟨#[75]⟩)]]=X:=⟨_,rfl⟩;have e1:Ext P0 P1:=hP1▸Ext.app _ _;have g1:getC P1 P0.length 0=some [.s (.string ⟨#[78]⟩),.s (.string ⟨#[61]⟩),.s (.string ⟨#[109,97,108,108,111,99]⟩),.s (.string ⟨#[75]⟩)]:=hP1▸jl P0 0 _;obtain⟨P2,hP2⟩:∃X,P1++[Ob.cells 0 [.s (.string ⟨#[78]⟩),.s (.string ⟨#[61]⟩),.s (.string ⟨#[110,117,108,108]⟩)]]=X:=⟨_,rfl⟩;have e2:Ext P1 P2:=hP2▸Ext.app _ _;have g2:getC P2 P1.length 0=some [.s (.string ⟨#[78]⟩),.s (.string ⟨#[61]⟩),.s (.string ⟨#[110,117,108,108]⟩)]:=hP2▸jl P1 0 _;obtain⟨P3,hP3⟩:∃X,P2++[Ob.cells 0 [.s (.string ⟨#[78]⟩),.s (.string ⟨#[61]⟩),.s (.string ⟨#[97,100,100,114]⟩),.s (.string ⟨#[78]⟩)]]=X:=⟨_,rfl⟩;have e3:Ext P2 P3:=hP3▸Ext.app _ _;have g3:getC P3 P2.length 0=some [.s (.string ⟨#[78]⟩),.s (.string ⟨#[61]⟩),.s (.string ⟨#[97,100,100,114]⟩),.s (.string ⟨#[78]⟩)]:=hP3▸jl P2 0 _;obtain⟨P4,hP4⟩:∃X,P3++[Ob.cells 0 [.s (.string ⟨#[78]⟩),.s (.string ⟨#[61]⟩),.s (.string ⟨#[99,111,112,121]⟩),.s (.string ⟨#[78]⟩)]]=X:=⟨_,rfl⟩;have e4:Ext P3 P4:=hP4▸Ext.app _ _;have g4:getC P4 P3.length 0=some [.s (.string ⟨#[78]⟩),.s (.string ⟨#[61]⟩),.s (.string ⟨#[99,111,112,121]⟩),.s (.string ⟨#[78]⟩)]:=hP4▸jl P3 0 _;obtain⟨P5,hP5⟩:∃X,P4++[Ob.cells 0 [.s (.string ⟨#[78]⟩),.s (.string ⟨#[61]⟩),.s (.string ⟨#[108,111,97,100]⟩),.s (.string ⟨#[78]⟩)]]=X:=⟨_,rfl⟩;have e5:Ext P4 P5:=hP5▸Ext.app _ _;have g5:getC P5 P4.length 0=some [.s (.string ⟨#[78]⟩),.s (.string ⟨#[61]⟩),.s (.string ⟨#[108,111,97,100]⟩),.s (.string ⟨#[78]⟩)]:=hP5▸jl P4 0 _;obtain⟨P6,hP6⟩:∃X,P5++[Ob.cells 0 [.s (.string ⟨#[78]⟩),.s (.string ⟨#[61]⟩),.s (.string ⟨#[102,105,101,108,100]⟩),.s (.string ⟨#[78]⟩),.s (.string ⟨#[75]⟩)]]=X:=⟨_,rfl⟩;have e6:Ext P5 P6:=hP6▸Ext.app _ _;have g6:getC P6 P5.length 0=some [.s (.string ⟨#[78]⟩),.s (.string ⟨#[61]⟩),.s (.string ⟨#[102,105,101,108,100]⟩),.s (.string ⟨#[78]⟩),.s (.string ⟨#[75]⟩)]:=hP6▸jl P5 0 _;obtain⟨P7,hP7⟩:∃X,P6++[Ob.cells 0 [.s (.string ⟨#[78]⟩),.s (.string ⟨#[61]⟩),.s (.string ⟨#[112,104,105]⟩),.s (.string ⟨#[91]⟩)]]=X:=⟨_,rfl⟩;have e7:Ext P6 P7:=hP7▸Ext.app _ _;have g7:getC P7 P6.length 0=some [.s (.string ⟨#[78]⟩),.s (.string ⟨#[61]⟩),.s (.string ⟨#[112,104,105]⟩),.s (.string ⟨#[91]⟩)]:=hP7▸jl P6 0 _;obtain⟨P8,hP8⟩:∃X,P7++[Ob.cells 0 [.s (.string ⟨#[78]⟩),.s (.string ⟨#[61]⟩),.s (.string ⟨#[99,97,108,108]⟩),.s (.string ⟨#[78]⟩),.s (.string ⟨#[40]⟩)]]=X:=⟨_,rfl⟩;have e8:Ext P7 P8:=hP8▸Ext.app _ _;have g8:getC P8 P7.length 0=some [.s (.string ⟨#[78]⟩),.s (.string ⟨#[61]⟩),.s (.string ⟨#[99,97,108,108]⟩),.s (.string ⟨#[78]⟩),.s (.string ⟨#[40]⟩)]:=hP8▸jl P7 0 _;obtain⟨P9,hP9⟩:∃X,P8++[Ob.cells 0 [.s (.string ⟨#[99,97,108,108]⟩),.s (.string ⟨#[78]⟩),.s (.string ⟨#[40]⟩)]]=X:=⟨_,rfl⟩;have e9:Ext P8 P9:=hP9▸Ext.app _ _;have g9:getC P9 P8.length 0=some [.s (.string ⟨#[99,97,108,108]⟩),.s (.string ⟨#[78]⟩),.s (.string ⟨#[40]⟩)]:=hP9▸jl P8 0 _;obtain⟨P10,hP10⟩:∃X,P9++[Ob.cells 0 [.s (.string ⟨#[78]⟩),.s (.string ⟨#[61]⟩),.s (.string ⟨#[105,99,97,108,108]⟩),.s (.string ⟨#[78]⟩),.s (.string ⟨#[40]⟩)]]=X:=⟨_,rfl⟩;have e10:Ext P9 P10:=hP10▸Ext.app _ _;have g10:getC P10 P9.length 0=some [.s (.string ⟨#[78]⟩),.s (.string ⟨#[61]⟩),.s (.string ⟨#[105,99,97,108,108]⟩),.s (.string ⟨#[78]⟩),.s (.string ⟨#[40]⟩)]:=hP10▸jl P9 0 _;obtain⟨P11,hP11⟩:∃X,P10++[Ob.cells 0 [.s (.string ⟨#[105,99,97,108,108]⟩),.s (.string ⟨#[78]⟩),.s (.string ⟨#[40]⟩)]]=X:=⟨_,rfl⟩;have e11:Ext P10 P11:=hP11▸Ext.app _ _;have g11:getC P11 P10.length 0=some [.s (.string ⟨#[105,99,97,108,108]⟩),.s (.string ⟨#[78]⟩),.s (.string ⟨#[40]⟩)]:=hP11▸jl P10 0 _
 obtain⟨P12,hP12⟩:∃X,P11++[Ob.cells 0 [.s (.string ⟨#[115,116,111,114,101]⟩),.s (.string ⟨#[78]⟩),.s (.string ⟨#[44]⟩),.s (.string ⟨#[78]⟩)]]=X:=⟨_,rfl⟩;have e12:Ext P11 P12:=hP12▸Ext.app _ _;have g12:getC P12 P11.length 0=some [.s (.string ⟨#[115,116,111,114,101]⟩),.s (.string ⟨#[78]⟩),.s (.string ⟨#[44]⟩),.s (.string ⟨#[78]⟩)]:=hP12▸jl P11 0 _;obtain⟨P13,hP13⟩:∃X,P12++[Ob.cells 0 [.s (.string ⟨#[98,114]⟩),.s (.string ⟨#[78]⟩),.s (.string ⟨#[78]⟩)]]=X:=⟨_,rfl⟩;have e13:Ext P12 P13:=hP13▸Ext.app _ _;have g13:getC P13 P12.length 0=some [.s (.string ⟨#[98,114]⟩),.s (.string ⟨#[78]⟩),.s (.string ⟨#[78]⟩)]:=hP13▸jl P12 0 _;obtain⟨P14,hP14⟩:∃X,P13++[Ob.cells 0 [.s (.string ⟨#[103,111,116,111]⟩),.s (.string ⟨#[78]⟩)]]=X:=⟨_,rfl⟩;have e14:Ext P13 P14:=hP14▸Ext.app _ _;have g14:getC P14 P13.length 0=some [.s (.string ⟨#[103,111,116,111]⟩),.s (.string ⟨#[78]⟩)]:=hP14▸jl P13 0 _;obtain⟨P15,hP15⟩:∃X,P14++[Ob.cells 0 [.s (.string ⟨#[114,101,116]⟩),.s (.string ⟨#[63]⟩)]]=X:=⟨_,rfl⟩;have e15:Ext P14 P15:=hP15▸Ext.app _ _;have g15:getC P15 P14.length 0=some [.s (.string ⟨#[114,101,116]⟩),.s (.string ⟨#[63]⟩)]:=hP15▸jl P14 0 _;obtain⟨G,hG⟩:∃X,P15++[Ob.cells 0 [.s (.int .u8 1),.sl A.length 0 0 4 1,.s (.int .u8 2),.sl P0.length 0 0 4 1,.s (.int .u8 3),.sl P1.length 0 0 3 1,.s (.int .u8 4),.sl P2.length 0 0 4 1,.s (.int .u8 5),.sl P3.length 0 0 4 1,.s (.int .u8 8),.sl P4.length 0 0 4 1,.s (.int .u8 7),.sl P5.length 0 0 5 1,.s (.int .u8 6),.sl P6.length 0 0 4 1,.s (.int .u8 10),.sl P7.length 0 0 5 1,.s (.int .u8 10),.sl P8.length 0 0 3 1,.s (.int .u8 11),.sl P9.length 0 0 5 1,.s (.int .u8 11),.sl P10.length 0 0 3 1,.s (.int .u8 9),.sl P11.length 0 0 4 1,.s (.int .u8 12),.sl P12.length 0 0 3 1,.s (.int .u8 13),.sl P13.length 0 0 2 1,.s (.int .u8 14),.sl P14.length 0 0 2 1]]=X:=⟨_,rfl⟩;have eG:Ext P15 G:=hG▸Ext.app _ _;have z15:Ext P15 G:=eG;have z14:Ext P14 G:=e15.trans z15;have z13:Ext P13 G:=e14.trans z14;have z12:Ext P12 G:=e13.trans z13;have z11:Ext P11 G:=e12.trans z12;have z10:Ext P10 G:=e11.trans z11;have z9:Ext P9 G:=e10.trans z10;have z8:Ext P8 G:=e9.trans z9;have z7:Ext P7 G:=e8.trans z8;have z6:Ext P6 G:=e7.trans z7;have z5:Ext P5 G:=e6.trans z6;have z4:Ext P4 G:=e5.trans z5;have z3:Ext P3 G:=e4.trans z4;have z2:Ext P2 G:=e3.trans z3;have z1:Ext P1 G:=e2.trans z2;have z0:Ext P0 G:=e1.trans z1
 refine⟨.sl P15.length 0 0 16 2,G,qi (c:=aqu) hT (by simp[aqu]) ?_,e0.trans z0,bi1 (R:=[[.s (.int .u8 1),.sl A.length 0 0 4 1],[.s (.int .u8 2),.sl P0.length 0 0 4 1],[.s (.int .u8 3),.sl P1.length 0 0 3 1],[.s (.int .u8 4),.sl P2.length 0 0 4 1],[.s (.int .u8 5),.sl P3.length 0 0 4 1],[.s (.int .u8 8),.sl P4.length 0 0 4 1],[.s (.int .u8 7),.sl P5.length 0 0 5 1],[.s (.int .u8 6),.sl P6.length 0 0 4 1],[.s (.int .u8 10),.sl P7.length 0 0 5 1],[.s (.int .u8 10),.sl P8.length 0 0 3 1],[.s (.int .u8 11),.sl P9.length 0 0 5 1],[.s (.int .u8 11),.sl P10.length 0 0 3 1],[.s (.int .u8 9),.sl P11.length 0 0 4 1],[.s (.int .u8 12),.sl P12.length 0 0 3 1],[.s (.int .u8 13),.sl P13.length 0 0 2 1],[.s (.int .u8 14),.sl P14.length 0 0 2 1]]) (hG▸jl P15 0 _) (all_w rfl) rfl rfl (by decide) (blx.at ⟨⟨_,rfl,abr (jd g0 z0),aee _ _ _ _ _⟩,⟨_,rfl,abr (jd g1 z1),aee _ _ _ _ _⟩,⟨_,rfl,abr (jd g2 z2),aee _ _ _ _ _⟩,⟨_,rfl,abr (jd g3 z3),aee _ _ _ _ _⟩,⟨_,rfl,abr (jd g4 z4),aee _ _ _ _ _⟩,⟨_,rfl,abr (jd g5 z5),aee _ _ _ _ _⟩,⟨_,rfl,abr (jd g6 z6),aee _ _ _ _ _⟩,⟨_,rfl,abr (jd g7 z7),aee _ _ _ _ _⟩,⟨_,rfl,abr (jd g8 z8),aee _ _ _ _ _⟩,⟨_,rfl,abr (jd g9 z9),aee _ _ _ _ _⟩,⟨_,rfl,abr (jd g10 z10),aee _ _ _ _ _⟩,⟨_,rfl,abr (jd g11 z11),aee _ _ _ _ _⟩,⟨_,rfl,abr (jd g12 z12),aee _ _ _ _ _⟩,⟨_,rfl,abr (jd g13 z13),aee _ _ _ _ _⟩,⟨_,rfl,abr (jd g14 z14),aee _ _ _ _ _⟩,⟨_,rfl,abr (jd g15 z15),aee _ _ _ _ _⟩,trivial⟩)⟩
 simp only[aqu,simprocAttr,a_f22,aa,hP0,hP1,hP2,hP3,hP4,hP5,hP6,hP7,hP8,hP9,hP10,hP11,hP12,hP13,hP14,hP15,hG]
theorem a1g(hT:CT ba4=some (.code anh))(base:Nat){A}(hb:base<=A.length)(t:Tok.T):∃H',gq CT (.fn ba4 [] []) [.agg [.s (.int .u8 t.kind),.s (.string ⟨t.text.toArray⟩),.s (.int .i64 t.n),.s (.int .i64 t.line),.s (.int .i64 t.col)]] base A=some (.tup [.agg [.s (.slice none 0 0)],.agg [.s (.int .i64 t.line),.s (.int .i64 t.col)],.s (.int .i64 (if t.kind=4 then 41 else 40:Nat))],H')/\Ext A H':=by
 obtain⟨C1,h1⟩:∃X,A++[Ob.cells 0 [.s (.int .u8 t.kind),.s (.string ⟨t.text.toArray⟩),.s (.int .i64 t.n),.s (.int .i64 t.line),.s (.int .i64 t.col)]]=X:=⟨_,rfl⟩;obtain⟨C2,h2⟩:∃X,C1++[Ob.cells 0 [.s (.slice none 0 0)]]=X:=⟨_,rfl⟩;obtain⟨C3,h3⟩:∃X,C2++[Ob.cells 0 [.s (.int .i64 0),.s (.int .i64 0)]]=X:=⟨_,rfl⟩;obtain⟨C4,h4⟩:∃X,C2++[Ob.cells 0 [.s (.int .i64 t.line),.s (.int .i64 t.col)]]=X:=⟨_,rfl⟩
 have l1:C1.length=A.length+1:=by rw[<- h1,kw]
 have l2:C2.length=A.length+2:=by rw[<- h2,kw,l1]
 have x1:Ext A C1:=h1▸Ext.app _ _;have x2:Ext C1 C2:=h2▸Ext.app _ _;have x3:Ext C2 C3:=h3▸Ext.app _ _;have x4:Ext C2 C4:=h4▸Ext.app _ _;have g1:getC C3 A.length 0=some [.s (.int .u8 t.kind),.s (.string ⟨t.text.toArray⟩),.s (.int .i64 t.n),.s (.int .i64 t.line),.s (.int .i64 t.col)]:=jd (h1▸jl A 0 _) (x2.trans x3)
 have g2:getC C3 (A.length+1) 0=some [.s (.slice none 0 0)]:=jd (by rw[<- l1,<- h2];exact jl C1 0 _) x3
 have g3:getC C3 (A.length+2) 0=some [.s (.int .i64 0),.s (.int .i64 0)]:=by rw[<- l2,<- h3];exact jl C2 0 _
 have s2:C3.set (A.length+1) (.cells 0 [.s (.slice none 0 0)])=C3:=ai0 g2
 have s3:C3.set (A.length+2) (.cells 0 [.s (.int .i64 t.line),.s (.int .i64 t.col)])=C4:=by rw[<- h3,<- l2,uw,h4]
 have k2:getC C4 (A.length+1) 0=some [.s (.slice none 0 0)]:=jd (by rw[<- l1,<- h2];exact jl C1 0 _) x4
 have k3:getC C4 (A.length+2) 0=some [.s (.int .i64 t.line),.s (.int .i64 t.col)]:=by rw[<- l2,<- h4];exact jl C2 0 _
 have nb:=ab6 t.kind 4;rw[show((4:Nat):Int)=4 from rfl]at nb
 have b1:base<=A.length+1:=by omega
 have b2:base<=A.length+2:=by omega
 have oR:∀(a b c:Nat),V.obj? (.ref a b c)=some (some a):=fun _ _ _=>rfl
 have nq:(A.length != A.length+1)=true:=by rw[ny];omega
 have nq2:(A.length+1 != A.length)=true:=by rw[ny];omega
 have oA:∀i j:Nat,aux (some (some i)) (some (some j))=(i != j):=fun _ _=>rfl
 refine⟨C4,p8 (c:=anh) (k:=1) hT rfl (by decide) av5 ?_,x1.trans (x2.trans x4)⟩
 cases hk:(t.kind==4)with
 |true=>
   rw[hk]at nb;rw[dw (eq_of_beq hk)];simp only[anh,simprocAttr,X21_2,a09,bkk,aa,h1,h2,h3,l1,l2,g1,g2,g3,s2,s3,nb,b1,b2,lq];simp only[zm,simprocAttr,aer,R21_2,jr,ji,aof,AOp.place,AOp.obj,aa,oR,oA,nq,aa7,afa,k2,k3]
   try rfl
 |false=>
   rw[hk]at nb
   rw[fu (fun e=>by rw[e]at hk;cases hk)]
   simp only[anh,simprocAttr,X21_3,a09,bkk,aa,h1,h2,h3,l1,l2,g1,g2,g3,s2,s3,nb,b1,b2,lq];simp only[zm,simprocAttr,aer,R21_3,jr,ji,aof,AOp.place,AOp.obj,aa,oR,oA,nq,aa7,afa,k2,k3]
   try rfl
end
open Go.AM
abbrev ba3:Nat:=23
def K23_0:=[0,3]++List.range' 5 132
def R23_0t1:=[q 4 (.alloc [bmt,bmr,bmr,bmr,bmu,bmr,bms,bms])]
def R23_0p0:=[q 2 (.box (.t 0))]
def R23_0:=R23_0p0++R23_0t1
def K23_0p0:=[0]++List.range' 3 134
def X23_0(call:o8)(it:zn)(base f H):evC call it base (.region R23_0 [] K23_0) f H=ahk call it base (.region R23_0t1 [] K23_0) (a0a [] R23_0p0 K23_0p0 (mg call base [⟨some 2,.box (.t 0),none⟩] f H)):=(as2 call it base R23_0p0 R23_0t1 (kc:=K23_0p0) (by kernel_rfl) f H).trans (by rw[akg];rfl)
def R23_1t2:=[bmy 8 5 11]
def R23_1t1:=q 5 (.alloc [bmt,bmr,bmr,bmr,bmu,bmr,bms,bms])::R23_1t2
def R23_1p0:=[oF 9 0 2,oL 10 9,q 11 (.build [bmt,bmr,bmr,bmr,bmu,bmr,bms,bms] [(0,1),(1,1),(2,1),(3,1),(4,1),(5,1),(6,1),(7,1)] [(0,.t 10)])]
def R23_1:=R23_1p0++R23_1t1
def R23_2:=[bm2 6 bmq]
def R23_3:=[bm2 7 (bml 0)]
def R23_4:=[oM 12 7,oM 13 1,q 14 (.lenS .s (.t 13)),q 15 (.bin .lss (.t 12) (.t 14))]
def R23_5:=[oM 18 1,oM 19 7,bm4 20 5 18 19,oF 21 0 20,oL 22 21,q 23 (.bin .eql (.t 22) (bmm 1))]
def R23_6t3:=[oM 6 31]
def R23_6t2:=q 31 (.append 1 16 (.t 24) (.t 30))::R23_6t3
def R23_6t1:=q 30 (.buildSl 1 1 [bmr] [(0,.t 29)])::R23_6t2
def R23_6p0:=[oM 24 6,oM 25 1,oM 26 7,bm4 27 5 25 26,oF 28 1 27,oL 29 28]
def R23_6:=R23_6p0++R23_6t1
def R23_7:=[oM 32 1,oM 33 7,bm4 34 5 32 33,oF 35 0 34,oL 36 35,q 37 (.bin .eql (.t 36) (bmm 2))]
def R23_8t1:=[bmy 1 43 42]
def R23_8p0:=[oM 38 1,oM 39 7,bm4 40 5 38 39,oF 41 2 40,oL 42 41,oF 43 4 5]
def R23_8:=R23_8p0++R23_8t1
def R23_9:=[oM 16 7,q 17 (.bin .add (.t 16) (bml 1)),oM 7 17]
def aj1:ACode:=
 (.seq (.seq (.regionE R23_4 [12,13,14] [15])
 (.cond (.t 15)
 .skip
 (.exit 0)))
 (.seq (.block 1
 (.seq (.seq (.regionE R23_5 [15,18,19,20,21,22] [23])
 (.cond (.t 23)
 (.region R23_6 [] [23,24,25,26,27,28,29,30,31])
 .skip))
 (.seq (.regionE R23_7 [23,32,33,34,35,36] [37])
 (.cond (.t 37)
 (.region R23_8 [] [37,38,39,40,41,42,43])
 .skip))))
 (.regionE R23_9 [16,17,37] [7])))
def alo:ACode:=aj1
def R23_10:=[oF 44 1 2,oL 45 44,q 46 (.indexAddr 1 (.t 45) (bml 0)),oL 47 46,q 48 (.bin .eql (.t 47) (bmp #[78]))]
def R23_11t1:=[bmy 1 52 51]
def R23_11p0:=[oM 49 6,q 50 (.indexAddr 1 (.t 49) (bml 0)),oL 51 50,oF 52 1 5]
def R23_11:=R23_11p0++R23_11t1
def R23_12:=[oM 53 6,q 54 (.subSl 1 (.t 53) (some (bml 1)) none none),oM 6 54]
def R23_13:=[oM 55 6,q 56 (.subSl 1 (.t 55) (some (bml 1)) none none),oM 6 56]
def R23_14:=[oF 57 0 2,oL 58 57,q 59 (.bin .eql (.t 58) (bmm 3))]
def R23_15:=[bm2 6 bmq]
def R23_16:=[oF 60 0 2,oL 61 60]
def R23_17:=[q 63 (.bin .eql (.t 61) (bmm 4)),oM 62 63]
def R23_18:=[q 64 (.bin .eql (.t 61) (bmm 10)),oM 62 64]
def R23_19t1:=[bmy 1 68 67]
def R23_19p0:=[oM 65 6,q 66 (.indexAddr 1 (.t 65) (bml 0)),oL 67 66,oF 68 5 5]
def R23_19:=R23_19p0++R23_19t1
def R23_20t1:=[bmy 1 71 70]
def R23_20p0:=[oM 69 6,q 70 (.subSl 1 (.t 69) (some (bml 1)) none none),oF 71 6 5]
def R23_20:=R23_20p0++R23_20t1
def R23_21:=[q 73 (.bin .eql (.t 61) (bmm 5)),oM 72 73]
def R23_22:=[q 74 (.bin .eql (.t 61) (bmm 8)),oM 72 74]
def R23_23:=[q 75 (.bin .eql (.t 61) (bmm 7)),oM 72 75]
def R23_24:=[q 76 (.bin .eql (.t 61) (bmm 11)),oM 72 76]
def R23_25t1:=[bmy 1 80 79]
def R23_25p0:=[oM 77 6,q 78 (.indexAddr 1 (.t 77) (bml 0)),oL 79 78,oF 80 2 5]
def R23_25:=R23_25p0++R23_25t1
def R23_26t1:=[bmy 1 83 82]
def R23_26p0:=[oM 81 6,q 82 (.subSl 1 (.t 81) (some (bml 1)) none none),oF 83 6 5]
def R23_26:=R23_26p0++R23_26t1
def R23_27:=[q 85 (.bin .eql (.t 61) (bmm 9)),oM 84 85]
def R23_28t1:=[bmy 1 89 88]
def R23_28p0:=[oM 86 6,q 87 (.indexAddr 1 (.t 86) (bml 0)),oL 88 87,oF 89 2 5]
def R23_28:=R23_28p0++R23_28t1
def R23_29t1:=[bmy 1 93 92]
def R23_29p0:=[oM 90 6,q 91 (.indexAddr 1 (.t 90) (bml 1)),oL 92 91,oF 93 3 5]
def R23_29:=R23_29p0++R23_29t1
def R23_30:=[q 95 (.bin .eql (.t 61) (bmm 6)),oM 94 95]
def R23_31:=[bm2 8 (bml 0)]
def R23_32:=[oM 96 8,q 97 (.bin .add (.t 96) (bml 1)),oM 98 6,q 99 (.lenS .s (.t 98)),q 100 (.bin .lss (.t 97) (.t 99))]
def R23_33t4:=[bmy 1 111 110]
def R23_33p3:=[oF 111 7 5]
def R23_33t3:=R23_33p3++R23_33t4
def R23_33t2:=q 110 (.append 1 16 (.t 104) (.t 109))::R23_33t3
def R23_33t1:=q 109 (.buildSl 1 1 [bmr] [(0,.t 108)])::R23_33t2
def R23_33p0:=[oF 103 7 5,oL 104 103,oM 105 6,oM 106 8,bm4 107 1 105 106,oL 108 107]
def R23_33:=R23_33p0++R23_33t1
def R23_34t4:=[bmy 1 121 120]
def R23_34p3:=[oF 121 6 5]
def R23_34t3:=R23_34p3++R23_34t4
def R23_34t2:=q 120 (.append 1 16 (.t 113) (.t 119))::R23_34t3
def R23_34t1:=q 119 (.buildSl 1 1 [bmr] [(0,.t 118)])::R23_34t2
def R23_34p0:=[oF 112 6 5,oL 113 112,oM 114 6,oM 115 8,q 116 (.bin .add (.t 115) (bml 1)),bm4 117 1 114 116,oL 118 117]
def R23_34:=R23_34p0++R23_34t1
def R23_35:=[oM 101 8,q 102 (.bin .add (.t 101) (bml 2)),oM 8 102]
def aj0:ACode:=
 (.seq (.seq (.regionE R23_32 [96,97,98,99] [100])
 (.cond (.t 100)
 .skip
 (.exit 3)))
 (.seq (.block 4
 (.seq (.region R23_33 [] [100,103,104,105,106,107,108,109,110,111])
 (.region R23_34 [] [112,113,114,115,116,117,118,119,120,121])))
 (.regionE R23_35 [101,102] [8])))
def aln:ACode:=aj0
def R23_36:=[q 123 (.bin .eql (.t 61) (bmm 12)),oM 122 123]
def R23_37:=[q 124 (.bin .eql (.t 61) (bmm 13)),oM 122 124]
def R23_38t1:=[bmy 1 126 125]
def R23_38p0:=[oM 125 6,oF 126 7 5]
def R23_38:=R23_38p0++R23_38t1
def R23_39:=[q 128 (.bin .eql (.t 61) (bmm 14)),oM 127 128]
def R23_40:=[oM 129 6,q 130 (.lenS .s (.t 129)),q 131 (.bin .gtr (.t 130) (bml 0))]
def R23_41t1:=[bmy 1 135 134]
def R23_41p0:=[oM 132 6,q 133 (.indexAddr 1 (.t 132) (bml 0)),oL 134 133,oF 135 2 5]
def R23_41:=R23_41p0++R23_41t1
def R23_42t1:=[bmy 8 4 136]
def R23_42p0:=[q 136 (.load true 8 (.t 5))]
def R23_42:=R23_42p0++R23_42t1
def aci:ACFun:={ ntmps:=137,results:=[.cell 4 true 8],body:=
 (.seq (.region R23_0 [] K23_0)
 (.seq (.region R23_1 [] [9,10,11])
 (.seq (.regionE R23_2 [] [6])
 (.seq (.seq (.regionE R23_3 [] [7])
 (.block 0
 (.loop [] alo)))
 (.seq (.seq (.regionE R23_10 [1,7,15,44,45,46,47] [48])
 (.cond (.t 48)
 (.seq (.region R23_11 [] [48,49,50,51,52])
 (.regionE R23_12 [53,54] [6]))
 .skip))
 (.seq (.regionE R23_13 [48,55,56] [6])
 (.seq (.seq (.regionE R23_14 [57,58] [59])
 (.cond (.t 59)
 (.regionE R23_15 [59] [6])
 .skip))
 (.seq (.seq (.regionE R23_16 [2,59,60] [61])
 (.block 2
 (.seq (.seq (.regionE R23_17 [63] [62])
 (.cond (.t 62)
 .skip
 (.regionE R23_18 [64] [62])))
 (.cond (.t 62)
 (.seq (.region R23_19 [] [61,62,65,66,67,68])
 (.region R23_20 [] [6,69,70,71]))
 (.seq (.seq (.regionE R23_21 [62,73] [72])
 (.cond (.t 72)
 .skip
 (.seq (.regionE R23_22 [74] [72])
 (.cond (.t 72)
 .skip
 (.seq (.regionE R23_23 [75] [72])
 (.cond (.t 72)
 .skip
 (.regionE R23_24 [76] [72])))))))
 (.cond (.t 72)
 (.seq (.region R23_25 [] [61,72,77,78,79,80])
 (.region R23_26 [] [6,81,82,83]))
 (.seq (.regionE R23_27 [72,85] [84])
 (.cond (.t 84)
 (.seq (.region R23_28 [] [61,84,86,87,88,89])
 (.region R23_29 [] [6,90,91,92,93]))
 (.seq (.regionE R23_30 [84,95] [94])
 (.cond (.t 94)
 (.seq (.regionE R23_31 [61,94] [8])
 (.block 3
 (.loop [] aln)))
 (.seq (.seq (.regionE R23_36 [94,123] [122])
 (.cond (.t 122)
 .skip
 (.regionE R23_37 [124] [122])))
 (.cond (.t 122)
 (.region R23_38 [] [6,61,122,125,126])
 (.seq (.regionE R23_39 [61,122,128] [127])
 (.cond (.t 127)
 (.seq (.regionE R23_40 [127,129,130] [131])
 (.cond (.t 131)
 (.region R23_41 [] [6,131,132,133,134,135])
 .skip))
 .skip))))))))))))))
 (.seq (.region R23_42 [] [5,6,8,100,127,131,136])
 .ret))))))))) }
theorem av1:ql (List.range' 2 (aci.ntmps-2)) aci.body=true:=by kernel_rfl
def aeg:=ai (hQ K23_0p0 0) (ai (hK K23_0p0 1) (ai (hK K23_0p0 2) (ai (hQ K23_0p0 4) (ai X23_0 (ai (hX R23_0t1 K23_0) (ai (hQ K23_0 0) (ai (hK K23_0 1) (ai (hK K23_0 2) (ai (hK K23_0 4) (ai (hU R23_1 [9,10] [11] [9,10,11] 12 [] [(11,.op (.build [.s (.int .u8 0),.s (.string ⟨#[]⟩),.s (.string ⟨#[]⟩),.s (.string ⟨#[]⟩),.s (.int .i64 0),.s (.string ⟨#[]⟩),.s (.slice none 0 0),.s (.slice none 0 0)] [(0,1),(1,1),(2,1),(3,1),(4,1),(5,1),(6,1),(7,1)] [(0,.t 0)]) [eL (eF 0 (.t 2))])] [sb [0,0],sb [0],sb []]) (ai (hP R23_1t1 [] [9,10,11]) (ai (hX R23_1t2 [9,10,11]) (ai (hT R23_2 [] [6] 7 [] [(6,.c (.s (.slice none 0 0)))] [.cc (.s (.slice none 0 0))]) (ai (hT R23_3 [] [7] 8 [] [(7,bm8 0)] [.cc (.s (.int .i64 0))]) (ai (hT R23_4 [12,13,14] [15] 16 [] [(15,bno .lss (.t 7) (bnl (.t 1)))] [.tt 7,.tt 1,sb [1],sb []]) (ai (hT R23_5 [15,18,19,20,21,22] [23] 24 [] [(23,bni 1 (eL (eF 0 (bnj 5 (.t 1) (.t 7)))))] [.tt 1,.tt 7,sb [0,0,0],sb [0,0],sb [0],sb []]) (ai (hU R23_6 [6,23,25,26,27,28] [24,29] bon 30 [] [(24,.t 6),(29,eL (eF 1 (bnj 5 (.t 1) (.t 7))))] [.tt 6,.tt 1,.tt 7,.sub 1 [0,0] [],.sub 1 [0] [],.sub 1 [] []]) (ai (hP R23_6t1 [29] bon) (ai (hP R23_6t2 [24,30] bon) (ai (hV R23_6t3 [23,24,25,26,27,28,29,30,31] [6] 7 [] [(6,.t 31)] [.tt 31]) (ai (hT R23_7 [23,32,33,34,35,36] [37] 38 [] [(37,bni 2 (eL (eF 0 (bnj 5 (.t 1) (.t 7)))))] [.tt 1,.tt 7,sb [0,0,0],sb [0,0],sb [0],sb []]) (ai (hU R23_8 [37,38,39,40,41] [42,43] [37,38,39,40,41,42,43] 44 [] [(42,eL (eF 2 (bnj 5 (.t 1) (.t 7)))),(43,eF 4 (.t 5))] [.tt 1,.tt 7,sb [0,0],sb [0],sb [],.sub 1 [] []]) (ai (hX R23_8t1 [37,38,39,40,41,42,43]) (ai (hT R23_9 [16,17,37] [7] 18 [] [(7,bnf 1 (.t 7))] [.tt 7,sb [],sb []]) (ai (hE alo aj1) (ai (hT R23_10 [1,7,15,44,45,46,47] [48] 49 [] [(48,.op (.bin .eql (.t 0) (.c (.s (.string ⟨#[78]⟩)))) [eL (bnk 1 0 (eL (eF 1 (.t 2)))),.c (.s (.string ⟨#[78]⟩))])] [sb [0,0,0,0],sb [0,0,0],sb [0,0],sb [0],sb []]) (ai (hU R23_11 [48,49,50] [51,52] [48,49,50,51,52] 53 [] [(51,eL (bnk 1 0 (.t 6))),(52,eF 1 (.t 5))] [.tt 6,sb [0],sb [],.sub 1 [] []]) (ai (hX R23_11t1 [48,49,50,51,52]) (ai (hT R23_12 [53,54] [6] 55 [] [(6,.op (.subSl 1 (.t 0) (some (.c (.s (.int .i64 1)))) none none) [.t 6,.c (.s (.int .i64 1))])] [.tt 6,sb [],sb []]) (ai (hT R23_13 [48,55,56] [6] 57 [] [(6,.op (.subSl 1 (.t 0) (some (.c (.s (.int .i64 1)))) none none) [.t 6,.c (.s (.int .i64 1))])] [.tt 6,sb [],sb []]) (ai (hT R23_14 [57,58] [59] 60 [] [(59,bni 3 (eL (eF 0 (.t 2))))] [sb [0,0],sb [0],sb []]) (ai (hT R23_15 [59] [6] 7 [] [(6,.c (.s (.slice none 0 0)))] [.cc (.s (.slice none 0 0))]) (ai (hT R23_16 [2,59,60] [61] 62 [] [(61,eL (eF 0 (.t 2)))] [sb [0],sb []]) (ai (hT R23_17 [63] [62] 64 [] [(62,bni 4 (.t 61))] [sb [],sb []]) (ai (hT R23_18 [64] [62] 65 [] [(62,bni 10 (.t 61))] [sb [],sb []]) (ai (hU R23_19 [61,62,65,66] [67,68] [61,62,65,66,67,68] 69 [] [(67,eL (bnk 1 0 (.t 6))),(68,eF 5 (.t 5))] [.tt 6,sb [0],sb [],.sub 1 [] []]) (ai (hX R23_19t1 [61,62,65,66,67,68]) (ai (hU R23_20 [6,69] [70,71] [6,69,70,71] 72 [] [(70,.op (.subSl 1 (.t 0) (some (.c (.s (.int .i64 1)))) none none) [.t 6,.c (.s (.int .i64 1))]),(71,eF 6 (.t 5))] [.tt 6,sb [],.sub 1 [] []]) (ai (hX R23_20t1 [6,69,70,71]) (ai (hT R23_21 [62,73] [72] 74 [] [(72,bni 5 (.t 61))] [sb [],sb []]) (ai (hT R23_22 [74] [72] 75 [] [(72,bni 8 (.t 61))] [sb [],sb []]) (ai (hT R23_23 [75] [72] 76 [] [(72,bni 7 (.t 61))] [sb [],sb []]) (ai (hT R23_24 [76] [72] 77 [] [(72,bni 11 (.t 61))] [sb [],sb []]) (ai (hU R23_25 [61,72,77,78] [79,80] [61,72,77,78,79,80] 81 [] [(79,eL (bnk 1 0 (.t 6))),(80,eF 2 (.t 5))] [.tt 6,sb [0],sb [],.sub 1 [] []]) (ai (hX R23_25t1 [61,72,77,78,79,80]) (ai (hU R23_26 [6,81] [82,83] [6,81,82,83] 84 [] [(82,.op (.subSl 1 (.t 0) (some (.c (.s (.int .i64 1)))) none none) [.t 6,.c (.s (.int .i64 1))]),(83,eF 6 (.t 5))] [.tt 6,sb [],.sub 1 [] []]) (ai (hX R23_26t1 [6,81,82,83]) (ai (hT R23_27 [72,85] [84] 86 [] [(84,bni 9 (.t 61))] [sb [],sb []]) (ai (hU R23_28 [61,84,86,87] [88,89] [61,84,86,87,88,89] 90 [] [(88,eL (bnk 1 0 (.t 6))),(89,eF 2 (.t 5))] [.tt 6,sb [0],sb [],.sub 1 [] []]) (ai (hX R23_28t1 [61,84,86,87,88,89]) (ai (hU R23_29 [6,90,91] [92,93] [6,90,91,92,93] 94 [] [(92,eL (bnk 1 1 (.t 6))),(93,eF 3 (.t 5))] [.tt 6,sb [0],sb [],.sub 1 [] []]) (ai (hX R23_29t1 [6,90,91,92,93]) (ai (hT R23_30 [84,95] [94] 96 [] [(94,bni 6 (.t 61))] [sb [],sb []]) (ai (hT R23_31 [61,94] [8] 9 [] [(8,bm8 0)] [.cc (.s (.int .i64 0))]) (ai (hT R23_32 [96,97,98,99] [100] 101 [] [(100,bno .lss (bnf 1 (.t 8)) (bnl (.t 6)))] [.tt 8,sb [0],.tt 6,sb [1],sb []]) (ai (hU R23_33 [100,103,105,106,107] [104,108] boo 109 [] [(104,eL (eF 7 (.t 5))),(108,eL (bnj 1 (.t 6) (.t 8)))] [sb [0],sb [],.tt 6,.tt 8,.sub 1 [0] [],.sub 1 [] []]) (ai (hP R23_33t1 [108] boo) (ai (hP R23_33t2 [104,109] boo) (ai (hU R23_33t3 [] [111] boo 112 [] [(111,eF 7 (.t 5))] [sb []]) (ai (hX R23_33t4 [100,103,104,105,106,107,108,109,110,111]) (ai (hU R23_34 [112,114,115,116,117] [113,118] bop 119 [] [(113,eL (eF 6 (.t 5))),(118,eL (bnj 1 (.t 6) (bnf 1 (.t 8))))] [sb [0],sb [],.tt 6,.tt 8,.sub 1 [0,1] [],.sub 1 [0] [],.sub 1 [] []]) (ai (hP R23_34t1 [118] bop) (ai (hP R23_34t2 [113,119] bop) (ai (hU R23_34t3 [] [121] bop 122 [] [(121,eF 6 (.t 5))] [sb []]) (ai (hX R23_34t4 [112,113,114,115,116,117,118,119,120,121]) (ai (hT R23_35 [101,102] [8] 103 [] [(8,bnf 2 (.t 8))] [.tt 8,sb [],sb []]) (ai (hE aln aj0) (ai (hT R23_36 [94,123] [122] 124 [] [(122,bni 12 (.t 61))] [sb [],sb []]) (ai (hT R23_37 [124] [122] 125 [] [(122,bni 13 (.t 61))] [sb [],sb []]) (ai (hU R23_38 [6,61,122] [125,126] [6,61,122,125,126] 127 [] [(125,.t 6),(126,eF 7 (.t 5))] [.tt 6,.sub 1 [] []]) (ai (hX R23_38t1 [6,61,122,125,126]) (ai (hT R23_39 [61,122,128] [127] 129 [] [(127,bni 14 (.t 61))] [sb [],sb []]) (ai (hT R23_40 [127,129,130] [131] 132 [] [(131,bnq .gtr 0 (bnl (.t 6)))] [.tt 6,sb [0],sb []]) (ai (hU R23_41 [6,131,132,133] [134,135] [6,131,132,133,134,135] 136 [] [(134,eL (bnk 1 0 (.t 6))),(135,eF 2 (.t 5))] [.tt 6,sb [0],sb [],.sub 1 [] []]) (ai (hX R23_41t1 [6,131,132,133,134,135]) (ai (hU R23_42 [5,6,8,100,127,131] [136] [5,6,8,100,127,131,136] 137 [] [(136,bnm 8 (.t 5))] [sb []]) (ai (hX R23_42t1 [5,6,8,100,127,131,136]) (ai aj0.eq_1 (aj1.eq_1)))))))))))))))))))))))))))))))))))))))))))))))))))))))))))))))))))))))))))))))
theorem bkp:yf Tryd.prog PX0 23=some (false,aci.ntmps,aci.results,aci.body.bare):=by kernel_rfl
open Go.AM
def o5:List ByteArray->List Tok.T->List ByteArray
 |ns,[]=>ns
 |ns,t::l=>o5 (if t.kind=1 then ns++[⟨t.text.toArray⟩]else ns) l
def aex:Nat->List Tok.T->Nat
 |k,[]=>k
 |k,t::l=>aex (if t.kind=2 then t.n else k) l
def a0o(op k:Nat):List V:=[.s (.int .u8 op),.s (.string ⟨#[]⟩),.s (.string ⟨#[]⟩),.s (.string ⟨#[]⟩),.s (.int .i64 k),.s (.string ⟨#[]⟩),.s (.slice none 0 0),.s (.slice none 0 0)]
structure InSt (a:Nat) (H:Heap) (op:Nat) (iv:V) (k:Nat) (ns:List ByteArray) (nv:V) (C:Heap):Prop where
 box:getC C a 0=some [.s (.int .u8 op),iv]
 out:getC C (a+1) 0=some yt
 cur:getC C (a+2) 0=some (a0o op k)
 nam:uj (a+3) 1 C nv (yu ns)
 len:a+3<=C.length
 old:∀i,i<a->C[i]?=H[i]?
def Pz.keep{H C v l}(h:Pz H v l){a}(ha:H.length<=a)(k:∀i,i<a->C[i]?=H[i]?):Pz C v l:=by
 obtain⟨id,g,off,c,e,h1,h2⟩:=h;refine⟨id,g,off,c,e,?_,h2⟩;have hl:=su h1;unfold getC at h1 |-
 rw[k id (by omega)]
 exact h1
def InSt.tr{a H op k iv ns nv C}(h:InSt a H op iv k ns nv C){fr}(hv:nv∈fr):InSt a H op iv k ns nv (trim (a+3) fr C):=by
 rcases h.nam.trim_or (aj _) hv with⟨e1,e2⟩|e
 .have hg:∀i,i<a+3->∀c,getC C i 0=some c->getC (trim (a+3) fr C) i 0=some c:=fun i hi c hc=>by
   unfold getC at hc |-;rw[acr _ _ _ hi];exact hc
  have hn:ns=[]:=by
   have:=jv List.length e1;rw[yw]at this;exact jb this
  subst hn;subst e2
  refine⟨hg _ (by omega) _ h.box,hg _ (by omega) _ h.out,hg _ (by omega) _ h.cur,uj.start _ _ _,?_,fun i hi=>by rw[acr _ _ _ (by omega),h.old i hi]⟩
  rcases Go.AM.trim_or (a+3) fr C with e|⟨e,_⟩<;>rw[e]
  .exact h.len
  .rw[l5];have:=h.len;omega
 .rw[e];exact h
section
variable {CT:Nat->Option CFun}
set_option maxHeartbeats 1000000 in
def bjz(base){a H}(hb:base<=a)(ha:H.length<=a){v iv l}(hp:Pz H v l)(hn:l.length<2^40){op}:∀(ls:List Tok.T) (j k:Nat) (ns:List ByteArray) (nv:V) (C:Heap),l.drop j=ls->j<=l.length->ns.length<=j->InSt a H op iv k ns nv C->
 ∃nv' C',itW (evC (gq CT) itW base alo) [] (a+3) (ja 137 [(1,v),(2,.ref a 0 0),(4,.ref (a+1) 0 0),(5,.ref (a+2) 0 0),(6,nv),(7,.s (.int .i64 j))]) C=some (.ext 0,ja 137 [(1,v),(2,.ref a 0 0),(4,.ref (a+1) 0 0),(5,.ref (a+2) 0 0),(6,nv'),(7,.s (.int .i64 l.length)),(15,.s (.bool false))],C')/\InSt a H op iv (aex k ls) (o5 ns ls) nv' C':=by
 intro ls
 induction ls with
 |nil=>
   intro j k ns nv C hd hj hns h
   have hjl:j=l.length:=by
    have:=jv List.length hd;rw[ig,d9]at this;omega
   subst hjl;have hl:=(hp.keep ha h.old).len
   refine⟨nv,_,?_,h.tr (fr:=ja 137 [(1,v),(2,.ref a 0 0),(4,.ref (a+1) 0 0),(5,.ref (a+2) 0 0),(6,nv),(7,.s (.int .i64 l.length)),(15,.s (.bool false))]) (aa8 (s:=6) (by decide) rfl)⟩
   rw[kg];simp only[aeg,simprocAttr,aa,hl,qm]
 |cons t ls ih=>
   intro j k ns nv C hd hj hns h
   have hjx:l[j]?=some t:=by have:=jv (·[0]?) hd;simp only[jc]at this;exact this
   have hjl:=(bmk.1 hjx).1
   have hd':l.drop (j+1)=ls:=by
    have:=jv (List.drop 1) hd
    simpa[qc]using this
   have hlt:((j:Int)<((l.length:Nat):Int)):=by omega
   have kj:=uf (n:=j) (by omega)
   have hpC:=hp.keep ha h.old;have hl:=hpC.len;obtain⟨id,g,p,y1,_,y2,y3,y4,_⟩:=hpC.at hjx;have nb1:=ab6 t.kind 1;have nb2:=ab6 t.kind 2;simp only[aaz]at nb1;rw[show((2:Nat):Int)=2 from rfl]at nb2;rw[o5,aex];by_cases k1:t.kind=1
   .have b1:(t.kind==1)=true:=by rw[k1];rfl
    have b2:(t.kind==2)=false:=by rw[k1];rfl
    rw[b1]at nb1;rw[b2]at nb2;have hlen:=h.len
    obtain⟨nv2,D,a1,a2,a3,a4⟩:=aog h.nam (base:=base) (bytes:=16) (by omega) hlen ⟨t.text.toArray⟩ (by omega)
    have hk:∀i,i<a+3->D[i]?=C[i]?:=fun i hi=>a4 i (by omega) fun g n e=>by
     subst e;have:=tu h.nam;omega
    have hg:∀i,i<a+3->∀c,getC C i 0=some c->getC D i 0=some c:=fun i hi c hc=>by
     unfold getC at hc |-;rw[hk i hi];exact hc
    have hst:InSt a H op iv k (ns++[⟨t.text.toArray⟩]) nv2 D:=⟨hg _ (by omega) _ h.box,hg _ (by omega) _ h.out,hg _ (by omega) _ h.cur,a2,by omega,fun i hi=>by rw[hk i (by omega),h.old i hi]⟩
    have hpD:=hp.keep ha hst.old;obtain⟨id',g',p',z1,_,z2,_⟩:=hpD.at hjx;rw[y1]at z1;cases z1;have hvo:=h.nam.rd.one
    obtain⟨nv',C',r1,r2⟩:=ih (j+1) k _ nv2 _ hd' (by omega) (by rw[gm,bi];omega) (hst.tr (fr:=ja 137 [(1,v),(2,.ref a 0 0),(4,.ref (a+1) 0 0),(5,.ref (a+2) 0 0),(6,nv2),(7,.s (.int .i64 (j+1:Nat)))]) (aa8 (s:=6) (by decide) rfl))
    rw[dw k1,fu (by omega)]
    refine⟨nv',C',?_,r2⟩;simp only[Sb]at a1;rw[kg];simp only[aeg,simprocAttr,aa,hl,hlt,y1,y2,y3,nb1,a1,z2,nb2,kj,r1]
   .have b1:(t.kind==1)=false:=by rw[cz];exact k1
    rw[b1]at nb1;rw[fu k1];by_cases k2:t.kind=2
    .have b2:(t.kind==2)=true:=by rw[k2];rfl
     rw[b2]at nb2;rw[dw k2];have gc:=h.cur;obtain⟨D,hD⟩:∃X,C.set (a+2) (.cells 0 (a0o op t.n))=X:=⟨_,rfl⟩;have hlen:=h.len
     have hk:∀i,i≠a+2->D[i]?=C[i]?:=fun i hi=>by rw[<- hD,ae (sj hi)]
     have hg:∀i,i≠a+2->∀c,getC C i 0=some c->getC D i 0=some c:=fun i hi c hc=>by
      unfold getC at hc |-;rw[hk i hi];exact hc
     have hst:InSt a H op iv t.n ns nv D:=⟨hg _ (by omega) _ h.box,hg _ (by omega) _ h.out,hD▸kz gc _,h.nam.keep fun i g n e=>(by subst e;have:=tu h.nam;exact hk i (by omega)),by rw[<- hD,fe];exact hlen,fun i hi=>by rw[hk i (by omega),h.old i hi]⟩
     obtain⟨nv',C',r1,r2⟩:=ih (j+1) t.n ns nv _ hd' (by omega) (by omega) (hst.tr (fr:=ja 137 [(1,v),(2,.ref a 0 0),(4,.ref (a+1) 0 0),(5,.ref (a+2) 0 0),(6,nv),(7,.s (.int .i64 (j+1:Nat)))]) (aa8 (s:=6) (by decide) rfl))
     refine⟨nv',C',?_,r2⟩
     have hb2:base<=a+2:=by omega
     simp only[a0o]at gc hD;rw[kg];simp only[aeg,simprocAttr,aa,hl,hlt,y1,y2,y4,nb1,nb2,gc,hb2,hD,kj,r1]
    .have b2:(t.kind==2)=false:=by rw[cz];exact k2
     rw[b2]at nb2;rw[fu k2]
     obtain⟨nv',C',r1,r2⟩:=ih (j+1) k ns nv _ hd' (by omega) (by omega) (h.tr (fr:=ja 137 [(1,v),(2,.ref a 0 0),(4,.ref (a+1) 0 0),(5,.ref (a+2) 0 0),(6,nv),(7,.s (.int .i64 (j+1:Nat)))]) (aa8 (s:=6) (by decide) rfl))
     refine⟨nv',C',?_,r2⟩;rw[kg];simp only[aeg,simprocAttr,aa,hl,hlt,y1,y2,nb1,nb2,kj,r1]
end
open Go.AM
def an0(op:Nat)(d:ByteArray)(k:Nat):List V:=[.s (.int .u8 op),.s (.string d),.s (.string ⟨#[]⟩),.s (.string ⟨#[]⟩),.s (.int .i64 k),.s (.string ⟨#[]⟩),.s (.slice none 0 0),.s (.slice none 0 0)]
structure InS2 (a:Nat) (H:Heap) (op:Nat) (iv:V) (d:ByteArray) (k:Nat) (ns:List ByteArray) (id g:Nat) (C:Heap):Prop where
 box:getC C a 0=some [.s (.int .u8 op),iv]
 out:getC C (a+1) 0=some yt
 cur:getC C (a+2) 0=some (an0 op d k)
 nam:getC C id g=some (ns.map Sb)
 ge:a+3<=id
 old:∀i,i<a->C[i]?=H[i]?
def aw8:ACode:=match aci.body with
 |.seq _ (.seq _ (.seq _ (.seq _ r)))=>r
 |_=>.skip
def a0m:ACode:=match aw8 with
 |.seq x (.seq y _)=>.seq x y
 |_=>.skip
def acs:ACode:=match aw8 with
 |.seq _ (.seq _ r)=>r
 |_=>.skip
def bj8{id g off n}(h:1<=n):a01 1 id g off n 1 (some 1) (some (n:Int))=some (.sl id g (off+1) (n-1) 1):=by
 rw[akv,dw ⟨by decide,by omega,Int.le_refl _,rfl⟩]
 congr 2
 omega
theorem ad4{C:Heap}{id g o:Nat}{ns:List ByteArray}(hc:getC C id g=some (ns.map Sb))(ho:o<ns.length):y5 C false 1 (.ref id g o)=some (.s (.string (ns.getD o ⟨#[]⟩))):=by
 have h1:(ns.map Sb)[o]?=some (Sb (ns.getD o ⟨#[]⟩)):=by rw[nz,amq ho ⟨#[]⟩];rfl
 rw[aav,hc]
 have e:((ns.map Sb).drop o).take 1=[Sb (ns.getD o ⟨#[]⟩)]:=by
  obtain⟨hl,e⟩:=bmk.1 h1;rw[ed hl,e];rfl
 dsimp only;rw[e];rfl
theorem anu{id g off n}(h:1<=n):pg 1 (.sl id g off n 1) (.s (.int .i64 0))=some (.ref id g off):=by
 rw[alh,dw ⟨by decide,by omega,rfl⟩]
 rfl
section
variable {CT:Nat->Option CFun}
theorem bfz(base:Nat){a:Nat}{H C:Heap}(hb:base<=a){op k:Nat}{iv v:V}{ns:List ByteArray}{id g:Nat}(h:InS2 a H op iv ⟨#[]⟩ k ns id g C){items:List ByteArray}(hi:Rd C iv (items.map Sb))(hw:aak iv)(h0:0<items.length)(hN:(items.getD 0 ⟨#[]⟩).data.toList=[78])(hns:2<=ns.length){n:Nat}:
 ∃C',evC (gq CT) itW base a0m (ja 137 [(1,v),(2,.ref a 0 0),(4,.ref (a+1) 0 0),(5,.ref (a+2) 0 0),(6,.sl id g 0 ns.length 1),(7,.s (.int .i64 n)),(15,.s (.bool false))]) C=some (.nrm,ja 137 [(2,.ref a 0 0),(4,.ref (a+1) 0 0),(5,.ref (a+2) 0 0),(6,.sl id g 2 (ns.length-2) 1)],C')/\InS2 a H op iv (ns.getD 0 ⟨#[]⟩) k ns id g C':=by
 obtain⟨y,y1,y2⟩:=a7e hi hw h0;obtain⟨D,hD⟩:∃X,C.set (a+2) (.cells 0 (an0 op (ns.getD 0 ⟨#[]⟩) k))=X:=⟨_,rfl⟩
 have hk:∀i,i≠a+2->∀g,getC D i g=getC C i g:=fun i hi g=>by
  rw[<- hD,xc _ hi]
 have hge:=h.ge
 have e0:((items.getD 0 ⟨#[]⟩).data.toList==(⟨#[78]⟩:ByteArray).data.toList)=true:=by rw[hN];rfl
 have b2:base<=a+2:=by omega
 have q0:=ad4 h.nam (o:=0) (by omega)
 have i0:=anu (id:=id) (g:=g) (off:=0) (n:=ns.length) (by omega)
 have k1:=bj8 (id:=id) (g:=g) (off:=0) (n:=ns.length) (by omega)
 have k2:=bj8 (id:=id) (g:=g) (off:=0+1) (n:=ns.length-1) (by omega)
 have bx:=h.box;have cu:=h.cur
 refine⟨D,?_,⟨by rw[hk a (by omega)];exact h.box,by rw[hk (a+1) (by omega)];exact h.out,hD▸kz h.cur _,by rw[hk id (by omega)];exact h.nam,hge,fun i hi=>by rw[<- hD,ae (by omega),h.old i hi]⟩⟩
 simp only[an0]at cu hD;simp only[ah5]at y1;simp only[a0m,simprocAttr,aw8,aci,aeg,aa,bx,cu,y1,y2,e0,i0,q0,b2,hD,k1,k2]
 try rfl
theorem ba6(base:Nat){a:Nat}{C:Heap}{op:Nat}{iv v:V}(bx:getC C a 0=some [.s (.int .u8 op),iv]){items:List ByteArray}(hi:Rd C iv (items.map Sb))(hw:aak iv)(h0:0<items.length)(hN:(items.getD 0 ⟨#[]⟩).data.toList≠[78]){m:Nat}(hns:1<=m){id g n:Nat}:
 evC (gq CT) itW base a0m (ja 137 [(1,v),(2,.ref a 0 0),(4,.ref (a+1) 0 0),(5,.ref (a+2) 0 0),(6,.sl id g 0 m 1),(7,.s (.int .i64 n)),(15,.s (.bool false))]) C=some (.nrm,ja 137 [(2,.ref a 0 0),(4,.ref (a+1) 0 0),(5,.ref (a+2) 0 0),(6,.sl id g 1 (m-1) 1)],C):=by
 obtain⟨y,y1,y2⟩:=a7e hi hw h0
 have e0:((items.getD 0 ⟨#[]⟩).data.toList==(⟨#[78]⟩:ByteArray).data.toList)=false:=by rw[cz];exact hN
 have k1:=bj8 (id:=id) (g:=g) (off:=0) (n:=m) (by omega)
 simp only[ah5]at y1;simp only[a0m,simprocAttr,aw8,aci,aeg,aa,bx,y1,y2,e0,k1]
 try rfl
structure Cu (a:Nat) (H:Heap) (c:List V) (ns:List ByteArray) (id g:Nat) (C:Heap):Prop where
 out:getC C (a+1) 0=some yt
 cur:getC C (a+2) 0=some c
 nam:getC C id g=some (ns.map Sb)
 ge:a+3<=id
 old:∀i,i<a->C[i]?=H[i]?
def InS2.cu{a H op iv d k ns id g C}(h:InS2 a H op iv d k ns id g C):Cu a H (an0 op d k) ns id g C:=⟨h.out,h.cur,h.nam,h.ge,h.old⟩
def Cu.put{a H c ns id g C D}(h:Cu a H c ns id g C){c'}(e:C.set (a+2) (.cells 0 c')=D):Cu a H c' ns id g D:=by
 subst e;have hge:=h.ge
 exact⟨by rw[xc _ (by omega)];exact h.out,kz h.cur _,by rw[xc _ (by omega)];exact h.nam,hge,fun i hi=>by rw[ae (by omega),h.old i hi]⟩
def a7p(a:Nat)(H:Heap)(r:List V)(ns:List ByteArray)(id g:Nat)(H':Heap):Prop:=getC H' (a+1) 0=some r/\getC H' id g=some (ns.map Sb)/\a+3<=id/\∀i,i<a->H'[i]?=H[i]?
def Cu.fin{a H c ns id g C D}(h:Cu a H c ns id g C)(e:C.set (a+1) (.cells 0 c)=D):a7p a H c ns id g D:=by
 subst e;have hge:=h.ge
 exact⟨kz h.out _,by rw[xc _ (by omega)];exact h.nam,hge,fun i hi=>by rw[ae (by omega),h.old i hi]⟩
def ins_A(base:Nat){a:Nat}{H C:Heap}(hb:base<=a){op k:Nat}(hop:op=4\/op=10){iv:V}{d:ByteArray}{ns:List ByteArray}{id g:Nat}(h:InS2 a H op iv d k ns id g C){off n:Nat}(hn:off+n=ns.length)(h1:1<=n):
 ∃H',evC (gq CT) itW base acs (ja 137 [(2,.ref a 0 0),(4,.ref (a+1) 0 0),(5,.ref (a+2) 0 0),(6,.sl id g off n 1)]) C=some (.ret,ja 137 [(4,.ref (a+1) 0 0)],H')/\a7p a H [.s (.int .u8 op),.s (.string d),.s (.string ⟨#[]⟩),.s (.string ⟨#[]⟩),.s (.int .i64 k),.s (.string (ns.getD off ⟨#[]⟩)),.sl id g (off+1) (n-1) 1,.s (.slice none 0 0)] ns id g H':=by
 have bx:=h.box;have u0:=h.cu;simp only[an0]at u0
 have b1:base<=a+1:=by omega
 have b2:base<=a+2:=by omega
 obtain⟨D1,hD1⟩:∃X,C.set (a+2) (.cells 0 [.s (.int .u8 op),.s (.string d),.s (.string ⟨#[]⟩),.s (.string ⟨#[]⟩),.s (.int .i64 k),.s (.string (ns.getD off ⟨#[]⟩)),.s (.slice none 0 0),.s (.slice none 0 0)])=X:=⟨_,rfl⟩;have u1:=u0.put hD1;have v1:=u1.cur;obtain⟨D2,hD2⟩:∃X,D1.set (a+2) (.cells 0 [.s (.int .u8 op),.s (.string d),.s (.string ⟨#[]⟩),.s (.string ⟨#[]⟩),.s (.int .i64 k),.s (.string (ns.getD off ⟨#[]⟩)),.sl id g (off+1) (n-1) 1,.s (.slice none 0 0)])=X:=⟨_,rfl⟩;have u2:=u1.put hD2;have v2:=u2.cur;have v0:=u0.cur;obtain⟨E,hE⟩:∃X,D2.set (a+1) (.cells 0 [.s (.int .u8 op),.s (.string d),.s (.string ⟨#[]⟩),.s (.string ⟨#[]⟩),.s (.int .i64 k),.s (.string (ns.getD off ⟨#[]⟩)),.sl id g (off+1) (n-1) 1,.s (.slice none 0 0)])=X:=⟨_,rfl⟩;have vo:=u2.out;simp only[yt,ow]at vo
 have q0:=ad4 h.nam (o:=off) (by omega)
 have i0:=anu (id:=id) (g:=g) (off:=off) (n:=n) (by omega)
 have k1:=bj8 (id:=id) (g:=g) (off:=off) (n:=n) (by omega)
 refine⟨E,?_,u2.fin hE⟩
 rcases hop with rfl|rfl
 all_goals simp only[acs,aw8,aci,aeg,aa,Nat.reduceEqDiff,Nat.reduceLT,Nat.reduceLeDiff,Nat.reduceBEq,Nat.reduceAdd,bx,v0,vo,hD1,v1,hD2,v2,q0,i0,k1,show(((4:Nat):Int)==3)=false from rfl,show(((4:Nat):Int)==4)=true from rfl,show(((4:Nat):Int)==10)=false from rfl,show(((4:Nat):Int)==5)=false from rfl,show(((4:Nat):Int)==8)=false from rfl,show(((4:Nat):Int)==7)=false from rfl,show(((4:Nat):Int)==11)=false from rfl,show(((4:Nat):Int)==9)=false from rfl,show(((4:Nat):Int)==6)=false from rfl,show(((4:Nat):Int)==12)=false from rfl,show(((4:Nat):Int)==13)=false from rfl,show(((4:Nat):Int)==14)=false from rfl,show(((10:Nat):Int)==3)=false from rfl,show(((10:Nat):Int)==4)=false from rfl,show(((10:Nat):Int)==10)=true from rfl,show(((10:Nat):Int)==5)=false from rfl,show(((10:Nat):Int)==8)=false from rfl,show(((10:Nat):Int)==7)=false from rfl,show(((10:Nat):Int)==11)=false from rfl,show(((10:Nat):Int)==9)=false from rfl,show(((10:Nat):Int)==6)=false from rfl,show(((10:Nat):Int)==12)=false from rfl,show(((10:Nat):Int)==13)=false from rfl,show(((10:Nat):Int)==14)=false from rfl,hE,b1,b2]
def ins_B(base:Nat){a:Nat}{H C:Heap}(hb:base<=a){op k:Nat}(hop:op=5\/op=7\/op=8\/op=11){iv:V}{d:ByteArray}{ns:List ByteArray}{id g:Nat}(h:InS2 a H op iv d k ns id g C){off n:Nat}(hn:off+n=ns.length)(h1:1<=n):
 ∃H',evC (gq CT) itW base acs (ja 137 [(2,.ref a 0 0),(4,.ref (a+1) 0 0),(5,.ref (a+2) 0 0),(6,.sl id g off n 1)]) C=some (.ret,ja 137 [(4,.ref (a+1) 0 0)],H')/\a7p a H [.s (.int .u8 op),.s (.string d),.s (.string (ns.getD off ⟨#[]⟩)),.s (.string ⟨#[]⟩),.s (.int .i64 k),.s (.string ⟨#[]⟩),.sl id g (off+1) (n-1) 1,.s (.slice none 0 0)] ns id g H':=by
 have bx:=h.box;have u0:=h.cu;simp only[an0]at u0
 have b1:base<=a+1:=by omega
 have b2:base<=a+2:=by omega
 obtain⟨D1,hD1⟩:∃X,C.set (a+2) (.cells 0 [.s (.int .u8 op),.s (.string d),.s (.string (ns.getD off ⟨#[]⟩)),.s (.string ⟨#[]⟩),.s (.int .i64 k),.s (.string ⟨#[]⟩),.s (.slice none 0 0),.s (.slice none 0 0)])=X:=⟨_,rfl⟩;have u1:=u0.put hD1;have v1:=u1.cur;obtain⟨D2,hD2⟩:∃X,D1.set (a+2) (.cells 0 [.s (.int .u8 op),.s (.string d),.s (.string (ns.getD off ⟨#[]⟩)),.s (.string ⟨#[]⟩),.s (.int .i64 k),.s (.string ⟨#[]⟩),.sl id g (off+1) (n-1) 1,.s (.slice none 0 0)])=X:=⟨_,rfl⟩;have u2:=u1.put hD2;have v2:=u2.cur;have v0:=u0.cur;obtain⟨E,hE⟩:∃X,D2.set (a+1) (.cells 0 [.s (.int .u8 op),.s (.string d),.s (.string (ns.getD off ⟨#[]⟩)),.s (.string ⟨#[]⟩),.s (.int .i64 k),.s (.string ⟨#[]⟩),.sl id g (off+1) (n-1) 1,.s (.slice none 0 0)])=X:=⟨_,rfl⟩;have vo:=u2.out;simp only[yt,ow]at vo
 have q0:=ad4 h.nam (o:=off) (by omega)
 have i0:=anu (id:=id) (g:=g) (off:=off) (n:=n) (by omega)
 have k1:=bj8 (id:=id) (g:=g) (off:=off) (n:=n) (by omega)
 refine⟨E,?_,u2.fin hE⟩
 rcases hop with rfl|rfl|rfl|rfl
 all_goals simp only[acs,aw8,aci,aeg,aa,Nat.reduceEqDiff,Nat.reduceLT,Nat.reduceLeDiff,Nat.reduceBEq,Nat.reduceAdd,bx,v0,vo,hD1,v1,hD2,v2,q0,i0,k1,show(((5:Nat):Int)==3)=false from rfl,show(((5:Nat):Int)==4)=false from rfl,show(((5:Nat):Int)==10)=false from rfl,show(((5:Nat):Int)==5)=true from rfl,show(((5:Nat):Int)==8)=false from rfl,show(((5:Nat):Int)==7)=false from rfl,show(((5:Nat):Int)==11)=false from rfl,show(((5:Nat):Int)==9)=false from rfl,show(((5:Nat):Int)==6)=false from rfl,show(((5:Nat):Int)==12)=false from rfl,show(((5:Nat):Int)==13)=false from rfl,show(((5:Nat):Int)==14)=false from rfl,show(((7:Nat):Int)==3)=false from rfl,show(((7:Nat):Int)==4)=false from rfl,show(((7:Nat):Int)==10)=false from rfl,show(((7:Nat):Int)==5)=false from rfl,show(((7:Nat):Int)==8)=false from rfl,show(((7:Nat):Int)==7)=true from rfl,show(((7:Nat):Int)==11)=false from rfl,show(((7:Nat):Int)==9)=false from rfl,show(((7:Nat):Int)==6)=false from rfl,show(((7:Nat):Int)==12)=false from rfl,show(((7:Nat):Int)==13)=false from rfl,show(((7:Nat):Int)==14)=false from rfl,show(((8:Nat):Int)==3)=false from rfl,show(((8:Nat):Int)==4)=false from rfl,show(((8:Nat):Int)==10)=false from rfl,show(((8:Nat):Int)==5)=false from rfl,show(((8:Nat):Int)==8)=true from rfl,show(((8:Nat):Int)==7)=false from rfl,show(((8:Nat):Int)==11)=false from rfl,show(((8:Nat):Int)==9)=false from rfl,show(((8:Nat):Int)==6)=false from rfl,show(((8:Nat):Int)==12)=false from rfl,show(((8:Nat):Int)==13)=false from rfl,show(((8:Nat):Int)==14)=false from rfl,show(((11:Nat):Int)==3)=false from rfl,show(((11:Nat):Int)==4)=false from rfl,show(((11:Nat):Int)==10)=false from rfl,show(((11:Nat):Int)==5)=false from rfl,show(((11:Nat):Int)==8)=false from rfl,show(((11:Nat):Int)==7)=false from rfl,show(((11:Nat):Int)==11)=true from rfl,show(((11:Nat):Int)==9)=false from rfl,show(((11:Nat):Int)==6)=false from rfl,show(((11:Nat):Int)==12)=false from rfl,show(((11:Nat):Int)==13)=false from rfl,show(((11:Nat):Int)==14)=false from rfl,hE,b1,b2]
def ins_C(base:Nat){a:Nat}{H C:Heap}(hb:base<=a){op k:Nat}(hop:op=9){iv:V}{d:ByteArray}{ns:List ByteArray}{id g:Nat}(h:InS2 a H op iv d k ns id g C){off n:Nat}(hn:off+n=ns.length)(h1:2<=n):
 ∃H',evC (gq CT) itW base acs (ja 137 [(2,.ref a 0 0),(4,.ref (a+1) 0 0),(5,.ref (a+2) 0 0),(6,.sl id g off n 1)]) C=some (.ret,ja 137 [(4,.ref (a+1) 0 0)],H')/\a7p a H [.s (.int .u8 op),.s (.string d),.s (.string (ns.getD off ⟨#[]⟩)),.s (.string (ns.getD (off+1) ⟨#[]⟩)),.s (.int .i64 k),.s (.string ⟨#[]⟩),.s (.slice none 0 0),.s (.slice none 0 0)] ns id g H':=by
 have bx:=h.box;have u0:=h.cu;simp only[an0]at u0
 have b1:base<=a+1:=by omega
 have b2:base<=a+2:=by omega
 obtain⟨D1,hD1⟩:∃X,C.set (a+2) (.cells 0 [.s (.int .u8 op),.s (.string d),.s (.string (ns.getD off ⟨#[]⟩)),.s (.string ⟨#[]⟩),.s (.int .i64 k),.s (.string ⟨#[]⟩),.s (.slice none 0 0),.s (.slice none 0 0)])=X:=⟨_,rfl⟩;have u1:=u0.put hD1;have v1:=u1.cur;obtain⟨D2,hD2⟩:∃X,D1.set (a+2) (.cells 0 [.s (.int .u8 op),.s (.string d),.s (.string (ns.getD off ⟨#[]⟩)),.s (.string (ns.getD (off+1) ⟨#[]⟩)),.s (.int .i64 k),.s (.string ⟨#[]⟩),.s (.slice none 0 0),.s (.slice none 0 0)])=X:=⟨_,rfl⟩;have u2:=u1.put hD2;have v2:=u2.cur;have v0:=u0.cur;obtain⟨E,hE⟩:∃X,D2.set (a+1) (.cells 0 [.s (.int .u8 op),.s (.string d),.s (.string (ns.getD off ⟨#[]⟩)),.s (.string (ns.getD (off+1) ⟨#[]⟩)),.s (.int .i64 k),.s (.string ⟨#[]⟩),.s (.slice none 0 0),.s (.slice none 0 0)])=X:=⟨_,rfl⟩;have vo:=u2.out;simp only[yt,ow]at vo
 have q0:=ad4 h.nam (o:=off) (by omega)
 have i0:=anu (id:=id) (g:=g) (off:=off) (n:=n) (by omega)
 have q1:=ad4 u1.nam (o:=off+1) (by omega)
 have i1:pg 1 (.sl id g off n 1) (.s (.int .i64 1))=some (.ref id g (off+1)):=by
  rw[alh,dw ⟨by decide,by omega,rfl⟩]
  rfl
 refine⟨E,?_,u2.fin hE⟩;rcases hop with rfl;simp only[acs,aw8,aci,aeg,aa,Nat.reduceEqDiff,Nat.reduceLT,Nat.reduceLeDiff,Nat.reduceBEq,Nat.reduceAdd,bx,v0,vo,hD1,v1,hD2,v2,q0,i0,q1,i1,show(((9:Nat):Int)==3)=false from rfl,show(((9:Nat):Int)==4)=false from rfl,show(((9:Nat):Int)==10)=false from rfl,show(((9:Nat):Int)==5)=false from rfl,show(((9:Nat):Int)==8)=false from rfl,show(((9:Nat):Int)==7)=false from rfl,show(((9:Nat):Int)==11)=false from rfl,show(((9:Nat):Int)==9)=true from rfl,show(((9:Nat):Int)==6)=false from rfl,show(((9:Nat):Int)==12)=false from rfl,show(((9:Nat):Int)==13)=false from rfl,show(((9:Nat):Int)==14)=false from rfl,hE,b1,b2]
def ins_D(base){a H C}(hb:base<=a){op k}(hop:op=12\/op=13){iv d ns id g}(h:InS2 a H op iv d k ns id g C){off n}(hn:off+n=ns.length)(h1:0<=n):
 ∃H',evC (gq CT) itW base acs (ja 137 [(2,.ref a 0 0),(4,.ref (a+1) 0 0),(5,.ref (a+2) 0 0),(6,.sl id g off n 1)]) C=some (.ret,ja 137 [(4,.ref (a+1) 0 0)],H')/\a7p a H [.s (.int .u8 op),.s (.string d),.s (.string ⟨#[]⟩),.s (.string ⟨#[]⟩),.s (.int .i64 k),.s (.string ⟨#[]⟩),.s (.slice none 0 0),.sl id g off n 1] ns id g H':=by
 have bx:=h.box;have u0:=h.cu;simp only[an0]at u0
 have b1:base<=a+1:=by omega
 have b2:base<=a+2:=by omega
 obtain⟨D1,hD1⟩:∃X,C.set (a+2) (.cells 0 [.s (.int .u8 op),.s (.string d),.s (.string ⟨#[]⟩),.s (.string ⟨#[]⟩),.s (.int .i64 k),.s (.string ⟨#[]⟩),.s (.slice none 0 0),.sl id g off n 1])=X:=⟨_,rfl⟩;have u1:=u0.put hD1;have v1:=u1.cur;have v0:=u0.cur;obtain⟨E,hE⟩:∃X,D1.set (a+1) (.cells 0 [.s (.int .u8 op),.s (.string d),.s (.string ⟨#[]⟩),.s (.string ⟨#[]⟩),.s (.int .i64 k),.s (.string ⟨#[]⟩),.s (.slice none 0 0),.sl id g off n 1])=X:=⟨_,rfl⟩;have vo:=u1.out;simp only[yt,ow]at vo;refine⟨E,?_,u1.fin hE⟩
 rcases hop with rfl|rfl
 all_goals simp only[acs,aw8,aci,aeg,aa,Nat.reduceEqDiff,Nat.reduceLT,Nat.reduceLeDiff,Nat.reduceBEq,Nat.reduceAdd,bx,v0,vo,hD1,v1,show(((12:Nat):Int)==3)=false from rfl,show(((12:Nat):Int)==4)=false from rfl,show(((12:Nat):Int)==10)=false from rfl,show(((12:Nat):Int)==5)=false from rfl,show(((12:Nat):Int)==8)=false from rfl,show(((12:Nat):Int)==7)=false from rfl,show(((12:Nat):Int)==11)=false from rfl,show(((12:Nat):Int)==9)=false from rfl,show(((12:Nat):Int)==6)=false from rfl,show(((12:Nat):Int)==12)=true from rfl,show(((12:Nat):Int)==13)=false from rfl,show(((12:Nat):Int)==14)=false from rfl,show(((13:Nat):Int)==3)=false from rfl,show(((13:Nat):Int)==4)=false from rfl,show(((13:Nat):Int)==10)=false from rfl,show(((13:Nat):Int)==5)=false from rfl,show(((13:Nat):Int)==8)=false from rfl,show(((13:Nat):Int)==7)=false from rfl,show(((13:Nat):Int)==11)=false from rfl,show(((13:Nat):Int)==9)=false from rfl,show(((13:Nat):Int)==6)=false from rfl,show(((13:Nat):Int)==12)=false from rfl,show(((13:Nat):Int)==13)=true from rfl,show(((13:Nat):Int)==14)=false from rfl,hE,b1,b2]
def ins_E(base){a H C}(hb:base<=a){op k}(hop:op=1\/op=2){iv d ns id g}(h:InS2 a H op iv d k ns id g C){off n}(hn:off+n=ns.length)(h1:0<=n):
 ∃H',evC (gq CT) itW base acs (ja 137 [(2,.ref a 0 0),(4,.ref (a+1) 0 0),(5,.ref (a+2) 0 0),(6,.sl id g off n 1)]) C=some (.ret,ja 137 [(4,.ref (a+1) 0 0)],H')/\a7p a H [.s (.int .u8 op),.s (.string d),.s (.string ⟨#[]⟩),.s (.string ⟨#[]⟩),.s (.int .i64 k),.s (.string ⟨#[]⟩),.s (.slice none 0 0),.s (.slice none 0 0)] ns id g H':=by
 have bx:=h.box;have u0:=h.cu;simp only[an0]at u0
 have b1:base<=a+1:=by omega
 have b2:base<=a+2:=by omega
 have v0:=u0.cur;obtain⟨E,hE⟩:∃X,C.set (a+1) (.cells 0 [.s (.int .u8 op),.s (.string d),.s (.string ⟨#[]⟩),.s (.string ⟨#[]⟩),.s (.int .i64 k),.s (.string ⟨#[]⟩),.s (.slice none 0 0),.s (.slice none 0 0)])=X:=⟨_,rfl⟩;have vo:=u0.out;simp only[yt,ow]at vo;refine⟨E,?_,u0.fin hE⟩
 rcases hop with rfl|rfl
 all_goals simp only[acs,aw8,aci,aeg,aa,Nat.reduceEqDiff,Nat.reduceLT,Nat.reduceLeDiff,Nat.reduceBEq,Nat.reduceAdd,bx,v0,vo,show(((1:Nat):Int)==3)=false from rfl,show(((1:Nat):Int)==4)=false from rfl,show(((1:Nat):Int)==10)=false from rfl,show(((1:Nat):Int)==5)=false from rfl,show(((1:Nat):Int)==8)=false from rfl,show(((1:Nat):Int)==7)=false from rfl,show(((1:Nat):Int)==11)=false from rfl,show(((1:Nat):Int)==9)=false from rfl,show(((1:Nat):Int)==6)=false from rfl,show(((1:Nat):Int)==12)=false from rfl,show(((1:Nat):Int)==13)=false from rfl,show(((1:Nat):Int)==14)=false from rfl,show(((2:Nat):Int)==3)=false from rfl,show(((2:Nat):Int)==4)=false from rfl,show(((2:Nat):Int)==10)=false from rfl,show(((2:Nat):Int)==5)=false from rfl,show(((2:Nat):Int)==8)=false from rfl,show(((2:Nat):Int)==7)=false from rfl,show(((2:Nat):Int)==11)=false from rfl,show(((2:Nat):Int)==9)=false from rfl,show(((2:Nat):Int)==6)=false from rfl,show(((2:Nat):Int)==12)=false from rfl,show(((2:Nat):Int)==13)=false from rfl,show(((2:Nat):Int)==14)=false from rfl,hE,b1,b2]
def ins_F(base){a H C}(hb:base<=a){op k}(hop:op=3){iv d ns id g}(h:InS2 a H op iv d k ns id g C){off n}(hn:off+n=ns.length)(h1:0<=n):
 ∃H',evC (gq CT) itW base acs (ja 137 [(2,.ref a 0 0),(4,.ref (a+1) 0 0),(5,.ref (a+2) 0 0),(6,.sl id g off n 1)]) C=some (.ret,ja 137 [(4,.ref (a+1) 0 0)],H')/\a7p a H [.s (.int .u8 op),.s (.string d),.s (.string ⟨#[]⟩),.s (.string ⟨#[]⟩),.s (.int .i64 k),.s (.string ⟨#[]⟩),.s (.slice none 0 0),.s (.slice none 0 0)] ns id g H':=by
 have bx:=h.box;have u0:=h.cu;simp only[an0]at u0
 have b1:base<=a+1:=by omega
 have b2:base<=a+2:=by omega
 have v0:=u0.cur;obtain⟨E,hE⟩:∃X,C.set (a+1) (.cells 0 [.s (.int .u8 op),.s (.string d),.s (.string ⟨#[]⟩),.s (.string ⟨#[]⟩),.s (.int .i64 k),.s (.string ⟨#[]⟩),.s (.slice none 0 0),.s (.slice none 0 0)])=X:=⟨_,rfl⟩;have vo:=u0.out;simp only[yt,ow]at vo;refine⟨E,?_,u0.fin hE⟩;rcases hop with rfl;simp only[acs,aw8,aci,aeg,aa,Nat.reduceEqDiff,Nat.reduceLT,Nat.reduceLeDiff,Nat.reduceBEq,Nat.reduceAdd,bx,v0,vo,show(((3:Nat):Int)==3)=true from rfl,show(((3:Nat):Int)==4)=false from rfl,show(((3:Nat):Int)==10)=false from rfl,show(((3:Nat):Int)==5)=false from rfl,show(((3:Nat):Int)==8)=false from rfl,show(((3:Nat):Int)==7)=false from rfl,show(((3:Nat):Int)==11)=false from rfl,show(((3:Nat):Int)==9)=false from rfl,show(((3:Nat):Int)==6)=false from rfl,show(((3:Nat):Int)==12)=false from rfl,show(((3:Nat):Int)==13)=false from rfl,show(((3:Nat):Int)==14)=false from rfl,hE,b1,b2]
end
open Go.AM
def au1(op:Nat)(d:ByteArray)(k:Nat)(xv lv:V):List V:=[.s (.int .u8 op),.s (.string d),.s (.string ⟨#[]⟩),.s (.string ⟨#[]⟩),.s (.int .i64 k),.s (.string ⟨#[]⟩),xv,lv]
structure PhS (a L:Nat) (H:Heap) (d:ByteArray) (k:Nat) (ns:List ByteArray) (id g:Nat) (ls xs:List ByteArray) (lv xv:V) (C:Heap):Prop where
 out:getC C (a+1) 0=some yt
 cur:getC C (a+2) 0=some (au1 6 d k xv lv)
 nam:getC C id g=some (ns.map Sb)
 ge:a+3<=id/\id<L
 old:∀i,i<a->C[i]?=H[i]?
 l:uj L 1 C lv (yu ls)
 x:uj L 1 C xv (yu xs)
 ne:∀i g n,lv=.sl i g 0 n 1->∀g' n',xv≠.sl i g' 0 n' 1
 len:L<=C.length
def bdd{m H v l}(h:uj m 1 H v (yu l))(h0:l≠[]):∃id g,v=.sl id g 0 l.length 1/\m<=id:=by
 obtain⟨_,⟨e,_⟩|⟨id,g,e,_,k⟩⟩:=h
 .have:=jv List.length e;rw[yw]at this;exact absurd (jb this) h0
 .rw[yw]at e;exact⟨id,g,e,k⟩
def PhS.tr{a L H d k ns id g ls xs lv xv C}(h:PhS a L H d k ns id g ls xs lv xv C)(h0:ls≠[])(fr):trim L fr C=C:=by
 rcases ae2 L fr C with e|⟨_,_,e⟩
 .exact e
 .obtain⟨i,g',e1,e2⟩:=bdd h.l h0
  have:=e (a+2) 0 _ (by have:=h.ge;omega) h.cur i g' 0 ls.length 1 (by rw[<- e1];simp[au1])
  omega
def bi3{a L base H d k ns id g ls xs lv xv C}(h:PhS a L H d k ns id g ls xs lv xv C)(hb:base<=a)(s t)(hn:ls.length<2^40/\xs.length<2^40):
 ∃lv' D E xv' F G,qp (C++[.cells 0 [.s (.string s)]]) base 1 16 lv (.sl C.length 0 0 1 1)=some (lv',D)/\getC D (a+2) 0=some (au1 6 d k xv lv)/\D.set (a+2) (.cells 0 (au1 6 d k xv lv'))=E/\lv'.one=true/\getC E (a+2) 0=some (au1 6 d k xv lv')/\getC E id g=some (ns.map Sb)/\
   qp (E++[.cells 0 [.s (.string t)]]) base 1 16 xv (.sl E.length 0 0 1 1)=some (xv',F)/\getC F (a+2) 0=some (au1 6 d k xv lv')/\F.set (a+2) (.cells 0 (au1 6 d k xv' lv'))=G/\xv'.one=true/\PhS a L H d k ns id g (ls++[s]) (xs++[t]) lv' xv' G:=by
 have hge:=h.ge;have hlen:=h.len
 obtain⟨id1,g1,n1,D,a1,a2,a3,a4,a5⟩:=ag1 h.l (base:=base) (bytes:=16) (by omega) hlen (r:=[.s (.string s)]) rfl rfl (by rw[yw];omega)
 have kD:∀i,i<L->D[i]?=C[i]?:=fun i hi=>a4 i (by omega) fun g n e=>by
  have hl:=h.l;subst e;have:=tu hl;omega
 have gD:∀i g c,i<L->getC C i g=some c->getC D i g=some c:=fun i g c hi hc=>by
  unfold getC at hc |-;rw[kD i hi];exact hc
 have cD:=gD _ _ _ (by omega) h.cur
 have i1:=a2.lt id1 g1 n1 rfl;have j1:=tu a2
 have xne:∀g n,xv≠.sl id1 g 0 n 1:=fun g n e=>by
  rcases a5 with⟨g2,n2,e2⟩|e2
  .exact h.ne id1 g2 n2 e2 g n e
  .have:=h.x.lt id1 g n e;omega
 obtain⟨E,hE⟩:∃X,D.set (a+2) (.cells 0 (au1 6 d k xv (.sl id1 g1 0 n1 1)))=X:=⟨_,rfl⟩
 have lE:E.length=D.length:=by rw[<- hE,fe]
 have kE:∀i,i≠a+2->E[i]?=D[i]?:=fun i hi=>by rw[<- hE,ae (sj hi)]
 have xE:uj L 1 E xv (yu xs):=h.x.keep fun i g n e=>by
  have hx:=h.x;have hxl:=hx.lt i g n e
  have hge2:L<=i:=by subst e;exact tu hx
  rw[kE i (by omega),a4 i hxl fun g' n' e'=>h.ne i g' n' e' g n e]
 obtain⟨id2,g2,n2,F,b1,b2,b3,b4,b5⟩:=ag1 xE (base:=base) (bytes:=16) (by omega) (by omega) (r:=[.s (.string t)]) rfl rfl (by rw[yw];omega)
 have kF:∀i,i<L->F[i]?=E[i]?:=fun i hi=>b4 i (by omega) fun g n e=>by
  subst e;have:=tu xE;omega
 have cE:getC E (a+2) 0=some (au1 6 d k xv (.sl id1 g1 0 n1 1)):=hE▸kz cD _
 have cF:getC F (a+2) 0=some (au1 6 d k xv (.sl id1 g1 0 n1 1)):=by
  unfold getC at cE |-
  rw[kF (a+2) (by omega)]
  exact cE
 obtain⟨G,hG⟩:∃X,F.set (a+2) (.cells 0 (au1 6 d k (.sl id2 g2 0 n2 1) (.sl id1 g1 0 n1 1)))=X:=⟨_,rfl⟩
 have lG:G.length=F.length:=by rw[<- hG,fe]
 have kG:∀i,i≠a+2->G[i]?=F[i]?:=fun i hi=>by rw[<- hG,ae (sj hi)]
 have all:∀i,i<L->i≠a+2->G[i]?=C[i]?:=fun i hi hi2=>by rw[kG i hi2,kF i hi,kE i hi2,kD i hi]
 have gG:∀i g c,i<L->i≠a+2->getC C i g=some c->getC G i g=some c:=fun i g c hi hi2 hc=>by
  unfold getC at hc |-;rw[all i hi hi2];exact hc
 refine⟨_,D,E,_,F,G,a1,cD,hE,rfl,cE,?_,b1,cF,hG,rfl,⟨gG _ _ _ (by omega) (by omega) h.out,hG▸kz cF _,gG _ _ _ (by omega) (by omega) h.nam,hge,fun i hi=>by rw[all i (by omega) (by omega),h.old i hi],?_,?_,?_,by omega⟩⟩
 .have:=gD _ _ _ hge.2 h.nam;unfold getC at this |-
  rw[kE id (by omega)]
  exact this
 .rw[aen];refine a2.keep fun i g n e=>?_;cases e
  rw[kG _ (by omega),b4 _ (by omega) xne,kE _ (by omega)]
 .rw[aen];refine b2.keep fun i g n e=>?_;cases e;have:=tu b2
  exact kG _ (by omega)
 .intro i g n e g' n' e';cases e;cases e'
  rcases b5 with⟨g3,n3,e3⟩|e3
  .exact xne g3 n3 e3
  .omega
section
variable {CT:Nat->Option CFun}
def phL(ns:List ByteArray)(o:Nat)(m:Nat):List ByteArray:=(List.range m).map fun i=>ns.getD (o+2*i) ⟨#[]⟩
theorem ax9(ns o m):phL ns o (m+1)=phL ns o m++[ns.getD (o+2*m) ⟨#[]⟩]:=by
 unfold phL;rw[List.range_succ,bdo];rfl
def akl(ns o m):(phL ns o m).length=m:=by simp[phL]
set_option maxHeartbeats 2000000 in
def bjy(base:Nat){a:Nat}{H C:Heap}(hb:base<=a){k:Nat}{d:ByteArray}{ns:List ByteArray}{id g off m:Nat}(hn:off+2*m=ns.length)(hm:0<m)(hlim:m<2^39)(h:PhS a C.length H d k ns id g [] [] ow ow C):
 ∃lv xv D,itW (evC (gq CT) itW base aln) [] C.length (ja 137 [(4,.ref (a+1) 0 0),(5,.ref (a+2) 0 0),(6,.sl id g off (2*m) 1),(8,.s (.int .i64 0))]) C=some (.ext 3,ja 137 [(4,.ref (a+1) 0 0),(5,.ref (a+2) 0 0),(6,.sl id g off (2*m) 1),(8,.s (.int .i64 (2*m:Nat))),(100,.s (.bool false))],D)/\PhS a C.length H d k ns id g (phL ns off m) (phL ns (off+1) m) lv xv D:=by
 obtain⟨⟨lv,xv,D⟩,e1,e2⟩:=at7 m (fun i (s:V × V × Heap)=>PhS a C.length H d k ns id g (phL ns off i) (phL ns (off+1) i) s.1 s.2.1 s.2.2) (fun i (s:V × V × Heap)=>itW (evC (gq CT) itW base aln) [] C.length (ja 137 [(4,.ref (a+1) 0 0),(5,.ref (a+2) 0 0),(6,.sl id g off (2*m) 1),(8,.s (.int .i64 (2*i:Nat)))]) s.2.2) (by
  rintro i ⟨lv,xv,D⟩ hi hS;dsimp only at hS
  obtain⟨lv',D1,E,xv',F,G,b1,b2,b3,b4,b5,b6,b7,b8,b9,b10,b11⟩:=bi3 hS hb (ns.getD (off+2*i) ⟨#[]⟩) (ns.getD (off+1+2*i) ⟨#[]⟩) (by rw[akl,akl];omega)
  rw[<- ax9,<- ax9]at b11
  have ht:=b11.tr (by intro e;have:=akl ns off (i+1);rw[e]at this;cases this)
  have w1:IntKind.i64.wrap (((2*i:Nat):Int)+1)=((2*i+1:Nat):Int):=by rw[IntKind.wrap_i64];omega
  have w2:IntKind.i64.wrap (((2*i:Nat):Int)+2)=((2*(i+1):Nat):Int):=by rw[IntKind.wrap_i64];omega
  have hlt:(((2*i+1:Nat):Int)<((2*m:Nat):Int)):=by omega
  have x1:pg 1 (.sl id g off (2*m) 1) (.s (.int .i64 (2*i:Nat)))=some (.ref id g (off+2*i)):=by
   rw[alh,dw ⟨by omega,by omega,rfl⟩,og,ab1]
  have x2:pg 1 (.sl id g off (2*m) 1) (.s (.int .i64 (2*i+1:Nat)))=some (.ref id g (off+1+2*i)):=by
   rw[alh,dw ⟨by omega,by omega,rfl⟩,og,ab1]
   congr 2
   omega
  have y1:=ad4 hS.nam (o:=off+2*i) (by omega)
  have y2:=ad4 b6 (o:=off+1+2*i) (by omega)
  obtain⟨oo,hoo⟩:∃o,off+1+2*i=o:=⟨_,rfl⟩;rw[hoo]at x2 y2 b7;have cu:=hS.cur
  have hb2:base<=a+2:=by omega
  have o1:=hS.l.rd.one;have o2:=hS.x.rd.one;refine⟨(lv',xv',G),?_,b11⟩;dsimp only;simp only[au1]at cu b2 b3 b5 b8 b9;rw[kg];have hl:∀X,afx X .s (.sl id g off (2*m) 1)=some (.s (.int .i64 (2*m:Nat))):=fun _=>rfl;have cl:=yz b4;have cx:=yz b10;simp only[aeg,aa,reduceCtorEq,Nat.reduceEqDiff,Nat.reduceLT,Nat.reduceLeDiff,Nat.reduceBEq,Nat.reduceAdd,hl,w1,w2,hlt,x1,x2,y1,y2,cu,b1,b2,b3,b4,b5,b7,b8,b9,b10,cl,cx,hb2,ht]) 0 (ow,ow,C) (jo _) h
 dsimp only at e1 e2
 have ht:=e2.tr (by intro e;have:=akl ns off m;rw[e]at this;rw[d9]at this;omega)
 refine⟨lv,xv,D,e1.trans ?_,e2⟩
 have w1:IntKind.i64.wrap (((2*m:Nat):Int)+1)=((2*m+1:Nat):Int):=by rw[IntKind.wrap_i64];omega
 have hlt:¬(((2*m+1:Nat):Int)<((2*m:Nat):Int)):=by omega
 have hl:∀X,afx X .s (.sl id g off (2*m) 1)=some (.s (.int .i64 (2*m:Nat))):=fun _=>rfl;rw[kg];simp only[aeg,aa,Nat.reduceEqDiff,Nat.reduceLT,Nat.reduceLeDiff,Nat.reduceBEq,hl,w1,hlt,ht]
end
open Go.AM
def ao0(op:Nat)(d:ByteArray)(r:List ByteArray)(k:Nat):InsD:=match op with
 |4|10=>⟨op,d,⟨#[]⟩,⟨#[]⟩,k,r.getD 0 ⟨#[]⟩,r.drop 1,[]⟩
 |5|7|8|11=>⟨op,d,r.getD 0 ⟨#[]⟩,⟨#[]⟩,k,⟨#[]⟩,r.drop 1,[]⟩
 |9=>⟨op,d,r.getD 0 ⟨#[]⟩,r.getD 1 ⟨#[]⟩,k,⟨#[]⟩,[],[]⟩
 |6=>⟨op,d,⟨#[]⟩,⟨#[]⟩,k,⟨#[]⟩,phL r 1 (r.length / 2),phL r 0 (r.length / 2)⟩
 |12|13=>⟨op,d,⟨#[]⟩,⟨#[]⟩,k,⟨#[]⟩,[],r⟩
 |14=>⟨op,d,r.getD 0 ⟨#[]⟩,⟨#[]⟩,k,⟨#[]⟩,[],[]⟩
 |_=>⟨op,d,⟨#[]⟩,⟨#[]⟩,k,⟨#[]⟩,[],[]⟩
def a0n(op:Nat)(r:List ByteArray):Prop:=match op with
 |4|10|5|7|8|11=>1<=r.length
 |9=>2<=r.length
 |6=>∃m,r.length=2*m/\0<m
 |12|13|14|1|2|3=>True
 |_=>False
structure InsF (a:Nat) (H:Heap) (r:List V) (x:InsD) (H':Heap):Prop where
 res:getC H' (a+1) 0=some r
 old:∀i,i<a->H'[i]?=H[i]?
 len:r.length=8
 one:r.all V.one=true
 rd:∀H'',(∀i,a<=i->i<H'.length->H''[i]?=H'[i]?)->ac7 H'' r x
def aoe(ns:List ByteArray)(o i:Nat):(ns.drop o).getD i ⟨#[]⟩=ns.getD (o+i) ⟨#[]⟩:=by
 rw[jm,jm,jc]
def a9c{H:Heap}{id g off n:Nat}{ns:List ByteArray}(hc:getC H id g=some (ns.map Sb))(hn:off+n=ns.length):Rd H (.sl id g off n 1) ((ns.drop off).map Sb):=by
 have:=Rd.sl hc (off:=off) (n:=n) (by rw[aay];omega)
 rwa[rq (by rw[ig,aay];omega),<- List.map_drop]at this
def a7p.f{a:Nat}{H:Heap}{r:List V}{ns:List ByteArray}{id g:Nat}{H':Heap}(h:a7p a H r ns id g H'){x:InsD}{av lv:V}(e:r=zw x av lv)(ha:av=ow/\x.xs=[]\/∃o n,av=.sl id g o n 1/\o+n=ns.length/\x.xs=ns.drop o)(hl:lv=ow/\x.ls=[]\/∃o n,lv=.sl id g o n 1/\o+n=ns.length/\x.ls=ns.drop o)(hs:ns.length<2^63):InsF a H r x H':=by
 obtain⟨h1,h2,h3,h4⟩:=h
 have o1:av.one=true/\aak av:=by
  rcases ha with⟨rfl,_⟩|⟨o,n,rfl,_⟩
  .exact⟨rfl,bc7⟩
  .exact⟨rfl,aee _ _ _ _ _⟩
 have o2:lv.one=true/\aak lv:=by
  rcases hl with⟨rfl,_⟩|⟨o,n,rfl,_⟩
  .exact⟨rfl,bc7⟩
  .exact⟨rfl,aee _ _ _ _ _⟩
 refine⟨h1,h4,by rw[e];rfl,?_,fun H'' hk=>?_⟩
 .rw[e];simp only[zw,gp,iq,o1.1,o2.1,gy];rfl
 .have hc:getC H'' id g=some (ns.map Sb):=by
   have:=su h2;unfold getC at h2 |-
   rw[hk id (by omega) this]
   exact h2
  have q:∀{v:V} {l:List ByteArray},(v=ow/\l=[]\/∃o n,v=.sl id g o n 1/\o+n=ns.length/\l=ns.drop o)->Rd H'' v (l.map Sb)/\l.length<2^63:=by
   intro v l hv
   rcases hv with⟨rfl,rfl⟩|⟨o,n,rfl,q1,rfl⟩
   .exact⟨Rd.nil _,by decide⟩
   .exact⟨a9c hc q1,by rw[ig];omega⟩
  exact⟨av,lv,e,(q ha).1,o1.2,(q hl).1,o2.2,(q ha).2,(q hl).2⟩
section
variable {CT:Nat->Option CFun}
def bfw(base:Nat){a:Nat}{H C:Heap}(hb:base<=a){k:Nat}{iv:V}{d:ByteArray}{ns:List ByteArray}{id g:Nat}(h:InS2 a H 14 iv d k ns id g C){off n:Nat}(hn:off+n=ns.length):
 ∃H',evC (gq CT) itW base acs (ja 137 [(2,.ref a 0 0),(4,.ref (a+1) 0 0),(5,.ref (a+2) 0 0),(6,.sl id g off n 1)]) C=some (.ret,ja 137 [(4,.ref (a+1) 0 0)],H')/\a7p a H [.s (.int .u8 (14:Nat)),.s (.string d),.s (.string (ns.getD off ⟨#[]⟩)),.s (.string ⟨#[]⟩),.s (.int .i64 k),.s (.string ⟨#[]⟩),.s (.slice none 0 0),.s (.slice none 0 0)] ns id g H':=by
 have bx:=h.box;have u0:=h.cu;simp only[an0]at u0
 have b1:base<=a+1:=by omega
 have b2:base<=a+2:=by omega
 have v0:=u0.cur;by_cases hz:n=0
 .subst hz
  have hg:ns.getD off ⟨#[]⟩=⟨#[]⟩:=by rw[jm,jw (by omega)];rfl
  rw[hg];obtain⟨E,hE⟩:∃X,C.set (a+1) (.cells 0 [.s (.int .u8 (14:Nat)),.s (.string d),.s (.string ⟨#[]⟩),.s (.string ⟨#[]⟩),.s (.int .i64 k),.s (.string ⟨#[]⟩),.s (.slice none 0 0),.s (.slice none 0 0)])=X:=⟨_,rfl⟩;have vo:=u0.out;simp only[yt,ow]at vo;refine⟨E,?_,u0.fin hE⟩;have hl:∀X,afx X .s (.sl id g off 0 1)=some (.s (.int .i64 (0:Nat))):=fun _=>rfl
  have hlt:¬(((0:Nat):Int) > 0):=by omega
  simp only[acs,aw8,aci,aeg,aa,Nat.reduceEqDiff,Nat.reduceLT,Nat.reduceLeDiff,Nat.reduceBEq,Nat.reduceAdd,bx,v0,vo,hl,gt_iff_lt,qm,hE,b1,b2,show(((14:Nat):Int)==3)=false from rfl,show(((14:Nat):Int)==4)=false from rfl,show(((14:Nat):Int)==10)=false from rfl,show(((14:Nat):Int)==5)=false from rfl,show(((14:Nat):Int)==8)=false from rfl,show(((14:Nat):Int)==7)=false from rfl,show(((14:Nat):Int)==11)=false from rfl,show(((14:Nat):Int)==9)=false from rfl,show(((14:Nat):Int)==6)=false from rfl,show(((14:Nat):Int)==12)=false from rfl,show(((14:Nat):Int)==13)=false from rfl,show(((14:Nat):Int)==14)=true from rfl]
 .obtain⟨D1,hD1⟩:∃X,C.set (a+2) (.cells 0 [.s (.int .u8 (14:Nat)),.s (.string d),.s (.string (ns.getD off ⟨#[]⟩)),.s (.string ⟨#[]⟩),.s (.int .i64 k),.s (.string ⟨#[]⟩),.s (.slice none 0 0),.s (.slice none 0 0)])=X:=⟨_,rfl⟩;have u1:=u0.put hD1;have v1:=u1.cur;obtain⟨E,hE⟩:∃X,D1.set (a+1) (.cells 0 [.s (.int .u8 (14:Nat)),.s (.string d),.s (.string (ns.getD off ⟨#[]⟩)),.s (.string ⟨#[]⟩),.s (.int .i64 k),.s (.string ⟨#[]⟩),.s (.slice none 0 0),.s (.slice none 0 0)])=X:=⟨_,rfl⟩;have vo:=u1.out;simp only[yt,ow]at vo
  have q0:=ad4 h.nam (o:=off) (by omega)
  have i0:=anu (id:=id) (g:=g) (off:=off) (n:=n) (by omega)
  refine⟨E,?_,u1.fin hE⟩;have hl:∀X,afx X .s (.sl id g off n 1)=some (.s (.int .i64 n)):=fun _=>rfl
  have hlt:(((n:Nat):Int) > 0):=by omega
  simp only[acs,aw8,aci,aeg,aa,Nat.reduceEqDiff,Nat.reduceLT,Nat.reduceLeDiff,Nat.reduceBEq,Nat.reduceAdd,bx,v0,vo,hl,hlt,q0,i0,hD1,v1,hE,b1,b2,show(((14:Nat):Int)==3)=false from rfl,show(((14:Nat):Int)==4)=false from rfl,show(((14:Nat):Int)==10)=false from rfl,show(((14:Nat):Int)==5)=false from rfl,show(((14:Nat):Int)==8)=false from rfl,show(((14:Nat):Int)==7)=false from rfl,show(((14:Nat):Int)==11)=false from rfl,show(((14:Nat):Int)==9)=false from rfl,show(((14:Nat):Int)==6)=false from rfl,show(((14:Nat):Int)==12)=false from rfl,show(((14:Nat):Int)==13)=false from rfl,show(((14:Nat):Int)==14)=true from rfl]
def bfy(base){a H C}(hb:base<=a){k iv d ns id g}(h:InS2 a H 6 iv d k ns id g C){off m}(hn:off+2*m=ns.length)(hm:0<m)(hlim:m<2^39):
 ∃r H',evC (gq CT) itW base acs (ja 137 [(2,.ref a 0 0),(4,.ref (a+1) 0 0),(5,.ref (a+2) 0 0),(6,.sl id g off (2*m) 1)]) C=some (.ret,ja 137 [(4,.ref (a+1) 0 0)],H')/\InsF a H r ⟨6,d,⟨#[]⟩,⟨#[]⟩,k,⟨#[]⟩,phL ns (off+1) m,phL ns off m⟩ H':=by
 have hlt:=su h.nam;have bx:=h.box;have hge:=h.ge
 obtain⟨lv,xv,D,e1,e2⟩:=bjy (CT:=CT) base hb hn hm hlim ⟨h.out,h.cur,h.nam,⟨h.ge,hlt⟩,h.old,uj.start _ _ _,uj.start _ _ _,(fun i g n e=>by cases e),aj _⟩
 have b1:base<=a+1:=by omega
 have cu:=e2.cur;have vo:=e2.out;have o1:=e2.l.rd.one;have o2:=e2.x.rd.one;have cl:=yz o1;have cx:=yz o2;obtain⟨E,hE⟩:∃X,D.set (a+1) (.cells 0 (au1 6 d k xv lv))=X:=⟨_,rfl⟩
 have hk:∀i,i≠a+1->E[i]?=D[i]?:=fun i hi=>by rw[<- hE,ae (sj hi)]
 have lE:E.length=D.length:=by rw[<- hE,fe]
 have hlen:=e2.len
 have aw:∀{v:V} {l:List ByteArray},uj C.length 1 D v (yu l)->l.length<2^63->∀H'':Heap,(∀i,a<=i->i<E.length->H''[i]?=E[i]?)->Rd H'' v (l.map Sb)/\aak v/\l.length<2^63:=fun {v l} hv hl H'' hh=>by
  have:uj C.length 1 H'' v (yu l):=hv.keep fun i g n e=>by
   have h1:=hv.lt i g n e
   have h2:C.length<=i:=by subst e;exact tu hv
   rw[hh i (by omega) (by omega),hk i (by omega)]
  exact⟨(adr this).rd,asb.wide2 (adr this),hl⟩
 refine⟨au1 6 d k xv lv,E,?_,⟨hE▸kz vo _,fun i hi=>by rw[hk i (by omega),e2.old i hi],rfl,?_,fun H'' hh=>?_⟩⟩
 .simp only[yt,ow]at vo;simp only[au1]at cu hE;simp only[acs,aw8,aci,aeg,aa,Nat.reduceEqDiff,Nat.reduceLT,Nat.reduceLeDiff,Nat.reduceBEq,Nat.reduceAdd,bx,e1,cu,vo,o1,o2,hE,b1,show(((6:Nat):Int)==3)=false from rfl,show(((6:Nat):Int)==4)=false from rfl,show(((6:Nat):Int)==10)=false from rfl,show(((6:Nat):Int)==5)=false from rfl,show(((6:Nat):Int)==8)=false from rfl,show(((6:Nat):Int)==7)=false from rfl,show(((6:Nat):Int)==11)=false from rfl,show(((6:Nat):Int)==9)=false from rfl,show(((6:Nat):Int)==6)=true from rfl]
 .simp only[au1,gp,iq,o1,o2,gy];rfl
 .have q1:=aw e2.l (by rw[akl];omega) H'' hh
  have q2:=aw e2.x (by rw[akl];omega) H'' hh
  exact⟨xv,lv,rfl,q2.1,q2.2.1,q1.1,q1.2.1,q2.2.2,q1.2.2⟩
end
open Go.AM
def bf2{op r}(h:a0n op r):op∈[1,2,3,4,5,6,7,8,9,10,11,12,13,14]:=by
 unfold a0n at h
 split at h<;>first|decide|exact h.elim
def aub(ns:List ByteArray)(o:Nat):(ns.drop o).getD 0 ⟨#[]⟩=ns.getD o ⟨#[]⟩:=aoe ns o 0
def aya(ns:List ByteArray)(o i m:Nat):phL (ns.drop o) i m=phL ns (o+i) m:=by
 unfold phL;refine uk fun j _=>?_;rw[aoe,yh]
section
variable {CT:Nat->Option CFun}
def bf0(base:Nat){a:Nat}{H C}(hb:base<=a){op k:Nat}{iv d ns}{id g:Nat}(h:InS2 a H op iv d k ns id g C){off n:Nat}(hn:off+n=ns.length)(hN:a0n op (ns.drop off))(hs:ns.length<2^39):
 ∃r H',evC (gq CT) itW base acs (ja 137 [(2,.ref a 0 0),(4,.ref (a+1) 0 0),(5,.ref (a+2) 0 0),(6,.sl id g off n 1)]) C=some (.ret,ja 137 [(4,.ref (a+1) 0 0)],H')/\InsF a H r (ao0 op d (ns.drop off) k) H':=by
 have hm:=bf2 hN
 have ld:(ns.drop off).length=n:=by rw[ig];omega
 have n0:(ow:V)=ow/\([]:List ByteArray)=[]:=⟨rfl,rfl⟩
 have hs2:ns.length<2^63:=by omega
 have d1:(ns.drop off).drop 1=ns.drop (off+1):=by rw[qc]
 simp only[mq,xq,aiu]at hm
 have cA:∀{op:Nat},op=4\/op=10->InS2 a H op iv d k ns id g C->1<=n->∃r H',evC (gq CT) itW base acs (ja 137 [(2,.ref a 0 0),(4,.ref (a+1) 0 0),(5,.ref (a+2) 0 0),(6,.sl id g off n 1)]) C=some (.ret,ja 137 [(4,.ref (a+1) 0 0)],H')/\InsF a H r ⟨op,d,⟨#[]⟩,⟨#[]⟩,k,ns.getD off ⟨#[]⟩,ns.drop (off+1),[]⟩ H':=fun ho h h1=>by
  obtain⟨H',e1,e2⟩:=ins_A (CT:=CT) base hb ho h hn h1
  exact⟨_,H',e1,e2.f rfl (.inr ⟨off+1,n-1,rfl,by omega,rfl⟩) (.inl n0) hs2⟩
 have cB:∀{op:Nat},op=5\/op=7\/op=8\/op=11->InS2 a H op iv d k ns id g C->1<=n->∃r H',evC (gq CT) itW base acs (ja 137 [(2,.ref a 0 0),(4,.ref (a+1) 0 0),(5,.ref (a+2) 0 0),(6,.sl id g off n 1)]) C=some (.ret,ja 137 [(4,.ref (a+1) 0 0)],H')/\InsF a H r ⟨op,d,ns.getD off ⟨#[]⟩,⟨#[]⟩,k,⟨#[]⟩,ns.drop (off+1),[]⟩ H':=fun ho h h1=>by
  obtain⟨H',e1,e2⟩:=ins_B (CT:=CT) base hb ho h hn h1
  exact⟨_,H',e1,e2.f rfl (.inr ⟨off+1,n-1,rfl,by omega,rfl⟩) (.inl n0) hs2⟩
 have cD:∀{op:Nat},op=12\/op=13->InS2 a H op iv d k ns id g C->∃r H',evC (gq CT) itW base acs (ja 137 [(2,.ref a 0 0),(4,.ref (a+1) 0 0),(5,.ref (a+2) 0 0),(6,.sl id g off n 1)]) C=some (.ret,ja 137 [(4,.ref (a+1) 0 0)],H')/\InsF a H r ⟨op,d,⟨#[]⟩,⟨#[]⟩,k,⟨#[]⟩,[],ns.drop off⟩ H':=fun ho h=>by
  obtain⟨H',e1,e2⟩:=ins_D (CT:=CT) base hb ho h hn (jo _);exact⟨_,H',e1,e2.f rfl (.inl n0) (.inr ⟨off,n,rfl,hn,rfl⟩) hs2⟩
 have cE:∀{op:Nat},op=1\/op=2->InS2 a H op iv d k ns id g C->∃r H',evC (gq CT) itW base acs (ja 137 [(2,.ref a 0 0),(4,.ref (a+1) 0 0),(5,.ref (a+2) 0 0),(6,.sl id g off n 1)]) C=some (.ret,ja 137 [(4,.ref (a+1) 0 0)],H')/\InsF a H r ⟨op,d,⟨#[]⟩,⟨#[]⟩,k,⟨#[]⟩,[],[]⟩ H':=fun ho h=>by
  obtain⟨H',e1,e2⟩:=ins_E (CT:=CT) base hb ho h hn (jo _);exact⟨_,H',e1,e2.f rfl (.inl n0) (.inl n0) hs2⟩
 rcases hm with rfl|rfl|rfl|rfl|rfl|rfl|rfl|rfl|rfl|rfl|rfl|rfl|rfl|rfl
 .exact cE (.inl rfl) h
 .exact cE (.inr rfl) h
 .obtain⟨H',e1,e2⟩:=ins_F (CT:=CT) base hb rfl h hn (jo _);exact⟨_,H',e1,e2.f rfl (.inl n0) (.inl n0) hs2⟩
 .have h1:1<=(ns.drop off).length:=hN
  have q:=cA (.inl rfl) h (by omega)
  unfold ao0;rw[aub,d1];exact q
 .have h1:1<=(ns.drop off).length:=hN
  have q:=cB (.inl rfl) h (by omega)
  unfold ao0;rw[aub,d1];exact q
 .obtain⟨m,h1,h2⟩:∃m,(ns.drop off).length=2*m/\0<m:=hN
  obtain rfl:n=2*m:=by omega
  have q:=bfy (CT:=CT) base hb h hn h2 (by omega)
  unfold ao0
  rw[ld,bl4 m (by decide),aya,aya]
  exact q
 .have h1:1<=(ns.drop off).length:=hN
  have q:=cB (.inr (.inl rfl)) h (by omega)
  unfold ao0;rw[aub,d1];exact q
 .have h1:1<=(ns.drop off).length:=hN
  have q:=cB (.inr (.inr (.inl rfl))) h (by omega)
  unfold ao0;rw[aub,d1];exact q
 .have h1:2<=(ns.drop off).length:=hN
  obtain⟨H',e1,e2⟩:=ins_C (CT:=CT) base hb rfl h hn (by omega)
  unfold ao0;rw[aub,aoe];exact⟨_,H',e1,e2.f rfl (.inl n0) (.inl n0) hs2⟩
 .have h1:1<=(ns.drop off).length:=hN
  have q:=cA (.inr rfl) h (by omega)
  unfold ao0;rw[aub,d1];exact q
 .have h1:1<=(ns.drop off).length:=hN
  have q:=cB (.inr (.inr (.inr rfl))) h (by omega)
  unfold ao0;rw[aub,d1];exact q
 .exact cD (.inl rfl) h
 .exact cD (.inr rfl) h
 .obtain⟨H',e1,e2⟩:=bfw (CT:=CT) base hb h hn;unfold ao0;rw[aub];exact⟨_,H',e1,e2.f rfl (.inl n0) (.inl n0) hs2⟩
def aw9(op:Nat)(i0:List UInt8)(ns:List ByteArray)(k:Nat):InsD:=if i0=[78]then ao0 op (ns.getD 0 ⟨#[]⟩) (ns.drop 2) k else ao0 op ⟨#[]⟩ (ns.drop 1) k
def aua(op:Nat)(i0:List UInt8)(ns:List ByteArray):Prop:=if i0=[78]then 2<=ns.length/\a0n op (ns.drop 2)else 1<=ns.length/\a0n op (ns.drop 1)
def apk:∀(l:List Tok.T) (ns:List ByteArray),(o5 ns l).length<=ns.length+l.length:=by
 intro l
 induction l with
 |nil=>intro ns;exact aj _
 |cons t l ih=>
   intro ns;rw[o5]
   have:=ih (if t.kind=1 then ns++[⟨t.text.toArray⟩]else ns)
   rw[bn];by_cases h:t.kind=1
   .rw[dw h]at this |-;rw[gm,bi]at this;omega
   .rw[fu h]at this |-;omega
set_option maxHeartbeats 1000000 in
theorem azy(hT:CT ba3=some (.code aci))(base:Nat){H:Heap}(hb:base<=H.length){v iv:V}{l:List Tok.T}(hp:Pz H v l)(hn:l.length<2^38){items:List ByteArray}(hi:Rd H iv (items.map Sb))(hw:aak iv)(h0:0<items.length){op:Nat}(hN:aua op (items.getD 0 ⟨#[]⟩).data.toList (o5 [] l)):
 ∃r H',gq CT (.fn ba3 [] []) [.agg [.s (.int .u8 op),iv],v] base H=some (.agg r,H')/\Ext H H'/\r.length=8/\r.all V.one=true/\∀H'',(∀i,H.length<=i->i<H'.length->H''[i]?=H'[i]?)->ac7 H'' r (aw9 op (items.getD 0 ⟨#[]⟩).data.toList (o5 [] l) (aex 0 l)):=by
 obtain⟨P1,hP1⟩:∃X,H++[Ob.cells 0 [.s (.int .u8 op),iv]]=X:=⟨_,rfl⟩;obtain⟨P2,hP2⟩:∃X,P1++[Ob.cells 0 yt]=X:=⟨_,rfl⟩;obtain⟨Z3,hZ3⟩:∃X,P2++[Ob.cells 0 yt]=X:=⟨_,rfl⟩;obtain⟨P3,hP3⟩:∃X,P2++[Ob.cells 0 (a0o op 0)]=X:=⟨_,rfl⟩
 have l1:P1.length=H.length+1:=by rw[<- hP1,kw]
 have l2:P2.length=H.length+2:=by rw[<- hP2,kw,l1]
 have l3:P3.length=H.length+3:=by rw[<- hP3,kw,l2]
 have x1:Ext H P1:=hP1▸Ext.app _ _;have x2:Ext P1 P2:=hP2▸Ext.app _ _;have x3:Ext P2 P3:=hP3▸Ext.app _ _;have y3:Ext P2 Z3:=hZ3▸Ext.app _ _;have gb2:getC P2 H.length 0=some [.s (.int .u8 op),iv]:=jd (hP1▸jl H 0 _) x2
 have go2:getC P2 (H.length+1) 0=some yt:=by rw[<- l1,<- hP2];exact jl P1 0 _
 have gz:getC Z3 (H.length+2) 0=some yt:=by rw[<- l2,<- hZ3];exact jl P2 0 _
 have sz:Z3.set (H.length+2) (.cells 0 (a0o op 0))=P3:=by rw[<- hZ3,<- l2,uw,hP3]
 have st:InSt H.length H op iv 0 [] ow P3:=⟨jd gb2 x3,jd go2 x3,by rw[<- l2,<- hP3];exact jl P2 0 _,uj.start _ _ _,by omega,fun i hi=>by rw[x3.get (by omega),x2.get (by omega),x1.get hi]⟩
 obtain⟨nv,C,e3,s3⟩:=bjz (CT:=CT) base hb (aj _) hp (by omega) l 0 0 [] ow P3 rfl (jo _) (jo _) st
 obtain⟨ns,hns⟩:∃ns,o5 [] l=ns:=⟨_,rfl⟩;obtain⟨k,hk⟩:∃k,aex 0 l=k:=⟨_,rfl⟩
 have hnl:ns.length<=l.length:=by have:=apk l [];rw[hns]at this;simpa using this
 rw[hns]at hN s3 |-;rw[hk]at s3 |-
 have xC:Ext H C:=Ext.of_get (by have:=s3.len;omega) s3.old
 have hiC:=hi.ext xC
 obtain⟨id,g,env,hge,hc⟩:∃id g,nv=.sl id g 0 ns.length 1/\H.length+3<=id/\getC C id g=some (ns.map Sb):=by
  have hne:ns≠[]:=by
   intro e;unfold aua at hN;rw[e]at hN;split at hN
   .have:=hN.1;rw[d9]at this;omega
   .have:=hN.1;rw[d9]at this;omega
  obtain⟨_,⟨e,_⟩|⟨id,g,e,hc,k⟩⟩:=s3.nam
  .have:=jv List.length e;rw[yw]at this;exact absurd (jb this) hne
  .rw[yw]at e;rw[akf]at hc;exact⟨id,g,e,k,hc⟩
 subst env;have s2:InS2 H.length H op iv ⟨#[]⟩ k ns id g C:=⟨s3.box,s3.out,s3.cur,hc,hge,s3.old⟩
 have fin:∃d off n C1,evC (gq CT) itW base a0m (ja 137 [(1,v),(2,.ref H.length 0 0),(4,.ref (H.length+1) 0 0),(5,.ref (H.length+2) 0 0),(6,.sl id g 0 ns.length 1),(7,.s (.int .i64 l.length)),(15,.s (.bool false))]) C=some (.nrm,ja 137 [(2,.ref H.length 0 0),(4,.ref (H.length+1) 0 0),(5,.ref (H.length+2) 0 0),(6,.sl id g off n 1)],C1)/\InS2 H.length H op iv d k ns id g C1/\off+n=ns.length/\a0n op (ns.drop off)/\aw9 op (items.getD 0 ⟨#[]⟩).data.toList ns k=ao0 op d (ns.drop off) k:=by
  unfold aua at hN;unfold aw9;by_cases h78:(items.getD 0 ⟨#[]⟩).data.toList=[78]
  .rw[dw h78]at hN |-;obtain⟨C1,r1,r2⟩:=bfz (CT:=CT) base hb s2 hiC hw h0 h78 hN.1 (v:=v) (n:=l.length)
   exact⟨_,2,ns.length-2,C1,r1,r2,by omega,hN.2,rfl⟩
  .rw[fu h78]at hN |-;have r1:=ba6 (CT:=CT) base s2.box hiC hw h0 h78 hN.1 (v:=v) (id:=id) (g:=g) (n:=l.length)
   exact⟨_,1,ns.length-1,C,r1,s2,by omega,hN.2,rfl⟩
 obtain⟨d,off,n,C1,f1,f2,f3,f4,f5⟩:=fin
 obtain⟨r,H',t1,t2⟩:=bf0 (CT:=CT) base hb f2 f3 f4 (by omega)
 rw[f5]
 have ld:abf H' true 8 (.ref (H.length+1) 0 0)=some (.agg r):=by
  have e:(r.drop 0).take 8=r:=by rw[dx,rq (by rw[t2.len];exact aj _)]
  simp only[abf,t2.res,e,t2.len,jf];rfl
 refine⟨r,H',p8 (c:=aci) (k:=2) hT rfl (by decide) av1 ?_,Ext.of_get (by have:=su t2.res;omega) t2.old,t2.len,t2.one,t2.rd⟩
 have hb2:base<=H.length+2:=by omega
 have hio:=hi.one
 have e0:evC (gq CT) itW base (.region R23_0 [] K23_0) (ja 137 [(0,.agg [.s (.int .u8 op),iv]),(1,v)]) H=some (.nrm,ja 137 [(1,v),(2,.ref H.length 0 0),(4,.ref (H.length+1) 0 0)],P2):=by
  simp only[yt,ow]at hP2;simp only[aeg,simprocAttr,aa,hP1,hP2,l1,hio,lq]
  try rfl
 have e1:evC (gq CT) itW base (.region R23_1 [] [9,10,11]) (ja 137 [(1,v),(2,.ref H.length 0 0),(4,.ref (H.length+1) 0 0)]) P2=some (.nrm,ja 137 [(1,v),(2,.ref H.length 0 0),(4,.ref (H.length+1) 0 0),(5,.ref (H.length+2) 0 0)],P3):=by
  simp only[yt,ow]at hZ3 gz;simp only[a0o,ah5]at sz;simp only[aeg,simprocAttr,aa,gb2,hZ3,l2,gz,sz,hb2]
  try rfl
 have e2:evC (gq CT) itW base (.regionE R23_2 [] [6]) (ja 137 [(1,v),(2,.ref H.length 0 0),(4,.ref (H.length+1) 0 0),(5,.ref (H.length+2) 0 0)]) P3=some (.nrm,ja 137 [(1,v),(2,.ref H.length 0 0),(4,.ref (H.length+1) 0 0),(5,.ref (H.length+2) 0 0),(6,ow)],P3):=by
  simp only[aeg,simprocAttr,aa,ow]
 have e4:evC (gq CT) itW base (.seq (.regionE R23_3 [] [7]) (.block 0 (.loop [] alo))) (ja 137 [(1,v),(2,.ref H.length 0 0),(4,.ref (H.length+1) 0 0),(5,.ref (H.length+2) 0 0),(6,ow)]) P3=some (.nrm,ja 137 [(1,v),(2,.ref H.length 0 0),(4,.ref (H.length+1) 0 0),(5,.ref (H.length+2) 0 0),(6,.sl id g 0 ns.length 1),(7,.s (.int .i64 l.length)),(15,.s (.bool false))],C):=by
  simp only[ah5,ow]at e3;simp only[aeg,simprocAttr,aa,ow,l3,e3]
 have e5:evC (gq CT) itW base aw8 (ja 137 [(1,v),(2,.ref H.length 0 0),(4,.ref (H.length+1) 0 0),(5,.ref (H.length+2) 0 0),(6,.sl id g 0 ns.length 1),(7,.s (.int .i64 l.length)),(15,.s (.bool false))]) C=some (.ret,ja 137 [(4,.ref (H.length+1) 0 0)],H'):=by
  have hr:∃x y,aw8=.seq x (.seq y acs)/\a0m=.seq x y:=⟨_,_,rfl,rfl⟩;obtain⟨x,y,r1,r2⟩:=hr;rw[r1];rw[r2]at f1
  have key:evC (gq CT) itW base (.seq x (.seq y acs)) (ja 137 [(1,v),(2,.ref H.length 0 0),(4,.ref (H.length+1) 0 0),(5,.ref (H.length+2) 0 0),(6,.sl id g 0 ns.length 1),(7,.s (.int .i64 l.length)),(15,.s (.bool false))]) C=evC (gq CT) itW base (.seq (.seq x y) acs) (ja 137 [(1,v),(2,.ref H.length 0 0),(4,.ref (H.length+1) 0 0),(5,.ref (H.length+2) 0 0),(6,.sl id g 0 ns.length 1),(7,.s (.int .i64 l.length)),(15,.s (.bool false))]) C:=by
   simp only[evC];cases evC (gq CT) itW base x (ja 137 [(1,v),(2,.ref H.length 0 0),(4,.ref (H.length+1) 0 0),(5,.ref (H.length+2) 0 0),(6,.sl id g 0 ns.length 1),(7,.s (.int .i64 l.length)),(15,.s (.bool false))]) C with
   |none=>rfl
   |some p=>
     obtain⟨ex,fr,X⟩:=p;cases ex<;>rfl
  rw[key,om f1,t1]
 have hall:evC (gq CT) itW base aci.body (ja 137 [(0,.agg [.s (.int .u8 op),iv]),(1,v)]) H=some (.ret,ja 137 [(4,.ref (H.length+1) 0 0)],H'):=
  (om e0).trans ((om e1).trans ((om e2).trans ((om e4).trans e5)))
 have hfr:ja aci.ntmps [(0,.agg [.s (.int .u8 op),iv]),(1,v)]=ja 137 [(0,.agg [.s (.int .u8 op),iv]),(1,v)]:=rfl;refine(jv (a7i aci.results) hall).trans ?_;simp only[aci,simprocAttr,aa,ld]
 try rfl
end
open Go.AM
def a5o:∀(l:List Tok.T) (a:Nat),(l.map tV).flatten.drop (a*5)=((l.drop a).map tV).flatten:=by
 intro l
 induction l with
 |nil=>intro a;simp
 |cons t l ih=>
   intro a;cases a with
   |zero=>simp
   |succ a=>
     rw[pq,uu,aae,mf (by show 5<=_;omega),di,dh,<- ih a]
     congr 1
     show(a+1)*5-5=a*5;omega
def a5n:∀(l:List Tok.T) (n:Nat),(l.map tV).flatten.take (n*5)=((l.take n).map tV).flatten:=by
 intro l
 induction l with
 |nil=>intro a;simp
 |cons t l ih=>
   intro a;cases a with
   |zero=>simp
   |succ a=>
     rw[pq,uu,afv,rq (by show 5<=_;omega),az,pq,uu,<- ih a]
     congr 2
     show(a+1)*5-5=a*5;omega
def Wz(H:Heap)(tid tg:Nat)(ts:List Tok.T):Prop:=getC H tid tg=some (ts.map tV).flatten
def Wz.pz{H tid tg ts}(h:Wz H tid tg ts){a n}(hn:a+n<=ts.length):Pz H (.sl tid tg (a*5) n 5) ((ts.drop a).take n):=by
 have hl:((ts.drop a).take n).length=n:=by rw[l5,ig];omega
 refine⟨tid,tg,a*5,_,by rw[hl],h,?_⟩
 rw[hl,a5o,a5n]
def Wz.all{H tid tg ts}(h:Wz H tid tg ts):Pz H (.sl tid tg 0 ts.length 5) ts:=by
 have:=h.pz (a:=0) (n:=ts.length) (by omega)
 rwa[ap1,dx,afu]at this
def age(ln:Nat):List Tok.T->Nat
 | []=>0
 |t::l=>if t.kind=4\/t.line≠ln then 0 else age ln l+1
structure FI (L:Nat) (C:Heap) (fv:V) (gs:List FunD) (nm:ByteArray) (ps:List ByteArray) (bs:List BlkD):Prop where
 n:gs.length+1<2^21
 ex:∃(C0:Heap) (id g:Nat) (R:List (List V)) (pv bv:V) (K:Nat->Prop),fv=.sl id g 0 (gs.length+1) 3/\L<=id/\id<C0.length/\C0.length<=C.length/\getC C id g=some (R.flatten++[Sb nm,pv,bv])/\(∀r∈R,r.length=3)/\R.length=gs.length/\(∀j,L<=j->j<C0.length->j≠id->C[j]?=C0[j]?)/\
  (∀(i:Nat) (f:FunD),gs[i]?=some f->∃r:List V,R[i]?=some r/\∀H',(∀j,L<=j->j<C0.length->j≠id->H'[j]?=C0[j]?)->ah8 H' r f)/\pv.one=true/\(∀H',(∀j,L<=j->j<C0.length->j≠id->H'[j]?=C0[j]?)->Rd H' pv (ps.map Sb)/\aak pv)/\ps.length<2^63/\bv.one=true/\FS C0.length K C bv bs
def FI.done{L C fv gs nm ps bs}(h:FI L C fv gs nm ps bs):GS L C fv (gs++[⟨nm,ps,bs⟩]):=by
 obtain⟨C0,id,g,R,pv,bv,K,e,h1,h2,h3,h4,h5,h6,h7,h8,h9,h10,h11,h12,h13⟩:=h.ex;subst e
 refine⟨by rw[gm];exact h.n,R++[[Sb nm,pv,bv]],⟨fun r hr=>?_,.inr ⟨id,g,by simp[h6],?_,h1⟩⟩,by simp[h6],fun i f hf=>?_⟩
 .rcases mo.1 hr with hr|hr
  .exact h5 r hr
  .rw[eu]at hr;subst hr;rfl
 .rw[h4,qx];simp
 .have ag:∀H':Heap,(∀j,L<=j->j<C.length->(∀g' n,V.sl id g 0 (gs.length+1) 3≠.sl j g' 0 n 3)->H'[j]?=C[j]?)->∀j,L<=j->j<C0.length->j≠id->H'[j]?=C0[j]?:=fun H' ha j j1 j2 j3=>by
   rw[ha j j1 (by omega) (fun g' n e=>by cases e;exact j3 rfl),h7 j j1 j2 j3]
  by_cases hi:i<gs.length
  .rw[ah hi]at hf;obtain⟨r,r1,r2⟩:=h8 i f hf
   exact⟨r,by rw[ah (by omega)];exact r1,fun H' ha=>r2 H' (ag H' ha)⟩
  .have hil:i=gs.length:=by
    have:=(bmk.1 hf).1;simp at this;omega
   subst hil;rw[bz (aj _),yn]at hf;cases hf
   refine⟨[Sb nm,pv,bv],by rw[bz (by omega),h6,yn];rfl,fun H' ha=>?_⟩
   obtain⟨q1,q2⟩:=h10 H' (ag H' ha)
   exact⟨pv,bv,rfl,q1,q2,h11,h13.done fun j j1 j2=>ha j (by omega) j2 fun g' n e=>by cases e;omega⟩
def FI.keep{L C C' fv gs nm ps bs}(h:FI L C fv gs nm ps bs)(hk:∀j,L<=j->j<C.length->C'[j]?=C[j]?)(hl:C.length<=C'.length):FI L C' fv gs nm ps bs:=by
 obtain⟨C0,id,g,R,pv,bv,K,e,h1,h2,h3,h4,h5,h6,h7,h8,h9,h10,h11,h12,h13⟩:=h.ex
 refine⟨h.n,C0,id,g,R,pv,bv,K,e,h1,h2,by omega,?_,h5,h6,fun j j1 j2 j3=>by rw[hk j j1 (by omega),h7 j j1 j2 j3],h8,h9,h10,h11,h12,h13.keep (fun j j1 j2=>hk j (by omega) j2) hl⟩
 unfold getC at h4 |-
 rw[hk id h1 (by omega)]
 exact h4
def FI.start{L base C D fv gs}(h:GS L C fv gs)(hb:base<=L)(hL:L<=C.length)(hk:∀j,L<=j->j<C.length->D[j]?=C[j]?)(hl:C.length<=D.length){nm ps pv}(hp1:pv.one=true)(hp:∀H':Heap,(∀j,C.length<=j->j<D.length->H'[j]?=D[j]?)->Rd H' pv (ps.map Sb)/\aak pv)(hps:ps.length<2^63)(hn:gs.length+1<2^21){z8}(hz:z8<L):
 ∃w D2,qp (D++[.cells 0 [Sb nm,pv,ow]]) base 3 64 fv (.sl D.length 0 0 1 3)=some (w,D2)/\w.one=true/\D.length<=D2.length/\(∀j,j<L->D2[j]?=D[j]?)/\∀ob,FI L (D2.set z8 ob) w gs nm ps []:=by
 obtain⟨R,w1,w2,w3⟩:=h.rows
 have w1':uj L 3 D fv R:=w1.keep fun id g n e=>by subst e;exact hk id (tu w1) (w1.lt id g n rfl)
 obtain⟨id,g,n,D2,a1,a2,a3,a4,a5⟩:=ag1 w1' (base:=base) (bytes:=64) hb (by omega) (r:=[Sb nm,pv,ow]) rfl (by simp only[gp,iq,hp1,gy];rfl) (by rw[w2];omega)
 have hid:L<=id:=tu a2
 have hlow:∀j,j<L->D2[j]?=D[j]?:=fun j hj=>a4 j (by omega) fun g' n' e=>by
  subst e;have:=tu w1';omega
 have hidl:=a2.lt id g n rfl;refine⟨_,D2,a1,rfl,a3,hlow,fun ob=>?_⟩;obtain⟨D3,hD3⟩:∃X,D2.set z8 ob=X:=⟨_,rfl⟩;rw[hD3]
 have l3:D3.length=D2.length:=by rw[<- hD3,fe]
 have k3:∀j,L<=j->D3[j]?=D2[j]?:=fun j hj=>by rw[<- hD3,ae (by omega)]
 have a2c:=a2
 obtain⟨_,⟨e,_⟩|⟨id',g',e,hc,_⟩⟩:=a2c
 .simp at e
 .cases e
  have hlenR:(R++[[Sb nm,pv,ow]]).length=gs.length+1:=by simp[w2]
  refine⟨hn,D3,id,g,R,pv,ow,fun _=>False,by rw[hlenR],hid,by omega,aj _,?_,fun r hr=>w1.1 r hr,w2,fun _ _ _ _=>rfl,fun i f hf=>?_,hp1,fun H' ha=>?_,hps,rfl,FS.start _ _⟩
  .have e2:getC D3 id g=getC D2 id g:=by unfold getC;rw[k3 id hid]
   rw[e2,hc,qx];simp
  .obtain⟨r,r1,r2⟩:=w3 i f hf;refine⟨r,r1,fun H' ha=>r2 H' fun j j1 j2 j3=>?_⟩
   have hji:j≠id:=fun e=>by
    rcases a5 with⟨g2,n2,e2⟩|e2
    .exact j3 g2 n2 (e▸e2)
    .omega
   rw[ha j j1 (by omega) hji,k3 j j1,a4 j (by omega) j3,hk j j1 j2]
  .refine hp H' fun j j1 j2=>?_
   have hvj:∀g n,fv≠.sl j g 0 n 3:=fun g n e=>by
    have:=w1.lt j g n e;omega
   have hji:j≠id:=fun e=>by
    rcases a5 with⟨g2,n2,e2⟩|e2
    .exact hvj g2 n2 (e▸e2)
    .omega
   rw[ha j (by omega) (by omega) hji,k3 j (by omega),a4 j j2 hvj]
def FI.addB{L base C fv gs nm ps bs}(h:FI L C fv gs nm ps bs)(hb:base<=L)(lb)(hn:bs.length+1<2^21):
 ∃id g c0 pv bv w C',fv=.sl id g 0 (gs.length+1) 3/\L<=id/\getC C id g=some (c0++[Sb nm,pv,bv])/\c0.length=gs.length*3/\bv.one=true/\qp (C++[.cells 0 [Sb lb,ow]]) base 2 40 bv (.sl C.length 0 0 1 2)=some (w,C')/\w.one=true/\getC C' id g=some (c0++[Sb nm,pv,bv])/\C.length<=C'.length/\(∀j,j<L->C'[j]?=C[j]?)/\FI L (C'.set id (.cells g (c0++[Sb nm,pv,w]))) fv gs nm ps (bs++[⟨lb,[]⟩])/\(V.appObj bv=some none\/∃x,V.appObj bv=some (some x)/\id<x):=by
 obtain⟨C0,id,g,R,pv,bv,K,e,h1,h2,h3,h4,h5,h6,h7,h8,h9,h10,h11,h12,h13⟩:=h.ex
 obtain⟨id',g',n',C',K',a1,a2,a3,a4,a5⟩:=h13.addB (base:=base) (by omega) (by omega) lb hn
 have gC:getC C' id g=some (R.flatten++[Sb nm,pv,bv]):=by
  unfold getC at h4 |-;rw[a5 id h2];exact h4
 obtain⟨C3,hC3⟩:∃X,C'.set id (.cells g (R.flatten++[Sb nm,pv,.sl id' g' 0 n' 2]))=X:=⟨_,rfl⟩
 have k3:∀j,j≠id->C3[j]?=C'[j]?:=fun j hj=>by rw[<- hC3,ae (sj hj)]
 have l3:C3.length=C'.length:=by rw[<- hC3,fe]
 refine⟨id,g,R.flatten,pv,bv,_,C',e,h1,h4,by rw[ac5 R h5,h6],h12,a1,rfl,gC,a4,fun j hj=>a5 j (by omega),?_,?_⟩
 .rw[hC3]
  exact⟨h.n,C0,id,g,R,pv,_,K',e,h1,h2,by omega,hC3▸kz gC _,h5,h6,fun j j1 j2 j3=>by rw[k3 j j3,a5 j j2,h7 j j1 j2 j3],h8,h9,h10,h11,rfl,a2.keep (fun j j1 j2=>k3 j (by omega)) (by omega)⟩
 .obtain⟨RB,w1,_⟩:=h13.rows
  obtain⟨_,⟨_,e2⟩|⟨i2,g2,e2,_,k2⟩⟩:=w1
  .subst e2;exact .inl rfl
  .subst e2
   exact .inr ⟨_,rfl,by omega⟩
def FS.cut{m M}{K:Nat->Prop}{C T bv bs}(h:FS m K C bv bs)(hT:∀i,i<M->T[i]?=C[i]?)(hM:M<=T.length)(hK:∀i,K i->i<M)(hb:∀id g n,bv=.sl id g 0 n 2->id<M)(hcl:∀id g c,id<M->getC C id g=some c->∀i h o n z,V.sl i h o n z∈c->i<M):FS m K T bv bs:=by
 obtain⟨RB,w1,w2,w3⟩:=h.rows
 have hag:∀H',Agr K T H'->Agr K C H':=fun H' ha id hid=>by rw[ha id hid,hT id (hK id hid)]
 refine⟨fun id hid=>by obtain⟨k1,k2,k3⟩:=h.k id hid;exact⟨k1,by have:=hK id hid;omega,k3⟩,h.n,RB,w1.keep fun id g n e=>hT id (hb id g n e),w2,fun i b hb'=>?_⟩
 obtain⟨cv,c1,c2,c3,c4⟩:=w3 i b hb';refine⟨cv,c1,c2,fun hi H' ha=>c3 hi H' (hag H' ha),fun hi=>?_⟩;obtain⟨RC,r1,r2,r3,r4⟩:=c4 hi;refine⟨RC,r1.keep fun id g n e=>?_,r2,r3,fun j x hx=>?_⟩
 .refine hT id ?_
  obtain⟨_,⟨e2,_⟩|⟨idB,gB,e2,hc,_⟩⟩:=w1
  .rw[e2]at c1;simp at c1
  .refine hcl idB gB _ (hb idB gB _ e2) hc id g 0 n 8 ?_
   exact aoj.2 ⟨_,ik c1,by rw[e];simp⟩
 .obtain⟨r,s1,s2⟩:=r4 j x hx;exact⟨r,s1,fun H' ha=>s2 H' (hag H' ha)⟩
def bf1{M:Nat}{C1:Heap}{r:List V}{x:InsD}(hx:∀H':Heap,(∀i,M<=i->i<C1.length->H'[i]?=C1[i]?)->ac7 H' r x)(hr:∀i h o n z,V.sl i h o n z∈r->i<M):∀H':Heap,ac7 H' r x:=by
 obtain⟨D,hD⟩:∃D:Heap,List.replicate M Ob.dead++C1.drop M=D:=⟨_,rfl⟩
 have hlo:∀i,i<M->D[i]?=some Ob.dead:=fun i hi=>by
  rw[<- hD,ah (by rw[afl];exact hi),bl5,dw hi]
 have hhi:∀i,M<=i->D[i]?=C1[i]?:=fun i hi=>by
  rw[<- hD,bz (by rw[afl];exact hi),afl,jc]
  congr 1
  omega
 obtain⟨av,lv,e,q1,q2,q3,q4,q5,q6⟩:=hx D fun i h1 _=>hhi i h1
 have key:∀{v:V} {l:List ByteArray},v∈r->Rd D v (l.map Sb)->aak v->∀H',Rd H' v (l.map Sb):=by
  intro v l hv hq hw H'
  rcases hq.cases with⟨e1,e2|e2⟩|⟨es,e2,_⟩|⟨id,g,off,n,c,e2,hc,_⟩
  .rw[e1,e2];exact Rd.nil _
  .rw[e1,e2];exact Rd.esl _
  .exact absurd e2 (hw _ _)
  .exfalso;subst e2;have:=hr id g off n 1 hv;unfold getC at hc;rw[hlo id this]at hc;cases hc
 intro H'
 exact⟨av,lv,e,key (by rw[e];simp[zw]) q1 q2 H',q2,key (by rw[e];simp[zw]) q3 q4 H',q4,q5,q6⟩
def FI.addI{L base C fv gs nm ps b0 bl}(h:FI L C fv gs nm ps (b0++[bl]))(hb:base<=L):
 ∃id g c0 pv idB gB R0 cv,fv=.sl id g 0 (gs.length+1) 3/\L<=id/\getC C id g=some (c0++[Sb nm,pv,.sl idB gB 0 (b0.length+1) 2])/\c0.length=gs.length*3/\L<=idB/\getC C idB gB=some (R0++[Sb bl.label,cv])/\R0.length=b0.length*2/\cv.one=true/\
   ∀(C1:Heap) (r:List V) (x:InsD),(∀j,L<=j->j<C.length->C1[j]?=C[j]?)->C.length<=C1.length->r.length=8->r.all V.one=true->(∀H':Heap,(∀i,C.length<=i->i<C1.length->H'[i]?=C1[i]?)->ac7 H' r x)->bl.code.length+1<2^21->
     ∃w C2,qp (C1++[.cells 0 r]) base 8 128 cv (.sl C1.length 0 0 1 8)=some (w,C2)/\w.one=true/\getC C2 idB gB=some (R0++[Sb bl.label,cv])/\C1.length<=C2.length/\(∀j,j<L->C2[j]?=C1[j]?)/\(V.appObj cv=some none\/∃x,V.appObj cv=some (some x)/\L<=x)/\∀fr,FI L (trim C.length fr (C2.set idB (.cells gB (R0++[Sb bl.label,w])))) fv gs nm ps (Go.Proofs.YtbocmenkkjbigaaDoor.addI (b0++[bl]) x):=by
 obtain⟨C0,id,g,R,pv,bv,K,e,h1,h2,h3,h4,h5,h6,h7,h8,h9,h10,h11,h12,h13⟩:=h.ex
 obtain⟨idB,gB,R0,cv,hbv,i1,i2,i3,i4,i5⟩:=h13.addI (base:=base) (by omega) (by omega)
 subst hbv
 refine⟨id,g,R.flatten,pv,idB,gB,R0,cv,e,h1,h4,by rw[ac5 R h5,h6],by omega,i2,i3,i4,fun C1 r x hk hl hr hro hx hn=>?_⟩
 obtain⟨id',g',n',C2,j1,j2,j3,j4,j5,j6,cc,j7⟩:=i5 C1 r x (fun i=>C.length<=i/\i<C1.length) (fun j j1 j2=>hk j (by omega) j2) hl hr hro (fun _ h=>h) (fun H' hh=>hx H' fun i a b=>hh i ⟨a,b⟩) hn
 obtain⟨C3,hC3⟩:∃X,C2.set idB (.cells gB (R0++[Sb bl.label,.sl id' g' 0 n' 8]))=X:=⟨_,rfl⟩;rw[hC3]at j3
 have k3:∀j,j≠idB->C3[j]?=C2[j]?:=fun j hj=>by rw[<- hC3,ae (sj hj)]
 have l3:C3.length=C2.length:=by rw[<- hC3,fe]
 have hidB:=su i2
 have gF:getC C3 id g=some (R.flatten++[Sb nm,pv,.sl idB gB 0 (b0.length+1) 2]):=by
  unfold getC at h4 |-
  rw[k3 id (by omega),j5 id h2,hk id h1 (by omega)]
  exact h4
 have lo:∀j,L<=j->j<C0.length->j≠id->C3[j]?=C0[j]?:=fun j q1 q2 q3=>by rw[k3 j (by omega),j5 j q2,hk j q1 (by omega),h7 j q1 q2 q3]
 refine⟨_,C2,j1,rfl,j2,j4,fun j hj=>j5 j (by omega),?_,fun fr=>?_⟩
 .obtain⟨RB,w1,w2,w3⟩:=h13.rows
  obtain⟨cv',c1,_,_,c4⟩:=w3 b0.length bl (by rw[bz (aj _),yn];rfl)
  obtain⟨RC,r1,_⟩:=c4 (by simp)
  have ecv:cv'=cv:=by
   obtain⟨_,⟨e2,_⟩|⟨i3',g3',e2,hc,_⟩⟩:=w1
   .rw[e2]at c1;simp at c1
   .obtain⟨p1,p2,_⟩:=V.sl.inj e2;rw[<- p1,<- p2,i2]at hc
    have hRB:RB=RB.take b0.length++[[Sb bl.label,cv']]:=by
     have e:=ale (l:=RB) (i:=b0.length);rw[c1]at e;rw[gm,bi]at w2
     exact(rq (l:=RB) (i:=b0.length+1) (by omega)).symm.trans e
    rw[hRB,qx]at hc;have hq:=jk hc
    have:R0++[Sb bl.label,cv]=(RB.take b0.length).flatten++[Sb bl.label,cv']:=by rw[hq];simp
    have hl:=jv List.getLast? this;simp at hl;exact hl.symm
  subst ecv
  obtain⟨_,⟨_,e2⟩|⟨i2',g2,e2,_,k2⟩⟩:=r1
  .subst e2;exact .inl rfl
  .subst e2;exact .inr ⟨_,rfl,by omega⟩
 .rw[hC3]
  rcases ae2 C.length fr C3 with et|⟨et,_,ecl⟩
  .rw[et]
   exact⟨h.n,C0,id,g,R,pv,_,_,e,h1,h2,by omega,gF,h5,h6,lo,h8,h9,h10,h11,h12,j3⟩
  .have gB3:getC C3 idB gB=some (R0++[Sb bl.label,.sl id' g' 0 n' 8]):=hC3▸kz j2 _
   have hid':id'<C.length:=ecl idB gB _ hidB gB3 id' g' 0 n' 8 (by simp)
   have g3:getC C3 id' g'=some (cc++r):=by
    unfold getC at j7 |-;rw[k3 id' j6];exact j7
   have hany:=bf1 hx fun i h o n z hm=>ecl id' g' _ hid' g3 i h o n z (lh _ hm)
   obtain⟨id2,g2,n2,C2',q1,q2,q3,_⟩:=i5 C1 r x (fun _=>False) (fun j j1 j2=>hk j (by omega) j2) hl hr hro (fun _ h=>h.elim) (fun H' _=>hany H') hn
   rw[j1]at q1;cases q1;rw[hC3]at q3;have hT:∀i,i<C.length->(trim C.length fr C3)[i]?=C3[i]?:=fun i hi=>acr _ _ _ hi
   have lT:C.length<=(trim C.length fr C3).length:=by rw[et,l5];omega
   refine⟨h.n,C0,id,g,R,pv,_,_,e,h1,h2,by omega,?_,h5,h6,fun j a b c=>by rw[hT j (by omega),lo j a b c],h8,h9,h10,h11,h12,q3.cut hT lT (fun i hi=>?_) (fun a b c e=>?_) ecl⟩
   .unfold getC at gF |-
    rw[hT id (by omega)]
    exact gF
   .rcases hi with hi|hi
    .exact(h13.k i hi).2.1
    .exact hi.elim
   .cases e;exact hidB
end Go.Proofs.YtbocmenkkjbigaaDoor
