/- Texts of the proof: RdsA, TokP6, RdsB, AmJ, AmV, AmR, RdX, RdJ1, RdJ2, RdJ3, RdY1, RdS11, RdR1, RdR2, RdR3, RdS9, RdN1, RdN2, RdN3, RdR4, RdS12, RdR5, RdR6, RdR7, RdR8, RdR9, RdRA. -/
import Derived.Test.YtbocmenkkjbigaaDoorP0
import Derived.Test.YtbocmenkkjbigaaDoorP1
import Derived.Test.YtbocmenkkjbigaaDoorP2
import Derived.Test.YtbocmenkkjbigaaDoorP3
import Derived.Test.YtbocmenkkjbigaaDoorP4
import Derived.Shelf.Small.Strs
import Derived.Shelf.Strconv.Atoi
import Derived.ProofKit
import Derived.OpenShut
import Derived.ChangeArms
import Derived.FnData
import Derived.DataReads
import Derived.ChangeOld
import Derived.LaidMore
import Derived.Stop.Joined
import Derived.SevenTiedAt
import Derived.Test.YtbocmenkkjbigaaDoorRows
import Derived.Test.YtbocmenkkjbigaaDoorCards
import Derived.Test.YtbocmenkkjbigaaDoorTie
set_option linter.all false
set_option maxRecDepth 100000
namespace Go.Proofs.YtbocmenkkjbigaaDoor
open Go.dO
def JL{n:Nat}(h:n+1<2^63):IntKind.i64.wrap ((n:Int)+1)=((n+1:Nat):Int):=by rw[IntKind.wrap_i64];omega
def CM{H H' v l}(h:ga 8 la H v l)(k:Ext H H'):ga 8 la H' v l:=ga.ext (P:=la) la.ext h k
def CB{H H' v l}(h:ga 2 q8 H v l)(k:Ext H H'):ga 2 q8 H' v l:=ga.ext (P:=q8) q8.ext h k
def ga.lt{α:Type}{w}{P:az->List V->α->Prop}{H v}{l:List α}(h:ga w P H v l):l.length<2^63:=by obtain⟨_,_,_,h,_⟩:=h;exact h
structure Ey (ah:Nat->Option c7):Prop where
 texts:ah Qn=some (.code xd)
 same:ah Zq=some (.code xW)
section
variable {ah:Nat->Option c7}
def as7(base:Nat){D:az}{v w:V}{l:List ByteArray}(bp:Rd D v (l.map a7))(aP:hF v)(bC:Rd D w (l.map a7))(bP:hF w)(aN:l.length<2^63):
 aG (aC (aU ah) aG base Ms) [] D.length (au 26 [(0,v),(1,w),(5,bg 0)]) D=some (.ext 0,au 26 [(0,v),(1,w),(5,bg l.length),(14,aL false)],D):=by
 have e0:=Fx bp
 have h:=azI l.length (fun k=>aG (aC (aU ah) aG base Ms) [] D.length (au 26 [(0,v),(1,w),(5,bg k)]) D) (fun k an=>by
  have eD:((k:Int)<((l.length:Nat):Int)):=by omega
  have A9:=JL (n:=k) (by omega)
  obtain⟨y,ea,ey⟩:=HP bp aP an;obtain⟨z,gX,z2⟩:=HP bC bP an;have e:((l.getD k ⟨#[]⟩).data.toList==(l.getD k ⟨#[]⟩).data.toList)=true:=lz _;rw[eo];simp only[bg,simprocAttr,S4,aM,e0,eD,ea,ey,gX,z2,A9,Aa rfl]) 0 (fa _)
 rw[rD]at h;refine h.trans ?_;rw[eo];simp only[bg,simprocAttr,aL,S4,aM,e0,nq,Aa rfl]
def Pp(aR:ah Qn=some (.code xd))(base:Nat){D:az}{v w:V}{l:List ByteArray}(bp:Rd D v (l.map a7))(aP:hF v)(bC:Rd D w (l.map a7))(bP:hF w)(aN:l.length<2^63):
 aU ah (.fn Qn [] []) [v,w] base D=some (aL true,D):=by
 have f0:=as7 (ah:=ah) base bp aP bC bP aN;have qU:=Fx bp;have nh:=Fx bC;have e:(((l.length:Nat):Int)==((l.length:Nat):Int))=true:=lz _
 refine ih (c:=xd) aR (by simp[xd]) ?_
 simp only[bg,aL]at f0;simp only[aL,simprocAttr,xd,S4,aM,qU,nh,f0]
set_option maxHeartbeats 1000000 in
def aAc(h:Ey ah)(base:Nat){ej:az}(af:base<=ej.length){z9 xS:Nat}{eY bZ s9:V}{l:List gf}(ami:ao ej z9 0=some [eY,bZ])(arG:ao ej xS 0=some [eY,s9])(aa:ga 8 la ej bZ l)(aQ:ga 8 la ej s9 l){v2 v3 v6 Al:V}{n5 n8:Int}:
 ∃bh,aG (aC (aU ah) aG base IZ) [] ej.length (au 164 [(2,v2),(3,v3),(5,bg n5),(6,v6),(7,Al),(8,bg n8),(9,.ref z9 0 0),(10,.ref xS 0 0),(11,bg 0)]) ej=some (.ext 4,(au 164 [(2,v2),(3,v3),(5,bg n5),(6,v6),(7,Al),(8,bg n8),(9,.ref z9 0 0),(10,.ref xS 0 0),(11,bg l.length),(95,aL false)]),bh)/\Ext ej bh:=by
 have aN:=aa.lt
 obtain⟨C,aK,dS⟩:=F9 l.length (fun _ C=>Ext ej C) (fun k C=>aG (aC (aU ah) aG base IZ) [] ej.length (au 164 [(2,v2),(3,v3),(5,bg n5),(6,v6),(7,Al),(8,bg n8),(9,.ref z9 0 0),(10,.ref xS 0 0),(11,bg k)]) C) (by
  intro k C an bx
  have eD:((k:Int)<((l.length:Nat):Int)):=by omega
  have A9:=JL (n:=k) (by omega)
  have tw:base<=C.length:=by have:=bx.le;omega
  have g9:=df ami bx;have g10:=df arG bx;have e0:=(CM aa bx).len;have uN:l[k]?=some (l[k]):=dy an;obtain⟨x,FG⟩:∃x,l[k]=x:=⟨_,rfl⟩;rw[FG]at uN;obtain⟨y,ZN,ea,ey,nO,_⟩:=aa.pC uN;obtain⟨z,Bz,gX,z2,z3,_⟩:=aQ.pC uN;have yW:=nO C bx;have y4:=z3 C bx;obtain⟨cd,bB,rfl,bp,aP,bj,c4,cw,bN⟩:=ey;obtain⟨DN,lw,rfl,cn,dK,iE,yo,_⟩:=z2;obtain⟨cS,fL⟩:∃D,C++[bq.cells 0 (dL x cd bB)]=D:=⟨_,rfl⟩;obtain⟨D,cX⟩:∃D,cS++[bq.cells 0 (dL x DN lw)]=D:=⟨_,rfl⟩
  have en:cS.length=C.length+1:=by rw[<- fL,kw]
  have aF:Ext C cS:=fL▸Ext.app _ _;have aK:Ext cS D:=cX▸Ext.app _ _;have je:=bx.trans (aF.trans aK);have akX:ao D C.length 0=some (dL x cd bB):=df (fL▸dz C 0 _) aK
  have u6:ao D (C.length+1) 0=some (dL x DN lw):=by rw[<- en,<- cX];exact dz cS 0 _
  have f1:=Pp h.texts base (bp.ext je) aP (cn.ext je) dK cw;have f2:=Pp h.texts base (bj.ext je) c4 (iE.ext je) yo bN;have dj:(x.op==x.op:Bool)=true:=lz _;have dA:(x.d.data.toList==x.d.data.toList:Bool)=true:=lz _;have cV:(x.a.data.toList==x.a.data.toList:Bool)=true:=lz _;have e9:(x.b.data.toList==x.b.data.toList:Bool)=true:=lz _;have hD:(x.k==x.k:Bool)=true:=lz _;have kd:(x.f.data.toList==x.f.data.toList:Bool)=true:=lz _;have fK:=bp.one;have jU:=bj.one;have oM:=cn.one;have ux:=iE.one;obtain⟨vg,lo⟩:∃X,C++[bq.cells 0 gb]=X:=⟨_,rfl⟩;obtain⟨tL,mL⟩:∃X,vg++[bq.cells 0 gb]=X:=⟨_,rfl⟩
  have zf:vg.length=C.length+1:=by rw[<- lo,kw]
  have aJc:tL.length=C.length+2:=by rw[<- mL,kw,zf]
  have vp:ao tL C.length 0=some gb:=df (lo▸dz C 0 _) (mL▸Ext.app _ _)
  have ub:tL.set C.length (bq.cells 0 (dL x cd bB))=cS++[bq.cells 0 gb]:=by
   rw[<- mL,DO _ _ (by omega),<- lo,ln,fL]
  have q7:ao (cS++[bq.cells 0 gb]) (C.length+1) 0=some gb:=by rw[<- en];exact dz cS 0 _
  have uR:(cS++[bq.cells 0 gb]).set (C.length+1) (bq.cells 0 (dL x DN lw))=D:=by rw[<- en,ln,cX]
  have jk:base<=C.length+1:=by omega
  refine⟨trim ej.length (au 164 [(2,v2),(3,v3),(5,bg n5),(6,v6),(7,Al),(8,bg n8),(9,.ref z9 0 0),(10,.ref xS 0 0),(11,bg (k+1:Nat))]) D,?_,je.trim (bS _) _⟩;simp only[aL]at f1 f2;simp only[dL,a7,gb,bz]at lo mL vp ub q7 uR akX u6 yW y4;rw[eo];simp only[bg,simprocAttr,AD,aM,g9,g10,e0,eD,ea,gX,yW,y4,lo,zf,mL,vp,ub,q7,uR,tw,jk,fK,jU,oM,ux,k7,akX,u6,f1,f2,A9]) 0 ej (fa _) (Ext.refl _)
 rw[rD]at aK;refine⟨trim ej.length (au 164 [(2,v2),(3,v3),(5,bg n5),(6,v6),(7,Al),(8,bg n8),(9,.ref z9 0 0),(10,.ref xS 0 0),(11,bg l.length),(95,aL false)]) C,aK.trans ?_,dS.trim (bS _) _⟩;have g9:=df ami dS;have e0:=(CM aa dS).len;rw[eo];simp only[bg,simprocAttr,aL,AD,aM,g9,e0,nq]
set_option maxHeartbeats 1000000 in
def awT(h:Ey ah)(base:Nat){ej}(af:base<=ej.length){iw rG:Nat}{nm pv FE bv CC l}(ajK:ao ej iw 0=some [nm,pv,bv])(aHV:ao ej rG 0=some [nm,FE,CC])(aa:ga 2 q8 ej bv l)(aQ:ga 2 q8 ej CC l){v2 v3}{n5:Int}:
 ∃bh,aG (aC (aU ah) aG base Mw) [] ej.length (au 164 [(2,v2),(3,v3),(5,bg n5),(6,.ref iw 0 0),(7,.ref rG 0 0),(8,bg 0)]) ej=some (.ext 2,(au 164 [(2,v2),(3,v3),(5,bg n5),(6,.ref iw 0 0),(7,.ref rG 0 0),(8,bg l.length),(64,aL false)]),bh)/\Ext ej bh:=by
 have aN:=aa.lt
 obtain⟨C,aK,dS⟩:=F9 l.length (fun _ C=>Ext ej C) (fun k C=>aG (aC (aU ah) aG base Mw) [] ej.length (au 164 [(2,v2),(3,v3),(5,bg n5),(6,.ref iw 0 0),(7,.ref rG 0 0),(8,bg k)]) C) (by
  intro k C an bx
  have eD:((k:Int)<((l.length:Nat):Int)):=by omega
  have A9:=JL (n:=k) (by omega)
  have tw:base<=C.length:=by have:=bx.le;omega
  have g6:=df ajK bx;have g7:=df aHV bx;have e0:=(CB aa bx).len;have uN:l[k]?=some (l[k]):=dy an;obtain⟨B,FG⟩:∃x,l[k]=x:=⟨_,rfl⟩;rw[FG]at uN;obtain⟨y,ZN,ea,ey,nO,_⟩:=aa.pC uN;obtain⟨z,Bz,gX,z2,z3,_⟩:=aQ.pC uN;obtain⟨bZ,rfl,gv⟩:=ey;obtain⟨s9,rfl,yH⟩:=z2;have jo:=gv.one;have asX:=yH.one;obtain⟨bF,ru⟩:∃X,C++[bq.cells 0 [a7 B.label,bZ]]=X:=⟨_,rfl⟩;obtain⟨cb,h'⟩:∃X,bF++[bq.cells 0 [a7 B.label,s9]]=X:=⟨_,rfl⟩
  have en:bF.length=C.length+1:=by rw[<- ru,kw]
  have e8:cb.length=C.length+2:=by rw[<- h',kw,en]
  have eG:Ext C bF:=ru▸Ext.app _ _;have ee:Ext bF cb:=h'▸Ext.app _ _;have yW:=nO C bx;have y4:=z3 C bx;have O4:ao cb C.length 0=some [a7 B.label,bZ]:=df (ru▸dz C 0 _) ee
  have S9:ao cb (C.length+1) 0=some [a7 B.label,s9]:=by rw[<- en,<- h'];exact dz bF 0 _
  have je:=bx.trans (eG.trans ee)
  obtain⟨bh,f1,gh⟩:=aAc h base (ej:=cb) (by omega) (v2:=v2) (v3:=v3) (v6:=.ref iw 0 0) (Al:=.ref rG 0 0) (n5:=n5) (n8:=k) O4 S9 (CM gv je) (CM yH je)
  have Ti:=(CM gv je).len;have PZ:=(CM yH je).len;obtain⟨vg,lo⟩:∃X,C++[bq.cells 0 [V.s (.string ⟨#[]⟩),bz]]=X:=⟨_,rfl⟩;obtain⟨tL,mL⟩:∃X,vg++[bq.cells 0 [V.s (.string ⟨#[]⟩),bz]]=X:=⟨_,rfl⟩
  have zf:vg.length=C.length+1:=by rw[<- lo,kw]
  have vp:ao tL C.length 0=some [V.s (.string ⟨#[]⟩),bz]:=df (lo▸dz C 0 _) (mL▸Ext.app _ _)
  have ub:tL.set C.length (bq.cells 0 [a7 B.label,bZ])=bF++[bq.cells 0 [V.s (.string ⟨#[]⟩),bz]]:=by
   rw[<- mL,DO _ _ (by omega),<- lo,ln,ru]
  have q7:ao (bF++[bq.cells 0 [V.s (.string ⟨#[]⟩),bz]]) (C.length+1) 0=some [V.s (.string ⟨#[]⟩),bz]:=by rw[<- en];exact dz bF 0 _
  have uR:(bF++[bq.cells 0 [V.s (.string ⟨#[]⟩),bz]]).set (C.length+1) (bq.cells 0 [a7 B.label,s9])=cb:=by rw[<- en,ln,h']
  have jk:base<=C.length+1:=by omega
  have dA:(B.label.data.toList==B.label.data.toList:Bool)=true:=lz _;have cV:(((B.code.length:Nat):Int)==((B.code.length:Nat):Int))=true:=lz _;refine⟨trim ej.length (au 164 [(2,v2),(3,v3),(5,bg n5),(6,.ref iw 0 0),(7,.ref rG 0 0),(8,bg (k+1:Nat))]) bh,?_,(je.trans gh).trim (bS _) _⟩;rw[e8]at f1;simp only[aL,bg,a7,bz]at f1 yW y4 lo mL vp ub q7 uR O4 S9;rw[eo];simp only[bg,simprocAttr,AD,aM,g6,g7,e0,eD,ea,gX,yW,y4,lo,zf,mL,vp,ub,q7,uR,tw,jk,jo,asX,k7,e8,O4,S9,Ti,PZ,f1,A9]) 0 ej (fa _) (Ext.refl _)
 rw[rD]at aK;refine⟨trim ej.length (au 164 [(2,v2),(3,v3),(5,bg n5),(6,.ref iw 0 0),(7,.ref rG 0 0),(8,bg l.length),(64,aL false)]) C,aK.trans ?_,dS.trim (bS _) _⟩;have g6:=df ajK dS;have e0:=(CB aa dS).len;rw[eo];simp only[bg,simprocAttr,aL,AD,aM,g6,e0,nq]
set_option maxHeartbeats 1000000 in
def axm(h:Ey ah)(base:Nat){ej:az}(af:base<=ej.length){dK iE:Nat}{cD tX:V}{bG:List hv}(u6:ao ej dK 0=some [cD])(axq:ao ej iE 0=some [tX])(aa:pB ej cD bG)(aQ:pB ej tX bG):
 ∃bh,aG (aC (aU ah) aG base Li) [] ej.length (au 164 [(2,.ref dK 0 0),(3,.ref iE 0 0),(5,bg 0)]) ej=some (.ext 0,(au 164 [(2,.ref dK 0 0),(3,.ref iE 0 0),(5,bg bG.length),(25,aL false)]),bh)/\Ext ej bh:=by
 have aN:=ga.lt aa
 obtain⟨C,aK,dS⟩:=F9 bG.length (fun _ C=>Ext ej C) (fun k C=>aG (aC (aU ah) aG base Li) [] ej.length (au 164 [(2,.ref dK 0 0),(3,.ref iE 0 0),(5,bg k)]) C) (by
  intro k C an bx
  have eD:((k:Int)<((bG.length:Nat):Int)):=by omega
  have A9:=JL (n:=k) (by omega)
  have tw:base<=C.length:=by have:=bx.le;omega
  have g2:=df u6 bx;have g3:=df axq bx;have e0:=ga.len (aa.ext bx);have uN:bG[k]?=some (bG[k]):=dy an;obtain⟨f,FG⟩:∃x,bG[k]=x:=⟨_,rfl⟩;rw[FG]at uN;obtain⟨y,ZN,ea,ey,nO,_⟩:=aa.pC uN;obtain⟨z,Bz,gX,z2,z3,_⟩:=aQ.pC uN;obtain⟨pv,bv,rfl,gy,u2,u3,sN⟩:=ey;obtain⟨FE,CC,rfl,aV,b4,dJ,eO⟩:=z2;have fK:=gy.one;have jU:=sN.one;have oM:=aV.one;have ux:=eO.one;obtain⟨bF,ru⟩:∃X,C++[bq.cells 0 [a7 f.name,pv,bv]]=X:=⟨_,rfl⟩;obtain⟨cb,h'⟩:∃X,bF++[bq.cells 0 [a7 f.name,FE,CC]]=X:=⟨_,rfl⟩
  have en:bF.length=C.length+1:=by rw[<- ru,kw]
  have e8:cb.length=C.length+2:=by rw[<- h',kw,en]
  have eG:Ext C bF:=ru▸Ext.app _ _;have ee:Ext bF cb:=h'▸Ext.app _ _;have yW:=nO C bx;have y4:=z3 C bx;have P4:ao cb C.length 0=some [a7 f.name,pv,bv]:=df (ru▸dz C 0 _) ee
  have Q3:ao cb (C.length+1) 0=some [a7 f.name,FE,CC]:=by rw[<- en,<- h'];exact dz bF 0 _
  have je:=bx.trans (eG.trans ee);have Xw:=Pp h.texts base (D:=cb) (gy.ext je) u2 (aV.ext je) b4 u3
  obtain⟨bh,f1,gh⟩:=awT h base (ej:=cb) (by omega) (v2:=.ref dK 0 0) (v3:=.ref iE 0 0) (n5:=k) P4 Q3 (CB sN je) (CB eO je)
  have Ti:=(CB sN je).len;have PZ:=(CB eO je).len;obtain⟨vg,lo⟩:∃X,C++[bq.cells 0 lf]=X:=⟨_,rfl⟩;obtain⟨tL,mL⟩:∃X,vg++[bq.cells 0 lf]=X:=⟨_,rfl⟩
  have zf:vg.length=C.length+1:=by rw[<- lo,kw]
  have vp:ao tL C.length 0=some lf:=df (lo▸dz C 0 _) (mL▸Ext.app _ _)
  have ub:tL.set C.length (bq.cells 0 [a7 f.name,pv,bv])=bF++[bq.cells 0 lf]:=by
   rw[<- mL,DO _ _ (by omega),<- lo,ln,ru]
  have q7:ao (bF++[bq.cells 0 lf]) (C.length+1) 0=some lf:=by rw[<- en];exact dz bF 0 _
  have uR:(bF++[bq.cells 0 lf]).set (C.length+1) (bq.cells 0 [a7 f.name,FE,CC])=cb:=by rw[<- en,ln,h']
  have jk:base<=C.length+1:=by omega
  have dA:(f.name.data.toList==f.name.data.toList:Bool)=true:=lz _;have cV:(((f.blocks.length:Nat):Int)==((f.blocks.length:Nat):Int))=true:=lz _;refine⟨trim ej.length (au 164 [(2,.ref dK 0 0),(3,.ref iE 0 0),(5,bg (k+1:Nat))]) bh,?_,(je.trans gh).trim (bS _) _⟩;rw[e8]at f1;simp only[aL,bg,a7,lf,bz]at f1 yW y4 lo mL vp ub q7 uR P4 Q3 Xw;rw[eo];simp only[bg,simprocAttr,AD,aM,g2,g3,e0,eD,ea,gX,yW,y4,lo,zf,mL,vp,ub,q7,uR,tw,jk,fK,jU,oM,ux,k7,e8,P4,Q3,Ti,PZ,Xw,f1,A9]) 0 ej (fa _) (Ext.refl _)
 rw[rD]at aK;refine⟨trim ej.length (au 164 [(2,.ref dK 0 0),(3,.ref iE 0 0),(5,bg bG.length),(25,aL false)]) C,aK.trans ?_,dS.trim (bS _) _⟩;have g2:=df u6 dS;have e0:=ga.len (aa.ext dS);rw[eo];simp only[bg,simprocAttr,aL,AD,aM,g2,e0,nq]
def ar9(h:Ey ah)(base){A}(af:base<=A.length){cD tX bG}(aa:pB A cD bG)(aQ:pB A tX bG):
 ∃H',aU ah (.fn Zq [] []) [.agg [cD],.agg [tX]] base A=some (aL true,H')/\Ext A H':=by
 have fK:=aa.one;have jU:=aQ.one;obtain⟨bF,ru⟩:∃X,A++[bq.cells 0 [cD]]=X:=⟨_,rfl⟩;obtain⟨cb,h'⟩:∃X,bF++[bq.cells 0 [tX]]=X:=⟨_,rfl⟩
 have en:bF.length=A.length+1:=by rw[<- ru,kw]
 have e8:cb.length=A.length+2:=by rw[<- h',kw,en]
 have eG:Ext A bF:=ru▸Ext.app _ _;have ee:Ext bF cb:=h'▸Ext.app _ _;have e:=eG.trans ee;have g2:ao cb A.length 0=some [cD]:=df (ru▸dz A 0 _) ee
 have g3:ao cb (A.length+1) 0=some [tX]:=by rw[<- en,<- h'];exact dz bF 0 _
 have cn:=ga.len (aa.ext e);have dK:=ga.len (aQ.ext e);have cV:(((bG.length:Nat):Int)==((bG.length:Nat):Int))=true:=lz _
 obtain⟨bh,f1,gh⟩:=axm h base (ej:=cb) (by omega) g2 g3 (aa.ext e) (aQ.ext e)
 refine⟨bh,iY (c:=xW) (k:=2) h.same rfl (by decide) apG ?_,e.trans gh⟩
 rw[e8]at f1;simp only[aL,bg]at f1;simp only[aL,simprocAttr,xW,AD,aM,fK,jU,ru,en,h',e8,g2,g3,cn,dK,f1]
end
end Go.Proofs.YtbocmenkkjbigaaDoor
namespace Go.dO.Tok
def wc:Nat->List UInt8->Nat->Nat->Out
 |0,_,_,_=>.bad 0 0 0
 |_+1,[],a6,aZ=>.done [⟨4,[],0,a6,aZ⟩]
 |n+1,c::l,a6,aZ=>
   if blank c then(if c=10 then wc n l (a6+1) 1 else wc n l a6 (aZ+1))
   else if c=59 then wc n (l.drop (ba other l)) a6 (aZ+(ba other l+1))
   else if letter c then(wc n (l.drop (ba within l)) a6 (aZ+(ba within l+1))).cons ⟨1,c::l.take (ba within l),0,a6,aZ⟩
   else if digit c then
    if 9<ba digit l+1\/(1<ba digit l+1/\c=48)\/ba digit l<ba within l then .bad 31 a6 aZ
    else(wc n (l.drop (ba digit l)) a6 (aZ+(ba digit l+1))).cons ⟨2,c::l.take (ba digit l),val (c::l.take (ba digit l)),a6,aZ⟩
   else if sign c then(wc n l a6 (aZ+1)).cons ⟨3,[c],0,a6,aZ⟩
   else .bad 30 a6 aZ
def aDW:∀(n:Nat) (l:List UInt8) (a6 aZ:Nat),l.length<n->wc n l a6 aZ=lex l a6 aZ:=by
 intro n
 induction n with
 |zero=>intro l a6 aZ h;omega
 |succ n aw=>
   intro l a6 aZ h;cases l with
   |nil=>rw[lex_nil,wc]
   |cons c l=>
     have ak:l.length<n:=by simpa using h
     have aQ:∀m,(l.drop m).length<n:=fun m=>by rw[fJ];omega
     rw[sq,wc,aw _ _ _ ak,aw _ _ _ ak,aw _ _ _ (aQ _),aw _ _ _ (aQ _),aw _ _ _ (aQ _)]
end Go.dO.Tok
set_option maxRecDepth 100000
namespace Go.Proofs.YtbocmenkkjbigaaDoor
open Go.dO
def Tw:ByteArray:=⟨#[102,117,110,99,32,109,97,105,110,40,112,41,32,123,10,97,58,32,59,32,120,10,32,32,120,32,61,32,102,105,101,108,100,32,112,32,51,10,32,32,114,101,116,10,125,10]⟩
def IF:gf:=⟨7,⟨#[120]⟩,⟨#[112]⟩,⟨#[]⟩,3,⟨#[]⟩,[],[]⟩
def aib:gf:=⟨14,⟨#[]⟩,⟨#[]⟩,⟨#[]⟩,0,⟨#[]⟩,[],[]⟩
def Cy:List hv:=[⟨⟨#[109,97,105,110]⟩,[⟨#[112]⟩],[⟨⟨#[97]⟩,[IF,aib]⟩]⟩]
def xK(l:List UInt8):List Tok.T × (Nat × Nat) × Nat:=if 1048576<l.length then([],(0,0),2)else match Tok.wc (l.length+1) l 1 1 with
 |.done ts=>(ts,(0,0),0)
 |.bad e a q=>([],(a,q),e)
theorem au6(l):gA l=xK l:=by
 unfold gA xK;rw[Tok.aDW _ _ _ _ (BP _)]
 try rfl
def Zy(l:List UInt8):List hv × (Nat × Nat) × Nat:=
 if(xK l).2.2=0 then match Dh (xK l).1 with
  |.ok bG=>(bG,(0,0),0)
  |.error j=>([],(((xK l).1.getD j cU).line,((xK l).1.getD j cU).jB),if((xK l).1.getD j cU).kind=4 then 41 else 40)
 else([],(xK l).2.1,(xK l).2.2)
theorem aHY(l):jY l=Zy l:=by
 unfold jY Zy;rw[au6]
 try rfl
def arw:jY Tw.data.toList=(Cy,(0,0),0):=(aHY _).trans (by kernel_rfl)
section
variable {ah:Nat->Option c7}
def GB(ah:Nat->Option c7):Prop:=∀(base:Nat) (H:az) (b:ByteArray),base<=H.length->∃v H',aU ah (.fn CE [] []) [.s (.string b)] base H=some (.bV [.agg [v],.agg [bg (jY b.data.toList).2.1.1,bg (jY b.data.toList).2.1.2],bg (jY b.data.toList).2.2],H')/\Ext H H'/\∀fZ,(∀id,H.length<=id->id<H'.length->fZ[id]?=H'[id]?)->pB fZ v (jY b.data.toList).1
theorem aqF(aS:GB ah)(aR:ah O1=some (.code x8))(base){A}(af:base<=A.length):
 ∃H',aU ah (.fn O1 [] []) [] base A=some (aL true,H')/\Ext A H':=by
 obtain⟨v,H1,J,aF,ax⟩:=aS base A Tw af;rw[arw]at J ax;have ar:=ax H1 fun _ _ _=>rfl;have sC:=ar.one;obtain⟨bK,iN⟩:∃X,H1++[bq.cells 0 [v]]=X:=⟨_,rfl⟩;obtain⟨c6,mj⟩:∃X,bK++[bq.cells 0 [bg 0,bg 0]]=X:=⟨_,rfl⟩
 have e8:bK.length=H1.length+1:=by rw[<- iN,kw]
 have aK:Ext H1 bK:=iN▸Ext.app _ _;have dS:Ext bK c6:=mj▸Ext.app _ _;have g1:ao c6 H1.length 0=some [v]:=df (iN▸dz H1 0 _) dS;have bx:=aK.trans dS;have kV:=ar.ext bx;have dR:=ga.len kV;obtain⟨a,r,cy,al,_,a3⟩:=kV.pC (i:=0) (x:=Cy.getD 0 Ew) rfl;obtain⟨pv,bv,rfl,cn,dK,iE,tq⟩:=al;obtain⟨eG,ee,gh⟩:=a3 1 _ rfl;obtain⟨ea,ey,nO⟩:=a3 2 _ rfl;have Sf:=Fx cn;have Ev:=tq.len;obtain⟨dA,IV,cV,hS,_,e9⟩:=tq.pC (i:=0) (x:=⟨⟨#[97]⟩,[IF,aib]⟩) rfl;obtain⟨bZ,rfl,gv⟩:=hS;obtain⟨d1,d2,d3⟩:=e9 1 _ rfl;have cI:=gv.len;obtain⟨f1,Bz,f2,Eu,_,f3⟩:=gv.pC (i:=0) (x:=IF) rfl;obtain⟨cd,bB,rfl,_⟩:=Eu;obtain⟨k1,k2,dx⟩:=f3 4 _ rfl;obtain⟨m1,m2,m3⟩:=f3 2 _ rfl;have k6:=gh c6 (Ext.refl _);have zV:=nO c6 (Ext.refl _);have d4:=d3 c6 (Ext.refl _);have hs:=dx c6 (Ext.refl _);have m4:=m3 c6 (Ext.refl _);obtain⟨vg,lo⟩:∃X,H1++[bq.cells 0 [bz]]=X:=⟨_,rfl⟩;obtain⟨tL,mL⟩:∃X,vg++[bq.cells 0 [bg 0,bg 0]]=X:=⟨_,rfl⟩
 have zf:vg.length=H1.length+1:=by rw[<- lo,kw]
 have vp:ao tL H1.length 0=some [bz]:=df (lo▸dz H1 0 _) (mL▸Ext.app _ _)
 have ub:tL.set H1.length (bq.cells 0 [v])=c6:=by
  rw[<- mL,DO _ _ (by omega),<- lo,ln,iN,mj]
 have q7:ao c6 (H1.length+1) 0=some [bg 0,bg 0]:=by rw[<- e8,<- mj];exact dz bK 0 _
 have uR:c6.set (H1.length+1) (bq.cells 0 [bg 0,bg 0])=c6:=by rw[<- mj,<- e8,ln]
 have jH:base<=H1.length:=by have:=aF.le;omega
 have jk:base<=H1.length+1:=by omega
 refine⟨c6,ih (c:=x8) aR (by simp[x8]) ?_,aF.trans bx⟩
 have z0:((0:Nat):Int)=0:=rfl;have cw:(((Cy.length:Nat):Int)==1)=true:=rfl;simp only[Tw,bg,z0]at J;simp only[bg,bz]at lo mL vp ub q7 uR;simp only[z0,IF,a7]at cy cV f2 hs m4 dR Sf Ev cI d4;have bp:(((Cy.length:Nat):Int)==1)=true:=rfl;have aP:((((Cy.getD 0 Ew).ps.length:Nat):Int)==1)=true:=rfl;have bj:((((Cy.getD 0 Ew).blocks.length:Nat):Int)==1)=true:=rfl;simp only[aL,simprocAttr,x8,aIs,aM,J,lo,zf,mL,vp,ub,q7,uR,jH,jk,sC,k7,g1,dR,bp,cy,ee,k6,Sf,aP,ey,zV,Ev,bj,cV,d2,d4,cI,f2,k2,hs,m2,m4]
 try rfl
end
end Go.Proofs.YtbocmenkkjbigaaDoor
namespace Go.dO
open Go.RowKit
section
variable {P:Program}
def ase{pure':gH}{k}(qE:∀xs w,(callFunc k xs).run P w=.ok (.enter k xs) w)(aq:∀(s:ByteArray) (c:Int) (w:World),Calls P k #[.string s,.int .u8 c] w fun e w'=>e=.returned (.int .i64 (Lib.indexByte s.data.toList c.toNat.toUInt8))/\w'=w):lq P pure' k (.oD C4):=by
 refine⟨qE,fun vs base H r H' bb=>?_⟩;unfold C4 at bb;split at bb
 .rename_i b c;cases bb;refine⟨kE.refl _ _,fun μ ab w cs bu dE n=>?_⟩;obtain⟨J,U⟩:=dE
  match cs,J with
  | [x,y],_=>
    have aF:=eA (U 0 _ x rfl rfl);have aK:=eA (U 1 _ y rfl rfl);subst aF aK;refine callsIn_wide.2 ((aq b c w).mono ?_);rintro e w' ⟨rfl,rfl⟩;exact⟨_,μ,ab,rfl,.s _,dm.refl bu⟩
 .cases bb
def aji{α:Type}(x:α)(f:α->α):∀l:List α,(l++[x]).modify l.length f=l++[f x]
 | []=>rfl
 |y::l=>by
   have:=aji x f l;simp only[h5,gP,List.modify_succ_cons,this]
def aqY{α:Type}(a:Array α)(x:α)(f:α->α):(a.push x).modify a.size f=a.push (f x):=by
 apply pq;rw[Array.toList_modify,Im,Im,show a.size=a.toList.length from rfl];exact aji x f _
theorem arc{aE μ}{ab:Nat->Prop}{w H}(h:cB aE μ ab w H)(e s):dm aE μ ab w H μ ab (Lib.bytesWorld w e s) H:=by
 refine ay9 [.cells (Lib.bytesCells w e s) e ((Lib.bytesCells w e s).size,(Lib.bytesCells w e s).size+1)] w _ h ?_ rfl rfl rfl;unfold Lib.bytesWorld World.freeze
 rw[bm (by decide)]
 obtain⟨o,aT⟩:∃o,Obj.cells (Lib.bytesCells w e s) e=o:=⟨_,rfl⟩;have aj:(w.drew.alloc o).heap=w.heap.push o:=rfl;simp only[aT,aj];rw[aqY,<- aT];rfl
def aIb{pure':gH}{k t}(qE:∀xs w,(callFunc k xs).run P w=.ok (.enter k xs) w)(aq:∀(s:ByteArray) (n:Int),s.size<=18->Lib.atoi s.data.toList=some n->∀(w:World),Calls P k #[.string s] w fun e w'=>e=.returned (.tuple #[.int .i64 n,.nilIface])/\∃b,w'=Lib.bytesWorld w t b):lq P pure' k (.oD y0):=by
 refine⟨qE,fun vs base H r H' bb=>?_⟩;unfold y0 at bb;split at bb
 .rename_i b;split at bb
  .rename_i af;cases aN:Lib.atoi b.data.toList with
   |none=>rw[aN]at bb;cases bb
   |some n=>
     rw[aN]at bb;cases bb;refine⟨kE.refl _ _,fun μ ab w cs bu dE m=>?_⟩;obtain⟨J,U⟩:=dE
     match cs,J with
     | [x],_=>
       have aF:=eA (U 0 _ x rfl rfl);subst aF;refine callsIn_wide.2 ((aq b n af aN w).mono ?_);rintro e w' ⟨rfl,s,rfl⟩;refine⟨_,μ,ab,rfl,?_,arc bu t s⟩;refine .bV _ _ rfl fun i a c aD aa=>?_
       match i with
       |0=>cases aD;cases aa;exact .s _
       |1=>cases aD;cases aa;exact .s _
       |i+2=>simp at aD
  .cases bb
 .cases bb
end
inductive rN where
 |int (k:IntKind)|bool|str
 |aB (e:rN)
 |st (bG:List rN)
 deriving Inhabited
mutual
def rN.width:rN->Nat
 |.int _=>1
 |.bool=>1
 |.str=>1
 |.aB _=>1
 |.st bG=>yO bG
def yO:List rN->Nat
 | []=>0
 |f::bG=>f.width+yO bG
end
mutual
def mU(P:Program):Nat->rN->TypeId->Bool
 |0,_,_=>false
 |n+1,ty,t=>match ty,P.underlying t with
   |.int k,some (.int gT)=>k==gT
   |.bool,some .bool=>true
   |.str,some .string=>true
   |.aB e,some (.slice bw)=>mU P n e bw&&P.cellsOf bw==e.width&&decide (0<e.width)
   |.st bG,some (.struct gs)=>P.cellsOf t==yO bG&&BH P n 0 bG gs.toList
   |_,_=>false
def BH(P:Program):Nat->Nat->List rN->List Field->Bool
 |0,_,_,_=>false
 |n+1,off,bG,gs=>match bG,gs with
   | [],[]=>true
   |f::bG,g::gs=>g.offset==off&&P.cellsOf g.type==f.width&&mU P n f g.type&&BH P n (off+f.width) bG gs
   |_,_=>false
end
mutual
def uL:rN->List V->Prop
 |.int k,cs=>∃n,cs=[.s (.int k n)]/\k.min<=n/\n<=k.max
 |.bool,cs=>∃b,cs=[.s (.bool b)]
 |.str,cs=>∃b,cs=[.s (.string b)]/\b.size<=maxLen
 |.aB e,cs=>cs=[bz]\/∃es:List (List V),cs=[.du es e.width]/\es.length<=maxLen/\∀x∈es,uL e x
 |.st bG,cs=>Cm bG cs
def Cm:List rN->List V->Prop
 | [],cs=>cs=[]
 |f::bG,cs=>∃a b,cs=a++b/\uL f a/\Cm bG b
end
mutual
theorem uL.len:∀(t:rN) {cs:List V},uL t cs->cs.length=t.width
 |.int _,cs,h=>by obtain⟨n,rfl,_⟩:=h;rfl
 |.bool,cs,h=>by obtain⟨n,rfl⟩:=h;rfl
 |.str,cs,h=>by obtain⟨n,rfl,_⟩:=h;rfl
 |.aB e,cs,h=>by rcases h with rfl|⟨es,rfl,_⟩<;>rfl
 |.st bG,cs,h=>Cm.len bG h
theorem Cm.len:∀(bG:List rN) {cs:List V},Cm bG cs->cs.length=yO bG
 | [],cs,h=>by cases h;rfl
 |f::bG,cs,h=>by
   obtain⟨a,b,rfl,J,U⟩:=h;rw[fU,uL.len f J,Cm.len bG U];rfl
end
abbrev o1(w:World)(vs:List V)(cs:List Value):Prop:=vs.length=cs.length/\∀(i:Nat) (a:V) (b:Value),vs[i]?=some a->cs[i]?=some b->gE (fun _=>False) w a b
def o1.app{w a b c d}(h:o1 w a c)(k:o1 w b d):o1 w (a++b) (c++d):=by
 refine⟨by simp[h.1,k.1],fun i x y ae bA=>?_⟩
 by_cases hi:i<a.length
 .rw[d' hi]at ae
  rw[d' (by rw[<- h.1];exact hi)]at bA
  exact h.2 i x y ae bA
 .rw[gB (by omega)]at ae
  rw[gB (by rw[<- h.1];omega),<- h.1]at bA
  exact k.2 _ x y ae bA
def o1.one{w a b}(h:gE (fun _=>False) w a b):o1 w [a] [b]:=⟨rfl,fun i x y ae bA=>by
 cases i with
 |zero=>simp at ae bA;rw[<- ae,<- bA];exact h
 |succ i=>simp at ae⟩
def o1.F4{w vs cs}(h:o1 w vs cs):b0 (fun _ _=>none) (fun _=>False) w vs cs:=⟨h.1,fun i a b aD af=>(h.2 i a b aD af).vy⟩
def azh{α β:Type}{f:α->Option β}{l:List α}{us:List β}(h:l.mapM f=some us):us.length=l.length/\∀(i:Nat) (v:α),l[i]?=some v->∃u,us[i]?=some u/\f v=some u:=by
 obtain⟨J,U⟩:=ah4 h;refine⟨J,fun i v av=>?_⟩
 have hi:i<us.length:=by rw[J];exact(cC.1 av).1
 exact⟨us[i],dy hi,U i v _ av (dy hi)⟩
section
variable {H:Type} {enc:TypeId × Value->H} {P:Program} {w:World} {base:Nat} {sp:Nat->Bool} {held:Bool}
theorem aaf(a:Addr)(j:Nat):(a.add j).block=a.block:=by unfold Addr.add;split<;>rfl
theorem Zk{a:Addr}(h:a.spot=none)(j:Nat):(a.add j).off=a.off+j:=by
 unfold Addr.add;split
 .rename_i e;subst e;rfl
 .rfl
def aez{a:Addr}{n:Nat}{cs:List Value}(h:w.cells? base a n=some cs)(aN:0<n):∃arr e fr,w.heap[a.block]?=some (.cells arr e fr)/\a.spot=none/\cs.length=n/\a.off+n<=arr.size/\∀j,j<n->cs[j]?=arr[a.off+j]?:=by
 unfold World.cells? at h;split at h
 .obtain⟨J,U⟩:=azh h;simp only[List.length_range]at J
  have key:∀j,j<n->∃u,cs[j]?=some u/\w.cell? (a.add j)=some u:=fun j br=>U j j (by simp[br])
  obtain⟨iD,_,pg⟩:=key 0 aN;unfold World.cell? at pg;split at pg
  .rename_i c e fr hh;have ds:∀j,(a.add j).block=a.block:=fun j=>aaf a j;rw[ds]at hh;split at pg
   .cases pg
   .rename_i fO
    have fO:a.spot=none:=by
     cases aq:a.spot with
     |none=>rfl
     |some x=>exact absurd (by show(a.add 0).spot.isSome=true;simp[Addr.add,aq]) fO
    have all:∀j,j<n->cs[j]?=c[a.off+j]?:=by
     intro j br;obtain⟨u,hu,aa⟩:=key j br;unfold World.cell? at aa;rw[ds,hh]at aa;simp only[]at aa;split at aa
     .cases aa
     .rw[hu];have:(a.add j).off=a.off+j:=Zk fO j;rw[<- this];exact aa.symm
    refine⟨c,e,fr,hh,fO,J,?_,all⟩
    have ak:=all (n-1) (by omega)
    have:cs[n-1]?=some cs[n-1]:=dy (by omega)
    rw[this]at ak;have:=(qS.1 ak.symm).1;omega
  .cases pg
 .cases h
def aGp{n k t}(h:mU P n (.int k) t=true):P.underlying t=some (.int k):=by
 cases n with
 |zero=>simp[mU]at h
 |succ n=>
   simp only[mU]at h;split at h<;>simp_all
def av5{n t}(h:mU P n .bool t=true):P.underlying t=some .bool:=by
 cases n with
 |zero=>simp[mU]at h
 |succ n=>
   simp only[mU]at h;split at h<;>simp_all
def aEV{n t}(h:mU P n .str t=true):P.underlying t=some .string:=by
 cases n with
 |zero=>simp[mU]at h
 |succ n=>
   simp only[mU]at h;split at h<;>simp_all
def au3{n e t}(h:mU P n (.aB e) t=true):∃m bw,P.underlying t=some (.slice bw)/\mU P m e bw=true/\P.cellsOf bw=e.width/\0<e.width:=by
 cases n with
 |zero=>simp[mU]at h
 |succ n=>
   simp only[mU]at h;split at h<;>simp_all;exact⟨n,h.1.1⟩
def aAS{n bG t}(h:mU P n (.st bG) t=true):∃m gs,P.underlying t=some (.struct gs)/\P.cellsOf t=yO bG/\BH P m 0 bG gs.toList=true:=by
 cases n with
 |zero=>simp[mU]at h
 |succ n=>
   simp only[mU]at h;split at h<;>simp_all;exact⟨n,h.2⟩
def ax9:∀(fuel n:Nat) (ty:rN) (t:TypeId) (cs:List Value) (x:DataW H × List MemPlace),mU P n ty t=true->DataW.trod enc P w base sp held fuel t cs=some x->∃vs,uL ty vs/\o1 w vs cs:=by
 intro fuel
 induction fuel with
 |zero=>intro n ty t cs x _ h;simp[DataW.trod]at h
 |succ fuel aw=>
   intro n ty t cs x aO h;cases ty with
   |int k=>
     obtain⟨m,rfl,_,hw⟩:=DataW.trod_int (aGp aO) h;simp only[Lit.wf,dr,lm]at hw;exact⟨[.s (.int k m)],⟨m,rfl,hw.1,hw.2⟩,o1.one (.s _)⟩
   |bool=>
     obtain⟨b,rfl,_⟩:=DataW.trod_bool (av5 aO) h;exact⟨[.s (.bool b)],⟨b,rfl⟩,o1.one (.s _)⟩
   |str=>
     obtain⟨b,rfl,_,af⟩:=DataW.trod_string (aEV aO) h;exact⟨[.s (.string b)],⟨b,rfl,af⟩,o1.one (.s _)⟩
   |aB e=>
     obtain⟨m,bw,hu,he,hw,a1⟩:=au3 aO
     rcases DataW.trod_slice hu h with⟨rfl,_⟩|⟨a,len,cap,elems,rest,bN,aN,rfl,_,af,N7,aJb,lg,f',_⟩
     .exact⟨[bz],.inl rfl,o1.one (.s _)⟩
     .have kW:bN=fuel:=by omega
      subst kW;rw[hw]at f';by_cases ak:len=0
      .subst ak
       exact⟨[.du [] e.width],.inr ⟨[],rfl,fa _,fun x ae=>by cases ae⟩,o1.one (.il _ _ _)⟩
      .
       have one:∀i,i<len->∃cs vs,w.cells? base (a.add (i*e.width)) e.width=some cs/\uL e vs/\o1 w vs cs:=by
        intro i hi;have hh:=f' i hi
        have:elems[i]?=some elems[i]:=dy (by omega)
        rw[this,eL]at hh;obtain⟨cs,J,U⟩:=hh;obtain⟨vs,ax,aY⟩:=aw m e bw cs _ he U;exact⟨cs,vs,J,ax,aY⟩
       obtain⟨dR,_,pg,_,_⟩:=one 0 (by omega)
       rw[H8]at pg
       have rR:a.add 0=a:=by simp[Addr.add]
       rw[rR]at pg;obtain⟨arr,el,fr,aI,fO,_,_,_⟩:=aez pg a1
       have pos:∀i,i<len->∃vs,uL e vs/\a.off+i*e.width+e.width<=arr.size/\∀(j:Nat) (x:V) (y:Value),vs[j]?=some x->arr[a.off+i*e.width+j]?=some y->gE (fun _=>False) w x y:=by
        intro i hi;obtain⟨cs,vs,J,U,ax⟩:=one i hi;obtain⟨eB,aJf,aW,nB,_,iX,de,ai4⟩:=aez J a1;rw[aaf,aI]at nB;cases nB;rw[Zk fO]at de ai4;refine⟨vs,U,de,fun j x y ae bA=>?_⟩
        have br:j<e.width:=by rw[<- U.len];exact(cC.1 ae).1
        exact ax.2 j x y ae (by rw[ai4 j br];exact bA)
       obtain⟨es,adZ,Ie⟩:∃es:List (List V),es.length=len/\∀i vs,es[i]?=some vs->uL e vs/\a.off+i*e.width+e.width<=arr.size/\∀(j:Nat) (x:V) (y:Value),vs[j]?=some x->arr[a.off+i*e.width+j]?=some y->gE (fun _=>False) w x y:=by
        have:∀k,k<=len->∃es:List (List V),es.length=k/\∀i vs,es[i]?=some vs->uL e vs/\a.off+i*e.width+e.width<=arr.size/\∀(j:Nat) (x:V) (y:Value),vs[j]?=some x->arr[a.off+i*e.width+j]?=some y->gE (fun _=>False) w x y:=by
         intro k
         induction k with
         |zero=>intro _;exact⟨[],rfl,fun i vs h=>by simp at h⟩
         |succ k asp=>
           intro an
           obtain⟨es,J,U⟩:=asp (by omega)
           obtain⟨vs,ax⟩:=pos k (by omega)
           refine⟨es++[vs],by simp[J],fun i us hi=>?_⟩
           by_cases c:i<es.length
           .rw[d' c]at hi;exact U i us hi
           .rw[gB (by omega)]at hi
            have:i-es.length=0:=by
             have:=(cC.1 hi).1;simp at this;omega
            rw[this]at hi;simp at hi
            have Gq:i=k:=by omega
            subst Gq;subst hi;exact ax
        exact this len (bS _)
       refine⟨[.du es e.width],.inr ⟨es,rfl,by omega,fun x ae=>?_⟩,o1.one ?_⟩
       .obtain⟨i,hi⟩:=List.mem_iff_getElem?.1 ae;exact(Ie i x hi).1
       .have avX:Value.slice (some a) len cap=.slice (some ⟨a.block,a.off,none⟩) es.length cap:=by
         rw[adZ]
         congr 2
         cases a;simp at fO;subst fO;rfl
        rw[avX]
        refine .du es e.width a.block a.off cap arr el fr aI (fun h=>h) (by omega) (fun i vs hi=>(Ie i vs hi).1.len) ?_ (fun i vs j x y hi ae bA=>(Ie i vs hi).2.2 j x y ae bA)
        have aI3:=(Ie (len-1) es[len-1] (dy (by omega))).2.1
        rw[adZ]
        have:len*e.width=(len-1)*e.width+e.width:=by
         obtain⟨k,rfl⟩:∃k,len=k+1:=⟨len-1,by omega⟩
         rw[Nat.add_sub_cancel,sv,LC]
        omega
   |st bG=>
     obtain⟨m,gs,hu,hw,rV⟩:=aAS aO;obtain⟨xs,bN,aN,_,iX,qk,f'⟩:=DataW.trod_struct hu h
     have kW:bN=fuel:=by omega
     subst kW
     have key:∀(bG:List rN) (m off:Nat) (AO:List Field),BH P m off bG AO=true->(∀g∈AO,∃y,DataW.trod enc P w base sp held bN g.type ((cs.drop g.offset).take (P.cellsOf g.type))=some y)->off+yO bG=cs.length->∃vs,Cm bG vs/\o1 w vs (cs.drop off):=by
      intro bG
      induction bG with
      |nil=>
        intro m off AO _ _ aT;refine⟨[],rfl,?_⟩
        rw[qO (by simp[yO]at aT;omega)]
        exact⟨rfl,fun i a b h=>by simp at h⟩
      |cons f bG axO=>
        intro m off AO mP bb aT;cases m with
        |zero=>simp[BH]at mP
        |succ m=>
          cases AO with
          |nil=>simp[BH]at mP
          |cons g AO=>
            simp only[BH,dr,cG]at mP;obtain⟨⟨⟨J,U⟩,ax⟩,aY⟩:=mP;obtain⟨y,bA⟩:=bb g iH;obtain⟨M6,Lt,B6⟩:=aw m f g.type _ y ax bA
            obtain⟨GZ,jk,fM⟩:=axO m (off+f.width) AO aY (fun g zB=>bb g (hP _ zB)) (by simp only[yO]at aT;omega)
            refine⟨M6++GZ,⟨M6,GZ,rfl,Lt,jk⟩,?_⟩;rw[J,U]at B6
            have:cs.drop off=(cs.drop off).take f.width++cs.drop (off+f.width):=by
             rw[<- nL,vO]
            rw[this];exact B6.app fM
     obtain⟨vs,J,U⟩:=key bG m 0 gs.toList rV (fun g bb=>by
      obtain⟨i,hi⟩:=List.mem_iff_getElem?.1 bb
      have ot:gs[i]?=some g:=by simpa using hi
      have ax:=f' i g ot;have bt:=(qS.1 ot).1
      exact⟨xs[i]'(by omega),by rw[ax];exact dy (by omega)⟩) (by omega)
     exact⟨vs,J,by simpa using U⟩
def arV:rN->List V->V
 |.st _,vs=>.agg vs
 |_,[v]=>v
 |_,_=>.bs
def aBN{n ty t v}{d:DataW H}{ps:List MemPlace}(aO:mU P n ty t=true)(al:(match ty with|.st _=>∃vs,v=.agg vs|_=>v.cells.toList=[v]))(h:DataW.Trod enc P w base sp held t v d ps):
 ∃vs,uL ty vs/\bM (fun _ _=>none) (fun _=>False) w (arV ty vs) v:=by
 obtain⟨fuel,h⟩:=h;obtain⟨vs,J,U⟩:=ax9 fuel n ty t _ _ aO h;refine⟨vs,J,?_⟩
 have one:vs.length=1->v.cells.toList=[v]->∃x,vs=[x]/\bM (fun _ _=>none) (fun _=>False) w x v:=by
  intro ak aa
  match vs,ak with
  | [x],_=>
    rw[aa]at U;exact⟨x,rfl,(U.2 0 x v rfl rfl).vy⟩
 cases ty with
 |st bG=>
   obtain⟨us,rfl⟩:=al;exact H5 (vs:=us.toList) U.F4
 |_=>
   obtain⟨x,rfl,ae⟩:=one J.len al;exact ae
end
end Go.dO
set_option maxRecDepth 100000
namespace Go.Proofs.YtbocmenkkjbigaaDoor
open Go.ChangeShapes Go.WideShapes Go.ChangeAt Go.RowKit Go.dO
theorem mixed:Tryd.prog.follows .mixedOrders=true:=by kernel_rfl
def aej{Qh:gH}:lq Tryd.prog Qh 27 (.oD C4):=ase (Go.Proofs.enters_of Tryd.func27 (by kernel_rfl) rfl) (fun s c w=>Any.strings_IndexByte Tryd.avg s c w)
def aca{Qh:gH}:lq Tryd.prog Qh 33 (.oD y0):=aIb (t:=Tryd.acu.t 5) (Go.Proofs.enters_of Tryd.func33 (by kernel_rfl) rfl) (fun s n J U w=>Any.strconv_Atoi Tryd.atM s n J U w)
def om:Nat->Option c7
 |13=>some (.code p0)
 |16=>some (.code ri)
 |18=>some (.code oV)
 |25=>some (.code w8)
 |26=>some (.code uZ)
 |27=>some (.oD C4)
 |28=>some (.code wM)
 |29=>some (.code wJ)
 |30=>some (.code xb)
 |31=>some (.code wT)
 |32=>some (.code wF)
 |33=>some (.oD y0)
 |34=>some (.code vF)
 |35=>some (.code rJ)
 |36=>some (.code vk)
 |37=>some (.code sM)
 |38=>some (.code nX)
 |39=>some (.code pU)
 |49=>some (.code uP)
 |50=>some (.code qI)
 |51=>some (.code sG)
 |52=>some (.code xe)
 |53=>some (.code x2)
 |60=>some (.code qx)
 |61=>some (.code r1)
 |62=>some (.code sP)
 |63=>some (.code qf)
 |64=>some (.code uk)
 |65=>some (.code sf)
 |66=>some (.code uq)
 |67=>some (.code BM)
 |68=>some (.code ue)
 |69=>some (.code ve)
 |70=>some (.code sF)
 |71=>some (.code qB)
 |_=>none
def axB:∀k c,om k=some c->lq Tryd.prog (mX (fun _=>none)) k c:=by
 intro k c h;unfold om at h;split at h
 .cases h;exact eW (fun _=>none) ahm
 .cases h;exact eW (fun _=>none) aIU
 .cases h;exact eW (fun _=>none) aqa
 .cases h;exact eW (fun _=>none) alL
 .cases h;exact eW (fun _=>none) aiY
 .cases h;exact aej
 .cases h;exact eW (fun _=>none) ajs
 .cases h;exact eW (fun _=>none) YC
 .cases h;exact eW (fun _=>none) adQ
 .cases h;exact eW (fun _=>none) ajb
 .cases h;exact eW (fun _=>none) adM
 .cases h;exact aca
 .cases h;exact eW (fun _=>none) blt
 .cases h;exact eW (fun _=>none) aDq
 .cases h;exact eW (fun _=>none) aBG
 .cases h;exact eW (fun _=>none) azv
 .cases h;exact eW (fun _=>none) aB4
 .cases h;exact eW (fun _=>none) aqx
 .cases h;exact eW (fun _=>none) atB
 .cases h;exact eW (fun _=>none) aB9
 .cases h;exact eW (fun _=>none) avc
 .cases h;exact eW (fun _=>none) aA7
 .cases h;exact eW (fun _=>none) aDO
 .cases h;exact eW (fun _=>none) az1
 .cases h;exact eW (fun _=>none) aBM
 .cases h;exact eW (fun _=>none) aG6
 .cases h;exact eW (fun _=>none) aFE
 .cases h;exact eW (fun _=>none) axe
 .cases h;exact eW (fun _=>none) aBa
 .cases h;exact eW (fun _=>none) ble
 .cases h;exact eW (fun _=>none) ayD
 .cases h;exact eW (fun _=>none) aEO
 .cases h;exact eW (fun _=>none) aFv
 .cases h;exact eW (fun _=>none) aD9
 .cases h;exact eW (fun _=>none) aAf
 .cases h
def asF:rT om:=⟨rfl,rfl,rfl,rfl,rfl,rfl,rfl,rfl,rfl⟩
theorem aGv:uD om:=by constructor<;>rfl
theorem azO:pc om:=by constructor<;>first|exact aGv|rfl
theorem ao9:Hb om:=by constructor<;>first|exact azO|rfl
theorem aAT:Ag om:=by constructor<;>first|exact ao9|rfl
def arh:lq Tryd.prog (mX (fun _=>none)) 9 (.oD (ze om)):=arK mixed axB aII
def aD3{ah:Nat->Option c7}(aR:ah CE=some (.oD (ze om))):GB ah:=fun base _ b af=>ayj aR aAT rfl asF base af b
def auA(os:Os)(args):laidMetH Tryd.prog Rows.readParsesRow.laid ((World.doorLaid Tryd.prog 400 os).forCall (fun _ _=>0) ⟨#[],args,[]⟩).memory:=by
 rw[MakeChecks.laidMetH_plain _ _ _ (by kernel_rfl)]
 exact laidMet_of_run' 8 (by kernel_rfl) (by kernel_rfl)
open Go.dO
section
variable {W V:aJ} {k:Nat}
end
open Go.dO
section
variable {aJp V:aJ} {k K:Nat}
end
open Go.dO
open Go.dO
def XK(H a c):ao (H++[.cells 0 [a]]++[c]) H.length 0=some [a]:=df (dz H 0 [a]) (Ext.app _ _)
def aI6(H:az)(a b c:bq):(H++[a]++[c]).set H.length b=H++[b]++[c]:=by
 rw[DO _ _ (by rw[kw];omega),ln]
def U'(H a c):ao (H++[a]++[.cells 0 c]) (H.length+1) 0=some c:=by
 have:=dz (H++[a]) 0 c
 rwa[kw]at this
def aJl(H:az)(a b c:bq):(H++[a]++[b]).set (H.length+1) c=H++[a]++[c]:=by
 have:=ln (H++[a]) b c
 rwa[kw]at this
def asV(a b c d):jA [mr.int IntKind.i64,mr.int IntKind.i64] [.s (.int .i64 a),.s (.int .i64 b)] [.s (.int .i64 c),.s (.int .i64 d)]=some (a==c&&b==d):=by
 simp only[jA,Gt,Hf,fl,oX]
def aKn(H:az)(a:bq):(H++[a]).length=H.length+1:=kw H a
section
variable {ah:Nat->Option c7}
def ayS(aS:GB ah)(base){H}(af:base<=H.length)(b){p}(aj:jY b.data.toList=p):∃v H1 bK,aU ah (.fn CE [] []) [.s (.string b)] base H=some (.bV [.agg [v],.agg [.s (.int .i64 p.2.1.1),.s (.int .i64 p.2.1.2)],.s (.int .i64 p.2.2)],H1)/\
 H1++[bq.cells 0 [v]]++[bq.cells 0 [.s (.int .i64 p.2.1.1),.s (.int .i64 p.2.1.2)]]=bK/\Ext H bK/\base<=H1.length/\base<=H1.length+1/\bK.length=H1.length+2/\H.length<=H1.length/\v.one=true/\pB bK v p.1/\ao bK H1.length 0=some [v]/\ao bK (H1.length+1) 0=some [.s (.int .i64 p.2.1.1),.s (.int .i64 p.2.1.2)]:=by
 obtain⟨v,H1,J,aF,ax⟩:=aS base H b af;rw[aj]at J ax;have ar:=ax H1 fun _ _ _=>rfl;obtain⟨bK,iN⟩:∃X,H1++[bq.cells 0 [v]]++[bq.cells 0 [.s (.int .i64 p.2.1.1),.s (.int .i64 p.2.1.2)]]=X:=⟨_,rfl⟩;have aK:Ext H1 bK:=iN▸(Ext.app _ _).trans (Ext.app _ _);have ak:=aF.le
 refine⟨v,H1,bK,J,iN,aF.trans aK,by omega,by omega,by rw[<- iN,kw,kw],ak,ar.one,ar.ext aK,iN▸XK _ _ _,iN▸U' _ _ _⟩
end
open Go.dO
abbrev No:Nat:=20
def GR:=List.range' 2 110
theorem aBL:hV GR (gC 112 [] 2)=[]:=by kernel_rfl
def Vm:=[c0 4 (b1 0),c0 5 dP]
def XE:=[c0 6 (b1 0)]
def aks:=[c0 7 (b1 0)]
def XP:=[ai 12 7,ai 13 0,q 14 (.dD .s (.t 13)),q 15 (.bin .lss (.t 12) (.t 14))]
def XF:=[c0 8 gk]
def ags:=[ai 18 0,ai 19 7,iJ 20 1 18 19,cL 21 20]
def aet:=[q 55 (.bin .eql (.t 21) (cv #[78])),ai 54 55]
def aan:=[ai 8 58]
def ajv:=c2 58 44 [.t 56,.t 57,cK 1,cv #[]]::aan
def apc:=[ai 56 1,ai 57 6]
def Xq:=apc++ajv
def Wv:=[q 60 (.bin .eql (.t 21) (cv #[75])),ai 59 60]
def alU:=[ai 8 63]
def U8:=c2 63 44 [.t 61,.t 62,cK 2,cv #[]]::alU
def aCQ:=[ai 61 1,ai 62 6]
def VN:=aCQ++U8
def Uu:=[q 65 (.bin .eql (.t 21) (cv #[63])),ai 64 65]
def akD:=[c2 68 44 [.t 66,.t 67,cK 1,cv #[]]]
def ap9:=[ai 66 1,ai 67 6]
def amT:=ap9++akD
def anj:=[ai 69 6,q 70 (.bin .add (.t 69) (b1 1)),ai 6 70]
def aij:=[ai 71 6,ai 4 71,c0 5 gk]
def YF:=[q 73 (.bin .eql (.t 21) (cv #[40])),ai 72 73]
def ajZ:=[q 74 (.bin .eql (.t 21) (cv #[91])),ai 72 74]
def VY:=[q 82 (.un .not (.t 81))]
def aaL:=c2 81 44 [.t 75,.t 76,cK 3,.t 80]::VY
def aoW:=[ai 75 1,ai 76 6,ai 77 0,ai 78 7,iJ 79 1 77 78,cL 80 79]
def ad6:=aoW++aaL
def aaW:=[ai 83 6,ai 4 83,c0 5 dP]
def aob:=[c0 9 (cv #[41])]
def akc:=[ai 84 0,ai 85 7,iJ 86 1 84 85,cL 87 86,q 88 (.bin .eql (.t 87) (cv #[91]))]
def agA:=[c0 9 (cv #[93])]
def ajl:=[ai 89 99,gJ 100 89 0,gJ 101 89 1,ai 10 100,ai 11 101]
def akl:=c2 99 45 [.t 90,.t 92,.t 97,.t 98]::ajl
def aId:=[ai 90 1,ai 91 6,q 92 (.bin .add (.t 91) (b1 1)),ai 93 0,ai 94 7,iJ 95 1 93 94,cL 96 95,q 97 (.bin .eql (.t 96) (cv #[91])),ai 98 9]
def alQ:=aId++akl
def aaJ:=[ai 102 11,q 103 (.un .not (.t 102))]
def Xu:=[ai 104 10,ai 4 104,c0 5 dP]
def aaa:=[ai 105 10,ai 6 105]
def aev:=[ai 22 6,ai 23 1,q 24 (.dD .s (.t 23)),q 25 (.bin .lss (.t 22) (.t 24)),ai 26 25,da 27 1 26 true,da 28 6 26 true,bQ 29 (.indexAddr 5 (.t 27) (.t 28)) 26 true,ef 30 0 29 26 true,e7 31 30 26 true,bQ 32 (.bin .eql (.t 31) (cK 1)) 26 true,da 33 32 26 true,da 34 1 33 false,da 35 6 33 false,bQ 36 (.indexAddr 5 (.t 34) (.t 35)) 33 false,ef 37 0 36 33 false,e7 38 37 33 false,bQ 39 (.bin .eql (.t 38) (cK 3)) 33 false,bQ 40 (.pick (.t 33) gk (.t 39)) 26 true,ev 41 (.t 26) (.t 40) dP,ai 42 41,da 43 1 42 true,da 44 6 42 true,bQ 45 (.indexAddr 5 (.t 43) (.t 44)) 42 true,ef 46 1 45 42 true,e7 47 46 42 true,da 48 0 42 true,da 49 7 42 true,bQ 50 (.indexAddr 1 (.t 48) (.t 49)) 42 true,e7 51 50 42 true,bQ 52 (.bin .eql (.t 47) (.t 51)) 42 true,ev 53 (.t 42) (.t 52) dP,ai 8 53]
def aco:=[ai 106 8,q 107 (.un .not (.t 106))]
def adJ:=[ai 108 6,ai 4 108,c0 5 dP]
def Z8:=[ai 109 6,q 110 (.bin .add (.t 109) (b1 1)),ai 6 110]
def adB:=[ai 16 7,q 17 (.bin .add (.t 16) (b1 1)),ai 7 17]
def RW:cM:=
 (.seq (.seq (.bc XP [12,13,14] [15])
 (.cond (.t 15)
 .skip
 (.exit 0)))
 (.seq (.block 1
 (.seq (.bc XF [8,15] [])
 (.seq (.seq (.bc ags [18,19,20] [21])
 (.block 2
 (.seq (.bc aet [55] [54])
 (.cond (.t 54)
 (.region Xq [] [21,54,56,57,58])
 (.seq (.bc Wv [54,60] [59])
 (.cond (.t 59)
 (.region VN [] [21,59,61,62,63])
 (.seq (.bc Uu [59,65] [64])
 (.cond (.t 64)
 (.seq (.seq (.region amT [] [0,1,7,21,64,66,67])
 (.cond (.t 68)
 (.bc anj [68,69,70] [6])
 .skip))
 (.seq (.bc aij [6,68,71] [4,5])
 .ret))
 (.seq (.seq (.bc YF [64,73] [72])
 (.cond (.t 72)
 .skip
 (.bc ajZ [21,74] [72])))
 (.cond (.t 72)
 (.seq (.seq (.region ad6 [] [21,72,75,76,77,78,79,80,81])
 (.cond (.t 82)
 (.seq (.bc aaW [0,1,6,7,82,83] [4,5])
 .ret)
 .skip))
 (.seq (.bc aob [82] [9])
 (.seq (.seq (.bc akc [84,85,86,87] [88])
 (.cond (.t 88)
 (.bc agA [88] [9])
 .skip))
 (.seq (.region alQ [] [6,9,88,89,90,91,92,93,94,95,96,97,98,99,100,101])
 (.seq (.seq (.bc aaJ [11,102] [103])
 (.cond (.t 103)
 (.seq (.bc Xu [0,1,7,10,103,104] [4,5])
 .ret)
 .skip))
 (.seq (.bc aaa [10,103,105] [6])
 (.exit 1)))))))
 (.bc aev [21,22,23,24,25,26,27,28,29,30,31,32,33,34,35,36,37,38,39,40,41,42,43,44,45,46,47,48,49,50,51,52,53,72] [8])))))))))))
 (.seq (.seq (.bc aco [8,106] [107])
 (.cond (.t 107)
 (.seq (.bc adJ [0,1,6,7,107,108] [4,5])
 .ret)
 .skip))
 (.bc Z8 [107,109,110] [6])))))
 (.bc adB [16,17] [7])))
def Ld:cM:=RW
def aax:=[ai 111 6,ai 4 111,c0 5 gk]
def x0:eI:={ ntmps:=112,results:=[.tmp 4,.tmp 5],body:=
 (.seq (.bc Vm GR [])
 (.seq (.bc XE [] [6])
 (.seq (.seq (.bc aks [] [7])
 (.block 0
 (.loop [] Ld)))
 (.seq (.bc aax [0,1,6,7,15,111] [4,5])
 .ret)))) }
abbrev Lu:Nat:=21
def vZ:=[0]++List.range' 4 10
def YQ:=[c0 4 (b1 0)]
def Vp:=q 3 (.alloc [dc,dc])::YQ
def VC:=q 2 (.alloc [dV])::Vp
def am9:=q 1 (.box (.t 0))::VC
def ald:=[b2 5 0 1,cL 6 5,q 7 (.bin .eql (.t 6) (cK 4))]
def Lq:r5:=[⟨some 8,.build [.s (.slice none 0 0)] [(0,1)] [],none⟩,⟨some 9,.fieldAddr 3 (.t 1),none⟩,⟨some 10,.load true 2 (.t 9),none⟩,⟨none,.store 1 (.t 2) (.t 8),none⟩,⟨none,.store 2 (.t 3) (.t 10),none⟩,⟨some 4,.move (.c (.s (.int .i64 41))),none⟩]
def aHk(call:c5)(it:gS)(base f H):aC call it base (.region Lq [(2,3)] [1,7,8,9,10]) f H=sR [1,7,8,9,10] (fun eU=>List.all [(2,3)] (j8 call base Lq f H eU)) (cu call base [⟨some 8,.build [.s (.slice none 0 0)] [(0,1)] [],none⟩,⟨some 9,.fieldAddr 3 (.t 1),none⟩,⟨some 10,.load true 2 (.t 9),none⟩,⟨none,.store 1 (.t 2) (.t 8),none⟩,⟨none,.store 2 (.t 3) (.t 10),none⟩,⟨some 4,.move (.c (.s (.int .i64 41))),none⟩] f H):=FX call it base _ _ _ f H
def LF:r5:=[⟨some 11,.build [.s (.slice none 0 0)] [(0,1)] [],none⟩,⟨some 12,.fieldAddr 3 (.t 1),none⟩,⟨some 13,.load true 2 (.t 12),none⟩,⟨none,.store 1 (.t 2) (.t 11),none⟩,⟨none,.store 2 (.t 3) (.t 13),none⟩,⟨some 4,.move (.c (.s (.int .i64 40))),none⟩]
def aIp(call:c5)(it:gS)(base f H):aC call it base (.region LF [(2,3)] [1,7,11,12,13]) f H=sR [1,7,11,12,13] (fun eU=>List.all [(2,3)] (j8 call base LF f H eU)) (cu call base [⟨some 11,.build [.s (.slice none 0 0)] [(0,1)] [],none⟩,⟨some 12,.fieldAddr 3 (.t 1),none⟩,⟨some 13,.load true 2 (.t 12),none⟩,⟨none,.store 1 (.t 2) (.t 11),none⟩,⟨none,.store 2 (.t 3) (.t 13),none⟩,⟨some 4,.move (.c (.s (.int .i64 40))),none⟩] f H):=FX call it base _ _ _ f H
def uT:eI:={ ntmps:=14,results:=[.cell 2 true 1,.cell 3 true 2,.tmp 4],body:=
 (.seq (.region am9 [] vZ)
 (.seq (.seq (.bc ald [5,6] [7])
 (.cond (.t 7)
 (.seq (.region Lq [(2,3)] [1,7,8,9,10])
 .ret)
 .skip))
 (.seq (.region LF [(2,3)] [1,7,11,12,13])
 .ret))) }
theorem aED:gF (List.range' 1 (uT.ntmps-1)) uT.body=true:=by kernel_rfl
abbrev Tp:Nat:=22
def Nj:=List.range' 0 34
theorem apv:hV Nj (gC 34 [] 0)=[]:=by kernel_rfl
def ak9:=[c0 0 rM]
def TY:=[ai 0 33]
def an0:=q 33 (.fy 2 16 [ec,dV,ec,dV,ec,dV,ec,dV,ec,dV,ec,dV,ec,dV,ec,dV,ec,dV,ec,dV,ec,dV,ec,dV,ec,dV,ec,dV,ec,dV,ec,dV] [(0,.t 2),(1,.t 4),(2,.t 6),(3,.t 8),(4,.t 10),(5,.t 12),(6,.t 14),(7,.t 16),(8,.t 18),(9,.t 20),(10,.t 22),(11,.t 24),(12,.t 26),(13,.t 28),(14,.t 30),(15,.t 32)])::TY
def aHr:=[q 32 (.build [ec,dV] [(0,1),(1,1)] [(0,cK 14),(1,.t 31)])]
def ajM:=aHr++an0
def agN:=q 31 (.fy 1 2 [cm,cm] [(0,cv #[114,101,116]),(1,cv #[63])])::ajM
def avy:=[q 30 (.build [ec,dV] [(0,1),(1,1)] [(0,cK 13),(1,.t 29)])]
def ad1:=avy++agN
def Vh:=q 29 (.fy 1 2 [cm,cm] [(0,cv #[103,111,116,111]),(1,cv #[78])])::ad1
def aFG:=[q 28 (.build [ec,dV] [(0,1),(1,1)] [(0,cK 12),(1,.t 27)])]
def ajI:=aFG++Vh
def akJ:=q 27 (.fy 1 3 [cm,cm,cm] [(0,cv #[98,114]),(1,cv #[78]),(2,cv #[78])])::ajI
def aH2:=[q 26 (.build [ec,dV] [(0,1),(1,1)] [(0,cK 9),(1,.t 25)])]
def Zg:=aH2++akJ
def afs:=q 25 (.fy 1 4 [cm,cm,cm,cm] [(0,cv #[115,116,111,114,101]),(1,cv #[78]),(2,cv #[44]),(3,cv #[78])])::Zg
def aGZ:=[q 24 (.build [ec,dV] [(0,1),(1,1)] [(0,cK 11),(1,.t 23)])]
def U1:=aGZ++afs
def ahs:=q 23 (.fy 1 3 [cm,cm,cm] [(0,cv #[105,99,97,108,108]),(1,cv #[78]),(2,cv #[40])])::U1
def auz:=[q 22 (.build [ec,dV] [(0,1),(1,1)] [(0,cK 11),(1,.t 21)])]
def TD:=auz++ahs
def agb:=q 21 (.fy 1 5 [cm,cm,cm,cm,cm] [(0,cv #[78]),(1,cv #[61]),(2,cv #[105,99,97,108,108]),(3,cv #[78]),(4,cv #[40])])::TD
def atr:=[q 20 (.build [ec,dV] [(0,1),(1,1)] [(0,cK 10),(1,.t 19)])]
def abr:=atr++agb
def amY:=q 19 (.fy 1 3 [cm,cm,cm] [(0,cv #[99,97,108,108]),(1,cv #[78]),(2,cv #[40])])::abr
def atK:=[q 18 (.build [ec,dV] [(0,1),(1,1)] [(0,cK 10),(1,.t 17)])]
def af4:=atK++amY
def Xi:=q 17 (.fy 1 5 [cm,cm,cm,cm,cm] [(0,cv #[78]),(1,cv #[61]),(2,cv #[99,97,108,108]),(3,cv #[78]),(4,cv #[40])])::af4
def ao7:=[q 16 (.build [ec,dV] [(0,1),(1,1)] [(0,cK 6),(1,.t 15)])]
def aea:=ao7++Xi
def Vo:=q 15 (.fy 1 4 [cm,cm,cm,cm] [(0,cv #[78]),(1,cv #[61]),(2,cv #[112,104,105]),(3,cv #[91])])::aea
def aDl:=[q 14 (.build [ec,dV] [(0,1),(1,1)] [(0,cK 7),(1,.t 13)])]
def alm:=aDl++Vo
def acg:=q 13 (.fy 1 5 [cm,cm,cm,cm,cm] [(0,cv #[78]),(1,cv #[61]),(2,cv #[102,105,101,108,100]),(3,cv #[78]),(4,cv #[75])])::alm
def arv:=[q 12 (.build [ec,dV] [(0,1),(1,1)] [(0,cK 8),(1,.t 11)])]
def Uq:=arv++acg
def VK:=q 11 (.fy 1 4 [cm,cm,cm,cm] [(0,cv #[78]),(1,cv #[61]),(2,cv #[108,111,97,100]),(3,cv #[78])])::Uq
def aql:=[q 10 (.build [ec,dV] [(0,1),(1,1)] [(0,cK 5),(1,.t 9)])]
def agE:=aql++VK
def T3:=q 9 (.fy 1 4 [cm,cm,cm,cm] [(0,cv #[78]),(1,cv #[61]),(2,cv #[99,111,112,121]),(3,cv #[78])])::agE
def aES:=[q 8 (.build [ec,dV] [(0,1),(1,1)] [(0,cK 4),(1,.t 7)])]
def UF:=aES++T3
def Zb:=q 7 (.fy 1 4 [cm,cm,cm,cm] [(0,cv #[78]),(1,cv #[61]),(2,cv #[97,100,100,114]),(3,cv #[78])])::UF
def awo:=[q 6 (.build [ec,dV] [(0,1),(1,1)] [(0,cK 3),(1,.t 5)])]
def agL:=awo++Zb
def Ug:=q 5 (.fy 1 3 [cm,cm,cm] [(0,cv #[78]),(1,cv #[61]),(2,cv #[110,117,108,108])])::agL
def aoU:=[q 4 (.build [ec,dV] [(0,1),(1,1)] [(0,cK 2),(1,.t 3)])]
def ag3:=aoU++Ug
def aaq:=q 3 (.fy 1 4 [cm,cm,cm,cm] [(0,cv #[78]),(1,cv #[61]),(2,cv #[109,97,108,108,111,99]),(3,cv #[75])])::ag3
def arM:=[q 2 (.build [ec,dV] [(0,1),(1,1)] [(0,cK 1),(1,.t 1)])]
def anh:=arM++aaq
def adS:=q 1 (.fy 1 4 [cm,cm,cm,cm] [(0,cv #[78]),(1,cv #[61]),(2,cv #[97,108,108,111,99,97]),(3,cv #[75])])::anh
def xf:eI:={ ntmps:=34,results:=[.tmp 0],body:=
 (.seq (.bc ak9 Nj [])
 (.seq (.region adS [] [1,2,3,4,5,6,7,8,9,10,11,12,13,14,15,16,17,18,19,20,21,22,23,24,25,26,27,28,29,30,31,32,33])
 .ret)) }
abbrev ID:Nat:=44
def Bv:=List.range' 4 31
theorem aCi:hV Bv (gC 35 [] 4)=[]:=by kernel_rfl
def aiy:=[c0 8 dP]
def agD:=[ai 9 1,ai 10 0,q 11 (.dD .s (.t 10)),q 12 (.bin .lss (.t 9) (.t 11)),ai 13 12,da 14 0 13 true,da 15 1 13 true,bQ 16 (.indexAddr 5 (.t 14) (.t 15)) 13 true,ef 17 0 16 13 true,e7 18 17 13 true,da 19 2 13 true,bQ 20 (.bin .eql (.t 18) (.t 19)) 13 true,ev 21 (.t 13) (.t 20) dP,ai 22 21,da 23 3 22 true,bQ 24 (.bin .eql (.t 23) (cv #[])) 22 true,da 25 24 22 true,da 26 0 25 false,da 27 1 25 false,bQ 28 (.indexAddr 5 (.t 26) (.t 27)) 25 false,ef 29 1 28 25 false,e7 30 29 25 false,da 31 3 25 false,bQ 32 (.bin .eql (.t 30) (.t 31)) 25 false,bQ 33 (.pick (.t 25) gk (.t 32)) 22 true,ev 34 (.t 22) (.t 33) dP,ai 8 34]
def su:eI:={ ntmps:=35,results:=[.tmp 8],body:=
 (.seq (.bc aiy Bv [])
 (.seq (.bc agD [0,1,2,3,9,10,11,12,13,14,15,16,17,18,19,20,21,22,23,24,25,26,27,28,29,30,31,32,33,34] [8])
 .ret)) }
abbrev ann:Nat:=45
def AI:=List.range' 4 51
theorem aA4:hV AI (gC 55 [] 4)=[]:=by kernel_rfl
def agG:=[c0 8 (b1 0),c0 9 dP]
def acU:=[ev 17 (.t 12) (.t 16) dP]
def acA:=bQ 16 (.call (.c (.fn 44 [] [])) [.t 13,.t 14,cK 3,.t 15]) 12 true::acU
def ado:=da 15 3 12 true::acA
def ajL:=da 14 1 12 true::ado
def Vv:=da 13 0 12 true::ajL
def aIo:=[ai 10 2,q 11 (.un .not (.t 10)),ai 12 11]
def anS:=aIo++Vv
def aai:=[ai 18 1,q 19 (.bin .add (.t 18) (b1 1)),ai 8 19,c0 9 gk]
def Vt:=[q 23 (.un .not (.t 22))]
def afi:=c2 22 44 [.t 20,.t 21,cK 1,cv #[]]::Vt
def aDn:=[ai 20 0,ai 21 1]
def Ww:=aDn++afi
def ak2:=[ai 24 1,ai 8 24,c0 9 dP]
def ai0:=[ai 25 1,q 26 (.bin .add (.t 25) (b1 1)),ai 1 26]
def W9:=[ai 27 2]
def abj:=[q 31 (.un .not (.t 30))]
def VD:=c2 30 44 [.t 28,.t 29,cK 3,cv #[58]]::abj
def avH:=[ai 28 0,ai 29 1]
def afg:=avH++VD
def aiD:=[ai 32 1,ai 8 32,c0 9 dP]
def aka:=[ai 33 1,q 34 (.bin .add (.t 33) (b1 1)),ai 1 34]
def ak4:=[q 38 (.un .not (.t 37))]
def Vr:=c2 37 44 [.t 35,.t 36,cK 1,cv #[]]::ak4
def axd:=[ai 35 0,ai 36 1]
def akA:=axd++Vr
def YL:=[ai 39 1,ai 8 39,c0 9 dP]
def ait:=[ai 40 1,q 41 (.bin .add (.t 40) (b1 1)),ai 1 41]
def YX:=[c2 45 44 [.t 42,.t 43,cK 3,.t 44]]
def avr:=[ai 42 0,ai 43 1,ai 44 3]
def XM:=avr++YX
def XY:=[ai 46 1,q 47 (.bin .add (.t 46) (b1 1)),ai 8 47,c0 9 gk]
def acC:=[q 51 (.un .not (.t 50))]
def abn:=c2 50 44 [.t 48,.t 49,cK 3,cv #[44]]::acC
def avA:=[ai 48 0,ai 49 1]
def ZF:=avA++abn
def ai8:=[ai 52 1,ai 8 52,c0 9 dP]
def aak:=[ai 53 1,q 54 (.bin .add (.t 53) (b1 1)),ai 1 54]
def RQ:cM:=
 (.block 1
 (.seq (.seq (.region Ww [] [20,21,22])
 (.cond (.t 23)
 (.seq (.bc ak2 [0,1,2,3,23,24] [8,9])
 .ret)
 .skip))
 (.seq (.bc ai0 [23,25,26] [1])
 (.seq (.seq (.bc W9 [] [27])
 (.cond (.t 27)
 (.seq (.seq (.region afg [] [27,28,29,30])
 (.cond (.t 31)
 (.seq (.bc aiD [0,1,2,3,31,32] [8,9])
 .ret)
 .skip))
 (.seq (.bc aka [31,33,34] [1])
 (.seq (.seq (.region akA [] [35,36,37])
 (.cond (.t 38)
 (.seq (.bc YL [0,1,2,3,38,39] [8,9])
 .ret)
 .skip))
 (.bc ait [38,40,41] [1]))))
 .skip))
 (.seq (.seq (.region XM [] [27,42,43,44])
 (.cond (.t 45)
 (.seq (.bc XY [0,1,2,3,45,46,47] [8,9])
 .ret)
 .skip))
 (.seq (.seq (.region ZF [] [45,48,49,50])
 (.cond (.t 51)
 (.seq (.bc ai8 [0,1,2,3,51,52] [8,9])
 .ret)
 .skip))
 (.bc aak [51,53,54] [1])))))))
def QS:cM:=RQ
def vx:eI:={ ntmps:=55,results:=[.tmp 8,.tmp 9],body:=
 (.seq (.bc agG AI [])
 (.seq (.seq (.region anS [] [10,11,12,13,14,15,16])
 (.cond (.t 17)
 (.seq (.bc aai [0,1,2,3,17,18,19] [8,9])
 .ret)
 .skip))
 (.block 0
 (.loop [17] QS)))) }
def mz:=I (aR Vm GR [] 6 [] [] [.cI (.s (.int .i64 0)),.cI (.s (.bool false))]) (I aBL (I (bE GR 0) (I (bE GR 1) (I (aR XE [] [6] 7 [] [(6,jz 0)] [.cI (.s (.int .i64 0))]) (I (aR aks [] [7] 8 [] [(7,jz 0)] [.cI (.s (.int .i64 0))]) (I (aR XP [12,13,14] [15] 16 [] [(15,eS .lss (.t 7) (ig (.t 0)))] [.ay 7,.ay 0,ad [1],ad []]) (I (aR XF [8,15] [] 9 [] [] [.cI (.s (.bool true))]) (I (aR ags [18,19,20] [21] 22 [] [(21,bO (gU 1 (.t 0) (.t 7)))] [.ay 0,.ay 7,ad [0],ad []]) (I (aR aet [55] [54] 56 [] [(54,.op (.bin .eql (.t 0) (.c (.s (.string ⟨#[78]⟩)))) [.t 21,.c (.s (.string ⟨#[78]⟩))])] [ad [],ad []]) (I (bl Xq [21,54] [56,57] [21,54,56,57,58] 58 [] [(56,.t 1),(57,.t 6)] [.ay 1,.ay 6]) (I (aS ajv [56,57] [21,54,56,57,58]) (I (dB aan [21,54,56,57,58] [8] 9 [] [(8,.t 58)] [.ay 58]) (I (aR Wv [54,60] [59] 61 [] [(59,.op (.bin .eql (.t 0) (.c (.s (.string ⟨#[75]⟩)))) [.t 21,.c (.s (.string ⟨#[75]⟩))])] [ad [],ad []]) (I (bl VN [21,59] [61,62] [21,59,61,62,63] 63 [] [(61,.t 1),(62,.t 6)] [.ay 1,.ay 6]) (I (aS U8 [61,62] [21,59,61,62,63]) (I (dB alU [21,59,61,62,63] [8] 9 [] [(8,.t 63)] [.ay 63]) (I (aR Uu [59,65] [64] 66 [] [(64,.op (.bin .eql (.t 0) (.c (.s (.string ⟨#[63]⟩)))) [.t 21,.c (.s (.string ⟨#[63]⟩))])] [ad [],ad []]) (I (bl amT [0,1,7,21,64] [66,67] [0,1,7,21,64,66,67] 68 [] [(66,.t 1),(67,.t 6)] [.ay 1,.ay 6]) (I (cx akD [0,1,7,21,64,66,67]) (I (aR anj [68,69,70] [6] 71 [] [(6,fV 1 (.t 6))] [.ay 6,ad [],ad []]) (I (aR aij [6,68,71] pK 72 [] [(4,.t 6),(5,hH)] [.ay 6,.ay 6,.cI (.s (.bool true))]) (I (aR YF [64,73] [72] 74 [] [(72,.op (.bin .eql (.t 0) (.c (.s (.string ⟨#[40]⟩)))) [.t 21,.c (.s (.string ⟨#[40]⟩))])] [ad [],ad []]) (I (aR ajZ [21,74] [72] 75 [] [(72,.op (.bin .eql (.t 0) (.c (.s (.string ⟨#[91]⟩)))) [.t 21,.c (.s (.string ⟨#[91]⟩))])] [ad [],ad []]) (I (bl ad6 [21,72,77,78,79] [75,76,80] [21,72,75,76,77,78,79,80,81] 81 [] [(75,.t 1),(76,.t 6),(80,bO (gU 1 (.t 0) (.t 7)))] [.ay 1,.ay 6,.ay 0,.ay 7,.sub 2 [0] [],.sub 2 [] []]) (I (aS aaL [75,76,80] [21,72,75,76,77,78,79,80,81]) (I (dB VY [21,72,75,76,77,78,79,80,81] [82] 83 [] [(82,mv (.t 81))] [ad []]) (I (aR aaW [0,1,6,7,82,83] pK 84 [] [(4,.t 6),(5,ht)] [.ay 6,.ay 6,.cI (.s (.bool false))]) (I (aR aob [82] [9] 10 [] [(9,.c (.s (.string ⟨#[41]⟩)))] [.cI (.s (.string ⟨#[41]⟩))]) (I (aR akc [84,85,86,87] [88] 89 [] [(88,.op (.bin .eql (.t 0) (.c (.s (.string ⟨#[91]⟩)))) [bO (gU 1 (.t 0) (.t 7)),.c (.s (.string ⟨#[91]⟩))])] [.ay 0,.ay 7,ad [0,0],ad [0],ad []]) (I (aR agA [88] [9] 10 [] [(9,.c (.s (.string ⟨#[93]⟩)))] [.cI (.s (.string ⟨#[93]⟩))]) (I (bl alQ [6,9,88,91,93,94,95,96] [90,92,97,98] abx 99 [] [(90,.t 1),(92,fV 1 (.t 6)),(97,.op (.bin .eql (.t 0) (.c (.s (.string ⟨#[91]⟩)))) [bO (gU 1 (.t 0) (.t 7)),.c (.s (.string ⟨#[91]⟩))]),(98,.t 9)] [.ay 1,.ay 6,.sub 1 [] [],.ay 0,.ay 7,.sub 2 [0,0] [],.sub 2 [0] [],.sub 2 [] [],.ay 9]) (I (aS akl [90,92,97,98] abx) (I (dB ajl [6,9,88,89,90,91,92,93,94,95,96,97,98,99,100,101] [10,11] 102 [] [(10,gY 0 (.t 99)),(11,gY 1 (.t 99))] [.ay 99,ad [],.sub 1 [] [],ad [],.sub 1 [] []]) (I (aR aaJ [11,102] [103] 104 [] [(103,mv (.t 11))] [.ay 11,ad []]) (I (aR Xu [0,1,7,10,103,104] pK 105 [] [(4,.t 10),(5,ht)] [.ay 10,.ay 10,.cI (.s (.bool false))]) (I (aR aaa [10,103,105] [6] 106 [] [(6,.t 10)] [.ay 10,.ay 10]) (I (aR aev [21,22,23,24,25,26,27,28,29,30,31,32,33,34,35,36,37,38,39,40,41,42,43,44,45,46,47,48,49,50,51,52,53,72] [8] 54 [] [(8,.pick (.pick (eS .lss (.t 6) (ig (.t 1))) (.pick (hj 1 (bO (bI 0 (gU 5 (.t 1) (.t 6))))) hH (hj 3 (bO (bI 0 (gU 5 (.t 1) (.t 6)))))) ht) (eS .eql (bO (bI 1 (gU 5 (.t 1) (.t 6)))) (bO (gU 1 (.t 0) (.t 7)))) ht)] [.ay 6,.ay 1,ad [0,0,1],ad [0,0],ad [0,0],.sub 0 [0,1,0,0,0,0,0] [26],.sub 0 [0,1,0,0,0,0,1] [26],.sub 0 [0,1,0,0,0,0] [26],.sub 0 [0,1,0,0,0] [26],.sub 0 [0,1,0,0] [26],.sub 0 [0,1,0] [26],.sub 0 [0,1,0] [26],.sub 0 [0,1,2,0,0,0,0] [26,33],.sub 0 [0,1,2,0,0,0,1] [26,33],.sub 0 [0,1,2,0,0,0] [26,33],.sub 0 [0,1,2,0,0] [26,33],.sub 0 [0,1,2,0] [26,33],.sub 0 [0,1,2] [26,33],.sub 0 [0,1] [26],ad [0],ad [0],.sub 0 [1,0,0,0,0] [42],.sub 0 [1,0,0,0,1] [42],.sub 0 [1,0,0,0] [42],.sub 0 [1,0,0] [42],.sub 0 [1,0] [42],.sub 0 [1,1,0,0] [42],.sub 0 [1,1,0,1] [42],.sub 0 [1,1,0] [42],.sub 0 [1,1] [42],.sub 0 [1] [42],ad [],ad []]) (I (aR aco [8,106] [107] 108 [] [(107,mv (.t 8))] [.ay 8,ad []]) (I (aR adJ [0,1,6,7,107,108] pK 109 [] [(4,.t 6),(5,ht)] [.ay 6,.ay 6,.cI (.s (.bool false))]) (I (aR Z8 [107,109,110] [6] 111 [] [(6,fV 1 (.t 6))] [.ay 6,ad [],ad []]) (I (aR adB [16,17] [7] 18 [] [(7,fV 1 (.t 7))] [.ay 7,ad [],ad []]) (I (bx Ld RW) (I (aR aax [0,1,6,7,15,111] pK 112 [] [(4,.t 6),(5,hH)] [.ay 6,.ay 6,.cI (.s (.bool true))]) (RW.eq_1))))))))))))))))))))))))))))))))))))))))))))
def TC:=I (aS am9 [0,2,3,4,5,6,7,8,9,10,11,12,13] vZ) (I (aS VC [] vZ) (I (aS Vp [] vZ) (I (dB YQ vZ [] 5 [] [] [.cI (.s (.int .i64 0))]) (I (bn vZ 0) (I (bE vZ 1) (I (bE vZ 2) (I (bE vZ 3) (I (bn vZ 4) ((aR ald [5,6] [7] 8 [] [(7,hj 4 (bO (bI 0 (.t 1))))] [ad [0,0],ad [0],ad []]))))))))))
def ayh:=I (aR ak9 Nj [] 1 [] [] [.cI (.s (.slice none 0 0))]) (I apv (I (aS adS [] bol) (I (bl anh [1] [2] bol 3 [] [(2,.op (.build [.s (.int .u8 0),.s (.slice none 0 0)] [(0,1),(1,1)] [(0,.c (.s (.int .u8 1))),(1,.t 1)]) [.c (.s (.int .u8 1)),.t 1])] [ad []]) (I (aS aaq [] bol) (I (bl ag3 [3] [4] bol 5 [] [(4,.op (.build [.s (.int .u8 0),.s (.slice none 0 0)] [(0,1),(1,1)] [(0,.c (.s (.int .u8 2))),(1,.t 1)]) [.c (.s (.int .u8 2)),.t 3])] [ad []]) (I (aS Ug [] bol) (I (bl agL [5] [6] bol 7 [] [(6,.op (.build [.s (.int .u8 0),.s (.slice none 0 0)] [(0,1),(1,1)] [(0,.c (.s (.int .u8 3))),(1,.t 1)]) [.c (.s (.int .u8 3)),.t 5])] [ad []]) (I (aS Zb [] bol) (I (bl UF [7] [8] bol 9 [] [(8,.op (.build [.s (.int .u8 0),.s (.slice none 0 0)] [(0,1),(1,1)] [(0,.c (.s (.int .u8 4))),(1,.t 1)]) [.c (.s (.int .u8 4)),.t 7])] [ad []]) (I (aS T3 [] bol) (I (bl agE [9] [10] bol 11 [] [(10,.op (.build [.s (.int .u8 0),.s (.slice none 0 0)] [(0,1),(1,1)] [(0,.c (.s (.int .u8 5))),(1,.t 1)]) [.c (.s (.int .u8 5)),.t 9])] [ad []]) (I (aS VK [] bol) (I (bl Uq [11] [12] bol 13 [] [(12,.op (.build [.s (.int .u8 0),.s (.slice none 0 0)] [(0,1),(1,1)] [(0,.c (.s (.int .u8 8))),(1,.t 1)]) [.c (.s (.int .u8 8)),.t 11])] [ad []]) (I (aS acg [] bol) (I (bl alm [13] [14] bol 15 [] [(14,.op (.build [.s (.int .u8 0),.s (.slice none 0 0)] [(0,1),(1,1)] [(0,.c (.s (.int .u8 7))),(1,.t 1)]) [.c (.s (.int .u8 7)),.t 13])] [ad []]) (I (aS Vo [] bol) (I (bl aea [15] [16] bol 17 [] [(16,.op (.build [.s (.int .u8 0),.s (.slice none 0 0)] [(0,1),(1,1)] [(0,.c (.s (.int .u8 6))),(1,.t 1)]) [.c (.s (.int .u8 6)),.t 15])] [ad []]) (I (aS Xi [] bol) (I (bl af4 [17] [18] bol 19 [] [(18,.op (.build [.s (.int .u8 0),.s (.slice none 0 0)] [(0,1),(1,1)] [(0,.c (.s (.int .u8 10))),(1,.t 1)]) [.c (.s (.int .u8 10)),.t 17])] [ad []]) (I (aS amY [] bol) (I (bl abr [19] [20] bol 21 [] [(20,.op (.build [.s (.int .u8 0),.s (.slice none 0 0)] [(0,1),(1,1)] [(0,.c (.s (.int .u8 10))),(1,.t 1)]) [.c (.s (.int .u8 10)),.t 19])] [ad []]) (I (aS agb [] bol) (I (bl TD [21] [22] bol 23 [] [(22,.op (.build [.s (.int .u8 0),.s (.slice none 0 0)] [(0,1),(1,1)] [(0,.c (.s (.int .u8 11))),(1,.t 1)]) [.c (.s (.int .u8 11)),.t 21])] [ad []]) (I (aS ahs [] bol) (I (bl U1 [23] [24] bol 25 [] [(24,.op (.build [.s (.int .u8 0),.s (.slice none 0 0)] [(0,1),(1,1)] [(0,.c (.s (.int .u8 11))),(1,.t 1)]) [.c (.s (.int .u8 11)),.t 23])] [ad []]) (I (aS afs [] bol) (I (bl Zg [25] [26] bol 27 [] [(26,.op (.build [.s (.int .u8 0),.s (.slice none 0 0)] [(0,1),(1,1)] [(0,.c (.s (.int .u8 9))),(1,.t 1)]) [.c (.s (.int .u8 9)),.t 25])] [ad []]) (I (aS akJ [] bol) (I (bl ajI [27] [28] bol 29 [] [(28,.op (.build [.s (.int .u8 0),.s (.slice none 0 0)] [(0,1),(1,1)] [(0,.c (.s (.int .u8 12))),(1,.t 1)]) [.c (.s (.int .u8 12)),.t 27])] [ad []]) (I (aS Vh [] bol) (I (bl ad1 [29] [30] bol 31 [] [(30,.op (.build [.s (.int .u8 0),.s (.slice none 0 0)] [(0,1),(1,1)] [(0,.c (.s (.int .u8 13))),(1,.t 1)]) [.c (.s (.int .u8 13)),.t 29])] [ad []]) (I (aS agN [] bol) (I (bl ajM [31] [32] bol 33 [] [(32,.op (.build [.s (.int .u8 0),.s (.slice none 0 0)] [(0,1),(1,1)] [(0,.c (.s (.int .u8 14))),(1,.t 1)]) [.c (.s (.int .u8 14)),.t 31])] [ad []]) (I (aS an0 [2,4,6,8,10,12,14,16,18,20,22,24,26,28,30,32] bol) ((dB TY [1,2,3,4,5,6,7,8,9,10,11,12,13,14,15,16,17,18,19,20,21,22,23,24,25,26,27,28,29,30,31,32,33] [0] 1 [] [(0,.t 33)] [.ay 33]))))))))))))))))))))))))))))))))))))
def Lh:=I (aR aiy Bv [] 9 [] [] [.cI (.s (.bool false))]) (I aCi (I (bE Bv 0) (I (bE Bv 1) (I (bE Bv 2) (I (bE Bv 3) ((aR agD [0,1,2,3,9,10,11,12,13,14,15,16,17,18,19,20,21,22,23,24,25,26,27,28,29,30,31,32,33,34] [8] 35 [] [(8,.pick (.pick (eS .lss (.t 1) (ig (.t 0))) (eS .eql (bO (bI 0 (gU 5 (.t 0) (.t 1)))) (.t 2)) (.c (.s (.bool false)))) (.pick (.op (.bin .eql (.t 0) (.c (.s (.string ⟨#[]⟩)))) [.t 3,.c (.s (.string ⟨#[]⟩))]) (.c (.s (.bool true))) (eS .eql (bO (bI 1 (gU 5 (.t 0) (.t 1)))) (.t 3))) (.c (.s (.bool false))))] [.ay 1,.ay 0,ad [0,0,1],ad [0,0],ad [0,0],.sub 0 [0,1,0,0,0,0] [13],.sub 0 [0,1,0,0,0,1] [13],.sub 0 [0,1,0,0,0] [13],.sub 0 [0,1,0,0] [13],.sub 0 [0,1,0] [13],.sub 0 [0,1,1] [13],.sub 0 [0,1] [13],ad [0],ad [0],.sub 0 [1,0,0] [22],.sub 0 [1,0] [22],.sub 0 [1,0] [22],.sub 0 [1,2,0,0,0,0] [22,25],.sub 0 [1,2,0,0,0,1] [22,25],.sub 0 [1,2,0,0,0] [22,25],.sub 0 [1,2,0,0] [22,25],.sub 0 [1,2,0] [22,25],.sub 0 [1,2,1] [22,25],.sub 0 [1,2] [22,25],.sub 0 [1] [22],ad [],ad []])))))))
def sb:=I (aR agG AI [] 10 [] [] [.cI (.s (.int .i64 0)),.cI (.s (.bool false))]) (I aA4 (I (bE AI 0) (I (bE AI 1) (I (bE AI 2) (I (bE AI 3) (I (bl anS [10,11] [12] FJ 13 [] [(12,mv (.t 2))] [.ay 2,ad [],ad []]) (I (aS Vv [] FJ) (I (aS ajL [] FJ) (I (aS ado [] FJ) (I (aS acA [13,14,15] FJ) (I (dB acU [10,11,12,13,14,15,16] [17] 18 [] [(17,.pick (.t 12) (.t 16) ht)] [ad []]) (I (aR aai [0,1,2,3,17,18,19] [8,9] 20 [] [(8,fV 1 (.t 1)),(9,hH)] [.ay 1,ad [],ad [],.cI (.s (.bool true))]) (I (bl Ww [] [20,21] [20,21,22] 22 [] [(20,.t 0),(21,.t 1)] [.ay 0,.ay 1]) (I (aS afi [20,21] [20,21,22]) (I (dB Vt [20,21,22] [23] 24 [] [(23,mv (.t 22))] [ad []]) (I (aR ak2 [0,1,2,3,23,24] [8,9] 25 [] [(8,.t 1),(9,ht)] [.ay 1,.ay 1,.cI (.s (.bool false))]) (I (aR ai0 [23,25,26] [1] 27 [] [(1,fV 1 (.t 1))] [.ay 1,ad [],ad []]) (I (aR W9 [] [27] 28 [] [(27,.t 2)] [.ay 2]) (I (bl afg [27] [28,29] [27,28,29,30] 30 [] [(28,.t 0),(29,.t 1)] [.ay 0,.ay 1]) (I (aS VD [28,29] [27,28,29,30]) (I (dB abj [27,28,29,30] [31] 32 [] [(31,mv (.t 30))] [ad []]) (I (aR aiD [0,1,2,3,31,32] [8,9] 33 [] [(8,.t 1),(9,ht)] [.ay 1,.ay 1,.cI (.s (.bool false))]) (I (aR aka [31,33,34] [1] 35 [] [(1,fV 1 (.t 1))] [.ay 1,ad [],ad []]) (I (bl akA [] [35,36] [35,36,37] 37 [] [(35,.t 0),(36,.t 1)] [.ay 0,.ay 1]) (I (aS Vr [35,36] [35,36,37]) (I (dB ak4 [35,36,37] [38] 39 [] [(38,mv (.t 37))] [ad []]) (I (aR YL [0,1,2,3,38,39] [8,9] 40 [] [(8,.t 1),(9,ht)] [.ay 1,.ay 1,.cI (.s (.bool false))]) (I (aR ait [38,40,41] [1] 42 [] [(1,fV 1 (.t 1))] [.ay 1,ad [],ad []]) (I (bl XM [27] [42,43,44] [27,42,43,44] 45 [] [(42,.t 0),(43,.t 1),(44,.t 3)] [.ay 0,.ay 1,.ay 3]) (I (cx YX [27,42,43,44]) (I (aR XY [0,1,2,3,45,46,47] [8,9] 48 [] [(8,fV 1 (.t 1)),(9,hH)] [.ay 1,ad [],ad [],.cI (.s (.bool true))]) (I (bl ZF [45] [48,49] [45,48,49,50] 50 [] [(48,.t 0),(49,.t 1)] [.ay 0,.ay 1]) (I (aS abn [48,49] [45,48,49,50]) (I (dB acC [45,48,49,50] [51] 52 [] [(51,mv (.t 50))] [ad []]) (I (aR ai8 [0,1,2,3,51,52] [8,9] 53 [] [(8,.t 1),(9,ht)] [.ay 1,.ay 1,.cI (.s (.bool false))]) (I (aR aak [51,53,54] [1] 55 [] [(1,fV 1 (.t 1))] [.ay 1,ad [],ad []]) (I (bx QS RQ) (RQ.eq_1))))))))))))))))))))))))))))))))))))))
theorem aoB:fN Tryd.prog fm 20=some (false,x0.ntmps,x0.results,x0.body.bare):=by kernel_rfl
theorem aHw:fN Tryd.prog fm 21=some (false,uT.ntmps,uT.results,uT.body.bare):=by kernel_rfl
theorem aAs:fN Tryd.prog fm 22=some (false,xf.ntmps,xf.results,xf.body.bare):=by kernel_rfl
theorem aF5:fN Tryd.prog fm 44=some (false,su.ntmps,su.results,su.body.bare):=by kernel_rfl
theorem arJ:fN Tryd.prog fm 45=some (false,vx.ntmps,vx.results,vx.body.bare):=by kernel_rfl
open Go.dO
def lB(H:az)(v:V)(l:List Tok.T):Prop:=∃id g off c,v=.aB id g off l.length 5/\ao H id g=some c/\(c.drop off).take (l.length*5)=(l.map cP).flatten
theorem aAK(l:List Tok.T):∀r∈l.map cP,r.length=5:=by
 intro r ar;obtain⟨t,_,rfl⟩:=vE.1 ar;rfl
def lB.ext{H H' v l}(h:lB H v l)(k:Ext H H'):lB H' v l:=by
 obtain⟨id,g,off,c,e,J,U⟩:=h;exact⟨id,g,off,c,e,df J k,U⟩
theorem lB.len{H v l}(h:lB H v l):h0 H .s v=some (.s (.int .i64 l.length)):=by
 obtain⟨id,g,off,c,rfl,_⟩:=h;rfl
theorem lB.at{H v l}(h:lB H v l){i:Nat}{t}(aO:l[i]?=some t):∃id g p,j9 5 v (.s (.int .i64 i))=some (.ref id g p)/\gl H true 5 (.ref id g p)=some (.agg [.s (.int .u8 t.kind),.s (.string ⟨t.text.toArray⟩),.s (.int .i64 t.n),.s (.int .i64 t.line),.s (.int .i64 t.jB)])/\gl H false 1 (.ref id g p)=some (.s (.int .u8 t.kind))/\gl H false 1 (.ref id g (p+1))=some (.s (.string ⟨t.text.toArray⟩))/\gl H false 1 (.ref id g (p+2))=some (.s (.int .i64 t.n))/\gl H false 1 (.ref id g (p+3))=some (.s (.int .i64 t.line)):=by
 obtain⟨id,g,off,c,rfl,aa,ar⟩:=h;have hi:=(cC.1 aO).1
 have ae:(l.map cP)[i]?=some (cP t):=by rw[oi,aO];rfl
 have bb:=abH _ (aAK l) i _ ae
 rw[<- ar,List.drop_take,nL,List.take_take,EK (by omega)]at bb
 have ak:∀(o:Nat) (x:V),(cP t)[o]?=some x->gl H false 1 (.ref id g (off+i*5+o))=some x:=fun o x ae=>by
  have aT:o<5:=(cC.1 ae).1
  have J:c[off+i*5+o]?=some x:=by
   rw[<- bb,iB aT,h4]at ae;exact ae
  rw[lW,aa]
  have e:(c.drop (off+i*5+o)).take 1=[x]:=by
   obtain⟨ak,e⟩:=cC.1 J;rw[hN ak,e];rfl
  dsimp only;rw[e];rfl
 refine⟨id,g,off+i*5,by rw[sX,a' ⟨by omega,by omega,rfl⟩,oH],?_,ak 0 _ rfl,ak 1 _ rfl,ak 2 _ rfl,ak 3 _ rfl⟩
 rw[lW,aa];dsimp only;rw[bb];rfl
def cT(l:List Tok.T)(a k:Nat)(s:List UInt8):Bool:=match l[a]? with
 |none=>false
 |some t=>t.kind==k&&(s==[]||t.text==s)
def rU(a b:Nat):((a:Int)==(b:Int))=(a==b):=by
 rw[fc,cG,cG];omega
def mq(l:List Tok.T)(pr:Bool)(aZ:List UInt8):Nat->Nat->Nat × Bool
 |0,a=>(a,false)
 |n+1,a=>
   if cT l a 1 []then
    if pr&&!cT l (a+1) 3 [58]then(a+1,false)
    else if pr&&!cT l (a+2) 1 []then(a+2,false)
    else
     let b:=if pr then a+3 else a+1
     if cT l b 3 aZ then(b+1,true)
     else if cT l b 3 [44]then mq l pr aZ n (b+1)else(b,false)
   else(a,false)
def k'(l:List Tok.T)(pr:Bool)(aZ:List UInt8)(a:Nat):Nat × Bool:=if !pr&&cT l a 3 aZ then(a+1,true)else mq l pr aZ (l.length+1) a
def jh{l a k s}(h:cT l a k s=true):a<l.length:=by
 unfold cT at h;split at h
 .cases h
 .rename_i t e;exact(cC.1 e).1
structure Kc (ah:Nat->Option c7):Prop where
 word:ah ID=some (.code su)
 row:ah ann=some (.code vx)
section
variable {ah:Nat->Option c7}
def sH(aR:ah ID=some (.code su))(base:Nat){H v l}(h:lB H v l)(a k:Nat)(s:ByteArray):aU ah (.fn ID [] []) [v,.s (.int .i64 a),.s (.int .u8 k),.s (.string s)] base H=some (.s (.bool (cT l a k s.data.toList)),H):=by
 have ak:=h.len
 refine ih (c:=su) aR (by simp[su]) ?_
 unfold cT;cases aO:l[a]? with
 |none=>
   have aN:¬((a:Int)<((l.length:Nat):Int)):=by have:=List.getElem?_eq_none_iff.1 aO;omega
   simp only[su,simprocAttr,Lh,aM,ak,aN]
 |some t=>
   have aN:((a:Int)<((l.length:Nat):Int)):=by have:=(cC.1 aO).1;omega
   obtain⟨id,g,p,J,_,U,ax,_⟩:=h.at aO;have fv:=rU t.kind k;have ck:(⟨#[]⟩:ByteArray).data.toList=[]:=rfl;have aF:(⟨t.text.toArray⟩:ByteArray).data.toList=t.text:=rfl;dsimp only;cases an:t.kind==k with
   |false=>
     rw[an]at fv;simp only[su,simprocAttr,Lh,aM,ak,aN,J,U,ax,fv]
   |true=>
     rw[an]at fv;cases aq:(s.data.toList==([]:List UInt8))with
     |true=>simp only[su,simprocAttr,Lh,aM,ak,aN,J,U,ax,fv,aq]
     |false=>simp only[su,simprocAttr,Lh,aM,ak,aN,J,U,ax,fv,aq]
end
open Go.dO
section
variable {ah:Nat->Option c7}
def aCU(aR:ah ID=some (.code su))(base:Nat){H v l}(h:lB H v l)(aN:l.length<2^40)(pr:Bool)(aZ:ByteArray):∀(n a:Nat),l.length<a+n->a<=l.length+1->
 aG (aC (aU ah) aG base QS) [17] H.length (au 55 [(0,v),(1,.s (.int .i64 a)),(2,.s (.bool pr)),(3,.s (.string aZ))]) H=some (.ret,au 55 [(8,.s (.int .i64 (mq l pr aZ.data.toList n a).1)),(9,.s (.bool (mq l pr aZ.data.toList n a).2))],H):=by
 intro n
 induction n with
 |zero=>
   intro a aD B6;have ct:=sH aR base h a 1 ⟨#[]⟩
   have hw:cT l a 1 []=false:=by
    cases hw:cT l a 1 []with
    |false=>rfl
    |true=>have:=jh hw;omega
   rw[show(⟨#[]⟩:ByteArray).data.toList=[]from rfl,hw]at ct;rw[eo,mq];simp only[za]at ct;simp only[sb,simprocAttr,aM,ct]
 |succ n aw=>
   intro a aD B6;have ct:=sH aR base h a 1 ⟨#[]⟩;rw[show(⟨#[]⟩:ByteArray).data.toList=[]from rfl]at ct;simp only[za]at ct;rw[eo,mq];cases hw:cT l a 1 []with
   |false=>
     rw[hw]at ct;simp only[sb,simprocAttr,aM,ct]
   |true=>
     rw[hw]at ct;have Cc:=jh hw
     have k1:=ie (n:=a) (by omega)
     have et:((3:Nat):Int)=3:=rfl;rw[a' rfl];cases pr with
     |false=>
       have nI:=sH aR base h (a+1) 3 aZ;have qF:=sH aR base h (a+1) 3 ⟨#[44]⟩;rw[show(⟨#[44]⟩:ByteArray).data.toList=[44]from rfl]at qF;rw[et]at nI qF;simp only[nv,lk,gx];cases ax:cT l (a+1) 3 aZ.data.toList with
       |true=>
         rw[ax]at nI
         have k2:=ie (n:=a+1) (by omega)
         simp only[sb,simprocAttr,aM,ct,k1,k2,nI]
       |false=>
         rw[ax]at nI;cases aY:cT l (a+1) 3 [44]with
         |false=>
           rw[aY]at qF;simp only[sb,simprocAttr,aM,ct,k1,nI,qF]
         |true=>
           rw[aY]at qF;have aEU:=jh aY
           have k2:=ie (n:=a+1) (by omega)
           have q:=aw (a+1+1) (by omega) (by omega)
           simp only[sb,simprocAttr,aM,ct,k1,k2,nI,qF,q]
     |true=>
       have wd:=sH aR base h (a+1) 3 ⟨#[58]⟩;rw[show(⟨#[58]⟩:ByteArray).data.toList=[58]from rfl,et]at wd;simp only[px];cases J:cT l (a+1) 3 [58]with
       |false=>
         rw[J]at wd;simp only[sb,simprocAttr,aM,ct,k1,wd]
       |true=>
         rw[J]at wd;have ql:=jh J
         have k2:=ie (n:=a+1) (by omega)
         have y2:=sH aR base h (a+2) 1 ⟨#[]⟩;rw[show(⟨#[]⟩:ByteArray).data.toList=[]from rfl]at y2;simp only[za]at y2;rw[show a+1+1=a+2 from rfl]at k2;cases U:cT l (a+2) 1 []with
         |false=>
           rw[U]at y2;simp only[sb,simprocAttr,aM,ct,k1,k2,wd,y2]
         |true=>
           rw[U]at y2;have so:=jh U
           have dx:=ie (n:=a+2) (by omega)
           rw[show a+2+1=a+3 from rfl]at dx;have nI:=sH aR base h (a+3) 3 aZ;have qF:=sH aR base h (a+3) 3 ⟨#[44]⟩;rw[show(⟨#[44]⟩:ByteArray).data.toList=[44]from rfl]at qF;rw[et]at nI qF;simp only[SO,lk,gx,fl];cases ax:cT l (a+3) 3 aZ.data.toList with
           |true=>
             rw[ax]at nI
             have hs:=ie (n:=a+3) (by omega)
             simp only[sb,simprocAttr,aM,ct,k1,k2,dx,hs,wd,y2,nI]
           |false=>
             rw[ax]at nI;cases aY:cT l (a+3) 3 [44]with
             |false=>
               rw[aY]at qF;simp only[sb,simprocAttr,aM,ct,k1,k2,dx,wd,y2,nI,qF]
             |true=>
               rw[aY]at qF;have aEU:=jh aY
               have hs:=ie (n:=a+3) (by omega)
               have q:=aw (a+3+1) (by omega) (by omega)
               simp only[sb,simprocAttr,aM,ct,k1,k2,dx,hs,wd,y2,nI,qF,q]
def YB(aY:Kc ah)(base){H v l}(h:lB H v l)(aN:l.length<2^40)(pr aZ){a}(aD:a<=l.length):aU ah (.fn ann [] []) [v,.s (.int .i64 a),.s (.bool pr),.s (.string aZ)] base H=some (.bV [.s (.int .i64 (k' l pr aZ.data.toList a).1),.s (.bool (k' l pr aZ.data.toList a).2)],H):=by
 have q:=aCU aY.word base h aN pr aZ (l.length+1) a (by omega) (by omega)
 have k1:=ie (n:=a) (by omega)
 refine ih (c:=vx) aY.row (by simp[vx]) ?_
 unfold k';cases pr with
 |true=>simp only[vx,simprocAttr,sb,aM,q]
 |false=>
   have nI:=sH aY.word base h a 3 aZ;rw[show((3:Nat):Int)=3 from rfl]at nI;cases ax:cT l a 3 aZ.data.toList with
   |true=>
     rw[ax]at nI;simp only[vx,simprocAttr,sb,aM,nI,k1]
   |false=>
     rw[ax]at nI;simp only[vx,simprocAttr,sb,aM,nI,q]
end
open Go.dO
def yx(l:List Tok.T)(a:Nat)(s:List UInt8):Bool:=match l[a]? with
 |none=>false
 |some t=>(t.kind==1||t.kind==3)&&t.text==s
def bW(l:List Tok.T):List (List UInt8)->Nat->Nat × Bool
 | [],a=>(a,true)
 |it::is,a=>
   if it==[78]then(if cT l a 1 []then bW l is (a+1)else(a,false))
   else if it==[75]then(if cT l a 2 []then bW l is (a+1)else(a,false))
   else if it==[63]then(if cT l a 1 []then a+1 else a,true)
   else if it==[40]||it==[91]then
    (if cT l a 3 it then(if(k' l (it==[91]) (if it==[91]then[93]else[41]) (a+1)).2 then bW l is (k' l (it==[91]) (if it==[91]then[93]else[41]) (a+1)).1 else((k' l (it==[91]) (if it==[91]then[93]else[41]) (a+1)).1,false))else(a,false))
   else if yx l a it then bW l is (a+1)else(a,false)
def apS{l a s}(h:yx l a s=true):a<l.length:=by
 unfold yx at h;split at h
 .cases h
 .rename_i t e;exact(cC.1 e).1
def aHu{l pr aZ}:∀(n:Nat) {a:Nat},(mq l pr aZ n a).2=true->(mq l pr aZ n a).1<=l.length/\a<(mq l pr aZ n a).1:=by
 intro n
 induction n with
 |zero=>intro a h;cases h
 |succ n aw=>
   intro a h;rw[mq]at h |-;by_cases J:cT l a 1 []=true
   .rw[a' J]at h |-;by_cases U:(pr&&!cT l (a+1) 3 [58])=true
    .rw[a' U]at h;cases h
    .rw[bm U]at h |-;by_cases ax:(pr&&!cT l (a+2) 1 [])=true
     .rw[a' ax]at h;cases h
     .rw[bm ax]at h |-
      obtain⟨b,af⟩:∃b,(if pr=true then a+3 else a+1)=b:=⟨_,rfl⟩
      have sI:a<b:=by rw[<- af];split<;>omega
      rw[af]at h |-;dsimp only at h |-;by_cases aY:cT l b 3 aZ=true
      .rw[a' aY];have:=jh aY
       exact⟨by show b+1<=_;omega,by show a<b+1;omega⟩
      .rw[bm aY]at h |-;by_cases cl:cT l b 3 [44]=true
       .rw[a' cl]at h |-;have:=aw h
        exact⟨this.1,by omega⟩
       .rw[bm cl]at h;cases h
   .rw[bm J]at h;cases h
def agB{l pr aZ a}(h:(k' l pr aZ a).2=true):(k' l pr aZ a).1<=l.length/\a<(k' l pr aZ a).1:=by
 unfold k' at h |-;by_cases J:(!pr&&cT l a 3 aZ)=true
 .rw[a' J];simp only[dr]at J;have:=jh J.2;exact⟨this,BP _⟩
 .rw[bm J]at h |-;exact aHu _ h
structure Qe (ah:Nat->Option c7):Prop where
 T:Kc ah
 ba:ah No=some (.code x0)
section
variable {ah:Nat->Option c7}
set_option maxHeartbeats 2000000 in
def azN(aY:Kc ah)(base:Nat){H:az}{v:V}{l:List Tok.T}(h:lB H v l)(aN:l.length<2^40){dZ:V}{items:List ByteArray}(hi:Rd H dZ (items.map a7))(hw:hF dZ)(hm:items.length<2^40):∀(is:List ByteArray) (j a:Nat),items.drop j=is->j<=items.length->a<=l.length->
 aG (aC (aU ah) aG base Ld) [] H.length (au 112 [(0,dZ),(1,v),(6,.s (.int .i64 a)),(7,.s (.int .i64 j))]) H=some (.ret,au 112 [(4,.s (.int .i64 (bW l (is.map fun b=>b.data.toList) a).1)),(5,.s (.bool (bW l (is.map fun b=>b.data.toList) a).2))],H)\/((bW l (is.map fun b=>b.data.toList) a).2=true/\
 aG (aC (aU ah) aG base Ld) [] H.length (au 112 [(0,dZ),(1,v),(6,.s (.int .i64 a)),(7,.s (.int .i64 j))]) H=some (.ext 0,au 112 [(0,dZ),(1,v),(6,.s (.int .i64 (bW l (is.map fun b=>b.data.toList) a).1)),(7,.s (.int .i64 items.length)),(15,.s (.bool false))],H)):=by
 have fG:=Fx hi;have e0:=h.len;intro is
 induction is with
 |nil=>
   intro j a aQ br aD
   have mb:j=items.length:=by
    have:=dX List.length aQ;rw[fJ,d9]at this;omega
   subst mb;refine .inr ⟨rfl,?_⟩;rw[eo,x7,bW];simp only[mz,simprocAttr,aM,fG,nq]
 |cons it is aw=>
   intro j a aQ br aD
   have xC:items[j]?=some it:=by have:=dX (·[0]?) aQ;simp only[h4]at this;exact this
   have mb:=(cC.1 xC).1
   have fz:items.drop (j+1)=is:=by
    have:=dX (List.drop 1) aQ
    simpa[nL]using this
   have bt:((j:Int)<((items.length:Nat):Int)):=by omega
   have qd:=ie (n:=j) (by omega)
   have hT:=ie (n:=a) (by omega)
   obtain⟨y,ea,ey⟩:=HP hi hw mb;rw[mI,xC,Hu]at ey;have aKx:(⟨#[78]⟩:ByteArray).data.toList=[78]:=rfl;have aI1:(⟨#[75]⟩:ByteArray).data.toList=[75]:=rfl;have aJq:(⟨#[63]⟩:ByteArray).data.toList=[63]:=rfl;have aJm:(⟨#[40]⟩:ByteArray).data.toList=[40]:=rfl;have aJM:(⟨#[91]⟩:ByteArray).data.toList=[91]:=rfl;have et:((3:Nat):Int)=3:=rfl;have cN:((2:Nat):Int)=2:=rfl;obtain⟨s,aq⟩:∃s,it.data.toList=s:=⟨_,rfl⟩;rw[lL,aq,bW,eo];cases dA:(s==[78])with
   |true=>
     rw[a' rfl];have w:=sH aY.word base h a 1 ⟨#[]⟩;rw[show(⟨#[]⟩:ByteArray).data.toList=[]from rfl]at w;simp only[za]at w;cases oE:cT l a 1 []with
     |true=>
       rw[oE]at w;rw[a' rfl];have Cc:=jh oE
       have q:=aw (j+1) (a+1) fz (by omega) (by omega)
       simp only[mz,simprocAttr,aM,fG,bt,ea,ey,aq,dA,w,hT,qd];exact q
     |false=>
       rw[oE]at w;left;simp only[mz,simprocAttr,aM,fG,bt,ea,ey,aq,dA,w,hT]
   |false=>
   rw[bm BJ];cases cV:(s==[75])with
   |true=>
     rw[a' rfl];have w:=sH aY.word base h a 2 ⟨#[]⟩;rw[show(⟨#[]⟩:ByteArray).data.toList=[]from rfl,cN]at w;cases oE:cT l a 2 []with
     |true=>
       rw[oE]at w;rw[a' rfl];have Cc:=jh oE
       have q:=aw (j+1) (a+1) fz (by omega) (by omega)
       simp only[mz,simprocAttr,aM,fG,bt,ea,ey,aq,dA,cV,w,hT,qd];exact q
     |false=>
       rw[oE]at w;left;simp only[mz,simprocAttr,aM,fG,bt,ea,ey,aq,dA,cV,w]
   |false=>
   rw[bm BJ];cases e9:(s==[63])with
   |true=>
     rw[a' rfl];left;have w:=sH aY.word base h a 1 ⟨#[]⟩;rw[show(⟨#[]⟩:ByteArray).data.toList=[]from rfl]at w;simp only[za]at w;cases oE:cT l a 1 []with
     |true=>
       rw[oE]at w;simp only[mz,simprocAttr,aM,fG,bt,ea,ey,aq,dA,cV,e9,w,hT]
     |false=>
       rw[oE]at w;simp only[mz,simprocAttr,aM,fG,bt,ea,ey,aq,dA,cV,e9,w,hT]
   |false=>
   rw[bm BJ];have w:=sH aY.word base h a 3 it;rw[aq,et]at w;cases hD:(s==[40])with
   |true=>
     have kd:(s==[91])=false:=by rw[eq_of_beq hD];rfl
     rw[kd,tU,a' rfl];simp only[lk,gx];cases oE:cT l a 3 s with
     |false=>
       rw[oE]at w;left;simp only[mz,simprocAttr,aM,fG,bt,ea,ey,aq,dA,cV,e9,hD,kd,w]
     |true=>
       rw[oE]at w;have Cc:=jh oE
       have q:=YB aY base h aN false ⟨#[41]⟩ (a:=a+1) (by omega)
       rw[show(⟨#[41]⟩:ByteArray).data.toList=[41]from rfl]at q;rw[a' rfl];have hI:=agB (l:=l) (pr:=false) (aZ:=[41]) (a:=a+1);obtain⟨⟨k,ok⟩,an⟩:∃r,k' l false [41] (a+1)=r:=⟨_,rfl⟩;rw[an]at q hI |-;cases ok with
       |false=>
         left;simp only[mz,simprocAttr,aM,fG,bt,ea,ey,aq,dA,cV,e9,hD,kd,w,hT,q]
       |true=>
         have z:=aw (j+1) k fz (by omega) (hI rfl).1
         simp only[mz,simprocAttr,aM,fG,bt,ea,ey,aq,dA,cV,e9,hD,kd,w,hT,qd,q];exact z
   |false=>
   cases kd:(s==[91])with
   |true=>
     rw[o5,a' rfl];simp only[fl];cases oE:cT l a 3 s with
     |false=>
       rw[oE]at w;left;simp only[mz,simprocAttr,aM,fG,bt,ea,ey,aq,dA,cV,e9,hD,kd,w]
     |true=>
       rw[oE]at w;have Cc:=jh oE
       have q:=YB aY base h aN true ⟨#[93]⟩ (a:=a+1) (by omega)
       rw[show(⟨#[93]⟩:ByteArray).data.toList=[93]from rfl]at q;rw[a' rfl];have hI:=agB (l:=l) (pr:=true) (aZ:=[93]) (a:=a+1);obtain⟨⟨k,ok⟩,an⟩:∃r,k' l true [93] (a+1)=r:=⟨_,rfl⟩;rw[an]at q hI |-;cases ok with
       |false=>
         left;simp only[mz,simprocAttr,aM,fG,bt,ea,ey,aq,dA,cV,e9,hD,kd,w,hT,q]
       |true=>
         have z:=aw (j+1) k fz (by omega) (hI rfl).1
         simp only[mz,simprocAttr,aM,fG,bt,ea,ey,aq,dA,cV,e9,hD,kd,w,hT,qd,q];exact z
   |false=>
   rw[Mk,bm BJ];unfold yx;cases aO:l[a]? with
   |none=>
     have BI:¬((a:Int)<((l.length:Nat):Int)):=by have:=List.getElem?_eq_none_iff.1 aO;omega
     left;simp only[mz,simprocAttr,aM,fG,e0,bt,ea,ey,aq,dA,cV,e9,hD,kd,BI]
   |some t=>
     have Cc:=(cC.1 aO).1
     have BI:((a:Int)<((l.length:Nat):Int)):=by omega
     obtain⟨id,g,p,J,_,U,ax,_⟩:=h.at aO;have mA:=rU t.kind 1;have Dd:=rU t.kind 3;simp only[za]at mA;rw[et]at Dd;have aF:(⟨t.text.toArray⟩:ByteArray).data.toList=t.text:=rfl
     have z:=aw (j+1) (a+1) fz (by omega) (by omega)
     dsimp only
     have Iv:∀x:Bool,x=true\/x=false:=fun x=>by cases x<;>simp
     rcases Iv (t.kind==1)with k1|k1
     .rw[k1]at mA
      rcases Iv (t.text==s)with td|td
      .
       simp only[mz,simprocAttr,aM,fG,e0,bt,ea,ey,aq,dA,cV,e9,hD,kd,BI,J,U,ax,mA,td,k1,hT,qd,k7];exact z
      .left;simp only[mz,simprocAttr,aM,fG,e0,bt,ea,ey,aq,dA,cV,e9,hD,kd,BI,J,U,ax,mA,td,k1]
     .rw[k1]at mA
      rcases Iv (t.kind==3)with dx|dx
      .rw[dx]at Dd
       rcases Iv (t.text==s)with td|td
       .
        simp only[mz,simprocAttr,aM,fG,e0,bt,ea,ey,aq,dA,cV,e9,hD,kd,BI,J,U,ax,mA,Dd,k1,dx,td,hT,qd,k7];exact z
       .left;simp only[mz,simprocAttr,aM,fG,e0,bt,ea,ey,aq,dA,cV,e9,hD,kd,BI,J,U,ax,mA,Dd,k1,dx,td]
      .rw[dx]at Dd;left;simp only[k1,simprocAttr,dx,mz,aM,fG,e0,bt,ea,ey,aq,dA,cV,e9,hD,kd,BI,J,U,ax,mA,Dd,Mk]
def yU(aY:Qe ah)(base:Nat){H:az}{v:V}{l:List Tok.T}(h:lB H v l)(aN:l.length<2^40){dZ:V}{items:List ByteArray}(hi:Rd H dZ (items.map a7))(hw:hF dZ)(hm:items.length<2^40):aU ah (.fn No [] []) [dZ,v] base H=some (.bV [.s (.int .i64 (bW l (items.map fun b=>b.data.toList) 0).1),.s (.bool (bW l (items.map fun b=>b.data.toList) 0).2)],H):=by
 have q:=azN aY.T base h aN hi hw hm items 0 0 rfl (fa _) (fa _);rw[rD]at q
 refine ih (c:=x0) aY.ba (by simp[x0]) ?_
 rcases q with q|⟨kK,q⟩
 .simp only[x0,simprocAttr,mz,aM,q]
 .simp only[x0,simprocAttr,mz,aM,q,kK]
end
open Go.dO
open Go.dO
open Go.dO
def np{H id l}(h:ao H id 0=some l):Rd H (.aB id 0 0 l.length 1) l:=by
 have:=Rd.aB h (off:=0) (n:=l.length) (by omega)
 rwa[l3,Fm]at this
section
variable {ah:Nat->Option c7}
end
open Go.dO
def Fa{α β:Type}(Q:α->β->Prop):List α->List β->Prop
 | [],[]=>True
 |a::l,b::m=>Q a b/\Fa Q l m
 |_,_=>False
def Fa.at{α β:Type}{Q:α->β->Prop}:∀{l:List α} {m:List β},Fa Q l m->∀(i:Nat) (a:α) (b:β),l[i]?=some a->m[i]?=some b->Q a b
 | [],_,_,i,a,b,h,_=>by simp at h
 |_::_,[],_,i,a,b,_,h=>by simp at h
 |x::l,y::m,⟨J,U⟩,0,a,b,aD,af=>by cases aD;cases af;exact J
 |x::l,y::m,⟨J,U⟩,i+1,a,b,aD,af=>by
   rw[Av]at aD af;exact Fa.at U i a b aD af
def aFh{w:Nat}{R:List (List V)}(h:R.all (fun r=>r.length==w)=true):∀r∈R,r.length=w:=fun r ar=>eq_of_beq (dU.1 h r ar)
def az3{α:Type}{w n id:Nat}{P:az->List V->α->Prop}{H:az}{R:List (List V)}{l:List α}(bb:ao H id 0=some R.flatten)(hw:∀r∈R,r.length=w)(aN:R.length=n)(ak:l.length=n)(af:n<2^63)(h:∀(i:Nat) (r:List V) (x:α),R[i]?=some r->l[i]?=some x->P H r x):ga w P H (.aB id 0 0 n w) l:=by
 subst aN
 refine⟨R,zs.aB bb hw,ak.symm,by omega,fun i x ae=>?_⟩
 have hi:i<R.length:=by have:=(cC.1 ae).1;omega
 exact⟨R[i],dy hi,h i _ x (dy hi) ae⟩
def akL:hF bz:=fun _ _ e=>by cases e
def l9(i g o n z):hF (.aB i g o n z):=fun _ _ e=>by cases e
section
variable {ah:Nat->Option c7}
end
open Go.dO
def fq:List (Nat × List ByteArray):=[(1,[⟨#[78]⟩,⟨#[61]⟩,⟨#[97,108,108,111,99,97]⟩,⟨#[75]⟩]),(2,[⟨#[78]⟩,⟨#[61]⟩,⟨#[109,97,108,108,111,99]⟩,⟨#[75]⟩]),(3,[⟨#[78]⟩,⟨#[61]⟩,⟨#[110,117,108,108]⟩]),(4,[⟨#[78]⟩,⟨#[61]⟩,⟨#[97,100,100,114]⟩,⟨#[78]⟩]),(5,[⟨#[78]⟩,⟨#[61]⟩,⟨#[99,111,112,121]⟩,⟨#[78]⟩]),(8,[⟨#[78]⟩,⟨#[61]⟩,⟨#[108,111,97,100]⟩,⟨#[78]⟩]),(7,[⟨#[78]⟩,⟨#[61]⟩,⟨#[102,105,101,108,100]⟩,⟨#[78]⟩,⟨#[75]⟩]),(6,[⟨#[78]⟩,⟨#[61]⟩,⟨#[112,104,105]⟩,⟨#[91]⟩]),(10,[⟨#[78]⟩,⟨#[61]⟩,⟨#[99,97,108,108]⟩,⟨#[78]⟩,⟨#[40]⟩]),(10,[⟨#[99,97,108,108]⟩,⟨#[78]⟩,⟨#[40]⟩]),(11,[⟨#[78]⟩,⟨#[61]⟩,⟨#[105,99,97,108,108]⟩,⟨#[78]⟩,⟨#[40]⟩]),(11,[⟨#[105,99,97,108,108]⟩,⟨#[78]⟩,⟨#[40]⟩]),(9,[⟨#[115,116,111,114,101]⟩,⟨#[78]⟩,⟨#[44]⟩,⟨#[78]⟩]),(12,[⟨#[98,114]⟩,⟨#[78]⟩,⟨#[78]⟩]),(13,[⟨#[103,111,116,111]⟩,⟨#[78]⟩]),(14,[⟨#[114,101,116]⟩,⟨#[63]⟩])]
def Mb(H:az)(r:List V)(f:Nat × List ByteArray):Prop:=∃dZ,r=[.s (.int .u8 f.1),dZ]/\Rd H dZ (f.2.map a7)/\hF dZ
section
variable {ah:Nat->Option c7}
set_option maxHeartbeats 4000000 in
def aB8(aR:ah Tp=some (.code xf))(base:Nat){A:az}(af:base<=A.length):∃cD H',aU ah (.fn Tp [] []) [] base A=some (cD,H')/\Ext A H'/\ga 2 Mb H' cD fq:=by
 obtain⟨xx,Qw⟩:∃X,A++[bq.cells 0 [.s (.string ⟨#[78]⟩),.s (.string ⟨#[61]⟩),.s (.string ⟨#[97,108,108,111,99,97]⟩),.s (.string ⟨#[75]⟩)]]=X:=⟨_,rfl⟩;have ck:Ext A xx:=Qw▸Ext.app _ _;have g0:ao xx A.length 0=some [.s (.string ⟨#[78]⟩),.s (.string ⟨#[61]⟩),.s (.string ⟨#[97,108,108,111,99,97]⟩),.s (.string ⟨#[75]⟩)]:=Qw▸dz A 0 _;obtain⟨j4,o7⟩:∃X,xx++[bq.cells 0 [.s (.string ⟨#[78]⟩),.s (.string ⟨#[61]⟩),.s (.string ⟨#[109,97,108,108,111,99]⟩),.s (.string ⟨#[75]⟩)]]=X:=⟨_,rfl⟩;have aF:Ext xx j4:=o7▸Ext.app _ _;have g1:ao j4 xx.length 0=some [.s (.string ⟨#[78]⟩),.s (.string ⟨#[61]⟩),.s (.string ⟨#[109,97,108,108,111,99]⟩),.s (.string ⟨#[75]⟩)]:=o7▸dz xx 0 _;obtain⟨hr,ow⟩:∃X,j4++[bq.cells 0 [.s (.string ⟨#[78]⟩),.s (.string ⟨#[61]⟩),.s (.string ⟨#[110,117,108,108]⟩)]]=X:=⟨_,rfl⟩;have aK:Ext j4 hr:=ow▸Ext.app _ _;have g2:ao hr j4.length 0=some [.s (.string ⟨#[78]⟩),.s (.string ⟨#[61]⟩),.s (.string ⟨#[110,117,108,108]⟩)]:=ow▸dz j4 0 _;obtain⟨lK,s8⟩:∃X,hr++[bq.cells 0 [.s (.string ⟨#[78]⟩),.s (.string ⟨#[61]⟩),.s (.string ⟨#[97,100,100,114]⟩),.s (.string ⟨#[78]⟩)]]=X:=⟨_,rfl⟩;have dS:Ext hr lK:=s8▸Ext.app _ _;have g3:ao lK hr.length 0=some [.s (.string ⟨#[78]⟩),.s (.string ⟨#[61]⟩),.s (.string ⟨#[97,100,100,114]⟩),.s (.string ⟨#[78]⟩)]:=s8▸dz hr 0 _;obtain⟨yl,Px⟩:∃X,lK++[bq.cells 0 [.s (.string ⟨#[78]⟩),.s (.string ⟨#[61]⟩),.s (.string ⟨#[99,111,112,121]⟩),.s (.string ⟨#[78]⟩)]]=X:=⟨_,rfl⟩;have e3:Ext lK yl:=Px▸Ext.app _ _;have g4:ao yl lK.length 0=some [.s (.string ⟨#[78]⟩),.s (.string ⟨#[61]⟩),.s (.string ⟨#[99,111,112,121]⟩),.s (.string ⟨#[78]⟩)]:=Px▸dz lK 0 _;obtain⟨xt,NR⟩:∃X,yl++[bq.cells 0 [.s (.string ⟨#[78]⟩),.s (.string ⟨#[61]⟩),.s (.string ⟨#[108,111,97,100]⟩),.s (.string ⟨#[78]⟩)]]=X:=⟨_,rfl⟩;have uJ:Ext yl xt:=NR▸Ext.app _ _;have g5:ao xt yl.length 0=some [.s (.string ⟨#[78]⟩),.s (.string ⟨#[61]⟩),.s (.string ⟨#[108,111,97,100]⟩),.s (.string ⟨#[78]⟩)]:=NR▸dz yl 0 _;obtain⟨x1,Sj⟩:∃X,xt++[bq.cells 0 [.s (.string ⟨#[78]⟩),.s (.string ⟨#[61]⟩),.s (.string ⟨#[102,105,101,108,100]⟩),.s (.string ⟨#[78]⟩),.s (.string ⟨#[75]⟩)]]=X:=⟨_,rfl⟩;have aHf:Ext xt x1:=Sj▸Ext.app _ _;have g6:ao x1 xt.length 0=some [.s (.string ⟨#[78]⟩),.s (.string ⟨#[61]⟩),.s (.string ⟨#[102,105,101,108,100]⟩),.s (.string ⟨#[78]⟩),.s (.string ⟨#[75]⟩)]:=Sj▸dz xt 0 _;obtain⟨xv,Rr⟩:∃X,x1++[bq.cells 0 [.s (.string ⟨#[78]⟩),.s (.string ⟨#[61]⟩),.s (.string ⟨#[112,104,105]⟩),.s (.string ⟨#[91]⟩)]]=X:=⟨_,rfl⟩;have tf:Ext x1 xv:=Rr▸Ext.app _ _;have g7:ao xv x1.length 0=some [.s (.string ⟨#[78]⟩),.s (.string ⟨#[61]⟩),.s (.string ⟨#[112,104,105]⟩),.s (.string ⟨#[91]⟩)]:=Rr▸dz x1 0 _;obtain⟨xV,OA⟩:∃X,xv++[bq.cells 0 [.s (.string ⟨#[78]⟩),.s (.string ⟨#[61]⟩),.s (.string ⟨#[99,97,108,108]⟩),.s (.string ⟨#[78]⟩),.s (.string ⟨#[40]⟩)]]=X:=⟨_,rfl⟩;have Ql:Ext xv xV:=OA▸Ext.app _ _;have g8:ao xV xv.length 0=some [.s (.string ⟨#[78]⟩),.s (.string ⟨#[61]⟩),.s (.string ⟨#[99,97,108,108]⟩),.s (.string ⟨#[78]⟩),.s (.string ⟨#[40]⟩)]:=OA▸dz xv 0 _;obtain⟨yn,Rg⟩:∃X,xV++[bq.cells 0 [.s (.string ⟨#[99,97,108,108]⟩),.s (.string ⟨#[78]⟩),.s (.string ⟨#[40]⟩)]]=X:=⟨_,rfl⟩;have aur:Ext xV yn:=Rg▸Ext.app _ _;have g9:ao yn xV.length 0=some [.s (.string ⟨#[99,97,108,108]⟩),.s (.string ⟨#[78]⟩),.s (.string ⟨#[40]⟩)]:=Rg▸dz xV 0 _;obtain⟨yA,Ot⟩:∃X,yn++[bq.cells 0 [.s (.string ⟨#[78]⟩),.s (.string ⟨#[61]⟩),.s (.string ⟨#[105,99,97,108,108]⟩),.s (.string ⟨#[78]⟩),.s (.string ⟨#[40]⟩)]]=X:=⟨_,rfl⟩;have aEN:Ext yn yA:=Ot▸Ext.app _ _;have g10:ao yA yn.length 0=some [.s (.string ⟨#[78]⟩),.s (.string ⟨#[61]⟩),.s (.string ⟨#[105,99,97,108,108]⟩),.s (.string ⟨#[78]⟩),.s (.string ⟨#[40]⟩)]:=Ot▸dz yn 0 _;obtain⟨yd,Pn⟩:∃X,yA++[bq.cells 0 [.s (.string ⟨#[105,99,97,108,108]⟩),.s (.string ⟨#[78]⟩),.s (.string ⟨#[40]⟩)]]=X:=⟨_,rfl⟩;have aCB:Ext yA yd:=Pn▸Ext.app _ _;have g11:ao yd yA.length 0=some [.s (.string ⟨#[105,99,97,108,108]⟩),.s (.string ⟨#[78]⟩),.s (.string ⟨#[40]⟩)]:=Pn▸dz yA 0 _
 obtain⟨xO,Nc⟩:∃X,yd++[bq.cells 0 [.s (.string ⟨#[115,116,111,114,101]⟩),.s (.string ⟨#[78]⟩),.s (.string ⟨#[44]⟩),.s (.string ⟨#[78]⟩)]]=X:=⟨_,rfl⟩;have IK:Ext yd xO:=Nc▸Ext.app _ _;have g12:ao xO yd.length 0=some [.s (.string ⟨#[115,116,111,114,101]⟩),.s (.string ⟨#[78]⟩),.s (.string ⟨#[44]⟩),.s (.string ⟨#[78]⟩)]:=Nc▸dz yd 0 _;obtain⟨yB,OW⟩:∃X,xO++[bq.cells 0 [.s (.string ⟨#[98,114]⟩),.s (.string ⟨#[78]⟩),.s (.string ⟨#[78]⟩)]]=X:=⟨_,rfl⟩;have aFN:Ext xO yB:=OW▸Ext.app _ _;have g13:ao yB xO.length 0=some [.s (.string ⟨#[98,114]⟩),.s (.string ⟨#[78]⟩),.s (.string ⟨#[78]⟩)]:=OW▸dz xO 0 _;obtain⟨xB,NB⟩:∃X,yB++[bq.cells 0 [.s (.string ⟨#[103,111,116,111]⟩),.s (.string ⟨#[78]⟩)]]=X:=⟨_,rfl⟩;have azM:Ext yB xB:=NB▸Ext.app _ _;have g14:ao xB yB.length 0=some [.s (.string ⟨#[103,111,116,111]⟩),.s (.string ⟨#[78]⟩)]:=NB▸dz yB 0 _;obtain⟨BL,Tu⟩:∃X,xB++[bq.cells 0 [.s (.string ⟨#[114,101,116]⟩),.s (.string ⟨#[63]⟩)]]=X:=⟨_,rfl⟩;have aFT:Ext xB BL:=Tu▸Ext.app _ _;have g15:ao BL xB.length 0=some [.s (.string ⟨#[114,101,116]⟩),.s (.string ⟨#[63]⟩)]:=Tu▸dz xB 0 _;obtain⟨G,jr⟩:∃X,BL++[bq.cells 0 [.s (.int .u8 1),.aB A.length 0 0 4 1,.s (.int .u8 2),.aB xx.length 0 0 4 1,.s (.int .u8 3),.aB j4.length 0 0 3 1,.s (.int .u8 4),.aB hr.length 0 0 4 1,.s (.int .u8 5),.aB lK.length 0 0 4 1,.s (.int .u8 8),.aB yl.length 0 0 4 1,.s (.int .u8 7),.aB xt.length 0 0 5 1,.s (.int .u8 6),.aB x1.length 0 0 4 1,.s (.int .u8 10),.aB xv.length 0 0 5 1,.s (.int .u8 10),.aB xV.length 0 0 3 1,.s (.int .u8 11),.aB yn.length 0 0 5 1,.s (.int .u8 11),.aB yA.length 0 0 3 1,.s (.int .u8 9),.aB yd.length 0 0 4 1,.s (.int .u8 12),.aB xO.length 0 0 3 1,.s (.int .u8 13),.aB yB.length 0 0 2 1,.s (.int .u8 14),.aB xB.length 0 0 2 1]]=X:=⟨_,rfl⟩;have apt:Ext BL G:=jr▸Ext.app _ _;have ak8:Ext BL G:=apt;have aml:Ext xB G:=aFT.trans ak8;have ae0:Ext yB G:=azM.trans aml;have z12:Ext xO G:=aFN.trans ae0;have We:Ext yd G:=IK.trans z12;have xS:Ext yA G:=aCB.trans We;have z9:Ext yn G:=aEN.trans xS;have c1:Ext xV G:=aur.trans z9;have aiS:Ext xv G:=Ql.trans c1;have akE:Ext x1 G:=tf.trans aiS;have z5:Ext xt G:=aHf.trans akE;have z4:Ext yl G:=uJ.trans z5;have z3:Ext lK G:=e3.trans z4;have z2:Ext hr G:=dS.trans z3;have gX:Ext j4 G:=aK.trans z2;have z0:Ext xx G:=aF.trans gX
 refine⟨.aB BL.length 0 0 16 2,G,ih (c:=xf) aR (by simp[xf]) ?_,ck.trans z0,az3 (R:=[[.s (.int .u8 1),.aB A.length 0 0 4 1],[.s (.int .u8 2),.aB xx.length 0 0 4 1],[.s (.int .u8 3),.aB j4.length 0 0 3 1],[.s (.int .u8 4),.aB hr.length 0 0 4 1],[.s (.int .u8 5),.aB lK.length 0 0 4 1],[.s (.int .u8 8),.aB yl.length 0 0 4 1],[.s (.int .u8 7),.aB xt.length 0 0 5 1],[.s (.int .u8 6),.aB x1.length 0 0 4 1],[.s (.int .u8 10),.aB xv.length 0 0 5 1],[.s (.int .u8 10),.aB xV.length 0 0 3 1],[.s (.int .u8 11),.aB yn.length 0 0 5 1],[.s (.int .u8 11),.aB yA.length 0 0 3 1],[.s (.int .u8 9),.aB yd.length 0 0 4 1],[.s (.int .u8 12),.aB xO.length 0 0 3 1],[.s (.int .u8 13),.aB yB.length 0 0 2 1],[.s (.int .u8 14),.aB xB.length 0 0 2 1]]) (jr▸dz BL 0 _) (aFh rfl) rfl rfl (by decide) (Fa.at ⟨⟨_,rfl,np (df g0 z0),l9 _ _ _ _ _⟩,⟨_,rfl,np (df g1 gX),l9 _ _ _ _ _⟩,⟨_,rfl,np (df g2 z2),l9 _ _ _ _ _⟩,⟨_,rfl,np (df g3 z3),l9 _ _ _ _ _⟩,⟨_,rfl,np (df g4 z4),l9 _ _ _ _ _⟩,⟨_,rfl,np (df g5 z5),l9 _ _ _ _ _⟩,⟨_,rfl,np (df g6 akE),l9 _ _ _ _ _⟩,⟨_,rfl,np (df g7 aiS),l9 _ _ _ _ _⟩,⟨_,rfl,np (df g8 c1),l9 _ _ _ _ _⟩,⟨_,rfl,np (df g9 z9),l9 _ _ _ _ _⟩,⟨_,rfl,np (df g10 xS),l9 _ _ _ _ _⟩,⟨_,rfl,np (df g11 We),l9 _ _ _ _ _⟩,⟨_,rfl,np (df g12 z12),l9 _ _ _ _ _⟩,⟨_,rfl,np (df g13 ae0),l9 _ _ _ _ _⟩,⟨_,rfl,np (df g14 aml),l9 _ _ _ _ _⟩,⟨_,rfl,np (df g15 ak8),l9 _ _ _ _ _⟩,trivial⟩)⟩
 simp only[xf,simprocAttr,ayh,aM,Qw,o7,ow,s8,Px,NR,Sj,Rr,OA,Rg,Ot,Pn,Nc,OW,NB,Tu,jr]
theorem aul(aR:ah Lu=some (.code uT))(base:Nat){A}(af:base<=A.length)(t:Tok.T):∃H',aU ah (.fn Lu [] []) [.agg [.s (.int .u8 t.kind),.s (.string ⟨t.text.toArray⟩),.s (.int .i64 t.n),.s (.int .i64 t.line),.s (.int .i64 t.jB)]] base A=some (.bV [.agg [.s (.slice none 0 0)],.agg [.s (.int .i64 t.line),.s (.int .i64 t.jB)],.s (.int .i64 (if t.kind=4 then 41 else 40:Nat))],H')/\Ext A H':=by
 obtain⟨bF,J⟩:∃X,A++[bq.cells 0 [.s (.int .u8 t.kind),.s (.string ⟨t.text.toArray⟩),.s (.int .i64 t.n),.s (.int .i64 t.line),.s (.int .i64 t.jB)]]=X:=⟨_,rfl⟩;obtain⟨cb,U⟩:∃X,bF++[bq.cells 0 [.s (.slice none 0 0)]]=X:=⟨_,rfl⟩;obtain⟨eN,ax⟩:∃X,cb++[bq.cells 0 [.s (.int .i64 0),.s (.int .i64 0)]]=X:=⟨_,rfl⟩;obtain⟨kq,aY⟩:∃X,cb++[bq.cells 0 [.s (.int .i64 t.line),.s (.int .i64 t.jB)]]=X:=⟨_,rfl⟩
 have en:bF.length=A.length+1:=by rw[<- J,kw]
 have e8:cb.length=A.length+2:=by rw[<- U,kw,en]
 have eG:Ext A bF:=J▸Ext.app _ _;have ee:Ext bF cb:=U▸Ext.app _ _;have gh:Ext cb eN:=ax▸Ext.app _ _;have k6:Ext cb kq:=aY▸Ext.app _ _;have g1:ao eN A.length 0=some [.s (.int .u8 t.kind),.s (.string ⟨t.text.toArray⟩),.s (.int .i64 t.n),.s (.int .i64 t.line),.s (.int .i64 t.jB)]:=df (J▸dz A 0 _) (ee.trans gh)
 have g2:ao eN (A.length+1) 0=some [.s (.slice none 0 0)]:=df (by rw[<- en,<- U];exact dz bF 0 _) gh
 have g3:ao eN (A.length+2) 0=some [.s (.int .i64 0),.s (.int .i64 0)]:=by rw[<- e8,<- ax];exact dz cb 0 _
 have s2:eN.set (A.length+1) (.cells 0 [.s (.slice none 0 0)])=eN:=JV g2
 have lM:eN.set (A.length+2) (.cells 0 [.s (.int .i64 t.line),.s (.int .i64 t.jB)])=kq:=by rw[<- ax,<- e8,ln,aY]
 have k2:ao kq (A.length+1) 0=some [.s (.slice none 0 0)]:=df (by rw[<- en,<- U];exact dz bF 0 _) k6
 have dx:ao kq (A.length+2) 0=some [.s (.int .i64 t.line),.s (.int .i64 t.jB)]:=by rw[<- e8,<- aY];exact dz cb 0 _
 have fv:=rU t.kind 4;rw[show((4:Nat):Int)=4 from rfl]at fv
 have dA:base<=A.length+1:=by omega
 have cV:base<=A.length+2:=by omega
 have j1:∀(a b c:Nat),V.jM (.ref a b c)=some (some a):=fun _ _ _=>rfl
 have JE:(A.length != A.length+1)=true:=by rw[hU];omega
 have aDY:(A.length+1 != A.length)=true:=by rw[hU];omega
 have od:∀i j:Nat,aux (some (some i)) (some (some j))=(i != j):=fun _ _=>rfl
 refine⟨kq,iY (c:=uT) (k:=1) aR rfl (by decide) aED ?_,eG.trans (ee.trans k6)⟩
 cases an:(t.kind==4)with
 |true=>
   rw[an]at fv;rw[a' (eq_of_beq an)];simp only[uT,simprocAttr,aHk,sR,TC,aM,J,U,ax,en,e8,g1,g2,g3,s2,lM,fv,dA,cV,k7];simp only[j8,simprocAttr,Ge,Lq,mo,jg,Bw,b3.place,b3.obj,aM,j1,od,JE,tI,yp,k2,dx]
   try rfl
 |false=>
   rw[an]at fv
   rw[bm (fun e=>by rw[e]at an;cases an)]
   simp only[uT,simprocAttr,aIp,sR,TC,aM,J,U,ax,en,e8,g1,g2,g3,s2,lM,fv,dA,cV,k7];simp only[j8,simprocAttr,Ge,LF,mo,jg,Bw,b3.place,b3.obj,aM,j1,od,JE,tI,yp,k2,dx]
   try rfl
end
open Go.dO
abbrev Je:Nat:=23
def yg:=[0,3]++List.range' 5 132
def Ik:=[q 4 (.alloc [ec,cm,cm,cm,dc,cm,dV,dV])]
def Se:=[q 2 (.box (.t 0))]
def Rv:=Se++Ik
def C6:=[0]++List.range' 3 134
def apk(call:c5)(it:gS)(base f H):aC call it base (.region Rv [] yg) f H=qc call it base (.region Ik [] yg) (sd [] Se C6 (cu call base [⟨some 2,.box (.t 0),none⟩] f H)):=(E6 call it base Se Ik (kc:=C6) (by kernel_rfl) f H).trans (by rw[Ee];rfl)
def akz:=[dt 8 5 11]
def aaX:=q 5 (.alloc [ec,cm,cm,cm,dc,cm,dV,dV])::akz
def awF:=[b2 9 0 2,cL 10 9,q 11 (.build [ec,cm,cm,cm,dc,cm,dV,dV] [(0,1),(1,1),(2,1),(3,1),(4,1),(5,1),(6,1),(7,1)] [(0,.t 10)])]
def Qp:=awF++aaX
def Tg:=[c0 6 rM]
def OZ:=[c0 7 (b1 0)]
def akx:=[ai 12 7,ai 13 1,q 14 (.dD .s (.t 13)),q 15 (.bin .lss (.t 12) (.t 14))]
def alu:=[ai 18 1,ai 19 7,iJ 20 5 18 19,b2 21 0 20,cL 22 21,q 23 (.bin .eql (.t 22) (cK 1))]
def T7:=[ai 6 31]
def anP:=q 31 (.append 1 16 (.t 24) (.t 30))::T7
def Z7:=q 30 (.fy 1 1 [cm] [(0,.t 29)])::anP
def apr:=[ai 24 6,ai 25 1,ai 26 7,iJ 27 5 25 26,b2 28 1 27,cL 29 28]
def ajm:=apr++Z7
def ak0:=[ai 32 1,ai 33 7,iJ 34 5 32 33,b2 35 0 34,cL 36 35,q 37 (.bin .eql (.t 36) (cK 2))]
def aoi:=[dt 1 43 42]
def auJ:=[ai 38 1,ai 39 7,iJ 40 5 38 39,b2 41 2 40,cL 42 41,b2 43 4 5]
def V9:=auJ++aoi
def amA:=[ai 16 7,q 17 (.bin .add (.t 16) (b1 1)),ai 7 17]
def Sw:cM:=
 (.seq (.seq (.bc akx [12,13,14] [15])
 (.cond (.t 15)
 .skip
 (.exit 0)))
 (.seq (.block 1
 (.seq (.seq (.bc alu [15,18,19,20,21,22] [23])
 (.cond (.t 23)
 (.region ajm [] [23,24,25,26,27,28,29,30,31])
 .skip))
 (.seq (.bc ak0 [23,32,33,34,35,36] [37])
 (.cond (.t 37)
 (.region V9 [] [37,38,39,40,41,42,43])
 .skip))))
 (.bc amA [16,17,37] [7])))
def JX:cM:=Sw
def ah7:=[b2 44 1 2,cL 45 44,q 46 (.indexAddr 1 (.t 45) (b1 0)),cL 47 46,q 48 (.bin .eql (.t 47) (cv #[78]))]
def amO:=[dt 1 52 51]
def aFx:=[ai 49 6,q 50 (.indexAddr 1 (.t 49) (b1 0)),cL 51 50,b2 52 1 5]
def aeV:=aFx++amO
def YP:=[ai 53 6,q 54 (.ll 1 (.t 53) (some (b1 1)) none none),ai 6 54]
def ae4:=[ai 55 6,q 56 (.ll 1 (.t 55) (some (b1 1)) none none),ai 6 56]
def alH:=[b2 57 0 2,cL 58 57,q 59 (.bin .eql (.t 58) (cK 3))]
def alr:=[c0 6 rM]
def aaQ:=[b2 60 0 2,cL 61 60]
def YI:=[q 63 (.bin .eql (.t 61) (cK 4)),ai 62 63]
def afo:=[q 64 (.bin .eql (.t 61) (cK 10)),ai 62 64]
def adK:=[dt 1 68 67]
def asq:=[ai 65 6,q 66 (.indexAddr 1 (.t 65) (b1 0)),cL 67 66,b2 68 5 5]
def aiX:=asq++adK
def VA:=[dt 1 71 70]
def arf:=[ai 69 6,q 70 (.ll 1 (.t 69) (some (b1 1)) none none),b2 71 6 5]
def aeo:=arf++VA
def ads:=[q 73 (.bin .eql (.t 61) (cK 5)),ai 72 73]
def ano:=[q 74 (.bin .eql (.t 61) (cK 8)),ai 72 74]
def X4:=[q 75 (.bin .eql (.t 61) (cK 7)),ai 72 75]
def ahR:=[q 76 (.bin .eql (.t 61) (cK 11)),ai 72 76]
def ajO:=[dt 1 80 79]
def aAC:=[ai 77 6,q 78 (.indexAddr 1 (.t 77) (b1 0)),cL 79 78,b2 80 2 5]
def Uf:=aAC++ajO
def aj2:=[dt 1 83 82]
def aAp:=[ai 81 6,q 82 (.ll 1 (.t 81) (some (b1 1)) none none),b2 83 6 5]
def afL:=aAp++aj2
def ahv:=[q 85 (.bin .eql (.t 61) (cK 9)),ai 84 85]
def agJ:=[dt 1 89 88]
def atn:=[ai 86 6,q 87 (.indexAddr 1 (.t 86) (b1 0)),cL 88 87,b2 89 2 5]
def aeN:=atn++agJ
def aal:=[dt 1 93 92]
def auM:=[ai 90 6,q 91 (.indexAddr 1 (.t 90) (b1 1)),cL 92 91,b2 93 3 5]
def amy:=auM++aal
def ack:=[q 95 (.bin .eql (.t 61) (cK 6)),ai 94 95]
def aff:=[c0 8 (b1 0)]
def agx:=[ai 96 8,q 97 (.bin .add (.t 96) (b1 1)),ai 98 6,q 99 (.dD .s (.t 98)),q 100 (.bin .lss (.t 97) (.t 99))]
def aex:=[dt 1 111 110]
def aFi:=[b2 111 7 5]
def TN:=aFi++aex
def Ub:=q 110 (.append 1 16 (.t 104) (.t 109))::TN
def Ux:=q 109 (.fy 1 1 [cm] [(0,.t 108)])::Ub
def aCu:=[b2 103 7 5,cL 104 103,ai 105 6,ai 106 8,iJ 107 1 105 106,cL 108 107]
def aon:=aCu++Ux
def Y9:=[dt 1 121 120]
def apY:=[b2 121 6 5]
def aah:=apY++Y9
def ahf:=q 120 (.append 1 16 (.t 113) (.t 119))::aah
def Zn:=q 119 (.fy 1 1 [cm] [(0,.t 118)])::ahf
def at5:=[b2 112 6 5,cL 113 112,ai 114 6,ai 115 8,q 116 (.bin .add (.t 115) (b1 1)),iJ 117 1 114 116,cL 118 117]
def ajG:=at5++Zn
def afh:=[ai 101 8,q 102 (.bin .add (.t 101) (b1 2)),ai 8 102]
def Rw:cM:=
 (.seq (.seq (.bc agx [96,97,98,99] [100])
 (.cond (.t 100)
 .skip
 (.exit 3)))
 (.seq (.block 4
 (.seq (.region aon [] [100,103,104,105,106,107,108,109,110,111])
 (.region ajG [] [112,113,114,115,116,117,118,119,120,121])))
 (.bc afh [101,102] [8])))
def I2:cM:=Rw
def aei:=[q 123 (.bin .eql (.t 61) (cK 12)),ai 122 123]
def ajz:=[q 124 (.bin .eql (.t 61) (cK 13)),ai 122 124]
def anB:=[dt 1 126 125]
def axs:=[ai 125 6,b2 126 7 5]
def Zv:=axs++anB
def ajn:=[q 128 (.bin .eql (.t 61) (cK 14)),ai 127 128]
def aj0:=[ai 129 6,q 130 (.dD .s (.t 129)),q 131 (.bin .gtr (.t 130) (b1 0))]
def aby:=[dt 1 135 134]
def aBv:=[ai 132 6,q 133 (.indexAddr 1 (.t 132) (b1 0)),cL 134 133,b2 135 2 5]
def adz:=aBv++aby
def af0:=[dt 8 4 136]
def aqB:=[q 136 (.load true 8 (.t 5))]
def amZ:=aqB++af0
def ke:eI:={ ntmps:=137,results:=[.cell 4 true 8],body:=
 (.seq (.region Rv [] yg)
 (.seq (.region Qp [] [9,10,11])
 (.seq (.bc Tg [] [6])
 (.seq (.seq (.bc OZ [] [7])
 (.block 0
 (.loop [] JX)))
 (.seq (.seq (.bc ah7 [1,7,15,44,45,46,47] [48])
 (.cond (.t 48)
 (.seq (.region aeV [] [48,49,50,51,52])
 (.bc YP [53,54] [6]))
 .skip))
 (.seq (.bc ae4 [48,55,56] [6])
 (.seq (.seq (.bc alH [57,58] [59])
 (.cond (.t 59)
 (.bc alr [59] [6])
 .skip))
 (.seq (.seq (.bc aaQ [2,59,60] [61])
 (.block 2
 (.seq (.seq (.bc YI [63] [62])
 (.cond (.t 62)
 .skip
 (.bc afo [64] [62])))
 (.cond (.t 62)
 (.seq (.region aiX [] [61,62,65,66,67,68])
 (.region aeo [] [6,69,70,71]))
 (.seq (.seq (.bc ads [62,73] [72])
 (.cond (.t 72)
 .skip
 (.seq (.bc ano [74] [72])
 (.cond (.t 72)
 .skip
 (.seq (.bc X4 [75] [72])
 (.cond (.t 72)
 .skip
 (.bc ahR [76] [72])))))))
 (.cond (.t 72)
 (.seq (.region Uf [] [61,72,77,78,79,80])
 (.region afL [] [6,81,82,83]))
 (.seq (.bc ahv [72,85] [84])
 (.cond (.t 84)
 (.seq (.region aeN [] [61,84,86,87,88,89])
 (.region amy [] [6,90,91,92,93]))
 (.seq (.bc ack [84,95] [94])
 (.cond (.t 94)
 (.seq (.bc aff [61,94] [8])
 (.block 3
 (.loop [] I2)))
 (.seq (.seq (.bc aei [94,123] [122])
 (.cond (.t 122)
 .skip
 (.bc ajz [124] [122])))
 (.cond (.t 122)
 (.region Zv [] [6,61,122,125,126])
 (.seq (.bc ajn [61,122,128] [127])
 (.cond (.t 127)
 (.seq (.bc aj0 [127,129,130] [131])
 (.cond (.t 131)
 (.region adz [] [6,131,132,133,134,135])
 .skip))
 .skip))))))))))))))
 (.seq (.region amZ [] [5,6,8,100,127,131,136])
 .ret))))))))) }
theorem aF0:gF (List.range' 2 (ke.ntmps-2)) ke.body=true:=by kernel_rfl
def mf:=I (bn C6 0) (I (bE C6 1) (I (bE C6 2) (I (bn C6 4) (I apk (I (cx Ik yg) (I (bn yg 0) (I (bE yg 1) (I (bE yg 2) (I (bE yg 4) (I (bl Qp [9,10] [11] [9,10,11] 12 [] [(11,.op (.build [.s (.int .u8 0),.s (.string ⟨#[]⟩),.s (.string ⟨#[]⟩),.s (.string ⟨#[]⟩),.s (.int .i64 0),.s (.string ⟨#[]⟩),.s (.slice none 0 0),.s (.slice none 0 0)] [(0,1),(1,1),(2,1),(3,1),(4,1),(5,1),(6,1),(7,1)] [(0,.t 0)]) [bO (bI 0 (.t 2))])] [ad [0,0],ad [0],ad []]) (I (aS aaX [] [9,10,11]) (I (cx akz [9,10,11]) (I (aR Tg [] [6] 7 [] [(6,.c (.s (.slice none 0 0)))] [.cI (.s (.slice none 0 0))]) (I (aR OZ [] [7] 8 [] [(7,jz 0)] [.cI (.s (.int .i64 0))]) (I (aR akx [12,13,14] [15] 16 [] [(15,eS .lss (.t 7) (ig (.t 1)))] [.ay 7,.ay 1,ad [1],ad []]) (I (aR alu [15,18,19,20,21,22] [23] 24 [] [(23,hj 1 (bO (bI 0 (gU 5 (.t 1) (.t 7)))))] [.ay 1,.ay 7,ad [0,0,0],ad [0,0],ad [0],ad []]) (I (bl ajm [6,23,25,26,27,28] [24,29] NL 30 [] [(24,.t 6),(29,bO (bI 1 (gU 5 (.t 1) (.t 7))))] [.ay 6,.ay 1,.ay 7,.sub 1 [0,0] [],.sub 1 [0] [],.sub 1 [] []]) (I (aS Z7 [29] NL) (I (aS anP [24,30] NL) (I (dB T7 [23,24,25,26,27,28,29,30,31] [6] 7 [] [(6,.t 31)] [.ay 31]) (I (aR ak0 [23,32,33,34,35,36] [37] 38 [] [(37,hj 2 (bO (bI 0 (gU 5 (.t 1) (.t 7)))))] [.ay 1,.ay 7,ad [0,0,0],ad [0,0],ad [0],ad []]) (I (bl V9 [37,38,39,40,41] [42,43] [37,38,39,40,41,42,43] 44 [] [(42,bO (bI 2 (gU 5 (.t 1) (.t 7)))),(43,bI 4 (.t 5))] [.ay 1,.ay 7,ad [0,0],ad [0],ad [],.sub 1 [] []]) (I (cx aoi [37,38,39,40,41,42,43]) (I (aR amA [16,17,37] [7] 18 [] [(7,fV 1 (.t 7))] [.ay 7,ad [],ad []]) (I (bx JX Sw) (I (aR ah7 [1,7,15,44,45,46,47] [48] 49 [] [(48,.op (.bin .eql (.t 0) (.c (.s (.string ⟨#[78]⟩)))) [bO (oA 1 0 (bO (bI 1 (.t 2)))),.c (.s (.string ⟨#[78]⟩))])] [ad [0,0,0,0],ad [0,0,0],ad [0,0],ad [0],ad []]) (I (bl aeV [48,49,50] [51,52] [48,49,50,51,52] 53 [] [(51,bO (oA 1 0 (.t 6))),(52,bI 1 (.t 5))] [.ay 6,ad [0],ad [],.sub 1 [] []]) (I (cx amO [48,49,50,51,52]) (I (aR YP [53,54] [6] 55 [] [(6,.op (.ll 1 (.t 0) (some (.c (.s (.int .i64 1)))) none none) [.t 6,.c (.s (.int .i64 1))])] [.ay 6,ad [],ad []]) (I (aR ae4 [48,55,56] [6] 57 [] [(6,.op (.ll 1 (.t 0) (some (.c (.s (.int .i64 1)))) none none) [.t 6,.c (.s (.int .i64 1))])] [.ay 6,ad [],ad []]) (I (aR alH [57,58] [59] 60 [] [(59,hj 3 (bO (bI 0 (.t 2))))] [ad [0,0],ad [0],ad []]) (I (aR alr [59] [6] 7 [] [(6,.c (.s (.slice none 0 0)))] [.cI (.s (.slice none 0 0))]) (I (aR aaQ [2,59,60] [61] 62 [] [(61,bO (bI 0 (.t 2)))] [ad [0],ad []]) (I (aR YI [63] [62] 64 [] [(62,hj 4 (.t 61))] [ad [],ad []]) (I (aR afo [64] [62] 65 [] [(62,hj 10 (.t 61))] [ad [],ad []]) (I (bl aiX [61,62,65,66] [67,68] [61,62,65,66,67,68] 69 [] [(67,bO (oA 1 0 (.t 6))),(68,bI 5 (.t 5))] [.ay 6,ad [0],ad [],.sub 1 [] []]) (I (cx adK [61,62,65,66,67,68]) (I (bl aeo [6,69] [70,71] [6,69,70,71] 72 [] [(70,.op (.ll 1 (.t 0) (some (.c (.s (.int .i64 1)))) none none) [.t 6,.c (.s (.int .i64 1))]),(71,bI 6 (.t 5))] [.ay 6,ad [],.sub 1 [] []]) (I (cx VA [6,69,70,71]) (I (aR ads [62,73] [72] 74 [] [(72,hj 5 (.t 61))] [ad [],ad []]) (I (aR ano [74] [72] 75 [] [(72,hj 8 (.t 61))] [ad [],ad []]) (I (aR X4 [75] [72] 76 [] [(72,hj 7 (.t 61))] [ad [],ad []]) (I (aR ahR [76] [72] 77 [] [(72,hj 11 (.t 61))] [ad [],ad []]) (I (bl Uf [61,72,77,78] [79,80] [61,72,77,78,79,80] 81 [] [(79,bO (oA 1 0 (.t 6))),(80,bI 2 (.t 5))] [.ay 6,ad [0],ad [],.sub 1 [] []]) (I (cx ajO [61,72,77,78,79,80]) (I (bl afL [6,81] [82,83] [6,81,82,83] 84 [] [(82,.op (.ll 1 (.t 0) (some (.c (.s (.int .i64 1)))) none none) [.t 6,.c (.s (.int .i64 1))]),(83,bI 6 (.t 5))] [.ay 6,ad [],.sub 1 [] []]) (I (cx aj2 [6,81,82,83]) (I (aR ahv [72,85] [84] 86 [] [(84,hj 9 (.t 61))] [ad [],ad []]) (I (bl aeN [61,84,86,87] [88,89] [61,84,86,87,88,89] 90 [] [(88,bO (oA 1 0 (.t 6))),(89,bI 2 (.t 5))] [.ay 6,ad [0],ad [],.sub 1 [] []]) (I (cx agJ [61,84,86,87,88,89]) (I (bl amy [6,90,91] [92,93] [6,90,91,92,93] 94 [] [(92,bO (oA 1 1 (.t 6))),(93,bI 3 (.t 5))] [.ay 6,ad [0],ad [],.sub 1 [] []]) (I (cx aal [6,90,91,92,93]) (I (aR ack [84,95] [94] 96 [] [(94,hj 6 (.t 61))] [ad [],ad []]) (I (aR aff [61,94] [8] 9 [] [(8,jz 0)] [.cI (.s (.int .i64 0))]) (I (aR agx [96,97,98,99] [100] 101 [] [(100,eS .lss (fV 1 (.t 8)) (ig (.t 6)))] [.ay 8,ad [0],.ay 6,ad [1],ad []]) (I (bl aon [100,103,105,106,107] [104,108] Jn 109 [] [(104,bO (bI 7 (.t 5))),(108,bO (gU 1 (.t 6) (.t 8)))] [ad [0],ad [],.ay 6,.ay 8,.sub 1 [0] [],.sub 1 [] []]) (I (aS Ux [108] Jn) (I (aS Ub [104,109] Jn) (I (bl TN [] [111] Jn 112 [] [(111,bI 7 (.t 5))] [ad []]) (I (cx aex [100,103,104,105,106,107,108,109,110,111]) (I (bl ajG [112,114,115,116,117] [113,118] LL 119 [] [(113,bO (bI 6 (.t 5))),(118,bO (gU 1 (.t 6) (fV 1 (.t 8))))] [ad [0],ad [],.ay 6,.ay 8,.sub 1 [0,1] [],.sub 1 [0] [],.sub 1 [] []]) (I (aS Zn [118] LL) (I (aS ahf [113,119] LL) (I (bl aah [] [121] LL 122 [] [(121,bI 6 (.t 5))] [ad []]) (I (cx Y9 [112,113,114,115,116,117,118,119,120,121]) (I (aR afh [101,102] [8] 103 [] [(8,fV 2 (.t 8))] [.ay 8,ad [],ad []]) (I (bx I2 Rw) (I (aR aei [94,123] [122] 124 [] [(122,hj 12 (.t 61))] [ad [],ad []]) (I (aR ajz [124] [122] 125 [] [(122,hj 13 (.t 61))] [ad [],ad []]) (I (bl Zv [6,61,122] [125,126] [6,61,122,125,126] 127 [] [(125,.t 6),(126,bI 7 (.t 5))] [.ay 6,.sub 1 [] []]) (I (cx anB [6,61,122,125,126]) (I (aR ajn [61,122,128] [127] 129 [] [(127,hj 14 (.t 61))] [ad [],ad []]) (I (aR aj0 [127,129,130] [131] 132 [] [(131,jK .gtr 0 (ig (.t 6)))] [.ay 6,ad [0],ad []]) (I (bl adz [6,131,132,133] [134,135] [6,131,132,133,134,135] 136 [] [(134,bO (oA 1 0 (.t 6))),(135,bI 2 (.t 5))] [.ay 6,ad [0],ad [],.sub 1 [] []]) (I (cx aby [6,131,132,133,134,135]) (I (bl amZ [5,6,8,100,127,131] [136] [5,6,8,100,127,131,136] 137 [] [(136,kA 8 (.t 5))] [ad []]) (I (cx af0 [5,6,8,100,127,131,136]) (I Rw.eq_1 (Sw.eq_1)))))))))))))))))))))))))))))))))))))))))))))))))))))))))))))))))))))))))))))))
theorem aIe:fN Tryd.prog fm 23=some (false,ke.ntmps,ke.results,ke.body.bare):=by kernel_rfl
open Go.dO
def ep:List ByteArray->List Tok.T->List ByteArray
 |bk,[]=>bk
 |bk,t::l=>ep (if t.kind=1 then bk++[⟨t.text.toArray⟩]else bk) l
def gO:Nat->List Tok.T->Nat
 |k,[]=>k
 |k,t::l=>gO (if t.kind=2 then t.n else k) l
def D'(op k:Nat):List V:=[.s (.int .u8 op),.s (.string ⟨#[]⟩),.s (.string ⟨#[]⟩),.s (.string ⟨#[]⟩),.s (.int .i64 k),.s (.string ⟨#[]⟩),.s (.slice none 0 0),.s (.slice none 0 0)]
structure z6 (a:Nat) (H:az) (op:Nat) (dZ:V) (k:Nat) (bk:List ByteArray) (jO:V) (C:az):Prop where
 box:ao C a 0=some [.s (.int .u8 op),dZ]
 out:ao C (a+1) 0=some gb
 cur:ao C (a+2) 0=some (D' op k)
 kD:cp (a+3) 1 C jO (fX bk)
 len:a+3<=C.length
 ed:∀i,i<a->C[i]?=H[i]?
def lB.bT{H C v l}(h:lB H v l){a}(aD:H.length<=a)(k:∀i,i<a->C[i]?=H[i]?):lB C v l:=by
 obtain⟨id,g,off,c,e,J,U⟩:=h;refine⟨id,g,off,c,e,?_,U⟩;have ak:=hL J;unfold ao at J |-
 rw[k id (by omega)]
 exact J
def z6.cj{a H op k dZ bk jO C}(h:z6 a H op dZ k bk jO C){fr}(av:jO∈fr):z6 a H op dZ k bk jO (trim (a+3) fr C):=by
 rcases h.kD.rW (bS _) av with⟨aF,aK⟩|e
 .have bb:∀i,i<a+3->∀c,ao C i 0=some c->ao (trim (a+3) fr C) i 0=some c:=fun i hi c aa=>by
   unfold ao at aa |-;rw[tQ _ _ _ hi];exact aa
  have aN:bk=[]:=by
   have:=dX List.length aF;rw[r4]at this;exact lO this
  subst aN;subst aK
  refine⟨bb _ (by omega) _ h.box,bb _ (by omega) _ h.out,bb _ (by omega) _ h.cur,cp.start _ _ _,?_,fun i hi=>by rw[tQ _ _ _ (by omega),h.ed i hi]⟩
  rcases Go.dO.rW (a+3) fr C with e|⟨e,_⟩<;>rw[e]
  .exact h.len
  .rw[lG];have:=h.len;omega
 .rw[e];exact h
section
variable {ah:Nat->Option c7}
set_option maxHeartbeats 1000000 in
def asT(base){a H}(af:base<=a)(aD:H.length<=a){v dZ l}(aj:lB H v l)(aN:l.length<2^40){op}:∀(ls:List Tok.T) (j k:Nat) (bk:List ByteArray) (jO:V) (C:az),l.drop j=ls->j<=l.length->bk.length<=j->z6 a H op dZ k bk jO C->
 ∃tz bh,aG (aC (aU ah) aG base JX) [] (a+3) (au 137 [(1,v),(2,.ref a 0 0),(4,.ref (a+1) 0 0),(5,.ref (a+2) 0 0),(6,jO),(7,.s (.int .i64 j))]) C=some (.ext 0,au 137 [(1,v),(2,.ref a 0 0),(4,.ref (a+1) 0 0),(5,.ref (a+2) 0 0),(6,tz),(7,.s (.int .i64 l.length)),(15,.s (.bool false))],bh)/\z6 a H op dZ (gO k ls) (ep bk ls) tz bh:=by
 intro ls
 induction ls with
 |nil=>
   intro j k bk jO C aQ br mw h
   have mb:j=l.length:=by
    have:=dX List.length aQ;rw[fJ,d9]at this;omega
   subst mb;have ak:=(aj.bT aD h.ed).len
   refine⟨jO,_,?_,h.cj (fr:=au 137 [(1,v),(2,.ref a 0 0),(4,.ref (a+1) 0 0),(5,.ref (a+2) 0 0),(6,jO),(7,.s (.int .i64 l.length)),(15,.s (.bool false))]) (tO (s:=6) (by decide) rfl)⟩
   rw[eo];simp only[mf,simprocAttr,aM,ak,nq]
 |cons t ls aw=>
   intro j k bk jO C aQ br mw h
   have xC:l[j]?=some t:=by have:=dX (·[0]?) aQ;simp only[h4]at this;exact this
   have mb:=(cC.1 xC).1
   have fz:l.drop (j+1)=ls:=by
    have:=dX (List.drop 1) aQ
    simpa[nL]using this
   have bt:((j:Int)<((l.length:Nat):Int)):=by omega
   have qd:=ie (n:=j) (by omega)
   have G3:=aj.bT aD h.ed;have ak:=G3.len;obtain⟨id,g,p,ea,_,ey,nO,zV,_⟩:=G3.at xC;have mA:=rU t.kind 1;have AP:=rU t.kind 2;simp only[za]at mA;rw[show((2:Nat):Int)=2 from rfl]at AP;rw[ep,gO];by_cases k1:t.kind=1
   .have dA:(t.kind==1)=true:=by rw[k1];rfl
    have cV:(t.kind==2)=false:=by rw[k1];rfl
    rw[dA]at mA;rw[cV]at AP;have dd:=h.len
    obtain⟨AL,D,cy,a2,a3,a4⟩:=FZ h.kD (base:=base) (bytes:=16) (by omega) dd ⟨t.text.toArray⟩ (by omega)
    have an:∀i,i<a+3->D[i]?=C[i]?:=fun i hi=>a4 i (by omega) fun g n e=>by
     subst e;have:=fS h.kD;omega
    have bb:∀i,i<a+3->∀c,ao C i 0=some c->ao D i 0=some c:=fun i hi c aa=>by
     unfold ao at aa |-;rw[an i hi];exact aa
    have fE:z6 a H op dZ k (bk++[⟨t.text.toArray⟩]) AL D:=⟨bb _ (by omega) _ h.box,bb _ (by omega) _ h.out,bb _ (by omega) _ h.cur,a2,by omega,fun i hi=>by rw[an i (by omega),h.ed i hi]⟩
    have atP:=aj.bT aD fE.ed;obtain⟨eX,g',ia,gX,_,z2,_⟩:=atP.at xC;rw[ea]at gX;cases gX;have sC:=h.kD.rd.one
    obtain⟨tz,bh,bC,bP⟩:=aw (j+1) k _ AL _ fz (by omega) (by rw[fU,bi];omega) (fE.cj (fr:=au 137 [(1,v),(2,.ref a 0 0),(4,.ref (a+1) 0 0),(5,.ref (a+2) 0 0),(6,AL),(7,.s (.int .i64 (j+1:Nat)))]) (tO (s:=6) (by decide) rfl))
    rw[a' k1,bm (by omega)]
    refine⟨tz,bh,?_,bP⟩;simp only[a7]at cy;rw[eo];simp only[mf,simprocAttr,aM,ak,bt,ea,ey,nO,mA,cy,z2,AP,qd,bC]
   .have dA:(t.kind==1)=false:=by rw[eZ];exact k1
    rw[dA]at mA;rw[bm k1];by_cases k2:t.kind=2
    .have cV:(t.kind==2)=true:=by rw[k2];rfl
     rw[cV]at AP;rw[a' k2];have gc:=h.cur;obtain⟨D,cX⟩:∃X,C.set (a+2) (.cells 0 (D' op t.n))=X:=⟨_,rfl⟩;have dd:=h.len
     have an:∀i,i≠a+2->D[i]?=C[i]?:=fun i hi=>by rw[<- cX,cf (gG hi)]
     have bb:∀i,i≠a+2->∀c,ao C i 0=some c->ao D i 0=some c:=fun i hi c aa=>by
      unfold ao at aa |-;rw[an i hi];exact aa
     have fE:z6 a H op dZ t.n bk jO D:=⟨bb _ (by omega) _ h.box,bb _ (by omega) _ h.out,cX▸e4 gc _,h.kD.bT fun i g n e=>(by subst e;have:=fS h.kD;exact an i (by omega)),by rw[<- cX,eF];exact dd,fun i hi=>by rw[an i (by omega),h.ed i hi]⟩
     obtain⟨tz,bh,bC,bP⟩:=aw (j+1) t.n bk jO _ fz (by omega) (by omega) (fE.cj (fr:=au 137 [(1,v),(2,.ref a 0 0),(4,.ref (a+1) 0 0),(5,.ref (a+2) 0 0),(6,jO),(7,.s (.int .i64 (j+1:Nat)))]) (tO (s:=6) (by decide) rfl))
     refine⟨tz,bh,?_,bP⟩
     have fM:base<=a+2:=by omega
     simp only[D']at gc cX;rw[eo];simp only[mf,simprocAttr,aM,ak,bt,ea,ey,zV,mA,AP,gc,fM,cX,qd,bC]
    .have cV:(t.kind==2)=false:=by rw[eZ];exact k2
     rw[cV]at AP;rw[bm k2]
     obtain⟨tz,bh,bC,bP⟩:=aw (j+1) k bk jO _ fz (by omega) (by omega) (h.cj (fr:=au 137 [(1,v),(2,.ref a 0 0),(4,.ref (a+1) 0 0),(5,.ref (a+2) 0 0),(6,jO),(7,.s (.int .i64 (j+1:Nat)))]) (tO (s:=6) (by decide) rfl))
     refine⟨tz,bh,?_,bP⟩;rw[eo];simp only[mf,simprocAttr,aM,ak,bt,ea,ey,mA,AP,qd,bC]
end
open Go.dO
def uW(op:Nat)(d:ByteArray)(k:Nat):List V:=[.s (.int .u8 op),.s (.string d),.s (.string ⟨#[]⟩),.s (.string ⟨#[]⟩),.s (.int .i64 k),.s (.string ⟨#[]⟩),.s (.slice none 0 0),.s (.slice none 0 0)]
structure nu (a:Nat) (H:az) (op:Nat) (dZ:V) (d:ByteArray) (k:Nat) (bk:List ByteArray) (id g:Nat) (C:az):Prop where
 box:ao C a 0=some [.s (.int .u8 op),dZ]
 out:ao C (a+1) 0=some gb
 cur:ao C (a+2) 0=some (uW op d k)
 kD:ao C id g=some (bk.map a7)
 ge:a+3<=id
 ed:∀i,i<a->C[i]?=H[i]?
def qN:cM:=match ke.body with
 |.seq _ (.seq _ (.seq _ (.seq _ r)))=>r
 |_=>.skip
def Eg:cM:=match qN with
 |.seq x (.seq y _)=>.seq x y
 |_=>.skip
def kr:cM:=match qN with
 |.seq _ (.seq _ r)=>r
 |_=>.skip
def GD{id g off n}(h:1<=n):DC 1 id g off n 1 (some 1) (some (n:Int))=some (.aB id g (off+1) (n-1) 1):=by
 rw[NZ,a' ⟨by decide,by omega,Int.le_refl _,rfl⟩]
 congr 2
 omega
theorem zd{C:az}{id g o:Nat}{bk:List ByteArray}(aa:ao C id g=some (bk.map a7))(aT:o<bk.length):gl C false 1 (.ref id g o)=some (.s (.string (bk.getD o ⟨#[]⟩))):=by
 have J:(bk.map a7)[o]?=some (a7 (bk.getD o ⟨#[]⟩)):=by rw[oi,R0 aT ⟨#[]⟩];rfl
 rw[lW,aa]
 have e:((bk.map a7).drop o).take 1=[a7 (bk.getD o ⟨#[]⟩)]:=by
  obtain⟨ak,e⟩:=cC.1 J;rw[hN ak,e];rfl
 dsimp only;rw[e];rfl
theorem E1{id g off n}(h:1<=n):j9 1 (.aB id g off n 1) (.s (.int .i64 0))=some (.ref id g off):=by
 rw[sX,a' ⟨by decide,by omega,rfl⟩]
 rfl
section
variable {ah:Nat->Option c7}
theorem asG(base:Nat){a:Nat}{H C:az}(af:base<=a){op k:Nat}{dZ v:V}{bk:List ByteArray}{id g:Nat}(h:nu a H op dZ ⟨#[]⟩ k bk id g C){items:List ByteArray}(hi:Rd C dZ (items.map a7))(hw:hF dZ)(a1:0<items.length)(dv:(items.getD 0 ⟨#[]⟩).data.toList=[78])(mw:2<=bk.length){n:Nat}:
 ∃bh,aC (aU ah) aG base Eg (au 137 [(1,v),(2,.ref a 0 0),(4,.ref (a+1) 0 0),(5,.ref (a+2) 0 0),(6,.aB id g 0 bk.length 1),(7,.s (.int .i64 n)),(15,.s (.bool false))]) C=some (.bH,au 137 [(2,.ref a 0 0),(4,.ref (a+1) 0 0),(5,.ref (a+2) 0 0),(6,.aB id g 2 (bk.length-2) 1)],bh)/\nu a H op dZ (bk.getD 0 ⟨#[]⟩) k bk id g bh:=by
 obtain⟨y,ea,ey⟩:=HP hi hw a1;obtain⟨D,cX⟩:∃X,C.set (a+2) (.cells 0 (uW op (bk.getD 0 ⟨#[]⟩) k))=X:=⟨_,rfl⟩
 have an:∀i,i≠a+2->∀g,ao D i g=ao C i g:=fun i hi g=>by
  rw[<- cX,tv _ hi]
 have kY:=h.ge
 have ck:((items.getD 0 ⟨#[]⟩).data.toList==(⟨#[78]⟩:ByteArray).data.toList)=true:=by rw[dv];rfl
 have cV:base<=a+2:=by omega
 have kK:=zd h.kD (o:=0) (by omega)
 have i0:=E1 (id:=id) (g:=g) (off:=0) (n:=bk.length) (by omega)
 have k1:=GD (id:=id) (g:=g) (off:=0) (n:=bk.length) (by omega)
 have k2:=GD (id:=id) (g:=g) (off:=0+1) (n:=bk.length-1) (by omega)
 have kX:=h.box;have pz:=h.cur
 refine⟨D,?_,⟨by rw[an a (by omega)];exact h.box,by rw[an (a+1) (by omega)];exact h.out,cX▸e4 h.cur _,by rw[an id (by omega)];exact h.kD,kY,fun i hi=>by rw[<- cX,cf (by omega),h.ed i hi]⟩⟩
 simp only[uW]at pz cX;simp only[rD]at ea;simp only[Eg,simprocAttr,qN,ke,mf,aM,kX,pz,ea,ey,ck,i0,kK,cV,cX,k1,k2]
 try rfl
theorem aCw(base:Nat){a:Nat}{C:az}{op:Nat}{dZ v:V}(kX:ao C a 0=some [.s (.int .u8 op),dZ]){items:List ByteArray}(hi:Rd C dZ (items.map a7))(hw:hF dZ)(a1:0<items.length)(dv:(items.getD 0 ⟨#[]⟩).data.toList≠[78]){m:Nat}(mw:1<=m){id g n:Nat}:
 aC (aU ah) aG base Eg (au 137 [(1,v),(2,.ref a 0 0),(4,.ref (a+1) 0 0),(5,.ref (a+2) 0 0),(6,.aB id g 0 m 1),(7,.s (.int .i64 n)),(15,.s (.bool false))]) C=some (.bH,au 137 [(2,.ref a 0 0),(4,.ref (a+1) 0 0),(5,.ref (a+2) 0 0),(6,.aB id g 1 (m-1) 1)],C):=by
 obtain⟨y,ea,ey⟩:=HP hi hw a1
 have ck:((items.getD 0 ⟨#[]⟩).data.toList==(⟨#[78]⟩:ByteArray).data.toList)=false:=by rw[eZ];exact dv
 have k1:=GD (id:=id) (g:=g) (off:=0) (n:=m) (by omega)
 simp only[rD]at ea;simp only[Eg,simprocAttr,qN,ke,mf,aM,kX,ea,ey,ck,k1]
 try rfl
structure Dl (a:Nat) (H:az) (c:List V) (bk:List ByteArray) (id g:Nat) (C:az):Prop where
 out:ao C (a+1) 0=some gb
 cur:ao C (a+2) 0=some c
 kD:ao C id g=some (bk.map a7)
 ge:a+3<=id
 ed:∀i,i<a->C[i]?=H[i]?
def nu.pz{a H op dZ d k bk id g C}(h:nu a H op dZ d k bk id g C):Dl a H (uW op d k) bk id g C:=⟨h.out,h.cur,h.kD,h.ge,h.ed⟩
def Dl.put{a H c bk id g C D}(h:Dl a H c bk id g C){c'}(e:C.set (a+2) (.cells 0 c')=D):Dl a H c' bk id g D:=by
 subst e;have kY:=h.ge
 exact⟨by rw[tv _ (by omega)];exact h.out,e4 h.cur _,by rw[tv _ (by omega)];exact h.kD,kY,fun i hi=>by rw[cf (by omega),h.ed i hi]⟩
def vw(a:Nat)(H:az)(r:List V)(bk:List ByteArray)(id g:Nat)(H':az):Prop:=ao H' (a+1) 0=some r/\ao H' id g=some (bk.map a7)/\a+3<=id/\∀i,i<a->H'[i]?=H[i]?
def Dl.fin{a H c bk id g C D}(h:Dl a H c bk id g C)(e:C.set (a+1) (.cells 0 c)=D):vw a H c bk id g D:=by
 subst e;have kY:=h.ge
 exact⟨e4 h.out _,by rw[tv _ (by omega)];exact h.kD,kY,fun i hi=>by rw[cf (by omega),h.ed i hi]⟩
def aCF(base:Nat){a:Nat}{H C:az}(af:base<=a){op k:Nat}(cE:op=4\/op=10){dZ:V}{d:ByteArray}{bk:List ByteArray}{id g:Nat}(h:nu a H op dZ d k bk id g C){off n:Nat}(aN:off+n=bk.length)(J:1<=n):
 ∃H',aC (aU ah) aG base kr (au 137 [(2,.ref a 0 0),(4,.ref (a+1) 0 0),(5,.ref (a+2) 0 0),(6,.aB id g off n 1)]) C=some (.ret,au 137 [(4,.ref (a+1) 0 0)],H')/\vw a H [.s (.int .u8 op),.s (.string d),.s (.string ⟨#[]⟩),.s (.string ⟨#[]⟩),.s (.int .i64 k),.s (.string (bk.getD off ⟨#[]⟩)),.aB id g (off+1) (n-1) 1,.s (.slice none 0 0)] bk id g H':=by
 have kX:=h.box;have iD:=h.pz;simp only[uW]at iD
 have dA:base<=a+1:=by omega
 have cV:base<=a+2:=by omega
 obtain⟨cS,fL⟩:∃X,C.set (a+2) (.cells 0 [.s (.int .u8 op),.s (.string d),.s (.string ⟨#[]⟩),.s (.string ⟨#[]⟩),.s (.int .i64 k),.s (.string (bk.getD off ⟨#[]⟩)),.s (.slice none 0 0),.s (.slice none 0 0)])=X:=⟨_,rfl⟩;have gy:=iD.put fL;have v1:=gy.cur;obtain⟨bY,fu⟩:∃X,cS.set (a+2) (.cells 0 [.s (.int .u8 op),.s (.string d),.s (.string ⟨#[]⟩),.s (.string ⟨#[]⟩),.s (.int .i64 k),.s (.string (bk.getD off ⟨#[]⟩)),.aB id g (off+1) (n-1) 1,.s (.slice none 0 0)])=X:=⟨_,rfl⟩;have u2:=gy.put fu;have v2:=u2.cur;have v0:=iD.cur;obtain⟨E,bx⟩:∃X,bY.set (a+1) (.cells 0 [.s (.int .u8 op),.s (.string d),.s (.string ⟨#[]⟩),.s (.string ⟨#[]⟩),.s (.int .i64 k),.s (.string (bk.getD off ⟨#[]⟩)),.aB id g (off+1) (n-1) 1,.s (.slice none 0 0)])=X:=⟨_,rfl⟩;have iM:=u2.out;simp only[gb,bz]at iM
 have kK:=zd h.kD (o:=off) (by omega)
 have i0:=E1 (id:=id) (g:=g) (off:=off) (n:=n) (by omega)
 have k1:=GD (id:=id) (g:=g) (off:=off) (n:=n) (by omega)
 refine⟨E,?_,u2.fin bx⟩
 rcases cE with rfl|rfl
 all_goals simp only[kr,qN,ke,mf,aM,Nat.reduceEqDiff,Nat.reduceLT,Nat.reduceLeDiff,Nat.reduceBEq,Nat.reduceAdd,kX,v0,iM,fL,v1,fu,v2,kK,i0,k1,show(((4:Nat):Int)==3)=false from rfl,show(((4:Nat):Int)==4)=true from rfl,show(((4:Nat):Int)==10)=false from rfl,show(((4:Nat):Int)==5)=false from rfl,show(((4:Nat):Int)==8)=false from rfl,show(((4:Nat):Int)==7)=false from rfl,show(((4:Nat):Int)==11)=false from rfl,show(((4:Nat):Int)==9)=false from rfl,show(((4:Nat):Int)==6)=false from rfl,show(((4:Nat):Int)==12)=false from rfl,show(((4:Nat):Int)==13)=false from rfl,show(((4:Nat):Int)==14)=false from rfl,show(((10:Nat):Int)==3)=false from rfl,show(((10:Nat):Int)==4)=false from rfl,show(((10:Nat):Int)==10)=true from rfl,show(((10:Nat):Int)==5)=false from rfl,show(((10:Nat):Int)==8)=false from rfl,show(((10:Nat):Int)==7)=false from rfl,show(((10:Nat):Int)==11)=false from rfl,show(((10:Nat):Int)==9)=false from rfl,show(((10:Nat):Int)==6)=false from rfl,show(((10:Nat):Int)==12)=false from rfl,show(((10:Nat):Int)==13)=false from rfl,show(((10:Nat):Int)==14)=false from rfl,bx,dA,cV]
def asa(base:Nat){a:Nat}{H C:az}(af:base<=a){op k:Nat}(cE:op=5\/op=7\/op=8\/op=11){dZ:V}{d:ByteArray}{bk:List ByteArray}{id g:Nat}(h:nu a H op dZ d k bk id g C){off n:Nat}(aN:off+n=bk.length)(J:1<=n):
 ∃H',aC (aU ah) aG base kr (au 137 [(2,.ref a 0 0),(4,.ref (a+1) 0 0),(5,.ref (a+2) 0 0),(6,.aB id g off n 1)]) C=some (.ret,au 137 [(4,.ref (a+1) 0 0)],H')/\vw a H [.s (.int .u8 op),.s (.string d),.s (.string (bk.getD off ⟨#[]⟩)),.s (.string ⟨#[]⟩),.s (.int .i64 k),.s (.string ⟨#[]⟩),.aB id g (off+1) (n-1) 1,.s (.slice none 0 0)] bk id g H':=by
 have kX:=h.box;have iD:=h.pz;simp only[uW]at iD
 have dA:base<=a+1:=by omega
 have cV:base<=a+2:=by omega
 obtain⟨cS,fL⟩:∃X,C.set (a+2) (.cells 0 [.s (.int .u8 op),.s (.string d),.s (.string (bk.getD off ⟨#[]⟩)),.s (.string ⟨#[]⟩),.s (.int .i64 k),.s (.string ⟨#[]⟩),.s (.slice none 0 0),.s (.slice none 0 0)])=X:=⟨_,rfl⟩;have gy:=iD.put fL;have v1:=gy.cur;obtain⟨bY,fu⟩:∃X,cS.set (a+2) (.cells 0 [.s (.int .u8 op),.s (.string d),.s (.string (bk.getD off ⟨#[]⟩)),.s (.string ⟨#[]⟩),.s (.int .i64 k),.s (.string ⟨#[]⟩),.aB id g (off+1) (n-1) 1,.s (.slice none 0 0)])=X:=⟨_,rfl⟩;have u2:=gy.put fu;have v2:=u2.cur;have v0:=iD.cur;obtain⟨E,bx⟩:∃X,bY.set (a+1) (.cells 0 [.s (.int .u8 op),.s (.string d),.s (.string (bk.getD off ⟨#[]⟩)),.s (.string ⟨#[]⟩),.s (.int .i64 k),.s (.string ⟨#[]⟩),.aB id g (off+1) (n-1) 1,.s (.slice none 0 0)])=X:=⟨_,rfl⟩;have iM:=u2.out;simp only[gb,bz]at iM
 have kK:=zd h.kD (o:=off) (by omega)
 have i0:=E1 (id:=id) (g:=g) (off:=off) (n:=n) (by omega)
 have k1:=GD (id:=id) (g:=g) (off:=off) (n:=n) (by omega)
 refine⟨E,?_,u2.fin bx⟩
 rcases cE with rfl|rfl|rfl|rfl
 all_goals simp only[kr,qN,ke,mf,aM,Nat.reduceEqDiff,Nat.reduceLT,Nat.reduceLeDiff,Nat.reduceBEq,Nat.reduceAdd,kX,v0,iM,fL,v1,fu,v2,kK,i0,k1,show(((5:Nat):Int)==3)=false from rfl,show(((5:Nat):Int)==4)=false from rfl,show(((5:Nat):Int)==10)=false from rfl,show(((5:Nat):Int)==5)=true from rfl,show(((5:Nat):Int)==8)=false from rfl,show(((5:Nat):Int)==7)=false from rfl,show(((5:Nat):Int)==11)=false from rfl,show(((5:Nat):Int)==9)=false from rfl,show(((5:Nat):Int)==6)=false from rfl,show(((5:Nat):Int)==12)=false from rfl,show(((5:Nat):Int)==13)=false from rfl,show(((5:Nat):Int)==14)=false from rfl,show(((7:Nat):Int)==3)=false from rfl,show(((7:Nat):Int)==4)=false from rfl,show(((7:Nat):Int)==10)=false from rfl,show(((7:Nat):Int)==5)=false from rfl,show(((7:Nat):Int)==8)=false from rfl,show(((7:Nat):Int)==7)=true from rfl,show(((7:Nat):Int)==11)=false from rfl,show(((7:Nat):Int)==9)=false from rfl,show(((7:Nat):Int)==6)=false from rfl,show(((7:Nat):Int)==12)=false from rfl,show(((7:Nat):Int)==13)=false from rfl,show(((7:Nat):Int)==14)=false from rfl,show(((8:Nat):Int)==3)=false from rfl,show(((8:Nat):Int)==4)=false from rfl,show(((8:Nat):Int)==10)=false from rfl,show(((8:Nat):Int)==5)=false from rfl,show(((8:Nat):Int)==8)=true from rfl,show(((8:Nat):Int)==7)=false from rfl,show(((8:Nat):Int)==11)=false from rfl,show(((8:Nat):Int)==9)=false from rfl,show(((8:Nat):Int)==6)=false from rfl,show(((8:Nat):Int)==12)=false from rfl,show(((8:Nat):Int)==13)=false from rfl,show(((8:Nat):Int)==14)=false from rfl,show(((11:Nat):Int)==3)=false from rfl,show(((11:Nat):Int)==4)=false from rfl,show(((11:Nat):Int)==10)=false from rfl,show(((11:Nat):Int)==5)=false from rfl,show(((11:Nat):Int)==8)=false from rfl,show(((11:Nat):Int)==7)=false from rfl,show(((11:Nat):Int)==11)=true from rfl,show(((11:Nat):Int)==9)=false from rfl,show(((11:Nat):Int)==6)=false from rfl,show(((11:Nat):Int)==12)=false from rfl,show(((11:Nat):Int)==13)=false from rfl,show(((11:Nat):Int)==14)=false from rfl,bx,dA,cV]
def asu(base:Nat){a:Nat}{H C:az}(af:base<=a){op k:Nat}(cE:op=9){dZ:V}{d:ByteArray}{bk:List ByteArray}{id g:Nat}(h:nu a H op dZ d k bk id g C){off n:Nat}(aN:off+n=bk.length)(J:2<=n):
 ∃H',aC (aU ah) aG base kr (au 137 [(2,.ref a 0 0),(4,.ref (a+1) 0 0),(5,.ref (a+2) 0 0),(6,.aB id g off n 1)]) C=some (.ret,au 137 [(4,.ref (a+1) 0 0)],H')/\vw a H [.s (.int .u8 op),.s (.string d),.s (.string (bk.getD off ⟨#[]⟩)),.s (.string (bk.getD (off+1) ⟨#[]⟩)),.s (.int .i64 k),.s (.string ⟨#[]⟩),.s (.slice none 0 0),.s (.slice none 0 0)] bk id g H':=by
 have kX:=h.box;have iD:=h.pz;simp only[uW]at iD
 have dA:base<=a+1:=by omega
 have cV:base<=a+2:=by omega
 obtain⟨cS,fL⟩:∃X,C.set (a+2) (.cells 0 [.s (.int .u8 op),.s (.string d),.s (.string (bk.getD off ⟨#[]⟩)),.s (.string ⟨#[]⟩),.s (.int .i64 k),.s (.string ⟨#[]⟩),.s (.slice none 0 0),.s (.slice none 0 0)])=X:=⟨_,rfl⟩;have gy:=iD.put fL;have v1:=gy.cur;obtain⟨bY,fu⟩:∃X,cS.set (a+2) (.cells 0 [.s (.int .u8 op),.s (.string d),.s (.string (bk.getD off ⟨#[]⟩)),.s (.string (bk.getD (off+1) ⟨#[]⟩)),.s (.int .i64 k),.s (.string ⟨#[]⟩),.s (.slice none 0 0),.s (.slice none 0 0)])=X:=⟨_,rfl⟩;have u2:=gy.put fu;have v2:=u2.cur;have v0:=iD.cur;obtain⟨E,bx⟩:∃X,bY.set (a+1) (.cells 0 [.s (.int .u8 op),.s (.string d),.s (.string (bk.getD off ⟨#[]⟩)),.s (.string (bk.getD (off+1) ⟨#[]⟩)),.s (.int .i64 k),.s (.string ⟨#[]⟩),.s (.slice none 0 0),.s (.slice none 0 0)])=X:=⟨_,rfl⟩;have iM:=u2.out;simp only[gb,bz]at iM
 have kK:=zd h.kD (o:=off) (by omega)
 have i0:=E1 (id:=id) (g:=g) (off:=off) (n:=n) (by omega)
 have bp:=zd gy.kD (o:=off+1) (by omega)
 have i1:j9 1 (.aB id g off n 1) (.s (.int .i64 1))=some (.ref id g (off+1)):=by
  rw[sX,a' ⟨by decide,by omega,rfl⟩]
  rfl
 refine⟨E,?_,u2.fin bx⟩;rcases cE with rfl;simp only[kr,qN,ke,mf,aM,Nat.reduceEqDiff,Nat.reduceLT,Nat.reduceLeDiff,Nat.reduceBEq,Nat.reduceAdd,kX,v0,iM,fL,v1,fu,v2,kK,i0,bp,i1,show(((9:Nat):Int)==3)=false from rfl,show(((9:Nat):Int)==4)=false from rfl,show(((9:Nat):Int)==10)=false from rfl,show(((9:Nat):Int)==5)=false from rfl,show(((9:Nat):Int)==8)=false from rfl,show(((9:Nat):Int)==7)=false from rfl,show(((9:Nat):Int)==11)=false from rfl,show(((9:Nat):Int)==9)=true from rfl,show(((9:Nat):Int)==6)=false from rfl,show(((9:Nat):Int)==12)=false from rfl,show(((9:Nat):Int)==13)=false from rfl,show(((9:Nat):Int)==14)=false from rfl,bx,dA,cV]
def ayp(base){a H C}(af:base<=a){op k}(cE:op=12\/op=13){dZ d bk id g}(h:nu a H op dZ d k bk id g C){off n}(aN:off+n=bk.length)(J:0<=n):
 ∃H',aC (aU ah) aG base kr (au 137 [(2,.ref a 0 0),(4,.ref (a+1) 0 0),(5,.ref (a+2) 0 0),(6,.aB id g off n 1)]) C=some (.ret,au 137 [(4,.ref (a+1) 0 0)],H')/\vw a H [.s (.int .u8 op),.s (.string d),.s (.string ⟨#[]⟩),.s (.string ⟨#[]⟩),.s (.int .i64 k),.s (.string ⟨#[]⟩),.s (.slice none 0 0),.aB id g off n 1] bk id g H':=by
 have kX:=h.box;have iD:=h.pz;simp only[uW]at iD
 have dA:base<=a+1:=by omega
 have cV:base<=a+2:=by omega
 obtain⟨cS,fL⟩:∃X,C.set (a+2) (.cells 0 [.s (.int .u8 op),.s (.string d),.s (.string ⟨#[]⟩),.s (.string ⟨#[]⟩),.s (.int .i64 k),.s (.string ⟨#[]⟩),.s (.slice none 0 0),.aB id g off n 1])=X:=⟨_,rfl⟩;have gy:=iD.put fL;have v1:=gy.cur;have v0:=iD.cur;obtain⟨E,bx⟩:∃X,cS.set (a+1) (.cells 0 [.s (.int .u8 op),.s (.string d),.s (.string ⟨#[]⟩),.s (.string ⟨#[]⟩),.s (.int .i64 k),.s (.string ⟨#[]⟩),.s (.slice none 0 0),.aB id g off n 1])=X:=⟨_,rfl⟩;have iM:=gy.out;simp only[gb,bz]at iM;refine⟨E,?_,gy.fin bx⟩
 rcases cE with rfl|rfl
 all_goals simp only[kr,qN,ke,mf,aM,Nat.reduceEqDiff,Nat.reduceLT,Nat.reduceLeDiff,Nat.reduceBEq,Nat.reduceAdd,kX,v0,iM,fL,v1,show(((12:Nat):Int)==3)=false from rfl,show(((12:Nat):Int)==4)=false from rfl,show(((12:Nat):Int)==10)=false from rfl,show(((12:Nat):Int)==5)=false from rfl,show(((12:Nat):Int)==8)=false from rfl,show(((12:Nat):Int)==7)=false from rfl,show(((12:Nat):Int)==11)=false from rfl,show(((12:Nat):Int)==9)=false from rfl,show(((12:Nat):Int)==6)=false from rfl,show(((12:Nat):Int)==12)=true from rfl,show(((12:Nat):Int)==13)=false from rfl,show(((12:Nat):Int)==14)=false from rfl,show(((13:Nat):Int)==3)=false from rfl,show(((13:Nat):Int)==4)=false from rfl,show(((13:Nat):Int)==10)=false from rfl,show(((13:Nat):Int)==5)=false from rfl,show(((13:Nat):Int)==8)=false from rfl,show(((13:Nat):Int)==7)=false from rfl,show(((13:Nat):Int)==11)=false from rfl,show(((13:Nat):Int)==9)=false from rfl,show(((13:Nat):Int)==6)=false from rfl,show(((13:Nat):Int)==12)=false from rfl,show(((13:Nat):Int)==13)=true from rfl,show(((13:Nat):Int)==14)=false from rfl,bx,dA,cV]
def aFJ(base){a H C}(af:base<=a){op k}(cE:op=1\/op=2){dZ d bk id g}(h:nu a H op dZ d k bk id g C){off n}(aN:off+n=bk.length)(J:0<=n):
 ∃H',aC (aU ah) aG base kr (au 137 [(2,.ref a 0 0),(4,.ref (a+1) 0 0),(5,.ref (a+2) 0 0),(6,.aB id g off n 1)]) C=some (.ret,au 137 [(4,.ref (a+1) 0 0)],H')/\vw a H [.s (.int .u8 op),.s (.string d),.s (.string ⟨#[]⟩),.s (.string ⟨#[]⟩),.s (.int .i64 k),.s (.string ⟨#[]⟩),.s (.slice none 0 0),.s (.slice none 0 0)] bk id g H':=by
 have kX:=h.box;have iD:=h.pz;simp only[uW]at iD
 have dA:base<=a+1:=by omega
 have cV:base<=a+2:=by omega
 have v0:=iD.cur;obtain⟨E,bx⟩:∃X,C.set (a+1) (.cells 0 [.s (.int .u8 op),.s (.string d),.s (.string ⟨#[]⟩),.s (.string ⟨#[]⟩),.s (.int .i64 k),.s (.string ⟨#[]⟩),.s (.slice none 0 0),.s (.slice none 0 0)])=X:=⟨_,rfl⟩;have iM:=iD.out;simp only[gb,bz]at iM;refine⟨E,?_,iD.fin bx⟩
 rcases cE with rfl|rfl
 all_goals simp only[kr,qN,ke,mf,aM,Nat.reduceEqDiff,Nat.reduceLT,Nat.reduceLeDiff,Nat.reduceBEq,Nat.reduceAdd,kX,v0,iM,show(((1:Nat):Int)==3)=false from rfl,show(((1:Nat):Int)==4)=false from rfl,show(((1:Nat):Int)==10)=false from rfl,show(((1:Nat):Int)==5)=false from rfl,show(((1:Nat):Int)==8)=false from rfl,show(((1:Nat):Int)==7)=false from rfl,show(((1:Nat):Int)==11)=false from rfl,show(((1:Nat):Int)==9)=false from rfl,show(((1:Nat):Int)==6)=false from rfl,show(((1:Nat):Int)==12)=false from rfl,show(((1:Nat):Int)==13)=false from rfl,show(((1:Nat):Int)==14)=false from rfl,show(((2:Nat):Int)==3)=false from rfl,show(((2:Nat):Int)==4)=false from rfl,show(((2:Nat):Int)==10)=false from rfl,show(((2:Nat):Int)==5)=false from rfl,show(((2:Nat):Int)==8)=false from rfl,show(((2:Nat):Int)==7)=false from rfl,show(((2:Nat):Int)==11)=false from rfl,show(((2:Nat):Int)==9)=false from rfl,show(((2:Nat):Int)==6)=false from rfl,show(((2:Nat):Int)==12)=false from rfl,show(((2:Nat):Int)==13)=false from rfl,show(((2:Nat):Int)==14)=false from rfl,bx,dA,cV]
def aBJ(base){a H C}(af:base<=a){op k}(cE:op=3){dZ d bk id g}(h:nu a H op dZ d k bk id g C){off n}(aN:off+n=bk.length)(J:0<=n):
 ∃H',aC (aU ah) aG base kr (au 137 [(2,.ref a 0 0),(4,.ref (a+1) 0 0),(5,.ref (a+2) 0 0),(6,.aB id g off n 1)]) C=some (.ret,au 137 [(4,.ref (a+1) 0 0)],H')/\vw a H [.s (.int .u8 op),.s (.string d),.s (.string ⟨#[]⟩),.s (.string ⟨#[]⟩),.s (.int .i64 k),.s (.string ⟨#[]⟩),.s (.slice none 0 0),.s (.slice none 0 0)] bk id g H':=by
 have kX:=h.box;have iD:=h.pz;simp only[uW]at iD
 have dA:base<=a+1:=by omega
 have cV:base<=a+2:=by omega
 have v0:=iD.cur;obtain⟨E,bx⟩:∃X,C.set (a+1) (.cells 0 [.s (.int .u8 op),.s (.string d),.s (.string ⟨#[]⟩),.s (.string ⟨#[]⟩),.s (.int .i64 k),.s (.string ⟨#[]⟩),.s (.slice none 0 0),.s (.slice none 0 0)])=X:=⟨_,rfl⟩;have iM:=iD.out;simp only[gb,bz]at iM;refine⟨E,?_,iD.fin bx⟩;rcases cE with rfl;simp only[kr,qN,ke,mf,aM,Nat.reduceEqDiff,Nat.reduceLT,Nat.reduceLeDiff,Nat.reduceBEq,Nat.reduceAdd,kX,v0,iM,show(((3:Nat):Int)==3)=true from rfl,show(((3:Nat):Int)==4)=false from rfl,show(((3:Nat):Int)==10)=false from rfl,show(((3:Nat):Int)==5)=false from rfl,show(((3:Nat):Int)==8)=false from rfl,show(((3:Nat):Int)==7)=false from rfl,show(((3:Nat):Int)==11)=false from rfl,show(((3:Nat):Int)==9)=false from rfl,show(((3:Nat):Int)==6)=false from rfl,show(((3:Nat):Int)==12)=false from rfl,show(((3:Nat):Int)==13)=false from rfl,show(((3:Nat):Int)==14)=false from rfl,bx,dA,cV]
end
open Go.dO
def pZ(op:Nat)(d:ByteArray)(k:Nat)(jG bB:V):List V:=[.s (.int .u8 op),.s (.string d),.s (.string ⟨#[]⟩),.s (.string ⟨#[]⟩),.s (.int .i64 k),.s (.string ⟨#[]⟩),jG,bB]
structure Az (a L:Nat) (H:az) (d:ByteArray) (k:Nat) (bk:List ByteArray) (id g:Nat) (ls xs:List ByteArray) (bB jG:V) (C:az):Prop where
 out:ao C (a+1) 0=some gb
 cur:ao C (a+2) 0=some (pZ 6 d k jG bB)
 kD:ao C id g=some (bk.map a7)
 ge:a+3<=id/\id<L
 ed:∀i,i<a->C[i]?=H[i]?
 l:cp L 1 C bB (fX ls)
 x:cp L 1 C jG (fX xs)
 ne:∀i g n,bB=.aB i g 0 n 1->∀g' c3,jG≠.aB i g' 0 c3 1
 len:L<=C.length
def akh{m H v l}(h:cp m 1 H v (fX l))(a1:l≠[]):∃id g,v=.aB id g 0 l.length 1/\m<=id:=by
 obtain⟨_,⟨e,_⟩|⟨id,g,e,_,k⟩⟩:=h
 .have:=dX List.length e;rw[r4]at this;exact absurd (lO this) a1
 .rw[r4]at e;exact⟨id,g,e,k⟩
def Az.cj{a L H d k bk id g ls xs bB jG C}(h:Az a L H d k bk id g ls xs bB jG C)(a1:ls≠[])(fr):trim L fr C=C:=by
 rcases B5 L fr C with e|⟨_,_,e⟩
 .exact e
 .obtain⟨i,g',aF,aK⟩:=akh h.l a1
  have:=e (a+2) 0 _ (by have:=h.ge;omega) h.cur i g' 0 ls.length 1 (by rw[<- aF];simp[pZ])
  omega
def ayk{a L base H d k bk id g ls xs bB jG C}(h:Az a L H d k bk id g ls xs bB jG C)(af:base<=a)(s t)(aN:ls.length<2^40/\xs.length<2^40):
 ∃yc D E Eo F G,gW (C++[.cells 0 [.s (.string s)]]) base 1 16 bB (.aB C.length 0 0 1 1)=some (yc,D)/\ao D (a+2) 0=some (pZ 6 d k jG bB)/\D.set (a+2) (.cells 0 (pZ 6 d k jG yc))=E/\yc.one=true/\ao E (a+2) 0=some (pZ 6 d k jG yc)/\ao E id g=some (bk.map a7)/\
   gW (E++[.cells 0 [.s (.string t)]]) base 1 16 jG (.aB E.length 0 0 1 1)=some (Eo,F)/\ao F (a+2) 0=some (pZ 6 d k jG yc)/\F.set (a+2) (.cells 0 (pZ 6 d k Eo yc))=G/\Eo.one=true/\Az a L H d k bk id g (ls++[s]) (xs++[t]) yc Eo G:=by
 have kY:=h.ge;have dd:=h.len
 obtain⟨sa,g1,cw,D,cy,a2,a3,a4,a5⟩:=Dc h.l (base:=base) (bytes:=16) (by omega) dd (r:=[.s (.string s)]) rfl rfl (by rw[r4];omega)
 have Du:∀i,i<L->D[i]?=C[i]?:=fun i hi=>a4 i (by omega) fun g n e=>by
  have ak:=h.l;subst e;have:=fS ak;omega
 have pj:∀i g c,i<L->ao C i g=some c->ao D i g=some c:=fun i g c hi aa=>by
  unfold ao at aa |-;rw[Du i hi];exact aa
 have HK:=pj _ _ _ (by omega) h.cur
 have i1:=a2.lt sa g1 cw rfl;have h2:=fS a2
 have VP:∀g n,jG≠.aB sa g 0 n 1:=fun g n e=>by
  rcases a5 with⟨g2,bN,aK⟩|aK
  .exact h.ne sa g2 bN aK g n e
  .have:=h.x.lt sa g n e;omega
 obtain⟨E,bx⟩:∃X,D.set (a+2) (.cells 0 (pZ 6 d k jG (.aB sa g1 0 cw 1)))=X:=⟨_,rfl⟩
 have J7:E.length=D.length:=by rw[<- bx,eF]
 have q9:∀i,i≠a+2->E[i]?=D[i]?:=fun i hi=>by rw[<- bx,cf (gG hi)]
 have aiM:cp L 1 E jG (fX xs):=h.x.bT fun i g n e=>by
  have ae:=h.x;have qk:=ae.lt i g n e
  have aJv:L<=i:=by subst e;exact fS ae
  rw[q9 i (by omega),a4 i qk fun g' c3 bw=>h.ne i g' c3 bw g n e]
 obtain⟨nJ,g2,bN,F,dA,cV,e9,hD,kd⟩:=Dc aiM (base:=base) (bytes:=16) (by omega) (by omega) (r:=[.s (.string t)]) rfl rfl (by rw[r4];omega)
 have al4:∀i,i<L->F[i]?=E[i]?:=fun i hi=>hD i (by omega) fun g n e=>by
  subst e;have:=fS aiM;omega
 have xX:ao E (a+2) 0=some (pZ 6 d k jG (.aB sa g1 0 cw 1)):=bx▸e4 HK _
 have DP:ao F (a+2) 0=some (pZ 6 d k jG (.aB sa g1 0 cw 1)):=by
  unfold ao at xX |-
  rw[al4 (a+2) (by omega)]
  exact xX
 obtain⟨G,jr⟩:∃X,F.set (a+2) (.cells 0 (pZ 6 d k (.aB nJ g2 0 bN 1) (.aB sa g1 0 cw 1)))=X:=⟨_,rfl⟩
 have ahk:G.length=F.length:=by rw[<- jr,eF]
 have Pf:∀i,i≠a+2->G[i]?=F[i]?:=fun i hi=>by rw[<- jr,cf (gG hi)]
 have all:∀i,i<L->i≠a+2->G[i]?=C[i]?:=fun i hi Ci=>by rw[Pf i Ci,al4 i hi,q9 i Ci,Du i hi]
 have X7:∀i g c,i<L->i≠a+2->ao C i g=some c->ao G i g=some c:=fun i g c hi Ci aa=>by
  unfold ao at aa |-;rw[all i hi Ci];exact aa
 refine⟨_,D,E,_,F,G,cy,HK,bx,rfl,xX,?_,dA,DP,jr,rfl,⟨X7 _ _ _ (by omega) (by omega) h.out,jr▸e4 DP _,X7 _ _ _ (by omega) (by omega) h.kD,kY,fun i hi=>by rw[all i (by omega) (by omega),h.ed i hi],?_,?_,?_,by omega⟩⟩
 .have:=pj _ _ _ kY.2 h.kD;unfold ao at this |-
  rw[q9 id (by omega)]
  exact this
 .rw[Ft];refine a2.bT fun i g n e=>?_;cases e
  rw[Pf _ (by omega),hD _ (by omega) VP,q9 _ (by omega)]
 .rw[Ft];refine cV.bT fun i g n e=>?_;cases e;have:=fS cV
  exact Pf _ (by omega)
 .intro i g n e g' c3 bw;cases e;cases bw
  rcases kd with⟨g3,po,dS⟩|dS
  .exact VP g3 po dS
  .omega
section
variable {ah:Nat->Option c7}
def mM(bk:List ByteArray)(o:Nat)(m:Nat):List ByteArray:=(List.range m).map fun i=>bk.getD (o+2*i) ⟨#[]⟩
theorem Wr(bk o m):mM bk o (m+1)=mM bk o m++[bk.getD (o+2*m) ⟨#[]⟩]:=by
 unfold mM;rw[List.range_succ,OP];rfl
def Ea(bk o m):(mM bk o m).length=m:=by simp[mM]
set_option maxHeartbeats 2000000 in
def aFY(base:Nat){a:Nat}{H C:az}(af:base<=a){k:Nat}{d:ByteArray}{bk:List ByteArray}{id g off m:Nat}(aN:off+2*m=bk.length)(hm:0<m)(Ke:m<2^39)(h:Az a C.length H d k bk id g [] [] bz bz C):
 ∃bB jG D,aG (aC (aU ah) aG base I2) [] C.length (au 137 [(4,.ref (a+1) 0 0),(5,.ref (a+2) 0 0),(6,.aB id g off (2*m) 1),(8,.s (.int .i64 0))]) C=some (.ext 3,au 137 [(4,.ref (a+1) 0 0),(5,.ref (a+2) 0 0),(6,.aB id g off (2*m) 1),(8,.s (.int .i64 (2*m:Nat))),(100,.s (.bool false))],D)/\Az a C.length H d k bk id g (mM bk off m) (mM bk (off+1) m) bB jG D:=by
 obtain⟨⟨bB,jG,D⟩,aF,aK⟩:=F9 m (fun i (s:V × V × az)=>Az a C.length H d k bk id g (mM bk off i) (mM bk (off+1) i) s.1 s.2.1 s.2.2) (fun i (s:V × V × az)=>aG (aC (aU ah) aG base I2) [] C.length (au 137 [(4,.ref (a+1) 0 0),(5,.ref (a+2) 0 0),(6,.aB id g off (2*m) 1),(8,.s (.int .i64 (2*i:Nat)))]) s.2.2) (by
  rintro i ⟨bB,jG,D⟩ hi e5;dsimp only at e5
  obtain⟨yc,cS,E,Eo,F,G,dA,cV,e9,hD,kd,F0,LO,mG,l6,ny,RF⟩:=ayk e5 af (bk.getD (off+2*i) ⟨#[]⟩) (bk.getD (off+1+2*i) ⟨#[]⟩) (by rw[Ea,Ea];omega)
  rw[<- Wr,<- Wr]at RF
  have aO:=RF.cj (by intro e;have:=Ea bk off (i+1);rw[e]at this;cases this)
  have aV:IntKind.i64.wrap (((2*i:Nat):Int)+1)=((2*i+1:Nat):Int):=by rw[IntKind.wrap_i64];omega
  have b4:IntKind.i64.wrap (((2*i:Nat):Int)+2)=((2*(i+1):Nat):Int):=by rw[IntKind.wrap_i64];omega
  have bt:(((2*i+1:Nat):Int)<((2*m:Nat):Int)):=by omega
  have eG:j9 1 (.aB id g off (2*m) 1) (.s (.int .i64 (2*i:Nat)))=some (.ref id g (off+2*i)):=by
   rw[sX,a' ⟨by omega,by omega,rfl⟩,oH,w5]
  have ee:j9 1 (.aB id g off (2*m) 1) (.s (.int .i64 (2*i+1:Nat)))=some (.ref id g (off+1+2*i)):=by
   rw[sX,a' ⟨by omega,by omega,rfl⟩,oH,w5]
   congr 2
   omega
  have ea:=zd e5.kD (o:=off+2*i) (by omega)
  have ey:=zd F0 (o:=off+1+2*i) (by omega)
  obtain⟨aJh,at0⟩:∃o,off+1+2*i=o:=⟨_,rfl⟩;rw[at0]at ee ey LO;have pz:=e5.cur
  have fM:base<=a+2:=by omega
  have fK:=e5.l.rd.one;have jU:=e5.x.rd.one;refine⟨(yc,Eo,G),?_,RF⟩;dsimp only;simp only[pZ]at pz cV e9 kd mG l6;rw[eo];have ak:∀X,h0 X .s (.aB id g off (2*m) 1)=some (.s (.int .i64 (2*m:Nat))):=fun _=>rfl;have aZ:=ym hD;have jI:=ym ny;simp only[mf,aM,reduceCtorEq,Nat.reduceEqDiff,Nat.reduceLT,Nat.reduceLeDiff,Nat.reduceBEq,Nat.reduceAdd,ak,aV,b4,bt,eG,ee,ea,ey,pz,dA,cV,e9,hD,kd,LO,mG,l6,ny,aZ,jI,fM,aO]) 0 (bz,bz,C) (fa _) h
 dsimp only at aF aK
 have aO:=aK.cj (by intro e;have:=Ea bk off m;rw[e]at this;rw[d9]at this;omega)
 refine⟨bB,jG,D,aF.trans ?_,aK⟩
 have aV:IntKind.i64.wrap (((2*m:Nat):Int)+1)=((2*m+1:Nat):Int):=by rw[IntKind.wrap_i64];omega
 have bt:¬(((2*m+1:Nat):Int)<((2*m:Nat):Int)):=by omega
 have ak:∀X,h0 X .s (.aB id g off (2*m) 1)=some (.s (.int .i64 (2*m:Nat))):=fun _=>rfl;rw[eo];simp only[mf,aM,Nat.reduceEqDiff,Nat.reduceLT,Nat.reduceLeDiff,Nat.reduceBEq,ak,aV,bt,aO]
end
open Go.dO
def l'(op:Nat)(d:ByteArray)(r:List ByteArray)(k:Nat):gf:=match op with
 |4|10=>⟨op,d,⟨#[]⟩,⟨#[]⟩,k,r.getD 0 ⟨#[]⟩,r.drop 1,[]⟩
 |5|7|8|11=>⟨op,d,r.getD 0 ⟨#[]⟩,⟨#[]⟩,k,⟨#[]⟩,r.drop 1,[]⟩
 |9=>⟨op,d,r.getD 0 ⟨#[]⟩,r.getD 1 ⟨#[]⟩,k,⟨#[]⟩,[],[]⟩
 |6=>⟨op,d,⟨#[]⟩,⟨#[]⟩,k,⟨#[]⟩,mM r 1 (r.length / 2),mM r 0 (r.length / 2)⟩
 |12|13=>⟨op,d,⟨#[]⟩,⟨#[]⟩,k,⟨#[]⟩,[],r⟩
 |14=>⟨op,d,r.getD 0 ⟨#[]⟩,⟨#[]⟩,k,⟨#[]⟩,[],[]⟩
 |_=>⟨op,d,⟨#[]⟩,⟨#[]⟩,k,⟨#[]⟩,[],[]⟩
def r3(op:Nat)(r:List ByteArray):Prop:=match op with
 |4|10|5|7|8|11=>1<=r.length
 |9=>2<=r.length
 |6=>∃m,r.length=2*m/\0<m
 |12|13|14|1|2|3=>True
 |_=>False
structure B7 (a:Nat) (H:az) (r:List V) (x:gf) (H':az):Prop where
 res:ao H' (a+1) 0=some r
 ed:∀i,i<a->H'[i]?=H[i]?
 len:r.length=8
 one:r.all V.one=true
 rd:∀fZ,(∀i,a<=i->i<H'.length->fZ[i]?=H'[i]?)->la fZ r x
def N'(bk:List ByteArray)(o i:Nat):(bk.drop o).getD i ⟨#[]⟩=bk.getD (o+i) ⟨#[]⟩:=by
 rw[mI,mI,h4]
def apB{H:az}{id g off n:Nat}{bk:List ByteArray}(aa:ao H id g=some (bk.map a7))(aN:off+n=bk.length):Rd H (.aB id g off n 1) ((bk.drop off).map a7):=by
 have:=Rd.aB aa (off:=off) (n:=n) (by rw[zw];omega)
 rwa[wW (by rw[fJ,zw];omega),<- List.map_drop]at this
def vw.f{a:Nat}{H:az}{r:List V}{bk:List ByteArray}{id g:Nat}{H':az}(h:vw a H r bk id g H'){x:gf}{cd bB:V}(e:r=dL x cd bB)(aD:cd=bz/\x.xs=[]\/∃o n,cd=.aB id g o n 1/\o+n=bk.length/\x.xs=bk.drop o)(ak:bB=bz/\x.ls=[]\/∃o n,bB=.aB id g o n 1/\o+n=bk.length/\x.ls=bk.drop o)(aq:bk.length<2^63):B7 a H r x H':=by
 obtain⟨J,U,ax,aY⟩:=h
 have fK:cd.one=true/\hF cd:=by
  rcases aD with⟨rfl,_⟩|⟨o,n,rfl,_⟩
  .exact⟨rfl,akL⟩
  .exact⟨rfl,l9 _ _ _ _ _⟩
 have jU:bB.one=true/\hF bB:=by
  rcases ak with⟨rfl,_⟩|⟨o,n,rfl,_⟩
  .exact⟨rfl,akL⟩
  .exact⟨rfl,l9 _ _ _ _ _⟩
 refine⟨J,aY,by rw[e];rfl,?_,fun fZ an=>?_⟩
 .rw[e];simp only[dL,qM,s7,fK.1,jU.1,oX];rfl
 .have aa:ao fZ id g=some (bk.map a7):=by
   have:=hL U;unfold ao at U |-
   rw[an id (by omega) this]
   exact U
  have q:∀{v:V} {l:List ByteArray},(v=bz/\l=[]\/∃o n,v=.aB id g o n 1/\o+n=bk.length/\l=bk.drop o)->Rd fZ v (l.map a7)/\l.length<2^63:=by
   intro v l av
   rcases av with⟨rfl,rfl⟩|⟨o,n,rfl,bp,rfl⟩
   .exact⟨Rd.nil _,by decide⟩
   .exact⟨apB aa bp,by rw[fJ];omega⟩
  exact⟨cd,bB,e,(q aD).1,fK.2,(q ak).1,jU.2,(q aD).2,(q ak).2⟩
section
variable {ah:Nat->Option c7}
def atm(base:Nat){a:Nat}{H C:az}(af:base<=a){k:Nat}{dZ:V}{d:ByteArray}{bk:List ByteArray}{id g:Nat}(h:nu a H 14 dZ d k bk id g C){off n:Nat}(aN:off+n=bk.length):
 ∃H',aC (aU ah) aG base kr (au 137 [(2,.ref a 0 0),(4,.ref (a+1) 0 0),(5,.ref (a+2) 0 0),(6,.aB id g off n 1)]) C=some (.ret,au 137 [(4,.ref (a+1) 0 0)],H')/\vw a H [.s (.int .u8 (14:Nat)),.s (.string d),.s (.string (bk.getD off ⟨#[]⟩)),.s (.string ⟨#[]⟩),.s (.int .i64 k),.s (.string ⟨#[]⟩),.s (.slice none 0 0),.s (.slice none 0 0)] bk id g H':=by
 have kX:=h.box;have iD:=h.pz;simp only[uW]at iD
 have dA:base<=a+1:=by omega
 have cV:base<=a+2:=by omega
 have v0:=iD.cur;by_cases b5:n=0
 .subst b5
  have bb:bk.getD off ⟨#[]⟩=⟨#[]⟩:=by rw[mI,mm (by omega)];rfl
  rw[bb];obtain⟨E,bx⟩:∃X,C.set (a+1) (.cells 0 [.s (.int .u8 (14:Nat)),.s (.string d),.s (.string ⟨#[]⟩),.s (.string ⟨#[]⟩),.s (.int .i64 k),.s (.string ⟨#[]⟩),.s (.slice none 0 0),.s (.slice none 0 0)])=X:=⟨_,rfl⟩;have iM:=iD.out;simp only[gb,bz]at iM;refine⟨E,?_,iD.fin bx⟩;have ak:∀X,h0 X .s (.aB id g off 0 1)=some (.s (.int .i64 (0:Nat))):=fun _=>rfl
  have bt:¬(((0:Nat):Int) > 0):=by omega
  simp only[kr,qN,ke,mf,aM,Nat.reduceEqDiff,Nat.reduceLT,Nat.reduceLeDiff,Nat.reduceBEq,Nat.reduceAdd,kX,v0,iM,ak,gt_iff_lt,nq,bx,dA,cV,show(((14:Nat):Int)==3)=false from rfl,show(((14:Nat):Int)==4)=false from rfl,show(((14:Nat):Int)==10)=false from rfl,show(((14:Nat):Int)==5)=false from rfl,show(((14:Nat):Int)==8)=false from rfl,show(((14:Nat):Int)==7)=false from rfl,show(((14:Nat):Int)==11)=false from rfl,show(((14:Nat):Int)==9)=false from rfl,show(((14:Nat):Int)==6)=false from rfl,show(((14:Nat):Int)==12)=false from rfl,show(((14:Nat):Int)==13)=false from rfl,show(((14:Nat):Int)==14)=true from rfl]
 .obtain⟨cS,fL⟩:∃X,C.set (a+2) (.cells 0 [.s (.int .u8 (14:Nat)),.s (.string d),.s (.string (bk.getD off ⟨#[]⟩)),.s (.string ⟨#[]⟩),.s (.int .i64 k),.s (.string ⟨#[]⟩),.s (.slice none 0 0),.s (.slice none 0 0)])=X:=⟨_,rfl⟩;have gy:=iD.put fL;have v1:=gy.cur;obtain⟨E,bx⟩:∃X,cS.set (a+1) (.cells 0 [.s (.int .u8 (14:Nat)),.s (.string d),.s (.string (bk.getD off ⟨#[]⟩)),.s (.string ⟨#[]⟩),.s (.int .i64 k),.s (.string ⟨#[]⟩),.s (.slice none 0 0),.s (.slice none 0 0)])=X:=⟨_,rfl⟩;have iM:=gy.out;simp only[gb,bz]at iM
  have kK:=zd h.kD (o:=off) (by omega)
  have i0:=E1 (id:=id) (g:=g) (off:=off) (n:=n) (by omega)
  refine⟨E,?_,gy.fin bx⟩;have ak:∀X,h0 X .s (.aB id g off n 1)=some (.s (.int .i64 n)):=fun _=>rfl
  have bt:(((n:Nat):Int) > 0):=by omega
  simp only[kr,qN,ke,mf,aM,Nat.reduceEqDiff,Nat.reduceLT,Nat.reduceLeDiff,Nat.reduceBEq,Nat.reduceAdd,kX,v0,iM,ak,bt,kK,i0,fL,v1,bx,dA,cV,show(((14:Nat):Int)==3)=false from rfl,show(((14:Nat):Int)==4)=false from rfl,show(((14:Nat):Int)==10)=false from rfl,show(((14:Nat):Int)==5)=false from rfl,show(((14:Nat):Int)==8)=false from rfl,show(((14:Nat):Int)==7)=false from rfl,show(((14:Nat):Int)==11)=false from rfl,show(((14:Nat):Int)==9)=false from rfl,show(((14:Nat):Int)==6)=false from rfl,show(((14:Nat):Int)==12)=false from rfl,show(((14:Nat):Int)==13)=false from rfl,show(((14:Nat):Int)==14)=true from rfl]
def ayU(base){a H C}(af:base<=a){k dZ d bk id g}(h:nu a H 6 dZ d k bk id g C){off m}(aN:off+2*m=bk.length)(hm:0<m)(Ke:m<2^39):
 ∃r H',aC (aU ah) aG base kr (au 137 [(2,.ref a 0 0),(4,.ref (a+1) 0 0),(5,.ref (a+2) 0 0),(6,.aB id g off (2*m) 1)]) C=some (.ret,au 137 [(4,.ref (a+1) 0 0)],H')/\B7 a H r ⟨6,d,⟨#[]⟩,⟨#[]⟩,k,⟨#[]⟩,mM bk (off+1) m,mM bk off m⟩ H':=by
 have bt:=hL h.kD;have kX:=h.box;have kY:=h.ge
 obtain⟨bB,jG,D,aF,aK⟩:=aFY (ah:=ah) base af aN hm Ke ⟨h.out,h.cur,h.kD,⟨h.ge,bt⟩,h.ed,cp.start _ _ _,cp.start _ _ _,(fun i g n e=>by cases e),bS _⟩
 have dA:base<=a+1:=by omega
 have pz:=aK.cur;have iM:=aK.out;have fK:=aK.l.rd.one;have jU:=aK.x.rd.one;have aZ:=ym fK;have jI:=ym jU;obtain⟨E,bx⟩:∃X,D.set (a+1) (.cells 0 (pZ 6 d k jG bB))=X:=⟨_,rfl⟩
 have an:∀i,i≠a+1->E[i]?=D[i]?:=fun i hi=>by rw[<- bx,cf (gG hi)]
 have J7:E.length=D.length:=by rw[<- bx,eF]
 have dd:=aK.len
 have DN:∀{v:V} {l:List ByteArray},cp C.length 1 D v (fX l)->l.length<2^63->∀fZ:az,(∀i,a<=i->i<E.length->fZ[i]?=E[i]?)->Rd fZ v (l.map a7)/\hF v/\l.length<2^63:=fun {v l} av ak fZ hh=>by
  have:cp C.length 1 fZ v (fX l):=av.bT fun i g n e=>by
   have J:=av.lt i g n e
   have U:C.length<=i:=by subst e;exact fS av
   rw[hh i (by omega) (by omega),an i (by omega)]
  exact⟨(u' this).rd,nS.Er (u' this),ak⟩
 refine⟨pZ 6 d k jG bB,E,?_,⟨bx▸e4 iM _,fun i hi=>by rw[an i (by omega),aK.ed i hi],rfl,?_,fun fZ hh=>?_⟩⟩
 .simp only[gb,bz]at iM;simp only[pZ]at pz bx;simp only[kr,qN,ke,mf,aM,Nat.reduceEqDiff,Nat.reduceLT,Nat.reduceLeDiff,Nat.reduceBEq,Nat.reduceAdd,kX,aF,pz,iM,fK,jU,bx,dA,show(((6:Nat):Int)==3)=false from rfl,show(((6:Nat):Int)==4)=false from rfl,show(((6:Nat):Int)==10)=false from rfl,show(((6:Nat):Int)==5)=false from rfl,show(((6:Nat):Int)==8)=false from rfl,show(((6:Nat):Int)==7)=false from rfl,show(((6:Nat):Int)==11)=false from rfl,show(((6:Nat):Int)==9)=false from rfl,show(((6:Nat):Int)==6)=true from rfl]
 .simp only[pZ,qM,s7,fK,jU,oX];rfl
 .have bp:=DN aK.l (by rw[Ea];omega) fZ hh
  have aP:=DN aK.x (by rw[Ea];omega) fZ hh
  exact⟨jG,bB,rfl,aP.1,aP.2.1,bp.1,bp.2.1,aP.2.2,bp.2.2⟩
end
open Go.dO
def asx{op r}(h:r3 op r):op∈[1,2,3,4,5,6,7,8,9,10,11,12,13,14]:=by
 unfold r3 at h
 split at h<;>first|decide|exact h.elim
def zv(bk:List ByteArray)(o:Nat):(bk.drop o).getD 0 ⟨#[]⟩=bk.getD o ⟨#[]⟩:=N' bk o 0
def afq(bk:List ByteArray)(o i m:Nat):mM (bk.drop o) i m=mM bk (o+i) m:=by
 unfold mM;refine wb fun j _=>?_;rw[N',tF]
section
variable {ah:Nat->Option c7}
def aqj(base:Nat){a:Nat}{H C}(af:base<=a){op k:Nat}{dZ d bk}{id g:Nat}(h:nu a H op dZ d k bk id g C){off n:Nat}(aN:off+n=bk.length)(dv:r3 op (bk.drop off))(aq:bk.length<2^39):
 ∃r H',aC (aU ah) aG base kr (au 137 [(2,.ref a 0 0),(4,.ref (a+1) 0 0),(5,.ref (a+2) 0 0),(6,.aB id g off n 1)]) C=some (.ret,au 137 [(4,.ref (a+1) 0 0)],H')/\B7 a H r (l' op d (bk.drop off) k) H':=by
 have hm:=asx dv
 have pS:(bk.drop off).length=n:=by rw[fJ];omega
 have oc:(bz:V)=bz/\([]:List ByteArray)=[]:=⟨rfl,rfl⟩
 have vI:bk.length<2^63:=by omega
 have d1:(bk.drop off).drop 1=bk.drop (off+1):=by rw[nL]
 simp only[kf,xa,vN]at hm
 have akd:∀{op:Nat},op=4\/op=10->nu a H op dZ d k bk id g C->1<=n->∃r H',aC (aU ah) aG base kr (au 137 [(2,.ref a 0 0),(4,.ref (a+1) 0 0),(5,.ref (a+2) 0 0),(6,.aB id g off n 1)]) C=some (.ret,au 137 [(4,.ref (a+1) 0 0)],H')/\B7 a H r ⟨op,d,⟨#[]⟩,⟨#[]⟩,k,bk.getD off ⟨#[]⟩,bk.drop (off+1),[]⟩ H':=fun aT h J=>by
  obtain⟨H',aF,aK⟩:=aCF (ah:=ah) base af aT h aN J
  exact⟨_,H',aF,aK.f rfl (.inr ⟨off+1,n-1,rfl,by omega,rfl⟩) (.inl oc) vI⟩
 have G8:∀{op:Nat},op=5\/op=7\/op=8\/op=11->nu a H op dZ d k bk id g C->1<=n->∃r H',aC (aU ah) aG base kr (au 137 [(2,.ref a 0 0),(4,.ref (a+1) 0 0),(5,.ref (a+2) 0 0),(6,.aB id g off n 1)]) C=some (.ret,au 137 [(4,.ref (a+1) 0 0)],H')/\B7 a H r ⟨op,d,bk.getD off ⟨#[]⟩,⟨#[]⟩,k,⟨#[]⟩,bk.drop (off+1),[]⟩ H':=fun aT h J=>by
  obtain⟨H',aF,aK⟩:=asa (ah:=ah) base af aT h aN J
  exact⟨_,H',aF,aK.f rfl (.inr ⟨off+1,n-1,rfl,by omega,rfl⟩) (.inl oc) vI⟩
 have HK:∀{op:Nat},op=12\/op=13->nu a H op dZ d k bk id g C->∃r H',aC (aU ah) aG base kr (au 137 [(2,.ref a 0 0),(4,.ref (a+1) 0 0),(5,.ref (a+2) 0 0),(6,.aB id g off n 1)]) C=some (.ret,au 137 [(4,.ref (a+1) 0 0)],H')/\B7 a H r ⟨op,d,⟨#[]⟩,⟨#[]⟩,k,⟨#[]⟩,[],bk.drop off⟩ H':=fun aT h=>by
  obtain⟨H',aF,aK⟩:=ayp (ah:=ah) base af aT h aN (fa _);exact⟨_,H',aF,aK.f rfl (.inl oc) (.inr ⟨off,n,rfl,aN,rfl⟩) vI⟩
 have xX:∀{op:Nat},op=1\/op=2->nu a H op dZ d k bk id g C->∃r H',aC (aU ah) aG base kr (au 137 [(2,.ref a 0 0),(4,.ref (a+1) 0 0),(5,.ref (a+2) 0 0),(6,.aB id g off n 1)]) C=some (.ret,au 137 [(4,.ref (a+1) 0 0)],H')/\B7 a H r ⟨op,d,⟨#[]⟩,⟨#[]⟩,k,⟨#[]⟩,[],[]⟩ H':=fun aT h=>by
  obtain⟨H',aF,aK⟩:=aFJ (ah:=ah) base af aT h aN (fa _);exact⟨_,H',aF,aK.f rfl (.inl oc) (.inl oc) vI⟩
 rcases hm with rfl|rfl|rfl|rfl|rfl|rfl|rfl|rfl|rfl|rfl|rfl|rfl|rfl|rfl
 .exact xX (.inl rfl) h
 .exact xX (.inr rfl) h
 .obtain⟨H',aF,aK⟩:=aBJ (ah:=ah) base af rfl h aN (fa _);exact⟨_,H',aF,aK.f rfl (.inl oc) (.inl oc) vI⟩
 .have J:1<=(bk.drop off).length:=dv
  have q:=akd (.inl rfl) h (by omega)
  unfold l';rw[zv,d1];exact q
 .have J:1<=(bk.drop off).length:=dv
  have q:=G8 (.inl rfl) h (by omega)
  unfold l';rw[zv,d1];exact q
 .obtain⟨m,J,U⟩:∃m,(bk.drop off).length=2*m/\0<m:=dv
  obtain rfl:n=2*m:=by omega
  have q:=ayU (ah:=ah) base af h aN U (by omega)
  unfold l'
  rw[pS,ake m (by decide),afq,afq]
  exact q
 .have J:1<=(bk.drop off).length:=dv
  have q:=G8 (.inr (.inl rfl)) h (by omega)
  unfold l';rw[zv,d1];exact q
 .have J:1<=(bk.drop off).length:=dv
  have q:=G8 (.inr (.inr (.inl rfl))) h (by omega)
  unfold l';rw[zv,d1];exact q
 .have J:2<=(bk.drop off).length:=dv
  obtain⟨H',aF,aK⟩:=asu (ah:=ah) base af rfl h aN (by omega)
  unfold l';rw[zv,N'];exact⟨_,H',aF,aK.f rfl (.inl oc) (.inl oc) vI⟩
 .have J:1<=(bk.drop off).length:=dv
  have q:=akd (.inr rfl) h (by omega)
  unfold l';rw[zv,d1];exact q
 .have J:1<=(bk.drop off).length:=dv
  have q:=G8 (.inr (.inr (.inr rfl))) h (by omega)
  unfold l';rw[zv,d1];exact q
 .exact HK (.inl rfl) h
 .exact HK (.inr rfl) h
 .obtain⟨H',aF,aK⟩:=atm (ah:=ah) base af h aN;unfold l';rw[zv];exact⟨_,H',aF,aK.f rfl (.inl oc) (.inl oc) vI⟩
def qR(op:Nat)(i0:List UInt8)(bk:List ByteArray)(k:Nat):gf:=if i0=[78]then l' op (bk.getD 0 ⟨#[]⟩) (bk.drop 2) k else l' op ⟨#[]⟩ (bk.drop 1) k
def zp(op:Nat)(i0:List UInt8)(bk:List ByteArray):Prop:=if i0=[78]then 2<=bk.length/\r3 op (bk.drop 2)else 1<=bk.length/\r3 op (bk.drop 1)
def al9:∀(l:List Tok.T) (bk:List ByteArray),(ep bk l).length<=bk.length+l.length:=by
 intro l
 induction l with
 |nil=>intro bk;exact bS _
 |cons t l aw=>
   intro bk;rw[ep]
   have:=aw (if t.kind=1 then bk++[⟨t.text.toArray⟩]else bk)
   rw[gP];by_cases h:t.kind=1
   .rw[a' h]at this |-;rw[fU,bi]at this;omega
   .rw[bm h]at this |-;omega
set_option maxHeartbeats 1000000 in
theorem aBI(aR:ah Je=some (.code ke))(base:Nat){H:az}(af:base<=H.length){v dZ:V}{l:List Tok.T}(aj:lB H v l)(aN:l.length<2^38){items:List ByteArray}(hi:Rd H dZ (items.map a7))(hw:hF dZ)(a1:0<items.length){op:Nat}(dv:zp op (items.getD 0 ⟨#[]⟩).data.toList (ep [] l)):
 ∃r H',aU ah (.fn Je [] []) [.agg [.s (.int .u8 op),dZ],v] base H=some (.agg r,H')/\Ext H H'/\r.length=8/\r.all V.one=true/\∀fZ,(∀i,H.length<=i->i<H'.length->fZ[i]?=H'[i]?)->la fZ r (qR op (items.getD 0 ⟨#[]⟩).data.toList (ep [] l) (gO 0 l)):=by
 obtain⟨j4,o7⟩:∃X,H++[bq.cells 0 [.s (.int .u8 op),dZ]]=X:=⟨_,rfl⟩;obtain⟨hr,ow⟩:∃X,j4++[bq.cells 0 gb]=X:=⟨_,rfl⟩;obtain⟨S3,Gy⟩:∃X,hr++[bq.cells 0 gb]=X:=⟨_,rfl⟩;obtain⟨lK,s8⟩:∃X,hr++[bq.cells 0 (D' op 0)]=X:=⟨_,rfl⟩
 have en:j4.length=H.length+1:=by rw[<- o7,kw]
 have e8:hr.length=H.length+2:=by rw[<- ow,kw,en]
 have uY:lK.length=H.length+3:=by rw[<- s8,kw,e8]
 have eG:Ext H j4:=o7▸Ext.app _ _;have ee:Ext j4 hr:=ow▸Ext.app _ _;have gh:Ext hr lK:=s8▸Ext.app _ _;have nO:Ext hr S3:=Gy▸Ext.app _ _;have ais:ao hr H.length 0=some [.s (.int .u8 op),dZ]:=df (o7▸dz H 0 _) ee
 have go2:ao hr (H.length+1) 0=some gb:=by rw[<- en,<- ow];exact dz j4 0 _
 have sE:ao S3 (H.length+2) 0=some gb:=by rw[<- e8,<- Gy];exact dz hr 0 _
 have sz:S3.set (H.length+2) (.cells 0 (D' op 0))=lK:=by rw[<- Gy,<- e8,ln,s8]
 have st:z6 H.length H op dZ 0 [] bz lK:=⟨df ais gh,df go2 gh,by rw[<- e8,<- s8];exact dz hr 0 _,cp.start _ _ _,by omega,fun i hi=>by rw[gh.get (by omega),ee.get (by omega),eG.get hi]⟩
 obtain⟨jO,C,dS,lM⟩:=asT (ah:=ah) base af (bS _) aj (by omega) l 0 0 [] bz lK rfl (fa _) (fa _) st
 obtain⟨bk,mw⟩:∃bk,ep [] l=bk:=⟨_,rfl⟩;obtain⟨k,an⟩:∃k,gO 0 l=k:=⟨_,rfl⟩
 have Qf:bk.length<=l.length:=by have:=al9 l [];rw[mw]at this;simpa using this
 rw[mw]at dv lM |-;rw[an]at lM |-
 have aow:Ext H C:=Ext.tT (by have:=lM.len;omega) lM.ed
 have ae3:=hi.ext aow
 obtain⟨id,g,env,kY,aa⟩:∃id g,jO=.aB id g 0 bk.length 1/\H.length+3<=id/\ao C id g=some (bk.map a7):=by
  have dq:bk≠[]:=by
   intro e;unfold zp at dv;rw[e]at dv;split at dv
   .have:=dv.1;rw[d9]at this;omega
   .have:=dv.1;rw[d9]at this;omega
  obtain⟨_,⟨e,_⟩|⟨id,g,e,aa,k⟩⟩:=lM.kD
  .have:=dX List.length e;rw[r4]at this;exact absurd (lO this) dq
  .rw[r4]at e;rw[O0]at aa;exact⟨id,g,e,k,aa⟩
 subst env;have s2:nu H.length H op dZ ⟨#[]⟩ k bk id g C:=⟨lM.box,lM.out,lM.cur,aa,kY,lM.ed⟩
 have fin:∃d off n bF,aC (aU ah) aG base Eg (au 137 [(1,v),(2,.ref H.length 0 0),(4,.ref (H.length+1) 0 0),(5,.ref (H.length+2) 0 0),(6,.aB id g 0 bk.length 1),(7,.s (.int .i64 l.length)),(15,.s (.bool false))]) C=some (.bH,au 137 [(2,.ref H.length 0 0),(4,.ref (H.length+1) 0 0),(5,.ref (H.length+2) 0 0),(6,.aB id g off n 1)],bF)/\nu H.length H op dZ d k bk id g bF/\off+n=bk.length/\r3 op (bk.drop off)/\qR op (items.getD 0 ⟨#[]⟩).data.toList bk k=l' op d (bk.drop off) k:=by
  unfold zp at dv;unfold qR;by_cases Ki:(items.getD 0 ⟨#[]⟩).data.toList=[78]
  .rw[a' Ki]at dv |-;obtain⟨bF,bC,bP⟩:=asG (ah:=ah) base af s2 ae3 hw a1 Ki dv.1 (v:=v) (n:=l.length)
   exact⟨_,2,bk.length-2,bF,bC,bP,by omega,dv.2,rfl⟩
  .rw[bm Ki]at dv |-;have bC:=aCw (ah:=ah) base s2.box ae3 hw a1 Ki dv.1 (v:=v) (id:=id) (g:=g) (n:=l.length)
   exact⟨_,1,bk.length-1,C,bC,s2,by omega,dv.2,rfl⟩
 obtain⟨d,off,n,bF,f1,f2,f3,f4,f5⟩:=fin
 obtain⟨r,H',t1,t2⟩:=aqj (ah:=ah) base af f2 f3 f4 (by omega)
 rw[f5]
 have pS:iT H' true 8 (.ref (H.length+1) 0 0)=some (.agg r):=by
  have e:(r.drop 0).take 8=r:=by rw[l3,wW (by rw[t2.len];exact bS _)]
  simp only[iT,t2.res,e,t2.len,fl];rfl
 refine⟨r,H',iY (c:=ke) (k:=2) aR rfl (by decide) aF0 ?_,Ext.tT (by have:=hL t2.res;omega) t2.ed,t2.len,t2.one,t2.rd⟩
 have fM:base<=H.length+2:=by omega
 have asW:=hi.one
 have ck:aC (aU ah) aG base (.region Rv [] yg) (au 137 [(0,.agg [.s (.int .u8 op),dZ]),(1,v)]) H=some (.bH,au 137 [(1,v),(2,.ref H.length 0 0),(4,.ref (H.length+1) 0 0)],hr):=by
  simp only[gb,bz]at ow;simp only[mf,simprocAttr,aM,o7,ow,en,asW,k7]
  try rfl
 have aF:aC (aU ah) aG base (.region Qp [] [9,10,11]) (au 137 [(1,v),(2,.ref H.length 0 0),(4,.ref (H.length+1) 0 0)]) hr=some (.bH,au 137 [(1,v),(2,.ref H.length 0 0),(4,.ref (H.length+1) 0 0),(5,.ref (H.length+2) 0 0)],lK):=by
  simp only[gb,bz]at Gy sE;simp only[D',rD]at sz;simp only[mf,simprocAttr,aM,ais,Gy,e8,sE,sz,fM]
  try rfl
 have aK:aC (aU ah) aG base (.bc Tg [] [6]) (au 137 [(1,v),(2,.ref H.length 0 0),(4,.ref (H.length+1) 0 0),(5,.ref (H.length+2) 0 0)]) lK=some (.bH,au 137 [(1,v),(2,.ref H.length 0 0),(4,.ref (H.length+1) 0 0),(5,.ref (H.length+2) 0 0),(6,bz)],lK):=by
  simp only[mf,simprocAttr,aM,bz]
 have e3:aC (aU ah) aG base (.seq (.bc OZ [] [7]) (.block 0 (.loop [] JX))) (au 137 [(1,v),(2,.ref H.length 0 0),(4,.ref (H.length+1) 0 0),(5,.ref (H.length+2) 0 0),(6,bz)]) lK=some (.bH,au 137 [(1,v),(2,.ref H.length 0 0),(4,.ref (H.length+1) 0 0),(5,.ref (H.length+2) 0 0),(6,.aB id g 0 bk.length 1),(7,.s (.int .i64 l.length)),(15,.s (.bool false))],C):=by
  simp only[rD,bz]at dS;simp only[mf,simprocAttr,aM,bz,uY,dS]
 have uJ:aC (aU ah) aG base qN (au 137 [(1,v),(2,.ref H.length 0 0),(4,.ref (H.length+1) 0 0),(5,.ref (H.length+2) 0 0),(6,.aB id g 0 bk.length 1),(7,.s (.int .i64 l.length)),(15,.s (.bool false))]) C=some (.ret,au 137 [(4,.ref (H.length+1) 0 0)],H'):=by
  have ar:∃x y,qN=.seq x (.seq y kr)/\Eg=.seq x y:=⟨_,_,rfl,rfl⟩;obtain⟨x,y,bC,bP⟩:=ar;rw[bC];rw[bP]at f1
  have key:aC (aU ah) aG base (.seq x (.seq y kr)) (au 137 [(1,v),(2,.ref H.length 0 0),(4,.ref (H.length+1) 0 0),(5,.ref (H.length+2) 0 0),(6,.aB id g 0 bk.length 1),(7,.s (.int .i64 l.length)),(15,.s (.bool false))]) C=aC (aU ah) aG base (.seq (.seq x y) kr) (au 137 [(1,v),(2,.ref H.length 0 0),(4,.ref (H.length+1) 0 0),(5,.ref (H.length+2) 0 0),(6,.aB id g 0 bk.length 1),(7,.s (.int .i64 l.length)),(15,.s (.bool false))]) C:=by
   simp only[aC];cases aC (aU ah) aG base x (au 137 [(1,v),(2,.ref H.length 0 0),(4,.ref (H.length+1) 0 0),(5,.ref (H.length+2) 0 0),(6,.aB id g 0 bk.length 1),(7,.s (.int .i64 l.length)),(15,.s (.bool false))]) C with
   |none=>rfl
   |some p=>
     obtain⟨ex,fr,X⟩:=p;cases ex<;>rfl
  rw[key,eh f1,t1]
 have f':aC (aU ah) aG base ke.body (au 137 [(0,.agg [.s (.int .u8 op),dZ]),(1,v)]) H=some (.ret,au 137 [(4,.ref (H.length+1) 0 0)],H'):=
  (eh ck).trans ((eh aF).trans ((eh aK).trans ((eh e3).trans uJ)))
 have qg:au ke.ntmps [(0,.agg [.s (.int .u8 op),dZ]),(1,v)]=au 137 [(0,.agg [.s (.int .u8 op),dZ]),(1,v)]:=rfl;refine(dX (vT ke.results) f').trans ?_;simp only[ke,simprocAttr,aM,pS]
 try rfl
end
open Go.dO
def aCO:∀(l:List Tok.T) (a:Nat),(l.map cP).flatten.drop (a*5)=((l.drop a).map cP).flatten:=by
 intro l
 induction l with
 |nil=>intro a;simp
 |cons t l aw=>
   intro a;cases a with
   |zero=>simp
   |succ a=>
     rw[lL,uV,zF,qO (by show 5<=_;omega),km,B4,<- aw a]
     congr 1
     show(a+1)*5-5=a*5;omega
def aIB:∀(l:List Tok.T) (n:Nat),(l.map cP).flatten.take (n*5)=((l.take n).map cP).flatten:=by
 intro l
 induction l with
 |nil=>intro a;simp
 |cons t l aw=>
   intro a;cases a with
   |zero=>simp
   |succ a=>
     rw[lL,uV,Ho,wW (by show 5<=_;omega),fI,lL,uV,<- aw a]
     congr 2
     show(a+1)*5-5=a*5;omega
def DV(H:az)(cQ cZ:Nat)(ts:List Tok.T):Prop:=ao H cQ cZ=some (ts.map cP).flatten
def DV.Cz{H cQ cZ ts}(h:DV H cQ cZ ts){a n}(aN:a+n<=ts.length):lB H (.aB cQ cZ (a*5) n 5) ((ts.drop a).take n):=by
 have ak:((ts.drop a).take n).length=n:=by rw[lG,fJ];omega
 refine⟨cQ,cZ,a*5,_,by rw[ak],h,?_⟩
 rw[ak,aCO,aIB]
def DV.all{H cQ cZ ts}(h:DV H cQ cZ ts):lB H (.aB cQ cZ 0 ts.length 5) ts:=by
 have:=h.Cz (a:=0) (n:=ts.length) (by omega)
 rwa[H8,l3,Fm]at this
def h3(a6:Nat):List Tok.T->Nat
 | []=>0
 |t::l=>if t.kind=4\/t.line≠a6 then 0 else h3 a6 l+1
structure h8 (L:Nat) (C:az) (cD:V) (gs:List hv) (nm:ByteArray) (ps:List ByteArray) (bU:List mY):Prop where
 n:gs.length+1<2^21
 ex:∃(ej:az) (id g:Nat) (R:List (List V)) (pv bv:V) (K:Nat->Prop),cD=.aB id g 0 (gs.length+1) 3/\L<=id/\id<ej.length/\ej.length<=C.length/\ao C id g=some (R.flatten++[a7 nm,pv,bv])/\(∀r∈R,r.length=3)/\R.length=gs.length/\(∀j,L<=j->j<ej.length->j≠id->C[j]?=ej[j]?)/\
  (∀(i:Nat) (f:hv),gs[i]?=some f->∃r:List V,R[i]?=some r/\∀H',(∀j,L<=j->j<ej.length->j≠id->H'[j]?=ej[j]?)->qG H' r f)/\pv.one=true/\(∀H',(∀j,L<=j->j<ej.length->j≠id->H'[j]?=ej[j]?)->Rd H' pv (ps.map a7)/\hF pv)/\ps.length<2^63/\bv.one=true/\FS ej.length K C bv bU
def h8.done{L C cD gs nm ps bU}(h:h8 L C cD gs nm ps bU):j3 L C cD (gs++[⟨nm,ps,bU⟩]):=by
 obtain⟨ej,id,g,R,pv,bv,K,e,J,U,ax,aY,cl,eM,ks,mR,oR,gm,vi,yV,tr⟩:=h.ex;subst e
 refine⟨by rw[fU];exact h.n,R++[[a7 nm,pv,bv]],⟨fun r ar=>?_,.inr ⟨id,g,by simp[eM],?_,J⟩⟩,by simp[eM],fun i f al=>?_⟩
 .rcases l1.1 ar with ar|ar
  .exact cl r ar
  .rw[fj]at ar;subst ar;rfl
 .rw[aY,tl];simp
 .have Z2:∀H':az,(∀j,L<=j->j<C.length->(∀g' n,V.aB id g 0 (gs.length+1) 3≠.aB j g' 0 n 3)->H'[j]?=C[j]?)->∀j,L<=j->j<ej.length->j≠id->H'[j]?=ej[j]?:=fun H' aD j h2 hA lN=>by
   rw[aD j h2 (by omega) (fun g' n e=>by cases e;exact lN rfl),ks j h2 hA lN]
  by_cases hi:i<gs.length
  .rw[d' hi]at al;obtain⟨r,bC,bP⟩:=mR i f al
   exact⟨r,by rw[d' (by omega)];exact bC,fun H' aD=>bP H' (Z2 H' aD)⟩
  .have fG:i=gs.length:=by
    have:=(cC.1 al).1;simp at this;omega
   subst fG;rw[gB (bS _),r0]at al;cases al
   refine⟨[a7 nm,pv,bv],by rw[gB (by omega),eM,r0];rfl,fun H' aD=>?_⟩
   obtain⟨bp,aP⟩:=gm H' (Z2 H' aD)
   exact⟨pv,bv,rfl,bp,aP,vi,tr.done fun j h2 hA=>aD j (by omega) hA fun g' n e=>by cases e;omega⟩
def h8.bT{L C bh cD gs nm ps bU}(h:h8 L C cD gs nm ps bU)(an:∀j,L<=j->j<C.length->bh[j]?=C[j]?)(ak:C.length<=bh.length):h8 L bh cD gs nm ps bU:=by
 obtain⟨ej,id,g,R,pv,bv,K,e,J,U,ax,aY,cl,eM,ks,mR,oR,gm,vi,yV,tr⟩:=h.ex
 refine⟨h.n,ej,id,g,R,pv,bv,K,e,J,U,by omega,?_,cl,eM,fun j h2 hA lN=>by rw[an j h2 (by omega),ks j h2 hA lN],mR,oR,gm,vi,yV,tr.bT (fun j h2 hA=>an j (by omega) hA) ak⟩
 unfold ao at aY |-
 rw[an id J (by omega)]
 exact aY
def h8.start{L base C D cD gs}(h:j3 L C cD gs)(af:base<=L)(dw:L<=C.length)(an:∀j,L<=j->j<C.length->D[j]?=C[j]?)(ak:C.length<=D.length){nm ps pv}(qU:pv.one=true)(aj:∀H':az,(∀j,C.length<=j->j<D.length->H'[j]?=D[j]?)->Rd H' pv (ps.map a7)/\hF pv)(rZ:ps.length<2^63)(aN:gs.length+1<2^21){c1}(b5:c1<L):
 ∃w bY,gW (D++[.cells 0 [a7 nm,pv,bz]]) base 3 64 cD (.aB D.length 0 0 1 3)=some (w,bY)/\w.one=true/\D.length<=bY.length/\(∀j,j<L->bY[j]?=D[j]?)/\∀bo,h8 L (bY.set c1 bo) w gs nm ps []:=by
 obtain⟨R,aV,b4,dJ⟩:=h.rows
 have HJ:cp L 3 D cD R:=aV.bT fun id g n e=>by subst e;exact an id (fS aV) (aV.lt id g n rfl)
 obtain⟨id,g,n,bY,cy,a2,a3,a4,a5⟩:=Dc HJ (base:=base) (bytes:=64) af (by omega) (r:=[a7 nm,pv,bz]) rfl (by simp only[qM,s7,qU,oX];rfl) (by rw[b4];omega)
 have hid:L<=id:=fS a2
 have sk:∀j,j<L->bY[j]?=D[j]?:=fun j br=>a4 j (by omega) fun g' c3 e=>by
  subst e;have:=fS HJ;omega
 have o0:=a2.lt id g n rfl;refine⟨_,bY,cy,rfl,a3,sk,fun bo=>?_⟩;obtain⟨dH,hx⟩:∃X,bY.set c1 bo=X:=⟨_,rfl⟩;rw[hx]
 have uY:dH.length=bY.length:=by rw[<- hx,eF]
 have dx:∀j,L<=j->dH[j]?=bY[j]?:=fun j br=>by rw[<- hx,cf (by omega)]
 have atZ:=a2
 obtain⟨_,⟨e,_⟩|⟨eX,g',e,aa,_⟩⟩:=atZ
 .simp at e
 .cases e
  have aqq:(R++[[a7 nm,pv,bz]]).length=gs.length+1:=by simp[b4]
  refine⟨aN,dH,id,g,R,pv,bz,fun _=>False,by rw[aqq],hid,by omega,bS _,?_,fun r ar=>aV.1 r ar,b4,fun _ _ _ _=>rfl,fun i f al=>?_,qU,fun H' aD=>?_,rZ,rfl,FS.start _ _⟩
  .have aK:ao dH id g=ao bY id g:=by unfold ao;rw[dx id hid]
   rw[aK,aa,tl];simp
  .obtain⟨r,bC,bP⟩:=dJ i f al;refine⟨r,bC,fun H' aD=>bP H' fun j h2 hA lN=>?_⟩
   have BW:j≠id:=fun e=>by
    rcases a5 with⟨g2,bN,aK⟩|aK
    .exact lN g2 bN (e▸aK)
    .omega
   rw[aD j h2 (by omega) BW,dx j h2,a4 j (by omega) lN,an j h2 hA]
  .refine aj H' fun j h2 hA=>?_
   have Hw:∀g n,cD≠.aB j g 0 n 3:=fun g n e=>by
    have:=aV.lt j g n e;omega
   have BW:j≠id:=fun e=>by
    rcases a5 with⟨g2,bN,aK⟩|aK
    .exact Hw g2 bN (e▸aK)
    .omega
   rw[aD j (by omega) (by omega) BW,dx j (by omega),a4 j hA Hw]
def h8.LM{L base C cD gs nm ps bU}(h:h8 L C cD gs nm ps bU)(af:base<=L)(eY)(aN:bU.length+1<2^21):
 ∃id g dR pv bv w bh,cD=.aB id g 0 (gs.length+1) 3/\L<=id/\ao C id g=some (dR++[a7 nm,pv,bv])/\dR.length=gs.length*3/\bv.one=true/\gW (C++[.cells 0 [a7 eY,bz]]) base 2 40 bv (.aB C.length 0 0 1 2)=some (w,bh)/\w.one=true/\ao bh id g=some (dR++[a7 nm,pv,bv])/\C.length<=bh.length/\(∀j,j<L->bh[j]?=C[j]?)/\h8 L (bh.set id (.cells g (dR++[a7 nm,pv,w]))) cD gs nm ps (bU++[⟨eY,[]⟩])/\(V.y6 bv=some none\/∃x,V.y6 bv=some (some x)/\id<x):=by
 obtain⟨ej,id,g,R,pv,bv,K,e,J,U,ax,aY,cl,eM,ks,mR,oR,gm,vi,yV,tr⟩:=h.ex
 obtain⟨eX,g',c3,bh,K',cy,a2,a3,a4,a5⟩:=tr.LM (base:=base) (by omega) (by omega) eY aN
 have zG:ao bh id g=some (R.flatten++[a7 nm,pv,bv]):=by
  unfold ao at aY |-;rw[a5 id U];exact aY
 obtain⟨eN,iq⟩:∃X,bh.set id (.cells g (R.flatten++[a7 nm,pv,.aB eX g' 0 c3 2]))=X:=⟨_,rfl⟩
 have dx:∀j,j≠id->eN[j]?=bh[j]?:=fun j br=>by rw[<- iq,cf (gG br)]
 have uY:eN.length=bh.length:=by rw[<- iq,eF]
 refine⟨id,g,R.flatten,pv,bv,_,bh,e,J,aY,by rw[xz R cl,eM],yV,cy,rfl,zG,a4,fun j br=>a5 j (by omega),?_,?_⟩
 .rw[iq]
  exact⟨h.n,ej,id,g,R,pv,_,K',e,J,U,by omega,iq▸e4 zG _,cl,eM,fun j h2 hA lN=>by rw[dx j lN,a5 j hA,ks j h2 hA lN],mR,oR,gm,vi,rfl,a2.bT (fun j h2 hA=>dx j (by omega)) (by omega)⟩
 .obtain⟨iI,aV,_⟩:=tr.rows
  obtain⟨_,⟨_,aK⟩|⟨i2,g2,aK,_,k2⟩⟩:=aV
  .subst aK;exact .inl rfl
  .subst aK
   exact .inr ⟨_,rfl,by omega⟩
def FS.cut{m M}{K:Nat->Prop}{C T bv bU}(h:FS m K C bv bU)(aR:∀i,i<M->T[i]?=C[i]?)(bJ:M<=T.length)(bE:∀i,K i->i<M)(af:∀id g n,bv=.aB id g 0 n 2->id<M)(iX:∀id g c,id<M->ao C id g=some c->∀i h o n z,V.aB i h o n z∈c->i<M):FS m K T bv bU:=by
 obtain⟨iI,aV,b4,dJ⟩:=h.rows
 have wm:∀H',py K T H'->py K C H':=fun H' aD id hid=>by rw[aD id hid,aR id (bE id hid)]
 refine⟨fun id hid=>by obtain⟨k1,k2,dx⟩:=h.k id hid;exact⟨k1,by have:=bE id hid;omega,dx⟩,h.n,iI,aV.bT fun id g n e=>aR id (af id g n e),b4,fun i b fY=>?_⟩
 obtain⟨bZ,cq,cN,et,jd⟩:=dJ i b fY;refine⟨bZ,cq,cN,fun hi H' aD=>et hi H' (wm H' aD),fun hi=>?_⟩;obtain⟨nc,bC,bP,dk,eC⟩:=jd hi;refine⟨nc,bC.bT fun id g n e=>?_,bP,dk,fun j x ae=>?_⟩
 .refine aR id ?_
  obtain⟨_,⟨aK,_⟩|⟨c8,mC,aK,aa,_⟩⟩:=aV
  .rw[aK]at cq;simp at cq
  .refine iX c8 mC _ (af c8 mC _ aK) aa id g 0 n 8 ?_
   exact Mh.2 ⟨_,hR cq,by rw[e];simp⟩
 .obtain⟨r,s1,s2⟩:=eC j x ae;exact⟨r,s1,fun H' aD=>s2 H' (wm H' aD)⟩
def aFX{M:Nat}{bF:az}{r:List V}{x:gf}(ae:∀H':az,(∀i,M<=i->i<bF.length->H'[i]?=bF[i]?)->la H' r x)(ar:∀i h o n z,V.aB i h o n z∈r->i<M):∀H':az,la H' r x:=by
 obtain⟨D,cX⟩:∃D:az,List.replicate M bq.dead++bF.drop M=D:=⟨_,rfl⟩
 have qt:∀i,i<M->D[i]?=some bq.dead:=fun i hi=>by
  rw[<- cX,d' (by rw[JB];exact hi),Wo,a' hi]
 have avQ:∀i,M<=i->D[i]?=bF[i]?:=fun i hi=>by
  rw[<- cX,gB (by rw[JB];exact hi),JB,h4]
  congr 1
  omega
 obtain⟨cd,bB,e,bp,aP,bj,c4,iu,iw⟩:=ae D fun i J _=>avQ i J
 have key:∀{v:V} {l:List ByteArray},v∈r->Rd D v (l.map a7)->hF v->∀H',Rd H' v (l.map a7):=by
  intro v l av bD hw H'
  rcases bD.cases with⟨aF,aK|aK⟩|⟨es,aK,_⟩|⟨id,g,off,n,c,aK,aa,_⟩
  .rw[aF,aK];exact Rd.nil _
  .rw[aF,aK];exact Rd.db _
  .exact absurd aK (hw _ _)
  .exfalso;subst aK;have:=ar id g off n 1 av;unfold ao at aa;rw[qt id this]at aa;cases aa
 intro H'
 exact⟨cd,bB,e,key (by rw[e];simp[dL]) bp aP H',aP,key (by rw[e];simp[dL]) bj c4 H',c4,iu,iw⟩
def h8.oJ{L base C cD gs nm ps dj aL}(h:h8 L C cD gs nm ps (dj++[aL]))(af:base<=L):
 ∃id g dR pv c8 mC gK bZ,cD=.aB id g 0 (gs.length+1) 3/\L<=id/\ao C id g=some (dR++[a7 nm,pv,.aB c8 mC 0 (dj.length+1) 2])/\dR.length=gs.length*3/\L<=c8/\ao C c8 mC=some (gK++[a7 aL.label,bZ])/\gK.length=dj.length*2/\bZ.one=true/\
   ∀(bF:az) (r:List V) (x:gf),(∀j,L<=j->j<C.length->bF[j]?=C[j]?)->C.length<=bF.length->r.length=8->r.all V.one=true->(∀H':az,(∀i,C.length<=i->i<bF.length->H'[i]?=bF[i]?)->la H' r x)->aL.code.length+1<2^21->
     ∃w cb,gW (bF++[.cells 0 r]) base 8 128 bZ (.aB bF.length 0 0 1 8)=some (w,cb)/\w.one=true/\ao cb c8 mC=some (gK++[a7 aL.label,bZ])/\bF.length<=cb.length/\(∀j,j<L->cb[j]?=bF[j]?)/\(V.y6 bZ=some none\/∃x,V.y6 bZ=some (some x)/\L<=x)/\∀fr,h8 L (trim C.length fr (cb.set c8 (.cells mC (gK++[a7 aL.label,w])))) cD gs nm ps (Go.Proofs.YtbocmenkkjbigaaDoor.oJ (dj++[aL]) x):=by
 obtain⟨ej,id,g,R,pv,bv,K,e,J,U,ax,aY,cl,eM,ks,mR,oR,gm,vi,yV,tr⟩:=h.ex
 obtain⟨c8,mC,gK,bZ,tq,i1,i2,i3,i4,i5⟩:=tr.oJ (base:=base) (by omega) (by omega)
 subst tq
 refine⟨id,g,R.flatten,pv,c8,mC,gK,bZ,e,J,aY,by rw[xz R cl,eM],by omega,i2,i3,i4,fun bF r x an ak ar ez ae aN=>?_⟩
 obtain⟨eX,g',c3,cb,h2,hA,lN,GH,zl,M0,cI,EI⟩:=i5 bF r x (fun i=>C.length<=i/\i<bF.length) (fun j h2 hA=>an j (by omega) hA) ak ar ez (fun _ h=>h) (fun H' hh=>ae H' fun i a b=>hh i ⟨a,b⟩) aN
 obtain⟨eN,iq⟩:∃X,cb.set c8 (.cells mC (gK++[a7 aL.label,.aB eX g' 0 c3 8]))=X:=⟨_,rfl⟩;rw[iq]at lN
 have dx:∀j,j≠c8->eN[j]?=cb[j]?:=fun j br=>by rw[<- iq,cf (gG br)]
 have uY:eN.length=cb.length:=by rw[<- iq,eF]
 have II:=hL i2
 have ef:ao eN id g=some (R.flatten++[a7 nm,pv,.aB c8 mC 0 (dj.length+1) 2]):=by
  unfold ao at aY |-
  rw[dx id (by omega),zl id U,an id J (by omega)]
  exact aY
 have cz:∀j,L<=j->j<ej.length->j≠id->eN[j]?=ej[j]?:=fun j bp aP bj=>by rw[dx j (by omega),zl j aP,an j bp (by omega),ks j bp aP bj]
 refine⟨_,cb,h2,rfl,hA,GH,fun j br=>zl j (by omega),?_,fun fr=>?_⟩
 .obtain⟨iI,aV,b4,dJ⟩:=tr.rows
  obtain⟨BB,cq,_,_,jd⟩:=dJ dj.length aL (by rw[gB (bS _),r0];rfl)
  obtain⟨nc,bC,_⟩:=jd (by simp)
  have aCS:BB=bZ:=by
   obtain⟨_,⟨aK,_⟩|⟨aJx,aKr,aK,aa,_⟩⟩:=aV
   .rw[aK]at cq;simp at cq
   .obtain⟨cn,dK,_⟩:=V.aB.inj aK;rw[<- cn,<- dK,i2]at aa
    have Bo:iI=iI.take dj.length++[[a7 aL.label,BB]]:=by
     have e:=KZ (l:=iI) (i:=dj.length);rw[cq]at e;rw[fU,bi]at b4
     exact(wW (l:=iI) (i:=dj.length+1) (by omega)).symm.trans e
    rw[Bo,tl]at aa;have bD:=hc aa
    have:gK++[a7 aL.label,bZ]=(iI.take dj.length).flatten++[a7 aL.label,BB]:=by rw[bD];simp
    have ak:=dX List.getLast? this;simp at ak;exact ak.symm
  subst aCS
  obtain⟨_,⟨_,aK⟩|⟨L',g2,aK,_,k2⟩⟩:=bC
  .subst aK;exact .inl rfl
  .subst aK;exact .inr ⟨_,rfl,by omega⟩
 .rw[iq]
  rcases B5 C.length fr eN with Ta|⟨Ta,_,NO⟩
  .rw[Ta]
   exact⟨h.n,ej,id,g,R,pv,_,_,e,J,U,by omega,ef,cl,eM,cz,mR,oR,gm,vi,yV,lN⟩
  .have av2:ao eN c8 mC=some (gK++[a7 aL.label,.aB eX g' 0 c3 8]):=iq▸e4 hA _
   have IC:eX<C.length:=NO c8 mC _ II av2 eX g' 0 c3 8 (by simp)
   have g3:ao eN eX g'=some (cI++r):=by
    unfold ao at EI |-;rw[dx eX M0];exact EI
   have au2:=aFX ae fun i h o n z hm=>NO eX g' _ IC g3 i h o n z (pf _ hm)
   obtain⟨nJ,g2,bN,aJY,bp,aP,bj,_⟩:=i5 bF r x (fun _=>False) (fun j h2 hA=>an j (by omega) hA) ak ar ez (fun _ h=>h.elim) (fun H' _=>au2 H') aN
   rw[h2]at bp;cases bp;rw[iq]at bj;have aR:∀i,i<C.length->(trim C.length fr eN)[i]?=eN[i]?:=fun i hi=>tQ _ _ _ hi
   have aye:C.length<=(trim C.length fr eN).length:=by rw[Ta,lG];omega
   refine⟨h.n,ej,id,g,R,pv,_,_,e,J,U,by omega,?_,cl,eM,fun j a b c=>by rw[aR j (by omega),cz j a b c],mR,oR,gm,vi,yV,bj.cut aR aye (fun i hi=>?_) (fun a b c e=>?_) NO⟩
   .unfold ao at ef |-
    rw[aR id (by omega)]
    exact ef
   .rcases hi with hi|hi
    .exact(tr.k i hi).2.1
    .exact hi.elim
   .cases e;exact II
end Go.Proofs.YtbocmenkkjbigaaDoor
