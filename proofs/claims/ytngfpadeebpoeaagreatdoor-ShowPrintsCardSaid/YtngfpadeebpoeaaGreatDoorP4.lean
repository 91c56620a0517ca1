/- Texts of the proof: ShoF3, ShoF4, ShnC2, ShnD1, ShnD2, ShnD4, ShoF6, ShoF7, ShoF8, ShoF9, ShoF10, ShnH1, ShnH2, ShnH3, ShnD5, ShnI1, ShoF11, ShoF12, ShoF13, ShoP1, ShoP2, ShnJ1, ShS4, ShoL1, ShoM1, ShoL2. -/
import Derived.Test.YtngfpadeebpoeaaGreatDoorP0
import Derived.Test.YtngfpadeebpoeaaGreatDoorP1
import Derived.Test.YtngfpadeebpoeaaGreatDoorP2
import Derived.Test.YtngfpadeebpoeaaGreatDoorP3
set_option linter.all false
set_option maxRecDepth 100000
namespace Go.Proofs.YtngfpadeebpoeaaGreatDoor
open Go.AM
def atl:ByteArray:=⟨#[58,32]⟩
def b0:ByteArray:=⟨#[]⟩
def pairT (l s:ByteArray):ByteArray:=(l ++ atl) ++ s
def prL (x:InsD) (i:Nat):List ByteArray:=(List.range i).map fun j=>pairT (x.ls.getD j ⟨#[]⟩) (x.xs.getD j ⟨#[]⟩)
def aed (x:InsD):ByteArray:=(⟨#[91]⟩ ++ abo (prL x x.ls.length) bCm) ++ ⟨#[93]⟩
theorem axg (x:InsD) (i:Nat):prL x (i+1)=prL x i ++ [pairT (x.ls.getD i ⟨#[]⟩) (x.xs.getD i ⟨#[]⟩)]:=by
 simp only [prL,List.range_succ,acu,jv,lh]
theorem ai7 (x:InsD) (i:Nat):(prL x i).length=i:=by simp [prL]
theorem ae4 {M:Nat} {l:List ByteArray} (h:∀ s∈l,s.size≤M) (i:Nat):(l.getD i ⟨#[]⟩).size≤M:=by
 rw [um];cases e:l[i]? with
 | none=>exact gq _
 | some s=>exact h s (ak e)
theorem axi {M:Nat} {l s:ByteArray} (h1:l.size≤M) (h2:s.size≤M):(pairT l s).size≤2 * M+2:=by
 have n1:atl.size=2:=rfl;unfold pairT;rw [wm,wm];omega
section
variable {CT:Nat→Option CFun}
theorem a1z (h:WorT CT) (hT:CT a8w=some (.code ajy)) (base:Nat) {A:Heap} (hb:base≤A.length) {av lv:V} {x:InsD} (hr:p9 A (jg x av lv) x) (hx:SmI x) (hn:x.xs.length=x.ls.length):
 ∃ H',dn CT (.fn a8w [] []) [.agg (jg x av lv)] base A=some (Sb (aed x),H')∧Ext A H':=by
 obtain ⟨av',lv',he,q1,q2,q3,q4,_⟩:=hr;cases he;have hav:=q1.one;have hlv:=q3.one;obtain ⟨A1,hA1⟩:∃ A1,A ++ [Ob.cells 0 (jg x av lv)]=A1:=⟨_,rfl⟩;have e1:Ext A A1:=hA1 ▸ Ext.app _ _
 have hl1:A1.length=A.length+1:=by rw [← hA1,eu]
 have hgg:jm A1 A.length 0=some (jg x av lv):=hA1 ▸ dh A 0 _;have hll:=qf (q3.ext e1);have nl:=hx.nl
 obtain ⟨⟨v,C⟩,e2,e3⟩:=aco (S:=V × Heap) x.ls.length (fun i s=>Acc A1 s.2 s.1 ((prL x i).map Sb)) (fun i s=>itW (evC (dn CT) itW base apo) [] (A.length+1) (iw 30 [(1,.ref A.length 0 0),(3,s.1),(7,lv),(8,Iz x.ls.length),(9,Iz i)]) s.2) (by
  rintro i ⟨v,C⟩ hi hacc;have eC:=e1.trans hacc.1;obtain ⟨a0,i0,l0⟩:=ab0 (q3.ext eC) q4 hi
  obtain ⟨a1,i1,l1⟩:=ab0 (q1.ext eC) q2 (k:=i) (by omega)
  have hgC:=cz hgg hacc.1;have z0:=ae4 hx.ls i;have z1:=ae4 hx.xs i;have n1:atl.size=2:=rfl
  have c1:(x.ls.getD i ⟨#[]⟩).size+atl.size≤4611686018427387904:=by omega
  have c2:(x.ls.getD i ⟨#[]⟩ ++ atl).size+(x.xs.getD i ⟨#[]⟩).size≤4611686018427387904:=by rw [wm];omega
  obtain ⟨v',D,hap,hacc'⟩:=hacc.append (base:=base) (bytes:=16) (by omega) (x:=Sb (pairT (x.ls.getD i ⟨#[]⟩) (x.xs.getD i ⟨#[]⟩))) rfl (by rw [sw,ai7];omega)
  have hlt:decide ((i:Int) < (x.ls.length:Int))=true:=by simpa using hi
  refine ⟨(v',trim (A.length+1) (iw 30 [(1,.ref A.length 0 0),(3,v'),(7,lv),(8,Iz x.ls.length),(9,Iz ((i+1:Nat):Int))]) D),?_,?_⟩
  ·rw [dw];simp only [jg,pairT,atl] at hgC hap c1 c2
   simp only [jg,Iz,af4,bew,aa,simprocAttr,hgC,i0,l0,i1,l1,yn c1,yn c2,if_false,hap,hlt,cond_true,w64 (show i < 2 ^ 62 by omega)]
  ·rw [axg,acu]
   refine Acc.trim hacc' (by omega) ?_
   simp [iw,a1s]
   exact ⟨3,by omega,rfl⟩) 0 (abw,A1) (gq _) (Acc.start A1)
 have e3:Acc A1 C v ((prL x x.ls.length).map Sb):=e3;obtain ⟨C2,hC2⟩:∃ C2,trim (A.length+1) (iw 30 [(1,.ref A.length 0 0),(3,v),(7,lv),(8,.s (.int .i64 x.ls.length)),(9,.s (.int .i64 x.ls.length)),(10,.s (.bool false))]) C=C2:=⟨_,rfl⟩
 have e3:Acc A1 C2 v ((prL x x.ls.length).map Sb):=by
  rw [← hC2]
  refine Acc.trim e3 (by omega) ?_
  simp [iw,a1s]
  exact ⟨3,by omega,rfl⟩
 have hj:=uk (xs:=prL x x.ls.length) (sep:=bCm) (by rw [ai7];omega) (M:=402) (fun s hs=>by
  obtain ⟨j,_,rfl⟩:=xq.1 hs
  exact axi (ae4 hx.ls j) (ae4 hx.xs j)) (by omega) (by decide)
 have hjn:=ako h.L base (apf e3.rd e3.wide) hj.1;have nz:x.ls.length * (402+2)≤20 * 404:=lm _ nl;have hjs:=hj.2;rw [ai7] at hjs;have n1:(⟨#[91]⟩:ByteArray).size=1:=rfl;have n2:(⟨#[93]⟩:ByteArray).size=1:=rfl
 have c1:(⟨#[91]⟩:ByteArray).size+(abo (prL x x.ls.length) bCm).size≤4611686018427387904:=by omega
 have c2:((⟨#[91]⟩:ByteArray) ++ abo (prL x x.ls.length) bCm).size+(⟨#[93]⟩:ByteArray).size≤4611686018427387904:=by rw [wm];omega
 have hge:decide ((x.ls.length:Int) < (x.ls.length:Int))=false:=by simp
 refine ⟨C2,gp (c:=ajy) (k:=1) hT rfl (by decide) auy ?_,e1.trans e3.1⟩
 simp only [jg,Iz,bCm,abw] at hgg hjn c1 c2 e2 hA1;rw [show (((0:Nat):Int))=0 from rfl] at e2;simp only [jg,Iz,ajy,bew,aa,simprocAttr,hav,hlv,di,hA1,hl1,hgg,hll,e2];rw [dw];simp only [jg,Iz,af4,ajy,bew,aa,simprocAttr,hge,cond_false,hC2,hjn,yn c1,yn c2,if_false];rfl
theorem amc {x:InsD} (hx:SmI x):(aed x).size≤9000:=by
 have nl:=hx.nl
 have hj:=uk (xs:=prL x x.ls.length) (sep:=bCm) (by rw [ai7];omega) (M:=402) (fun s hs=>by
  obtain ⟨j,_,rfl⟩:=xq.1 hs
  exact axi (ae4 hx.ls j) (ae4 hx.xs j)) (by omega) (by decide)
 have nz:x.ls.length * (402+2)≤20 * 404:=lm _ nl;have hjs:=hj.2;rw [ai7] at hjs;have n1:(⟨#[91]⟩:ByteArray).size=1:=rfl;have n2:(⟨#[93]⟩:ByteArray).size=1:=rfl;unfold aed;rw [wm,wm];omega
theorem bh7 (h:WorT CT) (hP:CT a8w=some (.code ajy)) (hT:CT bdg=some (.code anr)) (base:Nat) {A:Heap} (hb:base≤A.length) {av lv:V} {x:InsD} (hr:p9 A (jg x av lv) x) (hx:SmI x) (hn:x.xs.length=x.ls.length):
 ∃ H',dn CT (.fn bdg [] []) [.agg (jg x av lv)] base A=some (Sb (ko [a6i,aed x]),H')∧Ext A H':=by
 obtain ⟨A1,hA1⟩:∃ A1,A ++ [Ob.cells 0 (jg x av lv)]=A1:=⟨_,rfl⟩;have e1:Ext A A1:=hA1 ▸ Ext.app _ _
 have hl1:A1.length=A.length+1:=by rw [← hA1,eu]
 have hgg:jm A1 A.length 0=some (jg x av lv):=hA1 ▸ dh A 0 _
 obtain ⟨D,hp,e2⟩:=a1z h hP base (by omega) (hr.ext e1) hx hn
 obtain ⟨av',lv',he,q1,q2,q3,q4,_⟩:=hr;cases he;have hav:=q1.one;have hlv:=q3.one;have hz:=amc hx;have hsv:=uj D [a6i,aed x]
 have hj:=uk (xs:=[a6i,aed x]) (sep:=bSp) (by simp) (ac8 (M:=10000) (by decide) (by omega)) (by omega) (by decide)
 have hw:=uy h.L h.W base hsv hj.1
 refine ⟨_,gp (c:=anr) (k:=1) hT rfl (by decide) auz ?_,(e1.trans e2).trans (Ext.app _ [Ob.cells 0 ([a6i,aed x].map Sb)])⟩
 simp only [jg,jv,lh,fq,gy,a6i] at hw hgg hp hA1;simp only [jg,anr,a_f59,aa,simprocAttr,hav,hlv,di,hA1,hl1,hgg,hp,hw];rfl
end
def foT (n:Nat):List (Int × V):=[(1,.fn 54 [] [.ref n 0 0]),(2,.fn 55 [] [.ref n 0 0]),(3,.fn 56 [] []),(4,.fn 57 [] []),(5,.fn 58 [] []),(6,.fn 59 [] []),(7,.fn 61 [] [.ref n 0 0]),(8,.fn 62 [] []),(9,.fn 63 [] []),(10,.fn 64 [] []),(11,.fn 65 [] []),(12,.fn 66 [] []),(13,.fn 67 [] []),(14,.fn 68 [] [])]
section
variable {CT:Nat→Option CFun}
theorem a4b (hT:CT bdv=some (.code apu)) (base:Nat) {A:Heap} (hb:base≤A.length):
 dn CT (.fn bdv [] []) [] base A=some (.mp (A.length+1),A ++ [.cells 0 [.fn 52 [] []]] ++ [.map (esI .u8 (foT A.length))]):=by
 obtain ⟨n,hn⟩:∃ n,A.length=n:=⟨_,rfl⟩;obtain ⟨A1,hA1⟩:∃ A1,A ++ [Ob.cells 0 [.fn 52 [] []]]=A1:=⟨_,rfl⟩
 have l1:A1.length=n+1:=by rw [← hA1,eu,hn]
 obtain ⟨A2,hA2⟩:∃ A2,A1 ++ [Ob.map (esI .u8 (foT n))]=A2:=⟨_,rfl⟩
 have hb1:base≤A1.length:=by omega
 have e0:(Ob.map []:Ob)=.map (esI .u8 []):=rfl
 have hs:(A ++ [Ob.cells 0 [.s .nilFunc]]).set n (Ob.cells 0 [.fn 52 [] []])=A1:=by rw [← hn,ny,hA1]
 have hg:jm (A ++ [Ob.cells 0 [.s .nilFunc]]) n 0=some [.s .nilFunc]:=by rw [← hn];exact dh A 0 _
 have hbn:base≤n:=by omega
 have hbn1:base≤n+1:=by omega
 have u1:=wh hb1 .u8 ((foT n).take 0) 1 (.fn 54 [] [.ref n 0 0]) (by rfl)
 have u2:=wh hb1 .u8 ((foT n).take 1) 2 (.fn 55 [] [.ref n 0 0]) (by rfl)
 have u3:=wh hb1 .u8 ((foT n).take 2) 3 (.fn 56 [] []) (by rfl)
 have u4:=wh hb1 .u8 ((foT n).take 3) 4 (.fn 57 [] []) (by rfl)
 have u5:=wh hb1 .u8 ((foT n).take 4) 5 (.fn 58 [] []) (by rfl)
 have u6:=wh hb1 .u8 ((foT n).take 5) 6 (.fn 59 [] []) (by rfl)
 have u7:=wh hb1 .u8 ((foT n).take 6) 7 (.fn 61 [] [.ref n 0 0]) (by rfl)
 have u8:=wh hb1 .u8 ((foT n).take 7) 8 (.fn 62 [] []) (by rfl)
 have u9:=wh hb1 .u8 ((foT n).take 8) 9 (.fn 63 [] []) (by rfl)
 have u10:=wh hb1 .u8 ((foT n).take 9) 10 (.fn 64 [] []) (by rfl)
 have u11:=wh hb1 .u8 ((foT n).take 10) 11 (.fn 65 [] []) (by rfl)
 have u12:=wh hb1 .u8 ((foT n).take 11) 12 (.fn 66 [] []) (by rfl)
 have u13:=wh hb1 .u8 ((foT n).take 12) 13 (.fn 67 [] []) (by rfl)
 have u14:=wh hb1 .u8 ((foT n).take 13) 14 (.fn 68 [] []) (by rfl)
 rw [show (foT n).take 13 ++ [(14,.fn 68 [] [])]=foT n from rfl,hA2] at u14;simp only [foT,bz,df,bn,cu,l1] at u1;simp only [foT,bz,df,bn,cu,l1] at u2;simp only [foT,bz,df,bn,cu,l1] at u3;simp only [foT,bz,df,bn,cu,l1] at u4;simp only [foT,bz,df,bn,cu,l1] at u5;simp only [foT,bz,df,bn,cu,l1] at u6;simp only [foT,bz,df,bn,cu,l1] at u7;simp only [foT,bz,df,bn,cu,l1] at u8;simp only [foT,bz,df,bn,cu,l1] at u9;simp only [foT,bz,df,bn,cu,l1] at u10;simp only [foT,bz,df,bn,cu,l1] at u11;simp only [foT,bz,df,bn,cu,l1] at u12;simp only [foT,bz,df,bn,cu,l1] at u13;simp only [foT,bz,df,l1] at u14;have hcf:(V.fn 52 [] []).cells=[V.fn 52 [] []]:=rfl;have hof:[V.fn 52 [] []].all V.one=true:=rfl;have hdf:List.drop 1 [V.s .nilFunc]=[]:=rfl;rw [hn,hA1,hA2]
 refine oo (c:=apu) hT (by simp [apu]) ?_
 simp only [apu,a_f17,aa,simprocAttr,ae0,aez,aa1,hn,hg,hs,hbn,hbn1,l1,e0,hcf,hof,hdf,qz,oz,and_self,if_true,hA1,u1,u2,u3,u4,u5,u6,u7,u8,u9,u10,u11,u12,u13,u14]
end
abbrev frF (m:Nat):List V:=iw 18 [(3,.ref m 0 0),(4,.ref (m+1) 0 0),(5,.ref (m+2) 0 0),(9,.fn amj [] [.ref (m+3) 0 0])]
def lpR (m:Nat):Ob:=.loop .ready none (frF m) [10,11] qp aa5
def lpB (m:Nat):Ob:=.loop .busy none (frF m) [10,11] qp aa5
def lpD (m:Nat):Ob:=.loop .done (aoi .ret) (frF m) [10,11] qp aa5
def fC (B:Heap) (f:V) (p:List V) (q:Bool) (w:Nat) (lp:Ob):Heap:=B ++ [.cells 0 [f]] ++ [.cells 0 p] ++ [.cells 0 [.s (.bool q)]] ++ [.cells 0 [.ref w 0 0]] ++ [lp]
theorem aoy (B:Heap) (f:V) (p:List V) (q:Bool) (w:Nat) (lp:Ob):(fC B f p q w lp).length=B.length+5:=by simp [fC]
theorem bh3 (B:Heap) (f:V) (p:List V) (q:Bool) (w:Nat) (lp:Ob) (G:Heap):Ext B (fC B f p q w lp ++ G):=⟨[.cells 0 [f]] ++ [.cells 0 p] ++ [.cells 0 [.s (.bool q)]] ++ [.cells 0 [.ref w 0 0]] ++ [lp] ++ G,by simp [fC]⟩
theorem fC_f (B:Heap) (f:V) (p:List V) (q:Bool) (w:Nat) (lp:Ob) (G:Heap):jm (fC B f p q w lp ++ G) B.length 0=some [f]:=by simp [fC,jm]
theorem fC_p (B:Heap) (f:V) (p:List V) (q:Bool) (w:Nat) (lp:Ob) (G:Heap):jm (fC B f p q w lp ++ G) (B.length+1) 0=some p:=by simp [fC,jm]
theorem fC_q (B:Heap) (f:V) (p:List V) (q:Bool) (w:Nat) (lp:Ob) (G:Heap):jm (fC B f p q w lp ++ G) (B.length+2) 0=some [.s (.bool q)]:=by simp [fC,jm]
theorem fC_w (B:Heap) (f:V) (p:List V) (q:Bool) (w:Nat) (lp:Ob) (G:Heap):jm (fC B f p q w lp ++ G) (B.length+3) 0=some [.ref w 0 0]:=by simp [fC,jm]
theorem azq (B:Heap) (f:V) (p:List V) (q:Bool) (w:Nat) (lp:Ob) (G:Heap):(fC B f p q w lp ++ G)[B.length+4]?=some lp:=by simp [fC]
theorem fC_sp (B:Heap) (f:V) (p p':List V) (q:Bool) (w:Nat) (lp:Ob) (G:Heap):(fC B f p q w lp ++ G).set (B.length+1) (.cells 0 p')=fC B f p' q w lp ++ G:=by simp [fC]
theorem fC_sq (B:Heap) (f:V) (p:List V) (q q':Bool) (w:Nat) (lp:Ob) (G:Heap):(fC B f p q w lp ++ G).set (B.length+2) (.cells 0 [.s (.bool q')])=fC B f p q' w lp ++ G:=by simp [fC]
theorem bd6 (B:Heap) (f:V) (p:List V) (q:Bool) (w:Nat) (lp lp':Ob) (G:Heap):(fC B f p q w lp ++ G).set (B.length+4) lp'=fC B f p q w lp' ++ G:=by simp [fC]
theorem bh4 (B:Heap) (f:V) (p:List V) (q:Bool) (w:Nat) (lp:Ob) (G:Heap):fC B f p q w lp ++ G=B ++ ([.cells 0 [f]] ++ [.cells 0 p] ++ [.cells 0 [.s (.bool q)]] ++ [.cells 0 [.ref w 0 0]] ++ [lp] ++ G):=by simp [fC]
def gC (B:Heap) (f:V) (p:List V) (q:Bool) (w:Nat):Heap:=B ++ [.cells 0 [f]] ++ [.cells 0 p] ++ [.cells 0 [.s (.bool q)]] ++ [.cells 0 [.ref w 0 0]]
theorem bbc (B:Heap) (f:V) (p:List V) (q:Bool) (w:Nat):(gC B f p q w).length=B.length+4:=by simp [gC]
theorem bbe (B:Heap) (f:V) (p:List V) (q:Bool) (w:Nat) (lp lp':Ob) (G:Heap):(fC B f p q w lp ++ G).set (B.length+4) lp'=gC B f p q w ++ (lp' :: G):=by simp [fC,gC]
theorem gC_p (B:Heap) (f:V) (p:List V) (q:Bool) (w:Nat) (G:Heap):jm (gC B f p q w ++ G) (B.length+1) 0=some p:=by simp [gC,jm]
theorem gC_q (B:Heap) (f:V) (p:List V) (q:Bool) (w:Nat) (G:Heap):jm (gC B f p q w ++ G) (B.length+2) 0=some [.s (.bool q)]:=by simp [gC,jm]
theorem gC_sp (B:Heap) (f:V) (p p':List V) (q:Bool) (w:Nat) (G:Heap):(gC B f p q w ++ G).set (B.length+1) (.cells 0 p')=gC B f p' q w ++ G:=by simp [gC]
theorem gC_sq (B:Heap) (f:V) (p:List V) (q q':Bool) (w:Nat) (G:Heap):(gC B f p q w ++ G).set (B.length+2) (.cells 0 [.s (.bool q')])=gC B f p q' w ++ G:=by simp [gC]
theorem bbd (B:Heap) (f:V) (p:List V) (q:Bool) (w:Nat) (G:Heap):∃ G',gC B f p q w ++ G=B ++ G':=⟨[.cells 0 [f]] ++ [.cells 0 p] ++ [.cells 0 [.s (.bool q)]] ++ [.cells 0 [.ref w 0 0]] ++ G,by simp [gC]⟩
section
variable {CT:Nat→Option CFun}
def kF (B:Nat→Heap) (m:Nat) (f:V) (w n:Nat):Heap:=fC (B n) f [Iz 0,Iz 0,Iz 0] false w (lpR m)
def kD (B:Nat→Heap) (m:Nat) (f:V) (w n i b k:Nat):Heap:=fC (B (n+1)) f [Iz i,Iz b,Iz k] true w (lpD m)
def Pred (CT:Nat→Option CFun) (base:Nat) (f:V) (B:Nat→Heap) (n i b k:Nat) (r:List V) (g:Bool):Prop:=∀ G,∃ G',dn CT f [.agg [Iz i,Iz b,Iz k],.agg r] base (B n ++ G)=some (bl g,B (n+1) ++ G ++ G')
theorem a9p (base m:Nat) {B:Nat→Heap} (hB:∀ n,(B n).length=m) (hb:base≤m) {f:V} (hf:f.one=true) {w n i b k:Nat} {A:Heap} {r:List V} {x:InsD} (hr:p9 A r x) {g:Bool} (hp:Pred CT base f B n i b k r g):
 Yld CT base (.yld (m+4)) (kF B m f w) (kD B m f w) n i b k r g:=by
 intro G;obtain ⟨av,lv,rfl,q1,q2,q3,q4,_⟩:=id hr;have hav:=q1.one;have hlv:=q3.one;obtain ⟨C,hC⟩:∃ C,kF B m f w n ++ G=C:=⟨_,rfl⟩;obtain ⟨c,hcc⟩:∃ c,m+(5+G.length)=c:=⟨_,rfl⟩
 have hCl:C.length=c:=by rw [← hcc];rw [← hC,az,kF,aoy,hB];omega
 obtain ⟨G1,hG1⟩:∃ G1,G ++ [Ob.cells 0 [Iz i,Iz b,Iz k]] ++ [Ob.cells 0 (jg x av lv)]=G1:=⟨_,rfl⟩
 have eH1:C ++ [Ob.cells 0 [Iz i,Iz b,Iz k]] ++ [Ob.cells 0 (jg x av lv)]=kF B m f w n ++ G1:=by rw [← hC,← hG1];simp
 have hm:=hB n;have h0:=azq (B n) f [Iz 0,Iz 0,Iz 0] false w (lpR m) G;have h1:=azq (B n) f [Iz 0,Iz 0,Iz 0] false w (lpR m) G1;have e2:=bd6 (B n) f [Iz 0,Iz 0,Iz 0] false w (lpR m) (lpB m) G1;have lf:=fC_f (B n) f [Iz 0,Iz 0,Iz 0] false w (lpB m) G1;rw [hm] at h0 h1 e2 lf
 have g6:jm (fC (B n) f [Iz 0,Iz 0,Iz 0] false w (lpB m) ++ G1) c 0=some [Iz i,Iz b,Iz k]:=by
  rw [← hG1,← jh,← jh];refine cz ?_ (Ext.app _ _);have:=dh (fC (B n) f [Iz 0,Iz 0,Iz 0] false w (lpB m) ++ G) 0 [Iz i,Iz b,Iz k]
  rwa [az,aoy,hm,vg,hcc] at this
 have g7:jm (fC (B n) f [Iz 0,Iz 0,Iz 0] false w (lpB m) ++ G1) (c+1) 0=some (jg x av lv):=by
  rw [← hG1,← jh,← jh];have:=dh (fC (B n) f [Iz 0,Iz 0,Iz 0] false w (lpB m) ++ G ++ [Ob.cells 0 [Iz i,Iz b,Iz k]]) 0 (jg x av lv)
  rwa [eu,show (fC (B n) f [Iz 0,Iz 0,Iz 0] false w (lpB m) ++ G).length=c by rw [← hcc,az,aoy,hm];omega] at this
 obtain ⟨G2,hp⟩:=hp ([.cells 0 [f]] ++ [.cells 0 [Iz 0,Iz 0,Iz 0]] ++ [.cells 0 [.s (.bool false)]] ++ [.cells 0 [.ref w 0 0]] ++ [lpB m] ++ G1);rw [← bh4] at hp
 have eR:B (n+1) ++ ([.cells 0 [f]] ++ [.cells 0 [Iz 0,Iz 0,Iz 0]] ++ [.cells 0 [.s (.bool false)]] ++ [.cells 0 [.ref w 0 0]] ++ [lpB m] ++ G1) ++ G2=fC (B (n+1)) f [Iz 0,Iz 0,Iz 0] false w (lpB m) ++ (G1 ++ G2):=by simp [fC]
 rw [eR] at hp;have hm1:=hB (n+1);refine ⟨G1 ++ G2,?_⟩;rw [hC]
 rw [show (if g=true then some (bl false,kD B m f w n i b k ++ (G1 ++ G2)) else some (bl true,kF B m f w (n+1) ++ (G1 ++ G2)))=some (if g=true then (bl false,kD B m f w n i b k ++ (G1 ++ G2)) else (bl true,kF B m f w (n+1) ++ (G1 ++ G2))) by cases g <;> rfl]
 have hH:C[m+4]?=some (lpR m):=by rw [← hC];exact h0
 refine az2 (id:=m+4) (by omega) hH (fr:=iw 18 [(3,.ref m 0 0),(4,.ref (m+1) 0 0),(5,.ref (m+2) 0 0),(9,.fn amj [] [.ref (m+3) 0 0]),(10,.agg [Iz i,Iz b,Iz k]),(11,.agg (jg x av lv))]) (fr1:=iw 18 [(3,.ref m 0 0),(4,.ref (m+1) 0 0),(5,.ref (m+2) 0 0),(6,.ref c 0 0),(7,.ref (c+1) 0 0)]) (H1:=C ++ [Ob.cells 0 [Iz i,Iz b,Iz k]] ++ [Ob.cells 0 (jg x av lv)]) ?_ ?_ (by rw [eH1];exact h1) ?_
 ·simp only [frF,aa,simprocAttr]
 ·have h6:base≤c:=by omega
  have h7:base≤c+1:=by omega
  have hgg:∀ e,jm (C ++ [Ob.cells 0 e]) c 0=some e:=fun e=>by have:=dh C 0 e;rwa [hCl] at this
  have hss:∀ e d,(C ++ [e]).set c d=C ++ [d]:=fun e d=>by have:=ny C e d;rwa [hCl] at this
  have hl2:∀ d,(C ++ [d]).length=c+1:=fun d=>by rw [eu,hCl]
  have hgg2:∀ a e,jm (C ++ [a] ++ [Ob.cells 0 e]) (c+1) 0=some e:=fun a e=>by have:=dh (C ++ [a]) 0 e;rwa [hl2] at this
  have hss2:∀ a e d,(C ++ [a] ++ [e]).set (c+1) d=C ++ [a] ++ [d]:=fun a e d=>by have:=ny (C ++ [a]) e d;rwa [hl2] at this
  simp only [jg,Iz,qp,atu,aa,simprocAttr,hCl,h6,h7,hgg,hss,hl2,hgg2,hss2,hav,hlv,di]
 ·rw [eH1];have e2':(kF B m f w n ++ G1).set (m+4) (Ob.loop .busy none (frF m) [10,11] qp aa5)=fC (B n) f [Iz 0,Iz 0,Iz 0] false w (lpB m) ++ G1:=e2;rw [e2'];obtain ⟨D,hD⟩:∃ D,fC (B n) f [Iz 0,Iz 0,Iz 0] false w (lpB m) ++ G1=D:=⟨_,rfl⟩;rw [hD] at lf g6 g7 hp ⊢;have lfx:tu D false 1 (.ref m 0 0)=some f:=yj lf;cases g with
  | false=>
    have hend:evC (dn CT) itW base aa5 (iw 18 [(3,.ref m 0 0),(4,.ref (m+1) 0 0),(5,.ref (m+2) 0 0),(6,.ref c 0 0),(7,.ref (c+1) 0 0)]) D=some (.nrm,iw 18 [(4,.ref (m+1) 0 0),(5,.ref (m+2) 0 0),(6,.ref c 0 0),(15,bl false)],fC (B (n+1)) f [Iz 0,Iz 0,Iz 0] false w (lpB m) ++ (G1 ++ G2)):=by
     simp only [jg,Iz,bl] at g6 g7 hp lfx;simp only [jg,Iz,bl,aa5,atu,aa,simprocAttr,g6,g7,lfx,hp]
    have hl:=azq (B (n+1)) f [Iz 0,Iz 0,Iz 0] false w (lpB m) (G1 ++ G2);have e3:=bd6 (B (n+1)) f [Iz 0,Iz 0,Iz 0] false w (lpB m) (lpR m) (G1 ++ G2);rw [hm1] at hl e3;rw [hend,aqx hl];exact congrArg some (Prod.ext rfl e3)
  | true=>
    have hend:evC (dn CT) itW base aa5 (iw 18 [(3,.ref m 0 0),(4,.ref (m+1) 0 0),(5,.ref (m+2) 0 0),(6,.ref c 0 0),(7,.ref (c+1) 0 0)]) D=some (.ret,iw 18 [],fC (B (n+1)) f [Iz i,Iz b,Iz k] true w (lpB m) ++ (G1 ++ G2)):=by
     have hb1:base≤m+1:=by omega
     have hb2:base≤m+2:=by omega
     have p1:=fC_p (B (n+1)) f [Iz 0,Iz 0,Iz 0] false w (lpB m) (G1 ++ G2);have p2:=fC_sp (B (n+1)) f [Iz 0,Iz 0,Iz 0] [Iz i,Iz b,Iz k] false w (lpB m) (G1 ++ G2);have p3:=fC_q (B (n+1)) f [Iz i,Iz b,Iz k] false w (lpB m) (G1 ++ G2);have p4:=fC_sq (B (n+1)) f [Iz i,Iz b,Iz k] false true w (lpB m) (G1 ++ G2)
     have g6':jm (fC (B (n+1)) f [Iz 0,Iz 0,Iz 0] false w (lpB m) ++ (G1 ++ G2)) c 0=some [Iz i,Iz b,Iz k]:=by
      have:=dh (fC (B (n+1)) f [Iz 0,Iz 0,Iz 0] false w (lpB m) ++ G) 0 [Iz i,Iz b,Iz k];rw [az,aoy,hm1,vg,hcc] at this
      exact cz this ⟨[Ob.cells 0 (jg x av lv)] ++ G2,by rw [← hG1];simp⟩
     rw [hm1] at p1 p2 p3 p4;simp only [jg,Iz,bl] at g6 g7 hp lfx p1 p2 p3 p4 g6';simp only [jg,Iz,bl,aa5,atu,aa,simprocAttr,g6,g7,lfx,hp,g6',p1,p2,p3,p4,hb1,hb2]
    have hl:=azq (B (n+1)) f [Iz i,Iz b,Iz k] true w (lpB m) (G1 ++ G2);have e3:=bd6 (B (n+1)) f [Iz i,Iz b,Iz k] true w (lpB m) (lpD m) (G1 ++ G2);rw [hm1] at hl e3;rw [hend,aqx hl];exact congrArg some (Prod.ext rfl e3)
structure FindT (CT:Nat→Option CFun):Prop where
 find:CT a2w=some (.code aes)
 code:CT ba8=some (.code ahc)
 code1:CT amj=some (.code aeb)
theorem bai (hT:FindT CT) (base:Nat) (H:Heap) (w:Nat):dn CT (.fn ba8 [] []) [.ref w 0 0] base H=some (.fn amj [] [.ref H.length 0 0],H ++ [.cells 0 [.ref w 0 0]]):=by
 refine gp (c:=ahc) (k:=1) hT.code rfl (by decide) ark ?_
 simp only [ahc,biy,aa,simprocAttr,aa1]
theorem a9q (hT:FindT CT) (base:Nat) {A:Heap} (hb:base≤A.length) {w sm:Nat} {fv:V} {fs:List FunD} (hc:NC A w sm fv fs) {f:V} (hf:f.one=true) {B:Nat→Heap} {m:Nat} (hB:∀ n,(B n).length=m) (hE:∀ n,Ext A (B n)) {Gf:Nat→Nat→Nat→Nat→InsD→Bool}
 (hp:∀ i f1,fs[i]?=some f1→∀ b x,f1.blocks[b]?=some x→∀ k z r,x.code[k]?=some z→p9 A r z→Pred CT base f B (cF (fs.take i)+cI (f1.blocks.take b)+k) i b k r (Gf (cF (fs.take i)+cI (f1.blocks.take b)+k) i b k z)):
 ∃ n G,dn CT (.fn a2w [] []) [.ref w 0 0,f] base (B 0)=some (axd (aj2 Gf fs),B n ++ G):=by
 have hbm:base≤m:=by have:=(hE 0).le;rw [hB] at this;omega
 have hm:=hB 0
 have hK:∀ n,(kF B m f w n).length=m+5:=fun n=>by rw [kF,aoy,hB]
 have hKD:∀ n i b k,(kD B m f w n i b k).length=m+5:=fun n i b k=>by rw [kD,aoy,hB]
 have hEK:∀ n,Ext A (kF B m f w n):=fun n=>(hE n).trans (by have:=bh3 (B n) f [Iz 0,Iz 0,Iz 0] false w (lpR m) [];rwa [oz] at this)
 have hw:jm (kF B m f w 0) (m+3) 0=some [.ref w 0 0]:=by
  have:=fC_w (B 0) f [Iz 0,Iz 0,Iz 0] false w (lpR m) []
  rwa [oz,hm] at this
 have hfc:=ate hf;have hcd:=bai hT base
 have hb1:base≤m+1:=by omega
 have hb2:base≤m+2:=by omega
 have e0:B 0 ++ [.cells 0 [f]] ++ [.cells 0 [Iz 0,Iz 0,Iz 0]] ++ [.cells 0 [.s (.bool false)]] ++ [.cells 0 [.ref w 0 0]] ++ [lpR m]=kF B m f w 0:=rfl
 rcases a5e (CT:=CT) hT.code1 base hK hKD hEK (show base≤m+5 by omega) hc hw (y:=.yld (m+4)) (Gf:=Gf) (fun i f1 hi b x hx k z r hz hr=>a9p base m hB hbm hf hr (hp i f1 hi b x hx k z r hz hr)) with ⟨z1,G,z2⟩ | ⟨⟨i,b,k⟩,z1,n,G,z2⟩
 ·obtain ⟨G1,t1⟩:=y9 (C:=gC (B (cF fs)) f [Iz 0,Iz 0,Iz 0] false w) (m:=m+4) (by rw [bbc,hB];omega) (frF m) (.dead :: G)
  have hmn:=hB (cF fs);have hl:=azq (B (cF fs)) f [Iz 0,Iz 0,Iz 0] false w (lpR m) G;have hd:=bbe (B (cF fs)) f [Iz 0,Iz 0,Iz 0] false w (lpR m) .dead G;have p1:=gC_p (B (cF fs)) f [Iz 0,Iz 0,Iz 0] false w G1;have p2:=gC_sp (B (cF fs)) f [Iz 0,Iz 0,Iz 0] [Iz 0,Iz 0,Iz 0] false w G1;have p3:=gC_q (B (cF fs)) f [Iz 0,Iz 0,Iz 0] false w G1;have p4:=gC_sq (B (cF fs)) f [Iz 0,Iz 0,Iz 0] false false w G1;rw [hmn] at hl hd p1 p2 p3 p4;rw [← hd] at t1;have hrn:=fun fr v=>a7f (L:=m+4) (fr:=fr) (v:=v) hl;obtain ⟨G2,hG2⟩:=bbd (B (cF fs)) f [Iz 0,Iz 0,Iz 0] false w G1
  refine ⟨cF fs,G2,gp (c:=aes) (k:=2) hT.find rfl (by decide) ajl ?_⟩
  rw [z1,← hG2];simp only [kF,fC,lpR] at z2 hrn t1 hl;simp only [Iz,bl] at z2 hrn t1 p1 p2 p3 p4;simp only [Iz,aes,atu,aa,simprocAttr,hm,hfc,hf,hcd,eu,z2,hrn,t1,p1,p2,p3,p4,hb1,hb2]
  have xR:aac (gC (B (cF fs)) f [Iz 0,Iz 0,Iz 0] false w ++ G1) true 3 (.ref (m+1) 0 0)=some (.agg [Iz 0,Iz 0,Iz 0]):=by
   show tu _ true 3 _=_;rw [r9,p1];rfl
  have xQ:aac (gC (B (cF fs)) f [Iz 0,Iz 0,Iz 0] false w ++ G1) false 1 (.ref (m+2) 0 0)=some (bl false):=by
   show tu _ false 1 _=_;exact yj p3
  simp only [Iz,bl] at xR xQ;rw [xR,xQ];rfl
 ·obtain ⟨G1,t1⟩:=y9 (C:=gC (B (n+1)) f [Iz i,Iz b,Iz k] true w) (m:=m+4) (by rw [bbc,hB];omega) (frF m) (.dead :: G)
  have hmn:=hB (n+1);have hl:=azq (B (n+1)) f [Iz i,Iz b,Iz k] true w (lpD m) G;have hd:=bbe (B (n+1)) f [Iz i,Iz b,Iz k] true w (lpD m) .dead G;have p1:=gC_p (B (n+1)) f [Iz i,Iz b,Iz k] true w G1;have p3:=gC_q (B (n+1)) f [Iz i,Iz b,Iz k] true w G1;rw [hmn] at hl hd p1 p3;rw [← hd] at t1;have hrn:=fun fr v=>a1j (L:=m+4) (fr:=fr) (v:=v) (e:=.ret) hl;obtain ⟨G2,hG2⟩:=bbd (B (n+1)) f [Iz i,Iz b,Iz k] true w G1
  refine ⟨n+1,G2,gp (c:=aes) (k:=2) hT.find rfl (by decide) ajl ?_⟩
  rw [z1,← hG2];simp only [kF,kD,fC,lpR,lpD] at z2 hrn t1 hl;simp only [Iz,bl] at z2 hrn t1 p1 p3;simp only [Iz,aes,atu,aa,simprocAttr,hm,hfc,hf,hcd,eu,z2,hrn,t1,hb1,hb2]
  have xR:aac (gC (B (n+1)) f [Iz i,Iz b,Iz k] true w ++ G1) true 3 (.ref (m+1) 0 0)=some (.agg [Iz i,Iz b,Iz k]):=by
   show tu _ true 3 _=_;rw [r9,p1];rfl
  have xQ:aac (gC (B (n+1)) f [Iz i,Iz b,Iz k] true w ++ G1) false 1 (.ref (m+2) 0 0)=some (bl true):=by
   show tu _ false 1 _=_;exact yj p3
  simp only [Iz,bl] at xR xQ;rw [xR,xQ];rfl
end
def eqB (a b:ByteArray):Bool:=a.data.toList == b.data.toList
section
variable {CT:Nat→Option CFun}
theorem a4e (hT:FindT CT) (base:Nat) {A:Heap} (hb:base≤A.length) {w sm:Nat} {fv:V} {fs:List FunD} (hc:NC A w sm fv fs) {f:V} (hf:f.one=true) {g:Nat→Nat→Nat→InsD→Bool}
 (hp:∀ (i:Nat) (f1:FunD),fs[i]?=some f1→∀ (b:Nat) (x:BlkD),f1.blocks[b]?=some x→∀ (k:Nat) (z:InsD) (r:List V),x.code[k]?=some z→p9 A r z→∀ D,Ext A D→∃ D',dn CT f [.agg [Iz i,Iz b,Iz k],.agg r] base D=some (bl (g i b k z),D')∧Ext D D'):
 ∃ H',dn CT (.fn a2w [] []) [.ref w 0 0,f] base A=some (axd (aj2 (fun _=>g) fs),H')∧Ext A H':=by
 obtain ⟨n,G,h1⟩:=a9q hT base hb hc hf (B:=fun _=>A) (m:=A.length) (fun _=>rfl) (fun _=>Ext.refl A) (Gf:=fun _=>g) (fun i f1 hi b x hx k z r hz hr G=>by
  obtain ⟨D',d1,G',rfl⟩:=hp i f1 hi b x hx k z r hz hr (A ++ G) ⟨G,rfl⟩;exact ⟨G',d1⟩)
 exact ⟨A ++ G,h1,G,rfl⟩
end
section
variable {CT:Nat→Option CFun}
end
def bi1 (x:InsD):Bool:=!(ae2 shT x.op).isSome || !(shp x.op).d && !x.d.data.toList == [] || !(shp x.op).a && !x.a.data.toList == [] || !(shp x.op).b && !x.b.data.toList == [] || !(shp x.op).k && x.k != 0 || !(shp x.op).f && !x.f.data.toList == [] || !(shp x.op).xs && decide ((x.xs.length:Int) > 0) || !(shp x.op).ls && decide ((x.ls.length:Int) > 0)
def bi2 (x:InsD):Bool:=(shp x.op).d && x.d.data.toList == [] && !(x.op == 10 || x.op == 11) || (shp x.op).a && x.a.data.toList == [] && x.op != 14 || (shp x.op).b && x.b.data.toList == [] || (shp x.op).f && x.f.data.toList == []
def bi3 (x:InsD):Bool:=bif x.op == 1 || x.op == 2 then decide (x.k < 1) || decide (x.k > 64) else bif x.op == 7 then decide (x.k < 0) || decide (x.k ≥ 64) else bif x.op == 6 then (x.xs.length:Int) == 0 || (x.xs.length:Int) != (x.ls.length:Int) else bif x.op == 12 then (x.ls.length:Int) != 2 else bif x.op == 13 then (x.ls.length:Int) != 1 else false
def biG (x:InsD):Bool:=bi1 x || (bi2 x || bi3 x)
section
variable {CT:Nat→Option CFun}
theorem aqo (hCl:CT ast=some (.code aet)) (hT:CT ass=some (.code aec)) (base:Nat) {A:Heap} (hb:base≤A.length) {w w1 sm:Nat} {fv:V} {fs:List FunD} (hc:NC A w sm fv fs) (hw:jm A w1 0=some [.ref w 0 0]) {i b k:Nat} {r:List V} {x:InsD} (hr:p9 A r x) (D:Heap) (hD:Ext A D):
 ∃ D',dn CT (.fn ass [] [.ref w1 0 0]) [.agg [Iz i,Iz b,Iz k],.agg r] base D=some (bl (biG x),D')∧Ext D D':=by
 obtain ⟨av,lv,rfl,q1,q2,q3,q4,_⟩:=hr;have hav:=q1.one;have hlv:=q3.one
 have hbD:base≤D.length:=by have:=hD.le;omega
 obtain ⟨D1,hD1⟩:∃ D1,D ++ [Ob.cells 0 [Iz i,Iz b,Iz k]] ++ [Ob.cells 0 (jg x av lv)]=D1:=⟨_,rfl⟩;have e1:Ext D D1:=hD1 ▸ (Ext.app _ _).trans (Ext.app _ _);have hw1:=yj (cz hw (hD.trans e1))
 have hgg:jm D1 (D.length+1) 0=some (jg x av lv):=by
  have:=dh (D ++ [Ob.cells 0 [Iz i,Iz b,Iz k]]) 0 (jg x av lv)
  rwa [eu,hD1] at this
 have hgp:jm D1 D.length 0=some [Iz i,Iz b,Iz k]:=hD1 ▸ cz (dh D 0 [Iz i,Iz b,Iz k]) (Ext.app _ _);have hl1:=eu D (Ob.cells 0 [Iz i,Iz b,Iz k]);have hxl:=qf (q1.ext (hD.trans e1));have hll:=qf (q3.ext (hD.trans e1));have hW:=(hc.ext (hD.trans e1)).load (Ext.refl _);have hws:=(cz hc.gw (hD.trans e1))
 have hmp:tu D1 false 1 (.ref w 0 1)=some (.mp sm):=by rw [r9,hws];rfl
 have hmg:=a9f .u8 (Ext.at' (hD.trans e1) hc.sh) (.agg (ShD.c ⟨false,false,false,false,false,false,false⟩)) true x.op;rw [if_pos rfl,a08] at hmg
 have hl2:D1.length=D.length+2:=by rw [← hD1,eu,eu]
 have hbD1:base≤D.length+2:=by omega
 have hgg2:=cz hgg (Ext.app D1 [Ob.cells 0 (shp x.op).c]);have hgs:=dh D1 0 (shp x.op).c;have hss:∀ c d,(D1 ++ [c]).set D1.length d=D1 ++ [d]:=fun c d=>ny D1 c d;have hgz:∀ c,jm (D1 ++ [Ob.cells 0 c]) D1.length 0=some c:=fun c=>dh D1 0 c;rw [hl2] at hgs hss hgz;have e2:Ext D (D1 ++ [Ob.cells 0 (shp x.op).c]):=e1.trans (Ext.app _ _);have hxl2:=qf (q1.ext (hD.trans e2));have hll2:=qf (q3.ext (hD.trans e2));have hcal:=fun E=>a5j hCl base E x.op
 refine ⟨D1 ++ [Ob.cells 0 (shp x.op).c],gp (c:=aec) (k:=3) hT rfl (by decide) aru ?_,e2⟩
 simp only [jg,Iz,bl,ShD.c] at hgg hgg2 hgs hD1 hl1 hmg hcal hgz hss hxl2 hll2;unfold biG;cases hd:((shp x.op).d && x.d.data.toList == []) with
 | true=>
   simp only [jg,Iz,ShD.c,aec,bbh,aa,simprocAttr,hav,hlv,di,hl1,hD1,hl2,hgg,hgg2,hgs,hw1,hmp,hmg,hbD1,hss,hgz,hcal,hxl2,hll2,hd];cases e1:bi1 x with
   | true=>
     unfold bi1 at e1;simp only [e1,cond_true,iq]
   | false=>
     unfold bi1 at e1;simp only [e1,cond_false,d9];cases e2:bi2 x with
     | true=>
       unfold bi2 at e2;rw [hd] at e2;simp only [je,d9,ig] at e2;simp only [e2,cond_true,cond_false,iq,je,d9,ig]
     | false=>
       unfold bi2 at e2;rw [hd] at e2;simp only [je,d9,ig] at e2;simp only [e2,cond_true,cond_false,d9,je,ig];unfold bi3;cases o1:(x.op == 1) <;> cases o2:(x.op == 2) <;> cases o7:(x.op == 7) <;> cases o6:(x.op == 6) <;> cases o12:(x.op == 12) <;> cases o13:(x.op == 13) <;> simp only [cond_true,cond_false,iq,d9,bkq,mo]
 | false=>
   simp only [jg,Iz,ShD.c,aec,bbh,aa,simprocAttr,hav,hlv,di,hl1,hD1,hl2,hgg,hgg2,hgs,hw1,hmp,hmg,hbD1,hss,hgz,hcal,hxl2,hll2,hd];cases e1:bi1 x with
   | true=>
     unfold bi1 at e1;simp only [e1,cond_true,iq]
   | false=>
     unfold bi1 at e1;simp only [e1,cond_false,d9];cases e2:bi2 x with
     | true=>
       unfold bi2 at e2;rw [hd] at e2;simp only [je,d9,ig] at e2;simp only [e2,cond_true,cond_false,iq,je,d9,ig]
     | false=>
       unfold bi2 at e2;rw [hd] at e2;simp only [je,d9,ig] at e2;simp only [e2,cond_true,cond_false,d9,je,ig];unfold bi3;cases o1:(x.op == 1) <;> cases o2:(x.op == 2) <;> cases o7:(x.op == 7) <;> cases o6:(x.op == 6) <;> cases o12:(x.op == 12) <;> cases o13:(x.op == 13) <;> simp only [cond_true,cond_false,iq,d9,bkq,mo]
end
structure FormOk (x:InsD):Prop where
 op:x.op=1∨x.op=2∨x.op=3∨x.op=4∨x.op=5∨x.op=6∨x.op=7∨x.op=8∨x.op=9∨x.op=10∨x.op=11∨x.op=12∨x.op=13∨x.op=14
 k:x.op=1∨x.op=2∨x.op=7→0≤x.k∧x.k < 100
 phi:x.op=6→x.xs.length=x.ls.length
 br:x.op=12→x.ls.length=2
 go:x.op=13→x.ls.length=1
theorem a8f {r:Int} (h:(ae2 shT r).isSome=true):r=1∨r=2∨r=3∨r=4∨r=5∨r=6∨r=7∨r=8∨r=9∨r=10∨r=11∨r=12∨r=13∨r=14:=by
 refine bfo fun hn=>?_;simp only [not_or] at hn;obtain ⟨e1,e2,e3,e4,e5,e6,e7,e8,e9,e10,e11,e12,e13,e14⟩:=hn;simp only [ae2,shT,ah0,List.findIdx?_nil,e1,e2,e3,e4,e5,e6,e7,e8,e9,e10,e11,e12,e13,e14,decide_false,qd,if_false,aba,Option.isSome_none] at h
theorem asy {x:InsD} (h:biG x=false):FormOk x:=by
 unfold biG at h;rw [jq,jq] at h;obtain ⟨h1,_,h3⟩:=h
 have hop:(ae2 shT x.op).isSome=true:=by
  cases e:(ae2 shT x.op).isSome with
  | true=>rfl
  | false=>simp [bi1,e] at h1
 refine ⟨a8f hop,fun hk=>?_,fun hk=>?_,fun hk=>?_,fun hk=>?_⟩
 ·rcases hk with e | e | e <;> simp [bi3,e] at h3 <;> omega
 ·simp [bi3,hk] at h3;omega
 ·simp [bi3,hk] at h3;omega
 ·simp [bi3,hk] at h3;omega
def l8 (x:InsD):ByteArray:=
 if x.op=1 then ko [xh,itB x.k] else
 if x.op=2 then ko [xe,itB x.k] else
 if x.op=3 then ae8 else
 if x.op=4 then ko [ac4,x.f] else
 if x.op=5 then ko [ac2,x.a] else
 if x.op=6 then ko [a6i,aed x] else
 if x.op=7 then ko [aah,x.a,itB x.k] else
 if x.op=8 then ko [ac0,x.a] else
 if x.op=9 then ko [aaf,x.a ++ xz,x.b] else
 if x.op=10 then ko [ac3,x.f ++ ug x.xs] else
 if x.op=11 then ko [aag,x.a ++ ug x.xs] else
 if x.op=12 then ko [bBr,x.ls.getD 0 ⟨#[]⟩,x.ls.getD 1 ⟨#[]⟩] else
 if x.op=13 then ko [ac1,x.ls.getD 0 ⟨#[]⟩] else
 if x.op=14 then bcf x else
 ⟨#[]⟩
structure ForT (CT:Nat→Option CFun):Prop where
 W:WorT CT
 P:CT a8w=some (.code ajy)
 f1:CT ap7=some (.code aim)
 f2:CT bdl=some (.code anx)
 f3:CT bdk=some (.code anw)
 f4:CT bdj=some (.code anv)
 f5:CT bdi=some (.code anu)
 f6:CT bdh=some (.code ant)
 f7:CT bdg=some (.code anr)
 f8:CT bdf=some (.code anq)
 f9:CT bde=some (.code anp)
 f10:CT bdd=some (.code ano)
 f11:CT bdc=some (.code ann)
 f12:CT bdb=some (.code anm)
 f13:CT bda=some (.code anl)
 f14:CT bc9=some (.code ank)
 f15:CT bc8=some (.code anj)
section
variable {CT:Nat→Option CFun}
theorem a9n (h:ForT CT) (base:Nat) {A:Heap} (hb:base≤A.length) {av lv:V} {x:InsD} (hr:p9 A (jg x av lv) x) (hx:SmI x) (hf:FormOk x) {n:Nat} (hn:jm A n 0=some [.fn 52 [] []]):
 ∃ f H',ae2 (foT n) x.op=some f∧dn CT f [.agg (jg x av lv)] base A=some (Sb (l8 x),H')∧Ext A H':=by
 rcases hf.op with e | e | e | e | e | e | e | e | e | e | e | e | e | e
 ·have hk:=hf.k (by omega)
  obtain ⟨H',h1,h2⟩:=bic h.W h.f2 base hr hx hk.1 hk.2 hn h.f1
  refine ⟨_,H',by rw [e];rfl,?_,h2⟩
  rw [show l8 x=ko [xh,itB x.k] by simp [l8,e]]
  exact h1
 ·have hk:=hf.k (by omega)
  obtain ⟨H',h1,h2⟩:=bib h.W h.f3 base hr hx hk.1 hk.2 hn h.f1
  refine ⟨_,H',by rw [e];rfl,?_,h2⟩
  rw [show l8 x=ko [xe,itB x.k] by simp [l8,e]]
  exact h1
 ·obtain ⟨H',h1,h2⟩:=bia h.f4 base hr
  refine ⟨_,H',by rw [e];rfl,?_,h2⟩
  rw [show l8 x=ae8 by simp [l8,e]]
  exact h1
 ·obtain ⟨H',h1,h2⟩:=bh9 h.W h.f5 base hr hx
  refine ⟨_,H',by rw [e];rfl,?_,h2⟩
  rw [show l8 x=ko [ac4,x.f] by simp [l8,e]]
  exact h1
 ·obtain ⟨H',h1,h2⟩:=bh8 h.W h.f6 base hr hx
  refine ⟨_,H',by rw [e];rfl,?_,h2⟩
  rw [show l8 x=ko [ac2,x.a] by simp [l8,e]]
  exact h1
 ·obtain ⟨H',h1,h2⟩:=bh7 h.W h.P h.f7 base hb hr hx (hf.phi e)
  refine ⟨_,H',by rw [e];rfl,?_,h2⟩
  rw [show l8 x=ko [a6i,aed x] by simp [l8,e]]
  exact h1
 ·have hk:=hf.k (by omega)
  obtain ⟨H',h1,h2⟩:=bh6 h.W h.f8 base hr hx hk.1 hk.2 hn h.f1
  refine ⟨_,H',by rw [e];rfl,?_,h2⟩
  rw [show l8 x=ko [aah,x.a,itB x.k] by simp [l8,e]]
  exact h1
 ·obtain ⟨H',h1,h2⟩:=bh5 h.W h.f9 base hr hx
  refine ⟨_,H',by rw [e];rfl,?_,h2⟩
  rw [show l8 x=ko [ac0,x.a] by simp [l8,e]]
  exact h1
 ·obtain ⟨H',h1,h2⟩:=bec h.W h.f10 base hr hx
  refine ⟨_,H',by rw [e];rfl,?_,h2⟩
  rw [show l8 x=ko [aaf,x.a ++ xz,x.b] by simp [l8,e]]
  exact h1
 ·obtain ⟨H',h1,h2⟩:=beb h.W h.f11 base hr hx
  refine ⟨_,H',by rw [e];rfl,?_,h2⟩
  rw [show l8 x=ko [ac3,x.f ++ ug x.xs] by simp [l8,e]]
  exact h1
 ·obtain ⟨H',h1,h2⟩:=bea h.W h.f12 base hr hx
  refine ⟨_,H',by rw [e];rfl,?_,h2⟩
  rw [show l8 x=ko [aag,x.a ++ ug x.xs] by simp [l8,e]]
  exact h1
 ·obtain ⟨H',h1,h2⟩:=bd9 h.W h.f13 base hr hx (hf.br e)
  refine ⟨_,H',by rw [e];rfl,?_,h2⟩
  rw [show l8 x=ko [bBr,x.ls.getD 0 ⟨#[]⟩,x.ls.getD 1 ⟨#[]⟩] by simp [l8,e]]
  exact h1
 ·obtain ⟨H',h1,h2⟩:=bd8 h.W h.f14 base hr hx (hf.go e)
  refine ⟨_,H',by rw [e];rfl,?_,h2⟩
  rw [show l8 x=ko [ac1,x.ls.getD 0 ⟨#[]⟩] by simp [l8,e]]
  exact h1
 ·obtain ⟨H',h1,h2⟩:=bd7 h.W h.f15 base hr hx
  refine ⟨_,H',by rw [e];rfl,?_,h2⟩
  rw [show l8 x=bcf x by simp [l8,e]]
  exact h1
end
theorem Bld.ext {m b:Nat} {H H':Heap} {txt:List UInt8} (h:Bld m H b txt) (k:Ext H H'):Bld m H' b txt:=by
 obtain ⟨h1,⟨h2,h3⟩ | ⟨id,g,h2,h3,h4⟩⟩:=h
 ·exact ⟨h1,.inl ⟨h2,cz h3 k⟩⟩
 ·exact ⟨h1,.inr ⟨id,g,cz h2 k,by rw [k.get (ae.1 h3).1];exact h3,h4⟩⟩
theorem Wr.ext {m b:Nat} {A H H':Heap} (h:Wr m b H H') (hA:A.length=m) (k:Ext A H):Ext A H':=by
 refine ⟨H'.drop A.length,?_⟩;apply uw;intro i;by_cases hi:i < A.length
 ·rw [ag hi,h.2.1 i (by omega),k.get hi]
 ·rw [bg (by omega),jc]
  congr 1
  omega
theorem Bld.trim {m b:Nat} {H:Heap} {txt:List UInt8} (h:Bld m H b txt) {L:Nat} (hb:b < L) (fr:List V):Bld m (trim L fr H) b txt:=by
 unfold AM.trim;split
 ·rename_i hc;rw [dx] at hc;have hc2:=bi.1 hc.2
  have gt:∀ {c:List V},jm H b 0=some c→jm (H.take L) b 0=some c:=by
   intro c hg;unfold jm at hg ⊢;rw [dm hb];exact hg
  obtain ⟨h1,⟨h2,h3⟩ | ⟨id,g,h2,h3,h4⟩⟩:=h
  ·exact ⟨h1,.inl ⟨h2,gt h3⟩⟩
  ·refine ⟨h1,.inr ⟨id,g,gt h2,?_,h4⟩⟩;have hm:Ob.cells 0 [V.ref b 0 0,.sl id g 0 txt.length 1]∈H.take L:=ak (qw (gt h2));have hu:=hc2 _ hm;simp only [Ob.under,ql,vz,xn,dx,og,decide_eq_true_eq] at hu;rw [dm hu.2];exact h3
 ·exact h
def aad (x:InsD):ByteArray:=if x.d.size=0 then l8 x else ko [x.d,⟨#[61]⟩,l8 x]
def lnI (x:InsD):ByteArray:=adi [⟨#[32,32]⟩,aad x]
theorem a0i {M:Nat} {a b:ByteArray} (ha:a.size≤M) (hb:b.size≤M) (hM:M≤1048576):(ko [a,b]).size≤2 * (M+2):=(uk (xs:=[a,b]) (sep:=bSp) (by simp) (ac8 ha hb) hM (by decide)).2
theorem akv {M:Nat} {a b c:ByteArray} (ha:a.size≤M) (hb:b.size≤M) (hc:c.size≤M) (hM:M≤1048576):(ko [a,b,c]).size≤3 * (M+2):=(uk (xs:=[a,b,c]) (sep:=bSp) (by simp) (afg ha hb hc) hM (by decide)).2
theorem a6s (s p:List UInt8):(Lib.trimSuffix s p).length≤s.length:=by
 unfold Lib.trimSuffix;split
 ·rw [wy];omega
 ·exact af _
theorem aov {x:InsD} (hx:SmI x) (hf:FormOk x):(l8 x).size≤30006:=by
 have ha:=hx.a;have hb:=hx.b;have hff:=hx.f;have hd:=hx.d;have hz:=(adj hx.nx hx.xs).2;have hp:=amc hx;have n1:xz.size=1:=rfl
 have c1:(x.a ++ xz).size≤10000:=by rw [wm];omega
 have c2:(x.f ++ ug x.xs).size≤10000:=by rw [wm];omega
 have c3:(x.a ++ ug x.xs).size≤10000:=by rw [wm];omega
 have d0:=ae4 hx.ls 0;have d1:=ae4 hx.ls 1
 have L:∀ a b:ByteArray,a.size≤10000→b.size≤10000→(ko [a,b]).size≤30006:=fun a b h1 h2=>ma (a0i h1 h2 (by omega)) (by omega)
 have L3:∀ a b c:ByteArray,a.size≤10000→b.size≤10000→c.size≤10000→(ko [a,b,c]).size≤30006:=fun a b c h1 h2 h3=>ma (akv h1 h2 h3 (by omega)) (by omega)
 rcases hf.op with e | e | e | e | e | e | e | e | e | e | e | e | e | e
 ·have hk:=hf.k (by omega)
  have:=afm hk.1 hk.2
  rw [show l8 x=ko [xh,itB x.k] by simp [l8,e]]
  exact L _ _ (by decide) (by omega)
 ·have hk:=hf.k (by omega)
  have:=afm hk.1 hk.2
  rw [show l8 x=ko [xe,itB x.k] by simp [l8,e]]
  exact L _ _ (by decide) (by omega)
 ·rw [show l8 x=ae8 by simp [l8,e]]
  decide
 ·rw [show l8 x=ko [ac4,x.f] by simp [l8,e]]
  exact L _ _ (by decide) (by omega)
 ·rw [show l8 x=ko [ac2,x.a] by simp [l8,e]]
  exact L _ _ (by decide) (by omega)
 ·rw [show l8 x=ko [a6i,aed x] by simp [l8,e]]
  exact L _ _ (by decide) (by omega)
 ·have hk:=hf.k (by omega)
  have:=afm hk.1 hk.2
  rw [show l8 x=ko [aah,x.a,itB x.k] by simp [l8,e]]
  exact L3 _ _ _ (by decide) (by omega) (by omega)
 ·rw [show l8 x=ko [ac0,x.a] by simp [l8,e]]
  exact L _ _ (by decide) (by omega)
 ·rw [show l8 x=ko [aaf,x.a ++ xz,x.b] by simp [l8,e]]
  exact L3 _ _ _ (by decide) c1 (by omega)
 ·rw [show l8 x=ko [ac3,x.f ++ ug x.xs] by simp [l8,e]]
  exact L _ _ (by decide) c2
 ·rw [show l8 x=ko [aag,x.a ++ ug x.xs] by simp [l8,e]]
  exact L _ _ (by decide) c3
 ·rw [show l8 x=ko [bBr,x.ls.getD 0 ⟨#[]⟩,x.ls.getD 1 ⟨#[]⟩] by simp [l8,e]]
  exact L3 _ _ _ (by decide) (by omega) (by omega)
 ·rw [show l8 x=ko [ac1,x.ls.getD 0 ⟨#[]⟩] by simp [l8,e]]
  exact L _ _ (by decide) (by omega)
 ·rw [show l8 x=bcf x by simp [l8,e]]
  have h1:=L az9 x.a (by decide) (by omega)
  exact ma (a6s _ _) h1
theorem aor {x:InsD} (hx:SmI x) (hf:FormOk x):(aad x).size≤90024:=by
 have h1:=aov hx hf;have hd:=hx.d;unfold aad;split
 ·omega
 ·exact akv (M:=30006) (by omega) (by decide) h1 (by omega)
structure PrT (CT:Nat→Option CFun):Prop where
 F:ForT CT
 W:CT a8y=some (.code ait)
 L:CT a8z=some (.code an2)
def aaw (l:List InsD):List UInt8:=l.flatMap fun x=>(lnI x).data.toList
theorem aje {l:List InsD} {i:Nat} {x:InsD} (h:l[i]?=some x):aaw (l.take (i+1))=aaw (l.take i) ++ (lnI x).data.toList:=by
 rw [ut,h];simp [aaw]
section
variable {CT:Nat→Option CFun}
theorem a5c (h:PrT CT) (base:Nat) {A0:Heap} (hb:base≤A0.length) {n fm:Nat} (hn:jm A0 n 0=some [.fn 52 [] []]) (hm:A0[fm]?=some (.map (esI .u8 (foT n)))) {cv:V} {code:List InsD} (hc:RdL 8 p9 A0 cv code) {L:Nat} (hL:A0.length < L) {v35 v53:V} {n36 n37 n54 n55:Int} {k:Nat} {x:InsD} (hk:code[k]?=some x) (hx:SmI x) (hf:FormOk x) {txt:List UInt8} {C:Heap} (hE:Ext A0 C) (hB:Bld A0.length C A0.length txt) (hl:txt.length+(lnI x).size≤2 ^ 47) (hk2:k < 2 ^ 62):
 ∃ C',itW (evC (dn CT) itW base adt) [] L (iw 98 [(8,.mp fm),(9,.ref A0.length 0 0),(10,.fn 18 [] [.ref A0.length 0 0]),(35,v35),(36,Iz n36),(37,Iz n37),(53,v53),(54,Iz n54),(55,Iz n55),(65,cv),(66,Iz code.length),(67,Iz k)]) C=itW (evC (dn CT) itW base adt) [] L (iw 98 [(8,.mp fm),(9,.ref A0.length 0 0),(10,.fn 18 [] [.ref A0.length 0 0]),(35,v35),(36,Iz n36),(37,Iz n37),(53,v53),(54,Iz n54),(55,Iz n55),(65,cv),(66,Iz code.length),(67,Iz ((k+1:Nat):Int))]) C'∧Ext A0 C'∧Bld A0.length C' A0.length (txt ++ (lnI x).data.toList):=by
 have hkl:=(ae.1 hk).1;obtain ⟨a,r,i0,hr,l0,_⟩:=hc.at2 hk;obtain ⟨av,lv,rfl,q1,q2,q3,q4,q5⟩:=hr;have hav:=q1.one;have hlv:=q3.one;have hl0:=l0 C hE;obtain ⟨C1,hC1⟩:∃ C1,C ++ [Ob.cells 0 (jg x av lv)]=C1:=⟨_,rfl⟩;have e1:Ext C C1:=hC1 ▸ Ext.app _ _;have E1:=hE.trans e1;have hgg:jm C1 C.length 0=some (jg x av lv):=hC1 ▸ dh C 0 _
 obtain ⟨f,C2,hlk,hcf,e2⟩:=a9n h.F base (A:=C1) (by have:=E1.le;omega) (p9.ext ⟨av,lv,rfl,q1,q2,q3,q4,q5⟩ E1) hx hf (cz hn E1)
 have hmg:=a9f .u8 (Ext.at' E1 hm) (.s .nilFunc) false x.op;rw [if_neg aa8,hlk,anb] at hmg;have hss:∀ c d,(C ++ [c]).set C.length d=C ++ [d]:=fun c d=>ny C c d;have hgz:∀ c,jm (C ++ [Ob.cells 0 c]) C.length 0=some c:=fun c=>dh C 0 c
 have hlt:decide ((k:Int) < (code.length:Int))=true:=by simpa using hkl
 have hgg2:=cz hgg e2;have zf:=aov hx hf;have zx:=aor hx hf;have hd200:=hx.d
 have hbC:∀ H',Ext C H'→base≤H'.length:=fun H' e=>by have:=(hE.trans e).le;omega
 have hbC0:base≤C.length:=hbC C (Ext.refl C)
 have hln:∀ t:ByteArray,t=aad x→∀ D,Ext C2 D→∃ C',dn CT (.fn a8z [] [.ref A0.length 0 0]) [.sl D.length 0 0 2 1] base (D ++ [.cells 0 [Sb ⟨#[32,32]⟩,Sb t]])=some (.tup [],C')∧Bld A0.length C' A0.length (txt ++ (lnI x).data.toList)∧Ext A0 C':=by
  rintro t rfl D eD;have eB:Ext C (D ++ [.cells 0 [Sb ⟨#[32,32]⟩,Sb (aad x)]]):=(e1.trans e2).trans (eD.trans (Ext.app _ _))
  have hj:=uk (xs:=[⟨#[32,32]⟩,aad x]) (sep:=⟨#[]⟩) (by simp) (ac8 (M:=90024) (by decide) zx) (by omega) (by decide)
  obtain ⟨C',w1,w2,w3⟩:=akn h.F.W.L h.W h.L hb (hB.ext eB) (uj D [⟨#[32,32]⟩,aad x]) hj.1 hl;exact ⟨C',w1,w2,w3.ext rfl (hE.trans eB)⟩
 cases hd:(x.d.data.toList == []) with
 | true=>
   have hd0:x.d.size=0:=by
    have:x.d.data.toList=[]:=by simpa using hd
    have h2:x.d.data.toList.length=0:=by rw [this];rfl
    exact h2
   obtain ⟨C',w1,w2,w3⟩:=hln (l8 x) (by unfold aad;rw [if_pos hd0]) C2 (Ext.refl _)
   refine ⟨trim L (iw 98 [(8,.mp fm),(9,.ref A0.length 0 0),(10,.fn 18 [] [.ref A0.length 0 0]),(35,v35),(36,Iz n36),(37,Iz n37),(53,v53),(54,Iz n54),(55,Iz n55),(65,cv),(66,Iz code.length),(67,Iz ((k+1:Nat):Int))]) C',?_,w3.trim (by omega) _,w2.trim hL _⟩
   rw [dw];simp only [jg,Iz] at hgg hgg2 hcf hmg hss hgz w1 hl0 hC1 i0;simp only [jg,Iz,ads,afb,aa,simprocAttr,hlt,cond_true,hbC0,if_true,i0,hl0,hav,hlv,di,hss,hgz,hC1,hgg,hmg,hcf,hgg2,hd,l7,cond_false,w1,w64 hk2]
   try rfl
 | false=>
   have hd0:x.d.size≠0:=by
    intro e;have:x.d.data.toList=[]:=jr e;rw [this] at hd;cases hd
   have hj3:=uk (xs:=[x.d,⟨#[61]⟩,l8 x]) (sep:=bSp) (by simp) (afg (M:=30006) (by omega) (by decide) zf) (by omega) (by decide)
   have hw3:=uy h.F.W.L h.F.W.W base (uj C2 [x.d,⟨#[61]⟩,l8 x]) hj3.1;have l3:=eu C2 (Ob.cells 0 ([x.d,⟨#[61]⟩,l8 x].map Sb));have hgg3:=cz hgg2 (Ext.app C2 [Ob.cells 0 ([x.d,⟨#[61]⟩,l8 x].map Sb)])
   obtain ⟨C',w1,w2,w3⟩:=hln (ko [x.d,⟨#[61]⟩,l8 x]) (by unfold aad;rw [if_neg hd0]) (C2 ++ [Ob.cells 0 ([x.d,⟨#[61]⟩,l8 x].map Sb)]) (Ext.app _ _)
   refine ⟨trim L (iw 98 [(8,.mp fm),(9,.ref A0.length 0 0),(10,.fn 18 [] [.ref A0.length 0 0]),(35,v35),(36,Iz n36),(37,Iz n37),(53,v53),(54,Iz n54),(55,Iz n55),(65,cv),(66,Iz code.length),(67,Iz ((k+1:Nat):Int))]) C',?_,w3.trim (by omega) _,w2.trim hL _⟩
   rw [dw];rw [l3] at w1;simp only [jg,Iz,jv,lh,fq,gy] at hgg hgg2 hgg3 hcf hmg hss hgz w1 hl0 hC1 i0 hw3 l3;simp only [jg,Iz,ads,afb,aa,simprocAttr,hlt,cond_true,hbC0,if_true,i0,hl0,hav,hlv,di,hss,hgz,hC1,hgg,hmg,hcf,hgg2,hd,kv,hw3,hgg3,l3,w1,w64 hk2]
   try rfl
theorem ax1 {l:List InsD} (i:Nat):(aaw (l.take i)).length≤(aaw l).length:=by
 have:aaw l=aaw (l.take i) ++ aaw (l.drop i):=by
  unfold aaw;rw [← atz,abd]
 rw [this,az];omega
theorem a5d (h:PrT CT) (base:Nat) {A0:Heap} (hb:base≤A0.length) {n fm:Nat} (hn:jm A0 n 0=some [.fn 52 [] []]) (hm:A0[fm]?=some (.map (esI .u8 (foT n)))) {cv:V} {code:List InsD} (hc:RdL 8 p9 A0 cv code) (hs:∀ x∈code,SmI x∧FormOk x) (hcl:code.length < 2 ^ 62) {L:Nat} (hL:A0.length < L) {v35 v53:V} {n36 n37 n54 n55:Int} {txt:List UInt8} {C:Heap} (hE:Ext A0 C) (hB:Bld A0.length C A0.length txt) (hl:txt.length+(aaw code).length≤2 ^ 47):
 ∃ C',itW (evC (dn CT) itW base adt) [] L (iw 98 [(8,.mp fm),(9,.ref A0.length 0 0),(10,.fn 18 [] [.ref A0.length 0 0]),(35,v35),(36,Iz n36),(37,Iz n37),(53,v53),(54,Iz n54),(55,Iz n55),(65,cv),(66,Iz code.length),(67,Iz ((0:Nat):Int))]) C=itW (evC (dn CT) itW base adt) [] L (iw 98 [(8,.mp fm),(9,.ref A0.length 0 0),(10,.fn 18 [] [.ref A0.length 0 0]),(35,v35),(36,Iz n36),(37,Iz n37),(53,v53),(54,Iz n54),(55,Iz n55),(65,cv),(66,Iz code.length),(67,Iz code.length)]) C'∧Ext A0 C'∧Bld A0.length C' A0.length (txt ++ aaw code):=by
 obtain ⟨C',e1,e2,e3⟩:=aco code.length (fun k C=>Ext A0 C∧Bld A0.length C A0.length (txt ++ aaw (code.take k))) (fun k C=>itW (evC (dn CT) itW base adt) [] L (iw 98 [(8,.mp fm),(9,.ref A0.length 0 0),(10,.fn 18 [] [.ref A0.length 0 0]),(35,v35),(36,Iz n36),(37,Iz n37),(53,v53),(54,Iz n54),(55,Iz n55),(65,cv),(66,Iz code.length),(67,Iz (k:Int))]) C) (by
  rintro k C hk ⟨hE,hB⟩;have hx:=ah hk;have hsx:=hs _ (oq hk);have hle:(aaw (code.take (k+1))).length≤(aaw code).length:=ax1 _;rw [aje hx,az] at hle;have hz:(lnI code[k]).data.toList.length=(lnI code[k]).size:=rfl
  obtain ⟨C',q1,q2,q3⟩:=a5c h base hb hn hm hc hL (v35:=v35) (v53:=v53) (n36:=n36) (n37:=n37) (n54:=n54) (n55:=n55) hx hsx.1 hsx.2 hE hB (by rw [az];omega) (by omega)
  exact ⟨C',q1,q2,by rw [aje hx,← jh];exact q3⟩) 0 C (gq _) ⟨hE,by simpa [aaw] using hB⟩
 rw [ky] at e3;exact ⟨C',e1,e2,e3⟩
end
def lnB (b:BlkD):ByteArray:=adi [b.label,⟨#[58]⟩]
def a6h (b:BlkD):List UInt8:=(lnB b).data.toList ++ aaw b.code
theorem Bld.lt {m b:Nat} {H:Heap} {txt:List UInt8} (h:Bld m H b txt):b < H.length:=by
 obtain ⟨_,⟨_,h3⟩ | ⟨id,g,h2,_⟩⟩:=h
 ·exact acb h3
 ·exact acb h2
structure SmB (b:BlkD):Prop where
 l:b.label.size≤200
 x:∀ x∈b.code,SmI x∧FormOk x
 n:b.code.length < 2 ^ 62
section
variable {CT:Nat→Option CFun}
theorem bap (h:PrT CT) (base:Nat) {A0:Heap} (hb:base≤A0.length) {n fm:Nat} (hn:jm A0 n 0=some [.fn 52 [] []]) (hm:A0[fm]?=some (.map (esI .u8 (foT n)))) {bv:V} {bs:List BlkD} (hc:RdL 2 aay A0 bv bs) {L:Nat} (hL:A0.length < L) {v35:V} {n36 n37:Int} {k:Nat} {x:BlkD} (hk:bs[k]?=some x) (hx:SmB x) {txt:List UInt8} {C:Heap} (hE:Ext A0 C) (hB:Bld A0.length C A0.length txt) (hl:txt.length+(a6h x).length≤2 ^ 47) (hk2:k < 2 ^ 62):
 ∃ C',itW (evC (dn CT) itW base adr) [] L (iw 98 [(8,.mp fm),(9,.ref A0.length 0 0),(10,.fn 18 [] [.ref A0.length 0 0]),(35,v35),(36,Iz n36),(37,Iz n37),(53,bv),(54,Iz bs.length),(55,Iz k)]) C=itW (evC (dn CT) itW base adr) [] L (iw 98 [(8,.mp fm),(9,.ref A0.length 0 0),(10,.fn 18 [] [.ref A0.length 0 0]),(35,v35),(36,Iz n36),(37,Iz n37),(53,bv),(54,Iz bs.length),(55,Iz ((k+1:Nat):Int))]) C'∧Ext A0 C'∧Bld A0.length C' A0.length (txt ++ a6h x):=by
 have hkl:=(ae.1 hk).1;obtain ⟨a,r,i0,hr,l0,_⟩:=hc.at2 hk;obtain ⟨cv,rfl,hcode⟩:=hr;have hcv:=hcode.one;have hl0:=l0 C hE;obtain ⟨C1,hC1⟩:∃ C1,C ++ [Ob.cells 0 [Sb x.label,cv]]=C1:=⟨_,rfl⟩;have e1:Ext C C1:=hC1 ▸ Ext.app _ _;have E1:=hE.trans e1;have hgg:jm C1 C.length 0=some [Sb x.label,cv]:=hC1 ▸ dh C 0 _
 have hl1:C1.length=C.length+1:=by rw [← hC1,eu]
 have hss:∀ c d,(C ++ [c]).set C.length d=C ++ [d]:=fun c d=>ny C c d;have hgz:∀ c,jm (C ++ [Ob.cells 0 c]) C.length 0=some c:=fun c=>dh C 0 c
 have hlt:decide ((k:Int) < (bs.length:Int))=true:=by simpa using hkl
 have hbC0:base≤C.length:=by have:=hE.le;omega
 have hla:=hx.l
 have hz1:(a6h x).length=(lnB x).size+(aaw x.code).length:=by unfold a6h;rw [az];rfl
 have hj:=uk (xs:=[x.label,⟨#[58]⟩]) (sep:=⟨#[]⟩) (by simp) (ac8 (M:=200) hla (by decide)) (by omega) (by decide)
 have eB:Ext C (C1 ++ [.cells 0 [Sb x.label,Sb ⟨#[58]⟩]]):=e1.trans (Ext.app _ _)
 obtain ⟨C2,w1,w2,w3⟩:=akn h.F.W.L h.W h.L hb (hB.ext eB) (uj C1 [x.label,⟨#[58]⟩]) hj.1 (by have:(adi [x.label,⟨#[58]⟩]).size=(lnB x).size:=rfl;omega)
 have E2:=w3.ext rfl (hE.trans eB);have hggL:=acp hgg (G:=[Ob.cells 0 [Sb x.label,Sb ⟨#[58]⟩]])
 have hgg2:jm C2 C.length 0=some [Sb x.label,cv]:=by
  have hgo:=qw hggL
  have:C2[C.length]?=some (.cells 0 [Sb x.label,cv]):=by
   rw [w3.2.2 C.length (by have:=hB.lt;omega) (by have:=eB.le;have:=(ae.1 hgo).1;exact this) (fun g l e=>by rw [hgo] at e;cases e)]
   exact hgo
  unfold jm;rw [this];rfl
 obtain ⟨C3,g1,g2,g3⟩:=a5d h base hb hn hm hcode hx.x hx.n (L:=C2.length) w2.lt (v35:=v35) (v53:=bv) (n36:=n36) (n37:=n37) (n54:=bs.length) (n55:=k) E2 w2 (by rw [az];have:(adi [x.label,⟨#[58]⟩]).data.toList.length=(lnB x).size:=rfl;omega)
 have hll:=RdL.len (RdL.ext (P:=p9) p9.ext hcode E2)
 have hge:decide ((x.code.length:Int) < (x.code.length:Int))=false:=by simp
 refine ⟨trim L (iw 98 [(8,.mp fm),(9,.ref A0.length 0 0),(10,.fn 18 [] [.ref A0.length 0 0]),(35,v35),(36,Iz n36),(37,Iz n37),(53,bv),(54,Iz bs.length),(55,Iz ((k+1:Nat):Int))]) (trim C2.length (iw 98 [(8,.mp fm),(9,.ref A0.length 0 0),(10,.fn 18 [] [.ref A0.length 0 0]),(35,v35),(36,Iz n36),(37,Iz n37),(53,bv),(54,Iz bs.length),(55,Iz k),(65,cv),(66,Iz x.code.length),(67,Iz x.code.length),(68,.s (.bool false))]) C3),?_,?_,?_⟩
 ·rw [dw];simp only [Iz,jv,lh,fq,gy] at hgg hgg2 hss hgz w1 hl0 hC1 i0 hll g1 hl1;rw [hl1] at w1;rw [show (((0:Nat):Int))=0 from rfl] at g1;simp only [Iz,adq,afb,aa,simprocAttr,hlt,cond_true,hbC0,if_true,i0,hl0,hcv,di,hss,hgz,hC1,hgg,hl1,w1,hgg2,hll,g1];rw [dw];simp only [Iz,ads,adq,afb,aa,simprocAttr,hge,cond_false,w64 hk2]
 ·exact (g2.trim (by have:=w2.lt;omega) _).trim (by omega) _
 ·have:txt ++ a6h x=txt ++ (lnB x).data.toList ++ aaw x.code:=by unfold a6h;rw [jh]
  rw [this];exact (g3.trim w2.lt _).trim hL _
def aaq (l:List BlkD):List UInt8:=l.flatMap a6h
theorem ajg {l:List BlkD} {i:Nat} {x:BlkD} (h:l[i]?=some x):aaq (l.take (i+1))=aaq (l.take i) ++ a6h x:=by
 rw [ut,h];simp [aaq]
theorem ax3 {l:List BlkD} (i:Nat):(aaq (l.take i)).length≤(aaq l).length:=by
 have:aaq l=aaq (l.take i) ++ aaq (l.drop i):=by
  unfold aaq;rw [← atz,abd]
 rw [this,az];omega
theorem bas (h:PrT CT) (base:Nat) {A0:Heap} (hb:base≤A0.length) {n fm:Nat} (hn:jm A0 n 0=some [.fn 52 [] []]) (hm:A0[fm]?=some (.map (esI .u8 (foT n)))) {bv:V} {bs:List BlkD} (hc:RdL 2 aay A0 bv bs) (hs:∀ x∈bs,SmB x) (hcl:bs.length < 2 ^ 62) {L:Nat} (hL:A0.length < L) {v35:V} {n36 n37:Int} {txt:List UInt8} {C:Heap} (hE:Ext A0 C) (hB:Bld A0.length C A0.length txt) (hl:txt.length+(aaq bs).length≤2 ^ 47):
 ∃ C',itW (evC (dn CT) itW base adr) [] L (iw 98 [(8,.mp fm),(9,.ref A0.length 0 0),(10,.fn 18 [] [.ref A0.length 0 0]),(35,v35),(36,Iz n36),(37,Iz n37),(53,bv),(54,Iz bs.length),(55,Iz ((0:Nat):Int))]) C=itW (evC (dn CT) itW base adr) [] L (iw 98 [(8,.mp fm),(9,.ref A0.length 0 0),(10,.fn 18 [] [.ref A0.length 0 0]),(35,v35),(36,Iz n36),(37,Iz n37),(53,bv),(54,Iz bs.length),(55,Iz bs.length)]) C'∧Ext A0 C'∧Bld A0.length C' A0.length (txt ++ aaq bs):=by
 obtain ⟨C',e1,e2,e3⟩:=aco bs.length (fun k C=>Ext A0 C∧Bld A0.length C A0.length (txt ++ aaq (bs.take k))) (fun k C=>itW (evC (dn CT) itW base adr) [] L (iw 98 [(8,.mp fm),(9,.ref A0.length 0 0),(10,.fn 18 [] [.ref A0.length 0 0]),(35,v35),(36,Iz n36),(37,Iz n37),(53,bv),(54,Iz bs.length),(55,Iz (k:Int))]) C) (by
  rintro k C hk ⟨hE,hB⟩;have hx:=ah hk;have hsx:=hs _ (oq hk);have hle:(aaq (bs.take (k+1))).length≤(aaq bs).length:=ax3 _;rw [ajg hx,az] at hle
  obtain ⟨C',q1,q2,q3⟩:=bap h base hb hn hm hc hL (v35:=v35) (n36:=n36) (n37:=n37) hx hsx hE hB (by rw [az];omega) (by omega)
  exact ⟨C',q1,q2,by rw [ajg hx,← jh];exact q3⟩) 0 C (gq _) ⟨hE,by simpa [aaq] using hB⟩
 rw [ky] at e3;exact ⟨C',e1,e2,e3⟩
end
def az6:ByteArray:=⟨#[102,117,110,99]⟩
def amn (f:FunD):ByteArray:=ko [az6,f.name ++ ug f.ps,⟨#[123]⟩]
def lnF (f:FunD):ByteArray:=adi [amn f]
def lnE:ByteArray:=adi [⟨#[125]⟩]
def a3x (f:FunD):List UInt8:=(lnF f).data.toList ++ aaq f.blocks ++ lnE.data.toList
structure SmF (f:FunD):Prop where
 n:f.name.size≤200
 np:f.ps.length≤20
 ps:∀ s∈f.ps,s.size≤200
 b:∀ b∈f.blocks,SmB b
 nb:f.blocks.length < 2 ^ 62
theorem head_size {f:FunD} (h:SmF f):(f.name ++ ug f.ps).size≤10000∧(amn f).size≤30006:=by
 have hz:=(adj h.np h.ps).2;have hn:=h.n
 have c1:(f.name ++ ug f.ps).size≤10000:=by rw [wm];omega
 exact ⟨c1,akv (M:=10000) (by decide) c1 (by decide) (by omega)⟩
theorem ba4 {M:Nat} {a:ByteArray} (ha:a.size≤M):∀ x∈[a],x.size≤M:=by
 intro x hx;simp only [qc,aav,or_false] at hx;subst hx;exact ha
section
variable {CT:Nat→Option CFun}
theorem a9i (h:PrT CT) (base:Nat) {A0:Heap} (hb:base≤A0.length) {n fm:Nat} (hn:jm A0 n 0=some [.fn 52 [] []]) (hm:A0[fm]?=some (.map (esI .u8 (foT n)))) {fv:V} {fs:List FunD} (hc:sj A0 fv fs) {L:Nat} (hL:A0.length < L) {k:Nat} {x:FunD} (hk:fs[k]?=some x) (hx:SmF x) {txt:List UInt8} {C:Heap} (hE:Ext A0 C) (hB:Bld A0.length C A0.length txt) (hl:txt.length+(a3x x).length≤2 ^ 47) (hk2:k < 2 ^ 62):
 ∃ C',itW (evC (dn CT) itW base adp) [] L (iw 98 [(8,.mp fm),(9,.ref A0.length 0 0),(10,.fn 18 [] [.ref A0.length 0 0]),(35,fv),(36,Iz fs.length),(37,Iz k)]) C=itW (evC (dn CT) itW base adp) [] L (iw 98 [(8,.mp fm),(9,.ref A0.length 0 0),(10,.fn 18 [] [.ref A0.length 0 0]),(35,fv),(36,Iz fs.length),(37,Iz ((k+1:Nat):Int))]) C'∧Ext A0 C'∧Bld A0.length C' A0.length (txt ++ a3x x):=by
 have hkl:=(ae.1 hk).1;obtain ⟨a,r,i0,hr,l0,_⟩:=hc.at2 hk;obtain ⟨pv,bv,rfl,hp,hpw,_,hblk⟩:=hr;have hpv:=hp.one;have hbv:=hblk.one;have hl0:=l0 C hE;obtain ⟨C1,hC1⟩:∃ C1,C ++ [Ob.cells 0 [Sb x.name,pv,bv]]=C1:=⟨_,rfl⟩;have e1:Ext C C1:=hC1 ▸ Ext.app _ _;have E1:=hE.trans e1;have hgg:jm C1 C.length 0=some [Sb x.name,pv,bv]:=hC1 ▸ dh C 0 _
 have hl1:C1.length=C.length+1:=by rw [← hC1,eu]
 have hss:∀ c d,(C ++ [c]).set C.length d=C ++ [d]:=fun c d=>ny C c d;have hgz:∀ c,jm (C ++ [Ob.cells 0 c]) C.length 0=some c:=fun c=>dh C 0 c
 have hlt:decide ((k:Int) < (fs.length:Int))=true:=by simpa using hkl
 have hbC0:base≤C.length:=by have:=hE.le;omega
 have hla:=hx.n;obtain ⟨hz,hzh⟩:=head_size hx;have hja:=adj hx.np hx.ps;have hA:=aqp h.F.W.L h.F.W.A C1.length (apf (hp.ext E1) hpw) hja.1;rw [hl1] at hA
 have c1:x.name.size+(ug x.ps).size≤4611686018427387904:=by have:=hja.2;omega
 obtain ⟨C2,hC2⟩:∃ C2,C1 ++ [Ob.cells 0 [Sb az6,Sb (x.name ++ ug x.ps),Sb ⟨#[123]⟩]]=C2:=⟨_,rfl⟩;have e2:Ext C1 C2:=hC2 ▸ Ext.app _ _
 have hl2:C2.length=C.length+2:=by rw [← hC2,eu,hl1]
 have hj3:=uk (xs:=[az6,x.name ++ ug x.ps,⟨#[123]⟩]) (sep:=bSp) (by simp) (afg (M:=10000) (by decide) hz (by decide)) (by omega) (by decide)
 have hw3:=uy h.F.W.L h.F.W.W base (uj C1 [az6,x.name ++ ug x.ps,⟨#[123]⟩]) hj3.1
 have hj1:=uk (xs:=[amn x]) (sep:=⟨#[]⟩) (by simp) (ba4 (M:=30006) hzh) (by omega) (by decide)
 have eB:Ext C (C2 ++ [.cells 0 ([amn x].map Sb)]):=(e1.trans e2).trans (Ext.app _ _)
 have hfl:(a3x x).length=(lnF x).size+(aaq x.blocks).length+lnE.size:=by unfold a3x;rw [az,az];rfl
 obtain ⟨C4,w1,w2,w3⟩:=akn h.F.W.L h.W h.L hb (hB.ext eB) (uj C2 [amn x]) hj1.1 (by have:(adi [amn x]).size=(lnF x).size:=rfl;omega)
 have E4:=w3.ext rfl (hE.trans eB)
 have hgg4:jm C4 C.length 0=some [Sb x.name,pv,bv]:=by
  have hgo:=qw (cz hgg (e2.trans (Ext.app C2 [Ob.cells 0 ([amn x].map Sb)])))
  have:C4[C.length]?=some (.cells 0 [Sb x.name,pv,bv]):=by
   rw [w3.2.2 C.length (by have:=hB.lt;omega) (ae.1 hgo).1 (fun g l e=>by rw [hgo] at e;cases e)]
   exact hgo
  unfold jm;rw [this];rfl
 obtain ⟨C5,g1,g2,g3⟩:=bas h base hb hn hm hblk hx.b hx.nb (L:=C4.length) w2.lt (v35:=fv) (n36:=fs.length) (n37:=k) E4 w2 (by rw [az];have:(adi [amn x]).data.toList.length=(lnF x).size:=rfl;omega)
 have hll:=RdL.len (RdL.ext (P:=aay) aay.ext hblk E4)
 have hge:decide ((x.blocks.length:Int) < (x.blocks.length:Int))=false:=by simp
 obtain ⟨C6,hC6⟩:∃ C6,trim C4.length (iw 98 [(8,.mp fm),(9,.ref A0.length 0 0),(10,.fn 18 [] [.ref A0.length 0 0]),(35,fv),(36,Iz fs.length),(37,Iz k),(53,bv),(54,Iz x.blocks.length),(55,Iz x.blocks.length),(56,.s (.bool false))]) C5=C6:=⟨_,rfl⟩
 have E6:Ext A0 C6:=hC6 ▸ g2.trim (by have:=w2.lt;omega) _
 have B6:Bld A0.length C6 A0.length _:=hC6 ▸ g3.trim w2.lt _
 have hjE:=uk (xs:=[⟨#[125]⟩]) (sep:=⟨#[]⟩) (by simp) (ba4 (M:=200) (by decide)) (by omega) (by decide)
 obtain ⟨C7,y1,y2,y3⟩:=akn h.F.W.L h.W h.L hb (B6.ext (Ext.app C6 [.cells 0 ([⟨#[125]⟩].map Sb)])) (uj C6 [⟨#[125]⟩]) hjE.1 (by
  rw [az,az];have e1:(adi [amn x]).data.toList.length=(lnF x).size:=rfl;have e2:(adi [⟨#[125]⟩]).size=lnE.size:=rfl;omega)
 have E7:=y3.ext rfl (E6.trans (Ext.app _ _))
 refine ⟨trim L (iw 98 [(8,.mp fm),(9,.ref A0.length 0 0),(10,.fn 18 [] [.ref A0.length 0 0]),(35,fv),(36,Iz fs.length),(37,Iz ((k+1:Nat):Int))]) C7,?_,E7.trim (by omega) _,?_⟩
 ·rw [dw];simp only [Iz,jv,lh,fq,gy,az6,amn] at hgg hgg4 hss hgz w1 hl0 hC1 hC2 hC6 i0 hll g1 hl1 hl2 hw3 hA y1;rw [hl2] at w1;rw [hl1,hC2] at hw3;rw [show (((0:Nat):Int))=0 from rfl] at g1;simp only [Iz,ab8,afb,aa,simprocAttr,hlt,cond_true,hbC0,if_true,i0,hl0,hpv,hbv,di,hss,hgz,hC1,hgg,hl1,hA,yn c1,if_false,hC2,hw3,hl2,w1,hgg4,hll,g1];rw [dw];simp only [Iz,adq,ab8,afb,aa,simprocAttr,hge,cond_false,hC6,y1,w64 hk2]
  try rfl
 ·have:txt ++ a3x x=txt ++ (lnF x).data.toList ++ aaq x.blocks ++ lnE.data.toList:=by unfold a3x;simp only [jh]
  rw [this];exact y2.trim hL _
def uf (l:List FunD):List UInt8:=l.flatMap a3x
theorem ai5 {l:List FunD} {i:Nat} {x:FunD} (h:l[i]?=some x):uf (l.take (i+1))=uf (l.take i) ++ a3x x:=by
 rw [ut,h];simp [uf]
theorem axe {l:List FunD} (i:Nat):(uf (l.take i)).length≤(uf l).length:=by
 have:uf l=uf (l.take i) ++ uf (l.drop i):=by
  unfold uf;rw [← atz,abd]
 rw [this,az];omega
theorem a9j (h:PrT CT) (base:Nat) {A0:Heap} (hb:base≤A0.length) {n fm:Nat} (hn:jm A0 n 0=some [.fn 52 [] []]) (hm:A0[fm]?=some (.map (esI .u8 (foT n)))) {fv:V} {fs:List FunD} (hc:sj A0 fv fs) (hs:∀ x∈fs,SmF x) (hcl:fs.length < 2 ^ 62) {L:Nat} (hL:A0.length < L) {txt:List UInt8} {C:Heap} (hE:Ext A0 C) (hB:Bld A0.length C A0.length txt) (hl:txt.length+(uf fs).length≤2 ^ 47):
 ∃ C',itW (evC (dn CT) itW base adp) [] L (iw 98 [(8,.mp fm),(9,.ref A0.length 0 0),(10,.fn 18 [] [.ref A0.length 0 0]),(35,fv),(36,Iz fs.length),(37,Iz ((0:Nat):Int))]) C=itW (evC (dn CT) itW base adp) [] L (iw 98 [(8,.mp fm),(9,.ref A0.length 0 0),(10,.fn 18 [] [.ref A0.length 0 0]),(35,fv),(36,Iz fs.length),(37,Iz fs.length)]) C'∧Ext A0 C'∧Bld A0.length C' A0.length (txt ++ uf fs):=by
 obtain ⟨C',e1,e2,e3⟩:=aco fs.length (fun k C=>Ext A0 C∧Bld A0.length C A0.length (txt ++ uf (fs.take k))) (fun k C=>itW (evC (dn CT) itW base adp) [] L (iw 98 [(8,.mp fm),(9,.ref A0.length 0 0),(10,.fn 18 [] [.ref A0.length 0 0]),(35,fv),(36,Iz fs.length),(37,Iz (k:Int))]) C) (by
  rintro k C hk ⟨hE,hB⟩;have hx:=ah hk;have hsx:=hs _ (oq hk);have hle:(uf (fs.take (k+1))).length≤(uf fs).length:=axe _;rw [ai5 hx,az] at hle
  obtain ⟨C',q1,q2,q3⟩:=a9i h base hb hn hm hc hL hx hsx hE hB (by rw [az];omega) (by omega)
  exact ⟨C',q1,q2,by rw [ai5 hx,← jh];exact q3⟩) 0 C (gq _) ⟨hE,by simpa [uf] using hB⟩
 rw [ky] at e3;exact ⟨C',e1,e2,e3⟩
end
structure BadT (CT:Nat→Option CFun):Prop where
 is':CT azi=some (.code ajw)
 bad1:CT asq=some (.code ade)
 bad:CT a8u=some (.code anh)
 con:CT a8v=some (.code ani)
 idx:CT asr=some (.code acn)
def bnA (s:ShD) (x:InsD):Bool:=(((s.d && ad9 false x.d) || (s.f && ad9 false x.f)) || (s.a && ad9 true x.a)) || (s.b && ad9 true x.b)
section
variable {CT:Nat→Option CFun}
theorem aci (hT:BadT CT) (base:Nat) (D:Heap) (op:Bool) (s:ByteArray):∃ E,dn CT (.fn a8u [] []) [.s (.bool op),.sl D.length 0 0 1 1] base (D ++ [Ob.cells 0 [Sb s]])=some (bl (ad9 op s),E)∧Ext D E:=by
 have hr:Rd (D ++ [Ob.cells 0 [Sb s]]) (.sl D.length 0 0 1 1) ([s].map Sb):=Rd.sl (dh D 0 [Sb s]) (off:=0) (n:=1) (by simp)
 obtain ⟨E,h1,h2⟩:=aqn hT.is' hT.bad1 hT.bad hT.con hT.idx base (D ++ [Ob.cells 0 [Sb s]]) op hr trivial (by simp)
 refine ⟨E,?_,(Ext.app _ _).trans h2⟩;rw [h1];simp [bl]
set_option maxHeartbeats 8000000 in
theorem bik (hT:BadT CT) (base:Nat) {D0:Heap} (hb:base≤D0.length) {p q:Nat} {x:InsD} {av lv:V} {s:ShD} (h9_0:jm D0 p 0=some (jg x av lv)) (h10_0:jm D0 q 0=some s.c) {v0 v2 v4 v6 v8 v16 v17 v18 v35 v36 v37 v50 v51 v52:V}:
 ∃ D',evC (dn CT) itW base (.region R37_15 [] [64,65,66,67,68,69,70,71,72,73,74,75,76,77,78,79,80,81,82,83,84,85,86,87,88,89,90,91,92,93,94,95,96,97,98,99,100,101]) (iw 140 [(0,v0),(2,v2),(4,v4),(6,v6),(8,v8),(9,.ref p 0 0),(10,.ref q 0 0),(16,v16),(17,v17),(18,v18),(35,v35),(36,v36),(37,v37),(50,v50),(51,v51),(52,v52)]) D0=some (.nrm,iw 140 [(0,v0),(2,v2),(4,v4),(6,v6),(8,v8),(9,.ref p 0 0),(10,.ref q 0 0),(11,bl (bnA s x)),(16,v16),(17,v17),(18,v18),(35,v35),(36,v36),(37,v37),(50,v50),(51,v51),(52,v52)],D')∧Ext D0 D':=by
 have e_0:Ext D0 D0:=Ext.refl _;simp only [jg,ShD.c] at h9_0 h10_0;cases s_d:s.d with
 | false=>
   cases s_f:s.f with
   | false=>
     cases s_a:s.a with
     | false=>
       cases s_b:s.b with
       | false=>
         refine ⟨D0,?_,e_0⟩;simp only [bnA,Iz,Sb,rz,aa,simprocAttr,h9_0,h10_0,s_d,s_f,s_a,s_b]
       | true=>
         obtain ⟨D1,c_1,x_1⟩:=aci hT base D0 true x.b;have e_1:=e_0.trans x_1;have h9_1:=cz h9_0 x_1;have h10_1:=cz h10_0 x_1;simp only [bl,Sb] at c_1;cases b_b:ad9 true x.b with
         | true=>
           rw [b_b] at c_1;refine ⟨D1,?_,e_1⟩;simp only [bnA,Iz,Sb,rz,aa,simprocAttr,h9_0,h10_0,s_d,s_f,s_a,s_b,b_b,c_1,h9_1,h10_1]
         | false=>
           rw [b_b] at c_1;refine ⟨D1,?_,e_1⟩;simp only [bnA,Iz,Sb,rz,aa,simprocAttr,h9_0,h10_0,s_d,s_f,s_a,s_b,b_b,c_1,h9_1,h10_1]
     | true=>
       obtain ⟨D1,c_1,x_1⟩:=aci hT base D0 true x.a;have e_1:=e_0.trans x_1;have h9_1:=cz h9_0 x_1;have h10_1:=cz h10_0 x_1;simp only [bl,Sb] at c_1;cases b_a:ad9 true x.a with
       | true=>
         rw [b_a] at c_1;refine ⟨D1,?_,e_1⟩;simp only [bnA,Iz,Sb,rz,aa,simprocAttr,h9_0,h10_0,s_d,s_f,s_a,b_a,c_1,h9_1,h10_1]
       | false=>
         rw [b_a] at c_1;cases s_b:s.b with
         | false=>
           refine ⟨D1,?_,e_1⟩;simp only [bnA,Iz,Sb,rz,aa,simprocAttr,h9_0,h10_0,s_d,s_f,s_a,b_a,c_1,h9_1,h10_1,s_b]
         | true=>
           obtain ⟨D2,c_2,x_2⟩:=aci hT base D1 true x.b;have e_2:=e_1.trans x_2;have h9_2:=cz h9_1 x_2;have h10_2:=cz h10_1 x_2;simp only [bl,Sb] at c_2;cases b_b:ad9 true x.b with
           | true=>
             rw [b_b] at c_2;refine ⟨D2,?_,e_2⟩;simp only [bnA,Iz,Sb,rz,aa,simprocAttr,h9_0,h10_0,s_d,s_f,s_a,b_a,c_1,h9_1,h10_1,s_b,b_b,c_2,h9_2,h10_2]
           | false=>
             rw [b_b] at c_2;refine ⟨D2,?_,e_2⟩;simp only [bnA,Iz,Sb,rz,aa,simprocAttr,h9_0,h10_0,s_d,s_f,s_a,b_a,c_1,h9_1,h10_1,s_b,b_b,c_2,h9_2,h10_2]
   | true=>
     obtain ⟨D1,c_1,x_1⟩:=aci hT base D0 false x.f;have e_1:=e_0.trans x_1;have h9_1:=cz h9_0 x_1;have h10_1:=cz h10_0 x_1;simp only [bl,Sb] at c_1;cases b_f:ad9 false x.f with
     | true=>
       rw [b_f] at c_1;refine ⟨D1,?_,e_1⟩;simp only [bnA,Iz,Sb,rz,aa,simprocAttr,h9_0,h10_0,s_d,s_f,b_f,c_1,h9_1,h10_1]
     | false=>
       rw [b_f] at c_1;cases s_a:s.a with
       | false=>
         cases s_b:s.b with
         | false=>
           refine ⟨D1,?_,e_1⟩;simp only [bnA,Iz,Sb,rz,aa,simprocAttr,h9_0,h10_0,s_d,s_f,b_f,c_1,h9_1,h10_1,s_a,s_b]
         | true=>
           obtain ⟨D2,c_2,x_2⟩:=aci hT base D1 true x.b;have e_2:=e_1.trans x_2;have h9_2:=cz h9_1 x_2;have h10_2:=cz h10_1 x_2;simp only [bl,Sb] at c_2;cases b_b:ad9 true x.b with
           | true=>
             rw [b_b] at c_2;refine ⟨D2,?_,e_2⟩;simp only [bnA,Iz,Sb,rz,aa,simprocAttr,h9_0,h10_0,s_d,s_f,b_f,c_1,h9_1,h10_1,s_a,s_b,b_b,c_2,h9_2,h10_2]
           | false=>
             rw [b_b] at c_2;refine ⟨D2,?_,e_2⟩;simp only [bnA,Iz,Sb,rz,aa,simprocAttr,h9_0,h10_0,s_d,s_f,b_f,c_1,h9_1,h10_1,s_a,s_b,b_b,c_2,h9_2,h10_2]
       | true=>
         obtain ⟨D2,c_2,x_2⟩:=aci hT base D1 true x.a;have e_2:=e_1.trans x_2;have h9_2:=cz h9_1 x_2;have h10_2:=cz h10_1 x_2;simp only [bl,Sb] at c_2;cases b_a:ad9 true x.a with
         | true=>
           rw [b_a] at c_2;refine ⟨D2,?_,e_2⟩;simp only [bnA,Iz,Sb,rz,aa,simprocAttr,h9_0,h10_0,s_d,s_f,b_f,c_1,h9_1,h10_1,s_a,b_a,c_2,h9_2,h10_2]
         | false=>
           rw [b_a] at c_2;cases s_b:s.b with
           | false=>
             refine ⟨D2,?_,e_2⟩;simp only [bnA,Iz,Sb,rz,aa,simprocAttr,h9_0,h10_0,s_d,s_f,b_f,c_1,h9_1,h10_1,s_a,b_a,c_2,h9_2,h10_2,s_b]
           | true=>
             obtain ⟨D3,c_3,x_3⟩:=aci hT base D2 true x.b;have e_3:=e_2.trans x_3;have h9_3:=cz h9_2 x_3;have h10_3:=cz h10_2 x_3;simp only [bl,Sb] at c_3;cases b_b:ad9 true x.b with
             | true=>
               rw [b_b] at c_3;refine ⟨D3,?_,e_3⟩;simp only [bnA,Iz,Sb,rz,aa,simprocAttr,h9_0,h10_0,s_d,s_f,b_f,c_1,h9_1,h10_1,s_a,b_a,c_2,h9_2,h10_2,s_b,b_b,c_3,h9_3,h10_3]
             | false=>
               rw [b_b] at c_3;refine ⟨D3,?_,e_3⟩;simp only [bnA,Iz,Sb,rz,aa,simprocAttr,h9_0,h10_0,s_d,s_f,b_f,c_1,h9_1,h10_1,s_a,b_a,c_2,h9_2,h10_2,s_b,b_b,c_3,h9_3,h10_3]
 | true=>
   obtain ⟨D1,c_1,x_1⟩:=aci hT base D0 false x.d;have e_1:=e_0.trans x_1;have h9_1:=cz h9_0 x_1;have h10_1:=cz h10_0 x_1;simp only [bl,Sb] at c_1;cases b_d:ad9 false x.d with
   | true=>
     rw [b_d] at c_1;refine ⟨D1,?_,e_1⟩;simp only [bnA,Iz,Sb,rz,aa,simprocAttr,h9_0,h10_0,s_d,b_d,c_1,h9_1,h10_1]
   | false=>
     rw [b_d] at c_1;cases s_f:s.f with
     | false=>
       cases s_a:s.a with
       | false=>
         cases s_b:s.b with
         | false=>
           refine ⟨D1,?_,e_1⟩;simp only [bnA,Iz,Sb,rz,aa,simprocAttr,h9_0,h10_0,s_d,b_d,c_1,h9_1,h10_1,s_f,s_a,s_b]
         | true=>
           obtain ⟨D2,c_2,x_2⟩:=aci hT base D1 true x.b;have e_2:=e_1.trans x_2;have h9_2:=cz h9_1 x_2;have h10_2:=cz h10_1 x_2;simp only [bl,Sb] at c_2;cases b_b:ad9 true x.b with
           | true=>
             rw [b_b] at c_2;refine ⟨D2,?_,e_2⟩;simp only [bnA,Iz,Sb,rz,aa,simprocAttr,h9_0,h10_0,s_d,b_d,c_1,h9_1,h10_1,s_f,s_a,s_b,b_b,c_2,h9_2,h10_2]
           | false=>
             rw [b_b] at c_2;refine ⟨D2,?_,e_2⟩;simp only [bnA,Iz,Sb,rz,aa,simprocAttr,h9_0,h10_0,s_d,b_d,c_1,h9_1,h10_1,s_f,s_a,s_b,b_b,c_2,h9_2,h10_2]
       | true=>
         obtain ⟨D2,c_2,x_2⟩:=aci hT base D1 true x.a;have e_2:=e_1.trans x_2;have h9_2:=cz h9_1 x_2;have h10_2:=cz h10_1 x_2;simp only [bl,Sb] at c_2;cases b_a:ad9 true x.a with
         | true=>
           rw [b_a] at c_2;refine ⟨D2,?_,e_2⟩;simp only [bnA,Iz,Sb,rz,aa,simprocAttr,h9_0,h10_0,s_d,b_d,c_1,h9_1,h10_1,s_f,s_a,b_a,c_2,h9_2,h10_2]
         | false=>
           rw [b_a] at c_2;cases s_b:s.b with
           | false=>
             refine ⟨D2,?_,e_2⟩;simp only [bnA,Iz,Sb,rz,aa,simprocAttr,h9_0,h10_0,s_d,b_d,c_1,h9_1,h10_1,s_f,s_a,b_a,c_2,h9_2,h10_2,s_b]
           | true=>
             obtain ⟨D3,c_3,x_3⟩:=aci hT base D2 true x.b;have e_3:=e_2.trans x_3;have h9_3:=cz h9_2 x_3;have h10_3:=cz h10_2 x_3;simp only [bl,Sb] at c_3;cases b_b:ad9 true x.b with
             | true=>
               rw [b_b] at c_3;refine ⟨D3,?_,e_3⟩;simp only [bnA,Iz,Sb,rz,aa,simprocAttr,h9_0,h10_0,s_d,b_d,c_1,h9_1,h10_1,s_f,s_a,b_a,c_2,h9_2,h10_2,s_b,b_b,c_3,h9_3,h10_3]
             | false=>
               rw [b_b] at c_3;refine ⟨D3,?_,e_3⟩;simp only [bnA,Iz,Sb,rz,aa,simprocAttr,h9_0,h10_0,s_d,b_d,c_1,h9_1,h10_1,s_f,s_a,b_a,c_2,h9_2,h10_2,s_b,b_b,c_3,h9_3,h10_3]
     | true=>
       obtain ⟨D2,c_2,x_2⟩:=aci hT base D1 false x.f;have e_2:=e_1.trans x_2;have h9_2:=cz h9_1 x_2;have h10_2:=cz h10_1 x_2;simp only [bl,Sb] at c_2;cases b_f:ad9 false x.f with
       | true=>
         rw [b_f] at c_2;refine ⟨D2,?_,e_2⟩;simp only [bnA,Iz,Sb,rz,aa,simprocAttr,h9_0,h10_0,s_d,b_d,c_1,h9_1,h10_1,s_f,b_f,c_2,h9_2,h10_2]
       | false=>
         rw [b_f] at c_2;cases s_a:s.a with
         | false=>
           cases s_b:s.b with
           | false=>
             refine ⟨D2,?_,e_2⟩;simp only [bnA,Iz,Sb,rz,aa,simprocAttr,h9_0,h10_0,s_d,b_d,c_1,h9_1,h10_1,s_f,b_f,c_2,h9_2,h10_2,s_a,s_b]
           | true=>
             obtain ⟨D3,c_3,x_3⟩:=aci hT base D2 true x.b;have e_3:=e_2.trans x_3;have h9_3:=cz h9_2 x_3;have h10_3:=cz h10_2 x_3;simp only [bl,Sb] at c_3;cases b_b:ad9 true x.b with
             | true=>
               rw [b_b] at c_3;refine ⟨D3,?_,e_3⟩;simp only [bnA,Iz,Sb,rz,aa,simprocAttr,h9_0,h10_0,s_d,b_d,c_1,h9_1,h10_1,s_f,b_f,c_2,h9_2,h10_2,s_a,s_b,b_b,c_3,h9_3,h10_3]
             | false=>
               rw [b_b] at c_3;refine ⟨D3,?_,e_3⟩;simp only [bnA,Iz,Sb,rz,aa,simprocAttr,h9_0,h10_0,s_d,b_d,c_1,h9_1,h10_1,s_f,b_f,c_2,h9_2,h10_2,s_a,s_b,b_b,c_3,h9_3,h10_3]
         | true=>
           obtain ⟨D3,c_3,x_3⟩:=aci hT base D2 true x.a;have e_3:=e_2.trans x_3;have h9_3:=cz h9_2 x_3;have h10_3:=cz h10_2 x_3;simp only [bl,Sb] at c_3;cases b_a:ad9 true x.a with
           | true=>
             rw [b_a] at c_3;refine ⟨D3,?_,e_3⟩;simp only [bnA,Iz,Sb,rz,aa,simprocAttr,h9_0,h10_0,s_d,b_d,c_1,h9_1,h10_1,s_f,b_f,c_2,h9_2,h10_2,s_a,b_a,c_3,h9_3,h10_3]
           | false=>
             rw [b_a] at c_3;cases s_b:s.b with
             | false=>
               refine ⟨D3,?_,e_3⟩;simp only [bnA,Iz,Sb,rz,aa,simprocAttr,h9_0,h10_0,s_d,b_d,c_1,h9_1,h10_1,s_f,b_f,c_2,h9_2,h10_2,s_a,b_a,c_3,h9_3,h10_3,s_b]
             | true=>
               obtain ⟨D4,c_4,x_4⟩:=aci hT base D3 true x.b;have e_4:=e_3.trans x_4;have h9_4:=cz h9_3 x_4;have h10_4:=cz h10_3 x_4;simp only [bl,Sb] at c_4;cases b_b:ad9 true x.b with
               | true=>
                 rw [b_b] at c_4;refine ⟨D4,?_,e_4⟩;simp only [bnA,Iz,Sb,rz,aa,simprocAttr,h9_0,h10_0,s_d,b_d,c_1,h9_1,h10_1,s_f,b_f,c_2,h9_2,h10_2,s_a,b_a,c_3,h9_3,h10_3,s_b,b_b,c_4,h9_4,h10_4]
               | false=>
                 rw [b_b] at c_4;refine ⟨D4,?_,e_4⟩;simp only [bnA,Iz,Sb,rz,aa,simprocAttr,h9_0,h10_0,s_d,b_d,c_1,h9_1,h10_1,s_f,b_f,c_2,h9_2,h10_2,s_a,b_a,c_3,h9_3,h10_3,s_b,b_b,c_4,h9_4,h10_4]
end
structure ConT (CT:Nat→Option CFun):Prop where
 con:CT azg=some (.code apm)
 idx:CT axn=some (.code aer)
def azn (l:List ByteArray):Bool:=l.any fun y=>(⟨#[]⟩:ByteArray).data.toList == y.data.toList
def bnB (v:Bool) (s:ShD) (x:InsD):Bool:=(v || (s.xs && (x.xs.any (ad9 true) || azn x.xs))) || (s.ls && (x.ls.any (ad9 false) || azn x.ls))
section
variable {CT:Nat→Option CFun}
theorem gu (fr:List V) (H:Heap) (os:List (Nat × E)) (kill:List Nat):a0s fr H os kill false=none:=rfl
theorem ji (H:Heap) (o:Option St):bg1 H none o=o:=rfl
theorem jk (call:ni) (it:zt) (base:Nat) (b:List AOper) (kill:List Nat) (H:Heap) (o:Option St):bg2 call it base b kill H none o=o:=rfl
theorem jl (b r:Bool):a6f (some und) b r=false:=rfl
theorem ach (base:Nat) (H:Heap) {v0 v2 v4 v6 v8 v9 v10 v16 v17 v18 v35 v36 v37 v50 v51 v52:V}:qb (dn CT) itW base R37_16t11 [9,10,102,103,104,105,106,107,108,109,110,111,112,113,114,115,116,117,118,119,120,121,122,123,124,125,126,127,128,129,130] (iw 140 [(0,v0),(2,v2),(4,v4),(6,v6),(8,v8),(9,v9),(10,v10),(16,v16),(17,v17),(18,v18),(35,v35),(36,v36),(37,v37),(50,v50),(51,v51),(52,v52),(103,V.s (Value.bool true)),(106,und),(110,und),(113,und)]) H=some (.nrm,iw 140 [(0,v0),(2,v2),(4,v4),(6,v6),(8,v8),(11,V.s (Value.bool true)),(16,v16),(17,v17),(18,v18),(35,v35),(36,v36),(37,v37),(50,v50),(51,v51),(52,v52)],H):=by
 simp only [qb,R37_16t11,R37_16t12,R37_16t13,R37_16t14,R37_16t15,R37_16t16,R37_16t17,R37_16t18,R37_16t19,R37_16t20,R37_16t21,R37_16t22,R37_16p11,R37_16p12,R37_16p13,R37_16p14,R37_16p15,R37_16p16,R37_16p17,R37_16p18,R37_16p19,R37_16p20,R37_16p21,bn,cu,aa,simprocAttr,evC_ops,amt,ajc,agp,ap1,ah9,akw,apy,amw,a1x,avp,bcm,ev_t,ev_c,alx]
theorem acg (base:Nat) (H:Heap) {v0 v2 v4 v6 v8 v16 v17 v18 v35 v36 v37 v50 v51 v52:V}:qb (dn CT) itW base R37_16t22 [9,10,102,103,104,105,106,107,108,109,110,111,112,113,114,115,116,117,118,119,120,121,122,123,124,125,126,127,128,129,130] (iw 140 [(0,v0),(2,v2),(4,v4),(6,v6),(8,v8),(16,v16),(17,v17),(18,v18),(35,v35),(36,v36),(37,v37),(50,v50),(51,v51),(52,v52),(117,V.s (Value.bool true)),(120,und),(124,und),(127,und)]) H=some (.nrm,iw 140 [(0,v0),(2,v2),(4,v4),(6,v6),(8,v8),(11,V.s (Value.bool true)),(16,v16),(17,v17),(18,v18),(35,v35),(36,v36),(37,v37),(50,v50),(51,v51),(52,v52)],H):=by
 simp only [qb,R37_16t22,bn,cu,aa,simprocAttr,evC_ops,amt,ajc,agp,ap1,ah9,akw,apy,amw,a1x,avp,bcm,ev_t,ev_c,alx]
set_option maxHeartbeats 8000000 in
theorem bij (hT:BadT CT) (hN:ConT CT) (base:Nat) {D0:Heap} (hb:base≤D0.length) {p q:Nat} {x:InsD} {av lv:V} {s:ShD} {v:Bool} (h9_0:jm D0 p 0=some (jg x av lv)) (h10_0:jm D0 q 0=some s.c) (hxs:Rd D0 av (x.xs.map Sb)) (hwx:aa7 av) (hls:Rd D0 lv (x.ls.map Sb)) (hwl:aa7 lv) (hnx:x.xs.length < 2 ^ 20) (hnl:x.ls.length < 2 ^ 20) {v0 v2 v4 v6 v8 v16 v17 v18 v35 v36 v37 v50 v51 v52:V}:
 ∃ D',evC (dn CT) itW base (.region R37_16 [] [9,10,102,103,104,105,106,107,108,109,110,111,112,113,114,115,116,117,118,119,120,121,122,123,124,125,126,127,128,129,130]) (iw 140 [(0,v0),(2,v2),(4,v4),(6,v6),(8,v8),(9,.ref p 0 0),(10,.ref q 0 0),(11,bl v),(16,v16),(17,v17),(18,v18),(35,v35),(36,v36),(37,v37),(50,v50),(51,v51),(52,v52)]) D0=some (.nrm,iw 140 [(0,v0),(2,v2),(4,v4),(6,v6),(8,v8),(11,bl (bnB v s x)),(16,v16),(17,v17),(18,v18),(35,v35),(36,v36),(37,v37),(50,v50),(51,v51),(52,v52)],D')∧Ext D0 D':=by
 have e_0:Ext D0 D0:=Ext.refl _;simp only [jg,ShD.c] at h9_0 h10_0;cases v with
 | true=>
   refine ⟨D0,?_,e_0⟩;simp only [bnB,Iz,Sb,rz,aa,simprocAttr,ach,acg,jl,gu,ji,jk,h9_0,h10_0]
 | false=>
   cases s_xs:s.xs with
   | false=>
     cases s_ls:s.ls with
     | false=>
       refine ⟨D0,?_,e_0⟩;simp only [bnB,Iz,Sb,rz,aa,simprocAttr,ach,acg,jl,gu,ji,jk,h9_0,h10_0,s_xs,s_ls]
     | true=>
       obtain ⟨D1,c_1,x_1⟩:=aqn hT.is' hT.bad1 hT.bad hT.con hT.idx base D0 false (hls.ext e_0) hwl (l:=x.ls) (by omega)
       have e_1:=e_0.trans x_1;have h9_1:=cz h9_0 x_1;have h10_1:=cz h10_0 x_1
       have k_1:=ad4 hN.con hN.idx base D1 (⟨#[]⟩:ByteArray) (hls.ext e_1) hwl (l:=x.ls) (by omega)
       have f_1:dn CT (.fn azg [] []) [lv,.s (.string ⟨#[]⟩)] base D1=some (.s (.bool (azn x.ls)),D1):=k_1;cases b_ls:x.ls.any (ad9 false) with
       | true=>
         rw [b_ls] at c_1;refine ⟨D1,?_,e_1⟩;simp only [bnB,Iz,Sb,rz,aa,simprocAttr,ach,acg,jl,gu,ji,jk,h9_0,h10_0,s_xs,s_ls,b_ls,c_1,h9_1,h10_1]
       | false=>
         rw [b_ls] at c_1;cases g_ls:azn x.ls with
         | true=>
           rw [g_ls] at f_1;refine ⟨D1,?_,e_1⟩;simp only [bnB,Iz,Sb,rz,aa,simprocAttr,ach,acg,jl,gu,ji,jk,h9_0,h10_0,s_xs,s_ls,b_ls,c_1,h9_1,h10_1,g_ls,f_1]
         | false=>
           rw [g_ls] at f_1;refine ⟨D1,?_,e_1⟩;simp only [bnB,Iz,Sb,rz,aa,simprocAttr,ach,acg,jl,gu,ji,jk,h9_0,h10_0,s_xs,s_ls,b_ls,c_1,h9_1,h10_1,g_ls,f_1]
   | true=>
     obtain ⟨D1,c_1,x_1⟩:=aqn hT.is' hT.bad1 hT.bad hT.con hT.idx base D0 true (hxs.ext e_0) hwx (l:=x.xs) (by omega)
     have e_1:=e_0.trans x_1;have h9_1:=cz h9_0 x_1;have h10_1:=cz h10_0 x_1
     have k_1:=ad4 hN.con hN.idx base D1 (⟨#[]⟩:ByteArray) (hxs.ext e_1) hwx (l:=x.xs) (by omega)
     have f_1:dn CT (.fn azg [] []) [av,.s (.string ⟨#[]⟩)] base D1=some (.s (.bool (azn x.xs)),D1):=k_1;cases b_xs:x.xs.any (ad9 true) with
     | true=>
       rw [b_xs] at c_1;refine ⟨D1,?_,e_1⟩;simp only [bnB,Iz,Sb,rz,aa,simprocAttr,ach,acg,jl,gu,ji,jk,h9_0,h10_0,s_xs,b_xs,c_1,h9_1,h10_1]
     | false=>
       rw [b_xs] at c_1;cases g_xs:azn x.xs with
       | true=>
         rw [g_xs] at f_1;refine ⟨D1,?_,e_1⟩;simp only [bnB,Iz,Sb,rz,aa,simprocAttr,ach,acg,jl,gu,ji,jk,h9_0,h10_0,s_xs,b_xs,c_1,h9_1,h10_1,g_xs,f_1]
       | false=>
         rw [g_xs] at f_1;cases s_ls:s.ls with
         | false=>
           refine ⟨D1,?_,e_1⟩;simp only [bnB,Iz,Sb,rz,aa,simprocAttr,ach,acg,jl,gu,ji,jk,h9_0,h10_0,s_xs,b_xs,c_1,h9_1,h10_1,g_xs,f_1,s_ls]
         | true=>
           obtain ⟨D2,c_2,x_2⟩:=aqn hT.is' hT.bad1 hT.bad hT.con hT.idx base D1 false (hls.ext e_1) hwl (l:=x.ls) (by omega)
           have e_2:=e_1.trans x_2;have h9_2:=cz h9_1 x_2;have h10_2:=cz h10_1 x_2
           have k_2:=ad4 hN.con hN.idx base D2 (⟨#[]⟩:ByteArray) (hls.ext e_2) hwl (l:=x.ls) (by omega)
           have f_2:dn CT (.fn azg [] []) [lv,.s (.string ⟨#[]⟩)] base D2=some (.s (.bool (azn x.ls)),D2):=k_2;cases b_ls:x.ls.any (ad9 false) with
           | true=>
             rw [b_ls] at c_2;refine ⟨D2,?_,e_2⟩;simp only [bnB,Iz,Sb,rz,aa,simprocAttr,ach,acg,jl,gu,ji,jk,h9_0,h10_0,s_xs,b_xs,c_1,h9_1,h10_1,g_xs,f_1,s_ls,b_ls,c_2,h9_2,h10_2]
           | false=>
             rw [b_ls] at c_2;cases g_ls:azn x.ls with
             | true=>
               rw [g_ls] at f_2;refine ⟨D2,?_,e_2⟩;simp only [bnB,Iz,Sb,rz,aa,simprocAttr,ach,acg,jl,gu,ji,jk,h9_0,h10_0,s_xs,b_xs,c_1,h9_1,h10_1,g_xs,f_1,s_ls,b_ls,c_2,h9_2,h10_2,g_ls,f_2]
             | false=>
               rw [g_ls] at f_2;refine ⟨D2,?_,e_2⟩;simp only [bnB,Iz,Sb,rz,aa,simprocAttr,ach,acg,jl,gu,ji,jk,h9_0,h10_0,s_xs,b_xs,c_1,h9_1,h10_1,g_xs,f_1,s_ls,b_ls,c_2,h9_2,h10_2,g_ls,f_2]
end
def bnI (i b:Nat) (k:Nat) (x:InsD):Option Pt:=if bnB (bnA (shp x.op) x) (shp x.op) x=true then some (i,b,k) else none
def bfl (i:Nat) (b:Nat) (bl:BlkD):Option Pt:=if (!mh bl.label)=true then some (i,b,0) else ags (bnI i b) bl.code 0
def bnF (i:Nat) (f:FunD):Option Pt:=if (!mh f.name || f.ps.any fun s=>!mh s)=true then some (i,0,0) else ags (bfl i) f.blocks 0
section
variable {CT:Nat→Option CFun}
theorem bn_l0 (hT:BadT CT) (hN:ConT CT) (base:Nat) {A A1:Heap} {w sm:Nat} {fv0:V} {fs0:List FunD} (hc:NC A w sm fv0 fs0) (h1:Ext A A1) (hb:base≤A.length) (hg:jm A1 A.length 0=some [Iz 0,Iz 0,Iz 0]) {v16 v35 cv:V} {i b:Nat} {n17 n18 n36 n37:Int} {l:List InsD} (hv:RdL 8 p9 A cv l) (hn:l.length < 2 ^ 20) (hxs:∀ x∈l,x.xs.length < 2 ^ 20) (hls:∀ x∈l,x.ls.length < 2 ^ 20) {L:Nat} (hL:A1.length≤L) (hA1:A.length < A1.length):
 ∀ C,Ext A1 C→(ags (bnI i b) l 0=none∧∃ C',itW (evC (dn CT) itW base ag3) [] L (iw 140 [(0,.ref w 0 0),(2,.ref A.length 0 0),(4,Iz i),(6,Iz b),(16,v16),(17,Iz n17),(18,Iz n18),(35,v35),(36,Iz n36),(37,Iz n37),(50,cv),(51,Iz l.length),(52,Iz 0)]) C=some (.ext 4,iw 140 [(0,.ref w 0 0),(2,.ref A.length 0 0),(4,Iz i),(6,Iz b),(16,v16),(17,Iz n17),(18,Iz n18),(35,v35),(36,Iz n36),(37,Iz n37),(50,cv),(51,Iz l.length),(52,Iz l.length),(53,bl false)],C')∧Ext A1 C')∨∃ t,ags (bnI i b) l 0=some t∧Found A 140 A.length t (itW (evC (dn CT) itW base ag3) [] L (iw 140 [(0,.ref w 0 0),(2,.ref A.length 0 0),(4,Iz i),(6,Iz b),(16,v16),(17,Iz n17),(18,Iz n18),(35,v35),(36,Iz n36),(37,Iz n37),(50,cv),(51,Iz l.length),(52,Iz 0)]) C):=by
 intro C0 hC0
 rcases ai9 l a3o (bnI i b) (fun _ C=>Ext A1 C) (fun k C=>itW (evC (dn CT) itW base ag3) [] L (iw 140 [(0,.ref w 0 0),(2,.ref A.length 0 0),(4,Iz i),(6,Iz b),(16,v16),(17,Iz n17),(18,Iz n18),(35,v35),(36,Iz n36),(37,Iz n37),(50,cv),(51,Iz l.length),(52,Iz k)]) C) (Found A 140 A.length) (by
  intro k C hk hE
  have hlt':((k:Int) < (l.length:Int)):=by omega
  have hwk:=w64 (n:=k) (by omega)
  have hle:=hE.le;have hkx:=nk hk a3o;obtain ⟨x,hxe⟩:∃ x,l.getD k a3o=x:=⟨_,rfl⟩;rw [hxe] at hkx ⊢;have hmem:=ak hkx;obtain ⟨a,r,a1,hr,a2,_⟩:=hv.at2 hkx;have hEA:=h1.trans hE;have ld:=a2 C hEA
  have hbC:base≤C.length:=by omega
  have hgg:∀ c,jm (C ++ [Ob.cells 0 c]) C.length 0=some c:=fun c=>dh C 0 c;have hss:∀ c d,(C ++ [c]).set C.length d=C ++ [d]:=fun c d=>ny C c d;have eC:∀ c,Ext C (C ++ [Ob.cells 0 c]):=fun c=>Ext.app _ _;have g2:∀ D,Ext A1 D→jm D A.length 0=some [Iz 0,Iz 0,Iz 0]:=fun D h=>cz hg h;obtain ⟨av,lv,rfl,q1,q2,q3,q4,_⟩:=hr;have hav:=q1.one;have hlv:=q3.one;obtain ⟨C1,hC1⟩:∃ C1,C ++ [Ob.cells 0 (jg x av lv)]=C1:=⟨_,rfl⟩;have e1:Ext C C1:=hC1 ▸ eC _
  have hl1:C1.length=C.length+1:=by rw [← hC1,eu]
  have hmp:tu C1 false 1 (.ref w 0 1)=some (.mp sm):=by rw [r9,cz hc.gw (hEA.trans e1)];rfl
  have hmg:=a9f .u8 (Ext.at' (hEA.trans e1) hc.sh) (.agg (ShD.c ⟨false,false,false,false,false,false,false⟩)) false x.op;rw [if_neg aa8,a08] at hmg;have hg1:jm C1 C.length 0=some (jg x av lv):=hC1 ▸ hgg _;obtain ⟨C2,hC2⟩:∃ C2,C1 ++ [Ob.cells 0 (shp x.op).c]=C2:=⟨_,rfl⟩;have e2:Ext C1 C2:=hC2 ▸ Ext.app _ _
  have hl2:C2.length=C.length+2:=by rw [← hC2,eu,hl1]
  have hs1:∀ c d,(C1 ++ [c]).set C1.length d=C1 ++ [d]:=fun c d=>ny C1 c d;have hz1:∀ c,jm (C1 ++ [Ob.cells 0 c]) C1.length 0=some c:=fun c=>dh C1 0 c;rw [hl1] at hs1 hz1
  have hb1:base≤C.length+1:=by omega
  have h9:=cz hg1 e2
  have h10:jm C2 (C.length+1) 0=some (shp x.op).c:=by rw [← hC2];exact hz1 _
  obtain ⟨D1,r15,d1⟩:=bik hT base (D0:=C2) (by omega) (p:=C.length) (q:=C.length+1) (x:=x) (av:=av) (lv:=lv) (s:=shp x.op) h9 h10 (v0:=.ref w 0 0) (v2:=.ref A.length 0 0) (v4:=Iz i) (v6:=Iz b) (v8:=Iz k) (v16:=v16) (v17:=Iz n17) (v18:=Iz n18) (v35:=v35) (v36:=Iz n36) (v37:=Iz n37) (v50:=cv) (v51:=Iz l.length) (v52:=Iz k)
  have eX:=hEA.trans (e1.trans (e2.trans d1))
  obtain ⟨D2,r16,d2⟩:=bij hT hN base (D0:=D1) (by have:=eX.le;omega) (p:=C.length) (q:=C.length+1) (x:=x) (av:=av) (lv:=lv) (s:=shp x.op) (v:=bnA (shp x.op) x) (cz h9 d1) (cz h10 d1) (q1.ext eX) q2 (q3.ext eX) q4 (hxs x hmem) (hls x hmem) (v0:=.ref w 0 0) (v2:=.ref A.length 0 0) (v4:=Iz i) (v6:=Iz b) (v8:=Iz k) (v16:=v16) (v17:=Iz n17) (v18:=Iz n18) (v35:=v35) (v36:=Iz n36) (v37:=Iz n37) (v50:=cv) (v51:=Iz l.length) (v52:=Iz k)
  have eY:Ext A1 D2:=hE.trans (e1.trans (e2.trans (d1.trans d2)));unfold bnI;have hgc:=g2 D2 eY;simp only [jg] at ld hC1 hg1;simp only [Iz,bl,ShD.c] at hmg hC2 r15 r16 hgc;cases hq:bnB (bnA (shp x.op) x) (shp x.op) x with
  | false=>
    rw [hq] at r16
    refine .inl ⟨if_neg aa8,trim L (iw 140 [(0,.ref w 0 0),(2,.ref A.length 0 0),(4,Iz i),(6,Iz b),(16,v16),(17,Iz n17),(18,Iz n18),(35,v35),(36,Iz n36),(37,Iz n37),(50,cv),(51,Iz l.length),(52,Iz (k+1:Nat))]) D2,?_,eY.trim (by omega) _⟩
    rw [dw];simp only [Iz,bl,A37_0p0_0,A37_0p0_2,A37_0p0_3,X37_0,T37_0t1,X37_0t1,A37_0_0,A37_0_2,A37_0_3,T37_1,T37_2,T37_3p0,X37_3,X37_3t1,T37_3p2,X37_3t2,X37_3t3,T37_4p0,X37_4,X37_4t1,T37_4p2,X37_4t2,X37_4t3,X37_4t4,X37_4t5,T37_4t6,X37_4t6,T37_5p0,X37_5,X37_5t1,T37_5t2,X37_5t2,T37_6,T37_7,T37_8p0,X37_8,X37_8t1,T37_8p2,X37_8t2,X37_8t3,T37_9p0,X37_9,X37_9t1,T37_9t2,X37_9t2,T37_10p0,X37_10,X37_10t1,T37_10t2,X37_10t2,T37_11,T37_12,T37_13p0,X37_13,X37_13t1,T37_13p2,X37_13t2,X37_13t3,T37_14p0,X37_14,X37_14t1,X37_14t2,T37_17,T37_18p0,X37_18,X37_18t1,T37_18t2,X37_18t2,T37_19,adc,af7,T37_20,adb,af6,T37_21,ada,af5,T37_22p0,X37_22,X37_22t1,T37_22t2,X37_22t2,aa,simprocAttr,ShD.c,hlt',a1,ld,hbC,hb1,hgg,hss,hs1,hz1,hav,hlv,di,hC1,hl1,hmp,hmg,hC2,hg1,r15,r16,hwk]
  | true=>
    rw [hq] at r16;refine .inr ⟨(i,b,k),if_pos rfl,trim L (iw 140 [(2,.ref A.length 0 0),(3,bl true)]) (D2.set A.length (.cells 0 [Iz i,Iz b,Iz k])),?_,?_,?_⟩
    ·rw [dw];simp only [Iz,bl,A37_0p0_0,A37_0p0_2,A37_0p0_3,X37_0,T37_0t1,X37_0t1,A37_0_0,A37_0_2,A37_0_3,T37_1,T37_2,T37_3p0,X37_3,X37_3t1,T37_3p2,X37_3t2,X37_3t3,T37_4p0,X37_4,X37_4t1,T37_4p2,X37_4t2,X37_4t3,X37_4t4,X37_4t5,T37_4t6,X37_4t6,T37_5p0,X37_5,X37_5t1,T37_5t2,X37_5t2,T37_6,T37_7,T37_8p0,X37_8,X37_8t1,T37_8p2,X37_8t2,X37_8t3,T37_9p0,X37_9,X37_9t1,T37_9t2,X37_9t2,T37_10p0,X37_10,X37_10t1,T37_10t2,X37_10t2,T37_11,T37_12,T37_13p0,X37_13,X37_13t1,T37_13p2,X37_13t2,X37_13t3,T37_14p0,X37_14,X37_14t1,X37_14t2,T37_17,T37_18p0,X37_18,X37_18t1,T37_18t2,X37_18t2,T37_19,adc,af7,T37_20,adb,af6,T37_21,ada,af5,T37_22p0,X37_22,X37_22t1,T37_22t2,X37_22t2,aa,simprocAttr,ShD.c,hlt',a1,ld,hbC,hb1,hgg,hss,hs1,hz1,hav,hlv,di,hC1,hl1,hmp,hmg,hC2,hg1,r15,r16,hgc,hb]
    ·exact ((h1.trans eY).set (af _) _).trim (by omega) _
    ·exact aa3 (yf (g2 _ eY)) (by omega)) C0 hC0 with ⟨e1,C,e2,e3⟩ | e
 ·refine .inl ⟨e1,trim L (iw 140 [(0,.ref w 0 0),(2,.ref A.length 0 0),(4,Iz i),(6,Iz b),(16,v16),(17,Iz n17),(18,Iz n18),(35,v35),(36,Iz n36),(37,Iz n37),(50,cv),(51,Iz l.length),(52,Iz l.length),(53,bl false)]) C,?_,e3.trim (by omega) _⟩
  rw [ry] at e2;refine e2.trans ?_;rw [dw];simp only [Iz,bl,rz,aa,simprocAttr,jo]
 ·rw [ry] at e;exact .inr e
theorem bn_l1 (hT:BadT CT) (hN:ConT CT) (base:Nat) {A A1:Heap} {w sm:Nat} {fv0:V} {fs0:List FunD} (hc:NC A w sm fv0 fs0) (h1:Ext A A1) (hb:base≤A.length) (hg:jm A1 A.length 0=some [Iz 0,Iz 0,Iz 0]) {v16 bv:V} {i:Nat} {n17 n18:Int} {l:List BlkD} (hv:RdL 2 aay A bv l) (hn:l.length < 2 ^ 20) (hnc:∀ b∈l,b.code.length < 2 ^ 20) (hxs:∀ b∈l,∀ x∈b.code,x.xs.length < 2 ^ 20) (hls:∀ b∈l,∀ x∈b.code,x.ls.length < 2 ^ 20) {L:Nat} (hL:A1.length≤L) (hA1:A.length < A1.length):
 ∀ C,Ext A1 C→(ags (bfl i) l 0=none∧∃ C',itW (evC (dn CT) itW base ag2) [] L (iw 140 [(0,.ref w 0 0),(2,.ref A.length 0 0),(4,Iz i),(16,v16),(17,Iz n17),(18,Iz n18),(35,bv),(36,Iz l.length),(37,Iz 0)]) C=some (.ext 2,iw 140 [(0,.ref w 0 0),(2,.ref A.length 0 0),(4,Iz i),(16,v16),(17,Iz n17),(18,Iz n18),(35,bv),(36,Iz l.length),(37,Iz l.length),(38,bl false)],C')∧Ext A1 C')∨∃ t,ags (bfl i) l 0=some t∧Found A 140 A.length t (itW (evC (dn CT) itW base ag2) [] L (iw 140 [(0,.ref w 0 0),(2,.ref A.length 0 0),(4,Iz i),(16,v16),(17,Iz n17),(18,Iz n18),(35,bv),(36,Iz l.length),(37,Iz 0)]) C):=by
 intro C0 hC0
 rcases ai9 l a5q (bfl i) (fun _ C=>Ext A1 C) (fun k C=>itW (evC (dn CT) itW base ag2) [] L (iw 140 [(0,.ref w 0 0),(2,.ref A.length 0 0),(4,Iz i),(16,v16),(17,Iz n17),(18,Iz n18),(35,bv),(36,Iz l.length),(37,Iz k)]) C) (Found A 140 A.length) (by
  intro k C hk hE
  have hlt':((k:Int) < (l.length:Int)):=by omega
  have hwk:=w64 (n:=k) (by omega)
  have hle:=hE.le;have hkx:=nk hk a5q;obtain ⟨x,hxe⟩:∃ x,l.getD k a5q=x:=⟨_,rfl⟩;rw [hxe] at hkx ⊢;have hmem:=ak hkx;obtain ⟨a,r,a1,hr,a2,_⟩:=hv.at2 hkx;have hEA:=h1.trans hE;have ld:=a2 C hEA
  have hbC:base≤C.length:=by omega
  have hgg:∀ c,jm (C ++ [Ob.cells 0 c]) C.length 0=some c:=fun c=>dh C 0 c;have hss:∀ c d,(C ++ [c]).set C.length d=C ++ [d]:=fun c d=>ny C c d;have eC:∀ c,Ext C (C ++ [Ob.cells 0 c]):=fun c=>Ext.app _ _;have g2:∀ D,Ext A1 D→jm D A.length 0=some [Iz 0,Iz 0,Iz 0]:=fun D h=>cz hg h;obtain ⟨cv,rfl,hcv⟩:=hr;have hcl:=(zi hcv (hEA.trans (eC [Sb x.label,cv]))).len;have hco:=hcv.one
  have hl2:(C ++ [Ob.cells 0 [Sb x.label,cv]]).length=C.length+1:=by simp
  have hcal:=fun D=>axr CT hT.is' x.label base D;unfold bfl;cases hq:mh x.label with
  | false=>
    rw [hq] at hcal;refine .inr ⟨(i,k,0),if_pos rfl,trim L (iw 140 [(2,.ref A.length 0 0),(3,bl true)]) ((C ++ [Ob.cells 0 [Sb x.label,cv]]).set A.length (.cells 0 [Iz i,Iz k,Iz 0])),?_,?_,?_⟩
    ·have hgc:=g2 (C ++ [Ob.cells 0 [Sb x.label,cv]]) (hE.trans (eC _));rw [dw];simp only [Iz,bl] at hgc hcal;simp only [Iz,bl,rz,aa,simprocAttr,hlt',a1,ld,hbC,hgg,hss,hco,di,hcl,hcal,hgc,hb]
    ·exact ((hEA.trans (eC _)).set (af _) _).trim (by omega) _
    ·exact aa3 (yf (g2 _ (hE.trans (eC _)))) (by omega)
  | true=>
    rw [hq] at hcal;simp only [bl] at hcal
    rw [if_neg (show ¬ (!true)=true by decide)]
    have hin:=bn_l0 (CT:=CT) hT hN base hc h1 hb hg (v16:=v16) (v35:=bv) (i:=i) (b:=k) (n17:=n17) (n18:=n18) (n36:=l.length) (n37:=k) hcv (hnc x hmem) (hxs x hmem) (hls x hmem) (L:=(C ++ [Ob.cells 0 [Sb x.label,cv]]).length) (by rw [eu];omega) hA1 (C ++ [Ob.cells 0 [Sb x.label,cv]]) (hE.trans (eC _))
    rw [hl2] at hin
    rcases hin with ⟨z1,C2,z2,z3⟩ | ⟨t,z1,D,z2,z3,z4⟩
    ·refine .inl ⟨z1,trim L (iw 140 [(0,.ref w 0 0),(2,.ref A.length 0 0),(4,Iz i),(16,v16),(17,Iz n17),(18,Iz n18),(35,bv),(36,Iz l.length),(37,Iz (k+1:Nat))]) C2,?_,z3.trim (by omega) _⟩
     rw [dw];simp only [Iz,bl] at z2;simp only [Iz,bl,rz,aa,simprocAttr,hlt',a1,ld,hbC,hgg,hss,hco,di,hcl,hcal,hl2,z2,hwk]
    ·refine .inr ⟨t,z1,trim L (iw 140 [(2,.ref A.length 0 0),(3,bl true)]) D,?_,z3.trim (by omega) _,aa3 z4 (by omega)⟩
     rw [dw];simp only [Iz,bl] at z2
     simp only [Iz,bl,rz,aa,simprocAttr,hlt',a1,ld,hbC,hgg,hss,hco,di,hcl,hcal,hl2,z2]) C0 hC0 with ⟨e1,C,e2,e3⟩ | e
 ·refine .inl ⟨e1,trim L (iw 140 [(0,.ref w 0 0),(2,.ref A.length 0 0),(4,Iz i),(16,v16),(17,Iz n17),(18,Iz n18),(35,bv),(36,Iz l.length),(37,Iz l.length),(38,bl false)]) C,?_,e3.trim (by omega) _⟩
  rw [ry] at e2;refine e2.trans ?_;rw [dw];simp only [Iz,bl,rz,aa,simprocAttr,jo]
 ·rw [ry] at e;exact .inr e
theorem bn_l2 (hT:BadT CT) (hN:ConT CT) (base:Nat) {A A1:Heap} {w sm:Nat} {fv0:V} {fs0:List FunD} (hc:NC A w sm fv0 fs0) (h1:Ext A A1) (hb:base≤A.length) (hg:jm A1 A.length 0=some [Iz 0,Iz 0,Iz 0]) {fv:V} {l:List FunD} (hv:RdL 3 agr A fv l) (hn:l.length < 2 ^ 20) (h1':CT azh=some (.code ak9)) (hps:∀ f∈l,f.ps.length < 2 ^ 20) (hnb:∀ f∈l,f.blocks.length < 2 ^ 20) (hnc:∀ f∈l,∀ b∈f.blocks,b.code.length < 2 ^ 20) (hxs:∀ f∈l,∀ b∈f.blocks,∀ x∈b.code,x.xs.length < 2 ^ 20) (hls:∀ f∈l,∀ b∈f.blocks,∀ x∈b.code,x.ls.length < 2 ^ 20) {L:Nat} (hL:A1.length≤L) (hA1:A.length < A1.length):
 ∀ C,Ext A1 C→(ags (bnF) l 0=none∧∃ C',itW (evC (dn CT) itW base ag1) [] L (iw 140 [(0,.ref w 0 0),(2,.ref A.length 0 0),(16,fv),(17,Iz l.length),(18,Iz 0)]) C=some (.ext 0,iw 140 [(0,.ref w 0 0),(2,.ref A.length 0 0),(16,fv),(17,Iz l.length),(18,Iz l.length),(19,bl false)],C')∧Ext A1 C')∨∃ t,ags (bnF) l 0=some t∧Found A 140 A.length t (itW (evC (dn CT) itW base ag1) [] L (iw 140 [(0,.ref w 0 0),(2,.ref A.length 0 0),(16,fv),(17,Iz l.length),(18,Iz 0)]) C):=by
 intro C0 hC0
 rcases ai9 l a3y (bnF) (fun _ C=>Ext A1 C) (fun k C=>itW (evC (dn CT) itW base ag1) [] L (iw 140 [(0,.ref w 0 0),(2,.ref A.length 0 0),(16,fv),(17,Iz l.length),(18,Iz k)]) C) (Found A 140 A.length) (by
  intro k C hk hE
  have hlt':((k:Int) < (l.length:Int)):=by omega
  have hwk:=w64 (n:=k) (by omega)
  have hle:=hE.le;have hkx:=nk hk a3y;obtain ⟨x,hxe⟩:∃ x,l.getD k a3y=x:=⟨_,rfl⟩;rw [hxe] at hkx ⊢;have hmem:=ak hkx;obtain ⟨a,r,a1,hr,a2,_⟩:=hv.at2 hkx;have hEA:=h1.trans hE;have ld:=a2 C hEA
  have hbC:base≤C.length:=by omega
  have hgg:∀ c,jm (C ++ [Ob.cells 0 c]) C.length 0=some c:=fun c=>dh C 0 c;have hss:∀ c d,(C ++ [c]).set C.length d=C ++ [d]:=fun c d=>ny C c d;have eC:∀ c,Ext C (C ++ [Ob.cells 0 c]):=fun c=>Ext.app _ _;have g2:∀ D,Ext A1 D→jm D A.length 0=some [Iz 0,Iz 0,Iz 0]:=fun D h=>cz hg h;obtain ⟨pv,bv,rfl,p1,p2,p3,hbv⟩:=hr;have hpo:=p1.one;have hbo:=hbv.one
  have hl2:(C ++ [Ob.cells 0 [Sb x.name,pv,bv]]).length=C.length+1:=by simp
  have hcal:=fun D=>axr CT hT.is' x.name base D;unfold bnF;cases hq:mh x.name with
  | false=>
    rw [hq] at hcal;refine .inr ⟨(k,0,0),if_pos rfl,trim L (iw 140 [(2,.ref A.length 0 0),(3,bl true)]) ((C ++ [Ob.cells 0 [Sb x.name,pv,bv]]).set A.length (.cells 0 [Iz k,Iz 0,Iz 0])),?_,?_,?_⟩
    ·have hgc:=g2 (C ++ [Ob.cells 0 [Sb x.name,pv,bv]]) (hE.trans (eC _));rw [dw];simp only [Iz,bl] at hgc hcal;simp only [Iz,bl,rz,aa,simprocAttr,hlt',a1,ld,hbC,hgg,hss,hpo,hbo,di,hcal,hgc,hb]
    ·exact ((hEA.trans (eC _)).set (af _) _).trim (by omega) _
    ·exact aa3 (yf (g2 _ (hE.trans (eC _)))) (by omega)
  | true=>
    rw [hq] at hcal
    obtain ⟨C3,hcon,e3⟩:=axz hT.con hT.idx base (C ++ [Ob.cells 0 [Sb x.name,pv,bv]]) (f:=.fn azh [] []) (p:=fun s=>!mh s) (p1.ext (hEA.trans (eC _))) p2 (fun s _ D _=>⟨D,ati hT.is' h1' base D s,Ext.refl D⟩) (by have:=hps x hmem;omega)
    have hl3:=e3.le;rw [hl2] at hl3;have hgg3:=cz (hgg [Sb x.name,pv,bv]) e3;have hE3:=hE.trans ((eC _).trans e3);cases hq2:x.ps.any (fun s=>!mh s) with
    | true=>
      rw [hq2] at hcon;refine .inr ⟨(k,0,0),if_pos rfl,trim L (iw 140 [(2,.ref A.length 0 0),(3,bl true)]) (C3.set A.length (.cells 0 [Iz k,Iz 0,Iz 0])),?_,?_,?_⟩
      ·have hgc:=g2 C3 hE3;rw [dw];simp only [Iz,bl] at hgc hcal hcon;simp only [Iz,bl,rz,aa,simprocAttr,hlt',a1,ld,hbC,hgg,hss,hpo,hbo,di,hcal,hcon,hgc,hb]
      ·exact ((h1.trans hE3).set (af _) _).trim (by omega) _
      ·exact aa3 (yf (g2 _ hE3)) (by omega)
    | false=>
      rw [hq2] at hcon
      rw [if_neg (show ¬ (!true || false)=true by decide)]
      have hbl:=(wz hbv (h1.trans hE3)).len
      have hin:=bn_l1 (CT:=CT) hT hN base hc h1 hb hg (v16:=fv) (i:=k) (n17:=l.length) (n18:=k) hbv (hnb x hmem) (hnc x hmem) (hxs x hmem) (hls x hmem) (L:=C3.length) (by have:=hE3.le;omega) hA1 C3 hE3
      simp only [Iz,bl] at hcal hcon
      rcases hin with ⟨z1,C2,z2,z3⟩ | ⟨t,z1,D,z2,z3,z4⟩
      ·refine .inl ⟨z1,trim L (iw 140 [(0,.ref w 0 0),(2,.ref A.length 0 0),(16,fv),(17,Iz l.length),(18,Iz (k+1:Nat))]) C2,?_,z3.trim (by omega) _⟩
       rw [dw];simp only [Iz,bl] at z2;simp only [Iz,bl,rz,aa,simprocAttr,hlt',a1,ld,hbC,hgg,hss,hpo,hbo,di,hcal,hcon,hgg3,hbl,z2,hwk]
      ·refine .inr ⟨t,z1,trim L (iw 140 [(2,.ref A.length 0 0),(3,bl true)]) D,?_,z3.trim (by omega) _,aa3 z4 (by omega)⟩
       rw [dw];simp only [Iz,bl] at z2
       simp only [Iz,bl,rz,aa,simprocAttr,hlt',a1,ld,hbC,hgg,hss,hpo,hbo,di,hcal,hcon,hgg3,hbl,z2]) C0 hC0 with ⟨e1,C,e2,e3⟩ | e
 ·refine .inl ⟨e1,trim L (iw 140 [(0,.ref w 0 0),(2,.ref A.length 0 0),(16,fv),(17,Iz l.length),(18,Iz l.length),(19,bl false)]) C,?_,e3.trim (by omega) _⟩
  rw [ry] at e2;refine e2.trans ?_;rw [dw];simp only [Iz,bl,rz,aa,simprocAttr,jo]
 ·rw [ry] at e;exact .inr e
theorem awt (hT:CT bdn=some (.code aj0)) (h1':CT azh=some (.code ak9)) (hB:BadT CT) (hN:ConT CT) (base:Nat) {A:Heap} (hb:base≤A.length) {w sm:Nat} {fv:V} {fs:List FunD} (hc:NC A w sm fv fs):
 ∃ H',dn CT (.fn bdn [] []) [.ref w 0 0] base A=some (axd (ags bnF fs 0),H')∧Ext A H':=by
 have e1:Ext A (A ++ [Ob.cells 0 [Iz 0,Iz 0,Iz 0]]):=Ext.app _ _;have x1:=hc.load e1;have hl:=(hc.rd.ext e1).len;have g1:jm (A ++ [Ob.cells 0 [Iz 0,Iz 0,Iz 0]]) A.length 0=some [Iz 0,Iz 0,Iz 0]:=dh A 0 _
 have hl1:(A ++ [Ob.cells 0 [Iz 0,Iz 0,Iz 0]]).length=A.length+1:=by simp
 rcases bn_l2 (CT:=CT) hB hN base hc e1 hb g1 hc.rd hc.sml.n h1' hc.sml.ps hc.sml.nb hc.sml.nc hc.sml.xs hc.sml.ls (L:=A.length+1) (by omega) (by omega) (A ++ [Ob.cells 0 [Iz 0,Iz 0,Iz 0]]) (Ext.refl _) with ⟨q1,C,q2,q3⟩ | ⟨⟨i,b,k⟩,q1,D,q2,q3,q4⟩
 ·have g2:=cz g1 q3;have g3:=yf (c':=[Iz 0,Iz 0,Iz 0]) g2
  refine ⟨C.set A.length (.cells 0 [Iz 0,Iz 0,Iz 0]),gp (c:=aj0) (k:=1) hT rfl (by decide) aln ?_,(e1.trans q3).set (af _) _⟩
  rw [q1]
  have xR:aac (C.set A.length (.cells 0 [Iz 0,Iz 0,Iz 0])) true 3 (.ref A.length 0 0)=some (.agg [Iz 0,Iz 0,Iz 0]):=by
   show tu _ true 3 _=_;rw [r9,g3];rfl
  simp only [Iz,bl] at x1 hl hl1 q2 g2 xR;simp only [Iz,aj0,rz,aa,simprocAttr,x1,hl,hl1,q2,g2,hb];rw [xR];rfl
 ·refine ⟨D,gp (c:=aj0) (k:=1) hT rfl (by decide) aln ?_,q3⟩
  rw [q1]
  have xR:aac D true 3 (.ref A.length 0 0)=some (.agg [Iz i,Iz b,Iz k]):=by
   show tu _ true 3 _=_;rw [r9,q4];rfl
  simp only [Iz,bl] at x1 hl hl1 q2 xR;simp only [Iz,aj0,rz,aa,simprocAttr,x1,hl,hl1,q2];rw [xR];rfl
end
section
variable {CT:Nat→Option CFun}
theorem atj (hF:FindT CT) (hCl:CT ast=some (.code aet)) (hT1:CT ass=some (.code aec)) (hT:CT bdm=some (.code ajz)) (base:Nat) {A:Heap} (hb:base≤A.length) {w sm:Nat} {fv:V} {fs:List FunD} (hc:NC A w sm fv fs):
 ∃ H',dn CT (.fn bdm [] []) [.ref w 0 0] base A=some (axd (aj2 (fun _=>fun _ _ _ x=>biG x) fs),H')∧Ext A H':=by
 have e1:Ext A (A ++ [Ob.cells 0 [.ref w 0 0]]):=Ext.app _ _;have e2:Ext (A ++ [Ob.cells 0 [.ref w 0 0]]) (A ++ [Ob.cells 0 [.ref w 0 0]] ++ [Ob.cells 0 [Iz 0,Iz 0,Iz 0]]):=Ext.app _ _;have hw:jm (A ++ [Ob.cells 0 [.ref w 0 0]] ++ [Ob.cells 0 [Iz 0,Iz 0,Iz 0]]) A.length 0=some [.ref w 0 0]:=cz (dh A 0 _) e2;have hl:=eu A (Ob.cells 0 [.ref w 0 0])
 have hb1:base≤A.length+1:=by omega
 have hb2:base≤(A ++ [Ob.cells 0 [.ref w 0 0]] ++ [Ob.cells 0 [Iz 0,Iz 0,Iz 0]]).length:=by rw [eu,eu];omega
 obtain ⟨H1,h1,h2⟩:=a4e hF base hb2 (hc.ext (e1.trans e2)) (f:=.fn ass [] [.ref A.length 0 0]) rfl (g:=fun _ _ _ x=>biG x) (fun i f1 hi b x hx k z r hz hr D hD=>aqo hCl hT1 base hb2 (hc.ext (e1.trans e2)) hw hr D hD)
 have g2:jm H1 (A.length+1) 0=some [Iz 0,Iz 0,Iz 0]:=by
  have:=dh (A ++ [Ob.cells 0 [.ref w 0 0]]) 0 [Iz 0,Iz 0,Iz 0];rw [eu] at this;exact cz this h2
 have hwx:=yj hw;cases ho:aj2 (fun _=>fun _ _ _ x=>biG x) fs with
 | none=>
   rw [ho] at h1;have g3:=yf (c':=[Iz 0,Iz 0,Iz 0]) g2
   refine ⟨H1.set (A.length+1) (.cells 0 [Iz 0,Iz 0,Iz 0]),gp (c:=ajz) (k:=1) hT rfl (by decide) alm ?_,((e1.trans e2).trans h2).set (atx _) _⟩
   have xR:aac (H1.set (A.length+1) (.cells 0 [Iz 0,Iz 0,Iz 0])) true 3 (.ref (A.length+1) 0 0)=some (.agg [Iz 0,Iz 0,Iz 0]):=by
    show tu _ true 3 _=_;rw [r9,g3];rfl
   simp only [axd,Iz,bl] at h1 g2 xR;simp only [Iz,ajz,bis,aa,simprocAttr,aa1,hl,hwx,h1,g2,hb1];rw [xR];rfl
 | some t=>
   obtain ⟨i,b,k⟩:=t;rw [ho] at h1;have g3:=yf (c':=[Iz i,Iz b,Iz k]) g2
   refine ⟨H1.set (A.length+1) (.cells 0 [Iz i,Iz b,Iz k]),gp (c:=ajz) (k:=1) hT rfl (by decide) alm ?_,((e1.trans e2).trans h2).set (atx _) _⟩
   have xR:aac (H1.set (A.length+1) (.cells 0 [Iz i,Iz b,Iz k])) true 3 (.ref (A.length+1) 0 0)=some (.agg [Iz i,Iz b,Iz k]):=by
    show tu _ true 3 _=_;rw [r9,g3];rfl
   simp only [axd,Iz,bl] at h1 g2 xR;simp only [Iz,ajz,bis,aa,simprocAttr,aa1,hl,hwx,h1,g2,hb1];rw [xR];rfl
end
theorem atf {CP:Nat→Option CFun} {k:Nat} {a:V} {args:List V} {base:Nat} {H:Heap} {r:V × Heap} (h:dn CP (.fn k [] []) (a :: args) base H=some r):dn CP (.fn k [a] []) args base H=some r:=by
 obtain ⟨n,hn⟩:=ad7 h;refine aql (n:=n) ?_;rw [← hn];cases n <;> rfl
structure RulT (CT:Nat→Option CFun):Prop where
 F:FindT CT
 B:BadT CT
 N:ConT CT
 badName:CT bdn=some (.code aj0)
 badInstr:CT bdm=some (.code ajz)
 badInstr_1:CT ass=some (.code aec)
 badName_1:CT azh=some (.code ak9)
 calls:CT ast=some (.code aet)
 shapes:CT bdo=some (.code apq)
def qh (fs:List FunD):Nat→Option Pt
 | 2=>ags bnF fs 0
 | 9=>aj2 (fun _=>fun _ _ _ x=>biG x) fs
 | _=>none
def fnT (w:Nat):List (Int × V):=[(1,.fn 36 [.ref w 0 0] []),(2,.fn 37 [.ref w 0 0] []),(3,.fn 38 [.ref w 0 0] []),(4,.fn 39 [.ref w 0 0] []),(5,.fn 40 [.ref w 0 0] []),(6,.fn 41 [.ref w 0 0] []),(7,.fn 42 [.ref w 0 0] []),(8,.fn 43 [.ref w 0 0] []),(9,.fn 44 [.ref w 0 0] []),(10,.fn 45 [.ref w 0 0] []),(11,.fn 46 [.ref w 0 0] []),(12,.fn 47 [.ref w 0 0] []),(13,.fn 48 [.ref w 0 0] []),(14,.fn 49 [.ref w 0 0] []),(15,.fn 50 [.ref w 0 0] []),(16,.fn 51 [.ref w 0 0] [])]
section
variable {CT:Nat→Option CFun}
theorem a7c (h:RulT CT) (base:Nat) {A:Heap} (hb:base≤A.length) {w sm:Nat} {fv:V} {fs:List FunD} (hc:NC A w sm fv fs) {r:Nat} (hr:r=2∨r=9):
 ∃ k H',ae2 (fnT w) r=some (.fn k [.ref w 0 0] [])∧dn CT (.fn k [.ref w 0 0] []) [] base A=some (axd (qh fs r),H')∧Ext A H':=by
 rcases hr with rfl | rfl
 ·obtain ⟨H',e1,e2⟩:=awt h.badName h.badName_1 h.B h.N base hb hc;exact ⟨_,H',rfl,atf e1,e2⟩
 ·obtain ⟨H',e1,e2⟩:=atj h.F h.calls h.badInstr_1 h.badInstr base hb hc;exact ⟨_,H',rfl,atf e1,e2⟩
theorem asz (h:RulT CT) (hT:CT a2r=some (.code ag7)) (base:Nat) {A:Heap} (hb:base≤A.length) {fv:V} {fs:List FunD} (hr:sj A fv fs) (hs:Small fs) {r:Nat} (hr2:r=2∨r=9):
 ∃ H',dn CT (.fn a2r [] []) [.agg [fv],.s (.int .u8 r)] base A=some (axd (qh fs r),H')∧Ext A H':=by
 have hfo:=hr.one;obtain ⟨A1,hA1⟩:∃ A1,A ++ [Ob.cells 0 [fv]]=A1:=⟨_,rfl⟩
 have l1:A1.length=A.length+1:=by rw [← hA1,eu]
 obtain ⟨A2,hA2⟩:∃ A2,A1 ++ [Ob.cells 0 [Iz 0,Iz 0,Iz 0]]=A2:=⟨_,rfl⟩
 have l2:A2.length=A.length+2:=by rw [← hA2,eu,l1]
 obtain ⟨A3,hA3⟩:∃ A3,A2 ++ [Ob.map (esI .u8 shT)]=A3:=⟨_,rfl⟩
 have l3:A3.length=A.length+3:=by rw [← hA3,eu,l2]
 obtain ⟨A4,hA4⟩:∃ A4,A3 ++ [Ob.cells 0 [fv,.mp (A.length+2)]]=A4:=⟨_,rfl⟩
 have l4:A4.length=A.length+4:=by rw [← hA4,eu,l3]
 have e1:Ext A A1:=hA1 ▸ Ext.app _ _;have e2:Ext A1 A2:=hA2 ▸ Ext.app _ _;have e3:Ext A2 A3:=hA3 ▸ Ext.app _ _;have e4:Ext A3 A4:=hA4 ▸ Ext.app _ _;obtain ⟨w,hw⟩:∃ w,A.length+3=w:=⟨_,rfl⟩;obtain ⟨A5,hA5⟩:∃ A5,A4 ++ [Ob.map (esI .u8 (fnT w))]=A5:=⟨_,rfl⟩
 have l5:A5.length=A.length+5:=by rw [← hA5,eu,l4]
 have e5:Ext A4 A5:=hA5 ▸ Ext.app _ _;have x1:jm A1 A.length 0=some [fv]:=hA1 ▸ dh A 0 _
 have x2:jm A2 (A.length+1) 0=some [Iz 0,Iz 0,Iz 0]:=by rw [← l1,← hA2];exact dh A1 0 _
 have x2p:=yj (cz x1 e2)
 have ld1:tu A2 true 1 (.ref A.length 0 0)=some (.agg [fv]):=by rw [r9,cz x1 e2];rfl
 have hsh:=ays h.shapes A2.length A2 (af _);rw [hA3,l2] at hsh
 have hc:NC A5 w (A.length+2) fv fs:=by
  refine ⟨?_,hr.ext (e1.trans (e2.trans (e3.trans (e4.trans e5)))),hs,?_⟩
  ·rw [← hw,← l3]
   exact cz (by rw [← hA4];exact dh A3 0 _) e5
  ·refine Ext.at' (e4.trans e5) ?_;rw [← hA3,← l2];simp
 have hA5':A5[A.length+4]?=some (.map (esI .u8 (fnT w))):=by rw [← hA5,← l4];simp
 have hmg:=a9f .u8 hA5' (.s .nilFunc) false (r:Int);rw [if_neg aa8] at hmg
 have hb4:base≤A4.length:=by omega
 have e0:(Ob.map []:Ob)=.map (esI .u8 []):=rfl
 have u1:=wh hb4 .u8 ((fnT w).take 0) 1 (.fn 36 [.ref w 0 0] []) (by rfl)
 have u2:=wh hb4 .u8 ((fnT w).take 1) 2 (.fn 37 [.ref w 0 0] []) (by rfl)
 have u3:=wh hb4 .u8 ((fnT w).take 2) 3 (.fn 38 [.ref w 0 0] []) (by rfl)
 have u4:=wh hb4 .u8 ((fnT w).take 3) 4 (.fn 39 [.ref w 0 0] []) (by rfl)
 have u5:=wh hb4 .u8 ((fnT w).take 4) 5 (.fn 40 [.ref w 0 0] []) (by rfl)
 have u6:=wh hb4 .u8 ((fnT w).take 5) 6 (.fn 41 [.ref w 0 0] []) (by rfl)
 have u7:=wh hb4 .u8 ((fnT w).take 6) 7 (.fn 42 [.ref w 0 0] []) (by rfl)
 have u8:=wh hb4 .u8 ((fnT w).take 7) 8 (.fn 43 [.ref w 0 0] []) (by rfl)
 have u9:=wh hb4 .u8 ((fnT w).take 8) 9 (.fn 44 [.ref w 0 0] []) (by rfl)
 have u10:=wh hb4 .u8 ((fnT w).take 9) 10 (.fn 45 [.ref w 0 0] []) (by rfl)
 have u11:=wh hb4 .u8 ((fnT w).take 10) 11 (.fn 46 [.ref w 0 0] []) (by rfl)
 have u12:=wh hb4 .u8 ((fnT w).take 11) 12 (.fn 47 [.ref w 0 0] []) (by rfl)
 have u13:=wh hb4 .u8 ((fnT w).take 12) 13 (.fn 48 [.ref w 0 0] []) (by rfl)
 have u14:=wh hb4 .u8 ((fnT w).take 13) 14 (.fn 49 [.ref w 0 0] []) (by rfl)
 have u15:=wh hb4 .u8 ((fnT w).take 14) 15 (.fn 50 [.ref w 0 0] []) (by rfl)
 have u16:=wh hb4 .u8 ((fnT w).take 15) 16 (.fn 51 [.ref w 0 0] []) (by rfl)
 rw [show (fnT w).take 15 ++ [(16,.fn 51 [.ref w 0 0] [])]=fnT w from rfl,hA5] at u16;simp only [fnT,bz,df,bn,cu,l4] at u1;simp only [fnT,bz,df,bn,cu,l4] at u2;simp only [fnT,bz,df,bn,cu,l4] at u3;simp only [fnT,bz,df,bn,cu,l4] at u4;simp only [fnT,bz,df,bn,cu,l4] at u5;simp only [fnT,bz,df,bn,cu,l4] at u6;simp only [fnT,bz,df,bn,cu,l4] at u7;simp only [fnT,bz,df,bn,cu,l4] at u8;simp only [fnT,bz,df,bn,cu,l4] at u9;simp only [fnT,bz,df,bn,cu,l4] at u10;simp only [fnT,bz,df,bn,cu,l4] at u11;simp only [fnT,bz,df,bn,cu,l4] at u12;simp only [fnT,bz,df,bn,cu,l4] at u13;simp only [fnT,bz,df,bn,cu,l4] at u14;simp only [fnT,bz,df,bn,cu,l4] at u15;simp only [fnT,bz,df,l4] at u16;have x5:=cz x2 (e3.trans (e4.trans e5))
 have hb1:base≤A.length+1:=by omega
 have hb4':base≤A.length+4:=by omega
 have ee:Ext A A5:=e1.trans (e2.trans (e3.trans (e4.trans e5)));have ea:Ext A A1:=e1;simp only [Iz] at hA2 x5
 ·obtain ⟨k,H1,k1,k2,k3⟩:=a7c h base (A:=A5) (by omega) hc hr2
  rw [k1,anb] at hmg;have g2:=cz x5 k3;cases ho:qh fs r with
  | none=>
    rw [ho] at k2;have g3:=yf (c':=[Iz 0,Iz 0,Iz 0]) g2
    have xR:aac (H1.set (A.length+1) (.cells 0 [Iz 0,Iz 0,Iz 0])) true 3 (.ref (A.length+1) 0 0)=some (.agg [Iz 0,Iz 0,Iz 0]):=by
     show tu _ true 3 _=_;rw [r9,g3];rfl
    refine ⟨H1.set (A.length+1) (.cells 0 [Iz 0,Iz 0,Iz 0]),gp (c:=ag7) (k:=2) hT rfl (by decide) alp ?_,(ee.trans k3).set (atx _) _⟩
    simp only [axd,Iz,bl] at k2 g2 xR;simp only [Iz,ag7,biw,aa,simprocAttr,ae0,aez,aa1,hfo,di,hA1,l1,hA2,l2,ld1,hsh,l3,hA4,l4,hw,hb4',hb4,e0,u1,u2,u3,u4,u5,u6,u7,u8,u9,u10,u11,u12,u13,u14,u15,u16,hmg,k2,g2,hb1];rw [xR];rfl
  | some t=>
    obtain ⟨i,b,q⟩:=t;rw [ho] at k2;have g3:=yf (c':=[Iz i,Iz b,Iz q]) g2
    have xR:aac (H1.set (A.length+1) (.cells 0 [Iz i,Iz b,Iz q])) true 3 (.ref (A.length+1) 0 0)=some (.agg [Iz i,Iz b,Iz q]):=by
     show tu _ true 3 _=_;rw [r9,g3];rfl
    refine ⟨H1.set (A.length+1) (.cells 0 [Iz i,Iz b,Iz q]),gp (c:=ag7) (k:=2) hT rfl (by decide) alp ?_,(ee.trans k3).set (atx _) _⟩
    simp only [axd,Iz,bl] at k2 g2 xR;simp only [Iz,ag7,biw,aa,simprocAttr,ae0,aez,aa1,hfo,di,hA1,l1,hA2,l2,ld1,hsh,l3,hA4,l4,hw,hb4',hb4,e0,u1,u2,u3,u4,u5,u6,u7,u8,u9,u10,u11,u12,u13,u14,u15,u16,hmg,k2,g2,hb1];rw [xR];rfl
end
section
variable {CT:Nat→Option CFun}
theorem bc6 (hT:CT bds=some (.code an1)) (base:Nat) {m b:Nat} {H:Heap} {txt:List UInt8} (hB:Bld m H b txt):dn CT (.fn bds [] []) [.ref b 0 0] base H=some (Iz txt.length,H):=by
 refine oo (c:=an1) hT (by simp [an1]) ?_
 obtain ⟨_,⟨rfl,hg⟩ | ⟨id,g,hg,_⟩⟩:=hB
 ·simp only [an1,biu,aa,simprocAttr,hg]
 ·simp only [an1,biu,aa,simprocAttr,hg]
  try rfl
theorem ber (h:LibT CT) {base m b:Nat} (hb:base≤m) {H:Heap} {txt:List UInt8} (hB:Bld m H b txt) (hl:txt.length≤140737488355328):∃ H',dn CT (.fn bht [] []) [.ref b 0 0] base H=some (.s (.string ⟨txt.toArray⟩),H')∧H.length≤H'.length∧∀ i,i < m→H'[i]?=H[i]?:=by
 obtain ⟨hm,⟨rfl,hg⟩ | ⟨id,g,hg,hH,hid,hne⟩⟩:=hB
 ·refine ⟨H,abz ?_,af _,fun _ _=>rfl⟩;simp only [zm,h.bst,bes,cu,oz,hg]
 ·by_cases h0:txt.length=0
  ·have ht:txt=[]:=jr h0;exact absurd ht hne
  ·refine ⟨H.set id .dead,abz ?_,by simp,fun i hi=>by rw [bq (by omega)]⟩
   simp only [zm,h.bst,bes,cu,oz,hg,hH]
   rw [if_pos ⟨by omega,h0,hl⟩]
   simp only [and_self,if_true]
end
section
variable {CT:Nat→Option CFun}
theorem alv (h:RulT CT) (hT:CT a2r=some (.code ag7)) (base:Nat) {A2:Heap} (hb:base≤A2.length) {p q:Nat} {fv:V} {fs:List FunD} (hr:sj A2 fv fs) (hs:Small fs) (hp:jm A2 p 0=some [fv]) (hq:jm A2 q 0=some [.s (.int .u8 2),.s (.int .u8 9)]) {i r:Nat} (hi:i=0∧r=2∨i=1∧r=9) (ho:qh fs r=none) {C:Heap} (hE:Ext A2 C):
 ∃ C',itW (evC (dn CT) itW base afh) [] A2.length (iw 98 [(1,.ref p 0 0),(18,.sl q 0 0 2 1),(19,Iz 2),(20,Iz i)]) C=itW (evC (dn CT) itW base afh) [] A2.length (iw 98 [(1,.ref p 0 0),(18,.sl q 0 0 2 1),(19,Iz 2),(20,Iz ((i+1:Nat):Int))]) C'∧Ext A2 C':=by
 have hr2:r=2∨r=9:=by omega
 obtain ⟨D,h1,h2⟩:=asz h hT base (A:=C) (by have:=hE.le;omega) (hr.ext hE) hs hr2
 rw [ho] at h1
 have hpl:tu C true 1 (.ref p 0 0)=some (.agg [fv]):=by rw [r9,cz hp hE];rfl
 have hqc:=cz hq hE;have hss:∀ c d,(D ++ [c]).set D.length d=D ++ [d]:=fun c d=>ny D c d;have hgz:∀ c,jm (D ++ [Ob.cells 0 c]) D.length 0=some c:=fun c=>dh D 0 c
 have hbD:base≤D.length:=by have:=(hE.trans h2).le;omega
 refine ⟨trim A2.length (iw 98 [(1,.ref p 0 0),(18,.sl q 0 0 2 1),(19,Iz 2),(20,Iz ((i+1:Nat):Int))]) (D ++ [Ob.cells 0 [Iz 0,Iz 0,Iz 0]]),?_,((hE.trans h2).trans (Ext.app _ _)).trim (af _) _⟩;have d0:decide ((0:Int) < 2)=true:=rfl;have d1:decide ((1:Int) < 2)=true:=rfl
 have u0:((0:Int) < ((2:Nat):Int))=True:=eq_true (by decide)
 have u1:((1:Int) < ((2:Nat):Int))=True:=eq_true (by decide)
 have i0:mq 1 (.sl q 0 0 2 1) (.s (.int .i64 ((0:Nat):Int)))=some (.ref q 0 0):=rfl;have i1:mq 1 (.sl q 0 0 2 1) (.s (.int .i64 ((1:Nat):Int)))=some (.ref q 0 1):=rfl
 have l0:tu C false 1 (.ref q 0 0)=some (.s (.int .u8 2)):=by rw [r9,hqc];rfl
 have l1:tu C false 1 (.ref q 0 1)=some (.s (.int .u8 9)):=by rw [r9,hqc];rfl
 rw [dw]
 rcases hi with ⟨rfl,rfl⟩ | ⟨rfl,rfl⟩
 ·simp only [axd,Iz,bl] at h1 hss hgz;rw [show ((2:Nat):Int)=2 from rfl] at h1
  simp only [Iz,aan,afb,aa,simprocAttr,hpl,d0,u0,i0,l0,h1,hss,hgz,hbD,if_true,cond_true,cond_false,w64 (show 0 < 2 ^ 62 by decide)]
  try rfl
 ·simp only [axd,Iz,bl] at h1 hss hgz;rw [show ((9:Nat):Int)=9 from rfl] at h1
  simp only [Iz,aan,afb,aa,simprocAttr,hpl,d1,u1,i1,l1,h1,hss,hgz,hbD,if_true,cond_true,cond_false,w64 (show 1 < 2 ^ 62 by decide)]
  try rfl
theorem ary (h:RulT CT) (hT:CT a2r=some (.code ag7)) (base:Nat) {A2:Heap} (hb:base≤A2.length) {p q:Nat} {fv:V} {fs:List FunD} (hr:sj A2 fv fs) (hs:Small fs) (hp:jm A2 p 0=some [fv]) (hq:jm A2 q 0=some [.s (.int .u8 2),.s (.int .u8 9)]) {i r:Nat} (hi:i=0∧r=2∨i=1∧r=9) {t:Pt} (ho:qh fs r=some t) {C:Heap} (hE:Ext A2 C):
 ∃ C',itW (evC (dn CT) itW base afh) [] A2.length (iw 98 [(1,.ref p 0 0),(18,.sl q 0 0 2 1),(19,Iz 2),(20,Iz i)]) C=some (.ret,iw 98 [(2,Sb ⟨#[]⟩),(3,Iz 5)],C')∧Ext A2 C':=by
 have hr2:r=2∨r=9:=by omega
 obtain ⟨D,h1,h2⟩:=asz h hT base (A:=C) (by have:=hE.le;omega) (hr.ext hE) hs hr2
 rw [ho] at h1
 have hpl:tu C true 1 (.ref p 0 0)=some (.agg [fv]):=by rw [r9,cz hp hE];rfl
 have hqc:=cz hq hE;have hss:∀ c d,(D ++ [c]).set D.length d=D ++ [d]:=fun c d=>ny D c d;have hgz:∀ c,jm (D ++ [Ob.cells 0 c]) D.length 0=some c:=fun c=>dh D 0 c
 have hbD:base≤D.length:=by have:=(hE.trans h2).le;omega
 obtain ⟨x1,x2,x3⟩:=t;refine ⟨trim A2.length (iw 98 [(2,Sb ⟨#[]⟩),(3,Iz 5)]) (D ++ [Ob.cells 0 [Iz x1,Iz x2,Iz x3]]),?_,((hE.trans h2).trans (Ext.app _ _)).trim (af _) _⟩;have d0:decide ((0:Int) < 2)=true:=rfl;have d1:decide ((1:Int) < 2)=true:=rfl
 have u0:((0:Int) < ((2:Nat):Int))=True:=eq_true (by decide)
 have u1:((1:Int) < ((2:Nat):Int))=True:=eq_true (by decide)
 have i0:mq 1 (.sl q 0 0 2 1) (.s (.int .i64 ((0:Nat):Int)))=some (.ref q 0 0):=rfl;have i1:mq 1 (.sl q 0 0 2 1) (.s (.int .i64 ((1:Nat):Int)))=some (.ref q 0 1):=rfl
 have l0:tu C false 1 (.ref q 0 0)=some (.s (.int .u8 2)):=by rw [r9,hqc];rfl
 have l1:tu C false 1 (.ref q 0 1)=some (.s (.int .u8 9)):=by rw [r9,hqc];rfl
 rw [dw]
 rcases hi with ⟨rfl,rfl⟩ | ⟨rfl,rfl⟩
 ·simp only [axd,Iz,bl] at h1 hss hgz;rw [show ((2:Nat):Int)=2 from rfl] at h1
  simp only [Iz,aan,afb,aa,simprocAttr,hpl,d0,u0,i0,l0,h1,hss,hgz,hbD,if_true,cond_true,cond_false,w64 (show 0 < 2 ^ 62 by decide)]
  try rfl
 ·simp only [axd,Iz,bl] at h1 hss hgz;rw [show ((9:Nat):Int)=9 from rfl] at h1
  simp only [Iz,aan,afb,aa,simprocAttr,hpl,d1,u1,i1,l1,h1,hss,hgz,hbD,if_true,cond_true,cond_false,w64 (show 1 < 2 ^ 62 by decide)]
  try rfl
end
structure PriT (CT:Nat→Option CFun):Prop where
 P:PrT CT
 R:RulT CT
 first:CT a2r=some (.code ag7)
 forms:CT bdv=some (.code apu)
 len:CT bds=some (.code an1)
 print:CT a2x=some (.code aeu)
section
variable {CT:Nat→Option CFun}
theorem a1t (h:PriT CT) (base:Nat) {A:Heap} (hb:base≤A.length) {fv:V} {fs:List FunD} (hr:sj A fv fs) (hs:Small fs) (hbad:(qh fs 2).isSome=true∨(qh fs 9).isSome=true):
 ∃ H',dn CT (.fn a2x [] []) [.agg [fv]] base A=some (.tup [Sb ⟨#[]⟩,Iz 5],H')∧Ext A H':=by
 have hfo:=hr.one;obtain ⟨A1,hA1⟩:∃ A1,A ++ [Ob.cells 0 [fv]]=A1:=⟨_,rfl⟩;obtain ⟨A2,hA2⟩:∃ A2,A1 ++ [Ob.cells 0 [V.s (.int .u8 2),.s (.int .u8 9)]]=A2:=⟨_,rfl⟩
 have l1:A1.length=A.length+1:=by rw [← hA1,eu]
 have l2:A2.length=A.length+2:=by rw [← hA2,eu,l1]
 have e1:Ext A A1:=hA1 ▸ Ext.app _ _;have e2:Ext A1 A2:=hA2 ▸ Ext.app _ _;have x1:jm A2 A.length 0=some [fv]:=cz (hA1 ▸ dh A 0 _) e2
 have x2:jm A2 (A.length+1) 0=some [V.s (.int .u8 2),.s (.int .u8 9)]:=by rw [← l1,← hA2];exact dh A1 0 _
 have hrun:∃ C',itW (evC (dn CT) itW base afh) [] A2.length (iw 98 [(1,.ref A.length 0 0),(18,.sl (A.length+1) 0 0 2 1),(19,Iz 2),(20,Iz ((0:Nat):Int))]) A2=some (.ret,iw 98 [(2,Sb ⟨#[]⟩),(3,Iz 5)],C')∧Ext A2 C':=by
  cases h2:qh fs 2 with
  | some t=>exact ary h.R h.first base (by omega) (hr.ext (e1.trans e2)) hs x1 x2 (.inl ⟨rfl,rfl⟩) h2 (Ext.refl _)
  | none=>
    obtain ⟨C,q1,q2⟩:=alv h.R h.first base (by omega) (hr.ext (e1.trans e2)) hs x1 x2 (.inl ⟨rfl,rfl⟩) h2 (Ext.refl _)
    cases h9:qh fs 9 with
    | none=>rw [h2,h9] at hbad;simp at hbad
    | some t=>
      rw [q1]
      exact ary h.R h.first base (by omega) (hr.ext (e1.trans e2)) hs x1 x2 (.inr ⟨rfl,rfl⟩) h9 q2
 obtain ⟨C',q1,q2⟩:=hrun
 refine ⟨C',gp (c:=aeu) (k:=1) h.print rfl (by decide) agi ?_,(e1.trans e2).trans q2⟩
 rw [l2,show ((0:Nat):Int)=0 from rfl] at q1;simp only [Iz] at q1;simp only [Iz,aeu,afb,aa,simprocAttr,hfo,di,hA1,l1,hA2,l2,show ((2:Nat):Int)=2 from rfl,q1]
 try rfl
theorem a9s {A H H':Heap} (hl:H.length≤H'.length) (hk:∀ i,i < A.length→H'[i]?=H[i]?) (k:Ext A H):Ext A H':=by
 refine ⟨H'.drop A.length,?_⟩;apply uw;intro i;by_cases hi:i < A.length
 ·rw [ag hi,hk i hi,k.get hi]
 ·rw [bg (by omega),jc]
  congr 1
  omega
theorem axf (h:PriT CT) (base:Nat) {A:Heap} (hb:base≤A.length) {fv:V} {fs:List FunD} (hr:sj A fv fs) (hs:Small fs) (h2:qh fs 2=none) (h9:qh fs 9=none) (hsm:∀ f∈fs,SmF f) (hl:(uf fs).length≤140737488355328):
 ∃ H',dn CT (.fn a2x [] []) [.agg [fv]] base A=some (if 1048576 < (uf fs).length then .tup [Sb ⟨#[]⟩,Iz 2] else .tup [Sb ⟨(uf fs).toArray⟩,Iz 0],H')∧Ext A H':=by
 have hfo:=hr.one;have hns:=hs.n;obtain ⟨A1,hA1⟩:∃ A1,A ++ [Ob.cells 0 [fv]]=A1:=⟨_,rfl⟩;obtain ⟨A2,hA2⟩:∃ A2,A1 ++ [Ob.cells 0 [V.s (.int .u8 2),.s (.int .u8 9)]]=A2:=⟨_,rfl⟩
 have l1:A1.length=A.length+1:=by rw [← hA1,eu]
 have l2:A2.length=A.length+2:=by rw [← hA2,eu,l1]
 have e1:Ext A A1:=hA1 ▸ Ext.app _ _;have e2:Ext A1 A2:=hA2 ▸ Ext.app _ _;have x1:jm A2 A.length 0=some [fv]:=cz (hA1 ▸ dh A 0 _) e2
 have x2:jm A2 (A.length+1) 0=some [V.s (.int .u8 2),.s (.int .u8 9)]:=by rw [← l1,← hA2];exact dh A1 0 _
 have hr2:=hr.ext (e1.trans e2)
 obtain ⟨Ca,q1,q2⟩:=alv h.R h.first base (by omega) hr2 hs x1 x2 (.inl ⟨rfl,rfl⟩) h2 (Ext.refl _)
 obtain ⟨Cb,q3,q4⟩:=alv h.R h.first base (by omega) hr2 hs x1 x2 (.inr ⟨rfl,rfl⟩) h9 q2
 have q5:=q1.trans q3;rw [l2,show ((0:Nat):Int)=0 from rfl,show ((1+1:Nat):Int)=2 from rfl] at q5;obtain ⟨C0,hC0⟩:∃ C0,trim (A.length+2) (iw 98 [(1,.ref A.length 0 0),(18,.sl (A.length+1) 0 0 2 1),(19,.s (.int .i64 2)),(20,.s (.int .i64 2)),(21,.s (.bool false))]) Cb=C0:=⟨_,rfl⟩
 have E0:Ext A2 C0:=hC0 ▸ q4.trim (by omega) _
 have hbC0:base≤C0.length:=by have:=E0.le;omega
 have hfm:=a4b h.forms base hbC0;obtain ⟨A0,hA0⟩:∃ A0,C0 ++ [Ob.cells 0 [V.fn 52 [] []]] ++ [Ob.map (esI .u8 (foT C0.length))]=A0:=⟨_,rfl⟩
 have l0:A0.length=C0.length+2:=by rw [← hA0,eu,eu]
 have EA:Ext C0 A0:=hA0 ▸ (Ext.app C0 [Ob.cells 0 [V.fn 52 [] []]]).trans (Ext.app _ _);rw [hA0] at hfm;have hn:jm A0 C0.length 0=some [.fn 52 [] []]:=hA0 ▸ cz (dh C0 0 _) (Ext.app _ _)
 have hm:A0[C0.length+1]?=some (.map (esI .u8 (foT C0.length))):=by
  rw [← hA0,← eu C0 (Ob.cells 0 [V.fn 52 [] []])];simp
 have hrA:=hr2.ext (E0.trans EA);obtain ⟨B0,hB0⟩:∃ B0,A0 ++ [Ob.cells 0 [V.unk,.s (.slice none 0 0)]]=B0:=⟨_,rfl⟩;have EB:Ext A0 B0:=hB0 ▸ Ext.app _ _
 have lB:B0.length=A0.length+1:=by rw [← hB0,eu]
 have hbA:base≤A0.length:=by omega
 obtain ⟨D,g1,g2,g3⟩:=a9j h.P base hbA hn hm hrA hsm (by omega) (L:=A0.length+1) (by omega) (txt:=[]) EB (⟨af _,.inl ⟨rfl,hB0 ▸ dh A0 0 _⟩⟩) (by simp only [gy];omega)
 rw [show ((0:Nat):Int)=0 from rfl] at g1;rw [cu] at g3;obtain ⟨D1,hD1⟩:∃ D1,trim (A0.length+1) (iw 98 [(8,.mp (C0.length+1)),(9,.ref A0.length 0 0),(10,.fn 18 [] [.ref A0.length 0 0]),(35,fv),(36,.s (.int .i64 fs.length)),(37,.s (.int .i64 fs.length)),(38,.s (.bool false))]) D=D1:=⟨_,rfl⟩
 have ED:Ext A0 D1:=hD1 ▸ g2.trim (by omega) _
 have BD:Bld A0.length D1 A0.length (uf fs):=hD1 ▸ g3.trim (by omega) _
 have hln:=bc6 h.len base BD;obtain ⟨D2,hst,s1,s2⟩:=ber h.P.F.W.L hbA BD hl;have ET:Ext A A0:=(e1.trans e2).trans (E0.trans EA)
 have ES:Ext A D2:=a9s s1 (fun i hi=>s2 i (by have:=ET.le;omega)) (ET.trans ED)
 have x1C:=yj (cz x1 (E0.trans (EA.trans EB)));have hll:=RdL.len (RdL.ext (P:=agr) agr.ext hrA EB)
 have hge:decide ((fs.length:Int) < (fs.length:Int))=false:=by simp
 have d2:decide ((2:Int) < 2)=false:=rfl
 have hz0:(∃ H',dn CT (.fn a2x [] []) [.agg [fv]] base A=some (if 1048576 < (uf fs).length then .tup [Sb ⟨#[]⟩,Iz 2] else .tup [Sb ⟨(uf fs).toArray⟩,Iz 0],H')∧Ext A H'):=by
  by_cases hbig:1048576 < (uf fs).length
  ·have hd:decide (((uf fs).length:Int) > 1048576)=true:=by rw [decide_eq_true_eq];omega
   refine ⟨D1,gp (c:=aeu) (k:=1) h.print rfl (by decide) agi ?_,ET.trans ED⟩
   rw [if_pos hbig];simp only [Iz,abw] at q5 g1 hll hln hD1 hB0 hC0;simp only [Iz,aeu,afb,aa,simprocAttr,hfo,di,hA1,l1,hA2,l2,show ((2:Nat):Int)=2 from rfl,q5];rw [dw];simp only [Iz,aan,aeu,afb,aa,simprocAttr,d2,cond_false,hC0,hfm,aa1,hB0,x1C,hll,lB,g1];rw [dw];simp only [Iz,ab8,aeu,afb,aa,simprocAttr,hge,cond_false,cond_true,hD1,hln,hd,hst]
   try rfl
  ·have hd:decide (((uf fs).length:Int) > 1048576)=false:=by rw [decide_eq_false_iff_not];omega
   refine ⟨D2,gp (c:=aeu) (k:=1) h.print rfl (by decide) agi ?_,ES⟩
   rw [if_neg hbig];simp only [Iz,abw] at q5 g1 hll hln hD1 hB0 hC0;simp only [Iz,aeu,afb,aa,simprocAttr,hfo,di,hA1,l1,hA2,l2,show ((2:Nat):Int)=2 from rfl,q5];rw [dw];simp only [Iz,aan,aeu,afb,aa,simprocAttr,d2,cond_false,hC0,hfm,aa1,hB0,x1C,hll,lB,g1];rw [dw];simp only [Iz,ab8,aeu,afb,aa,simprocAttr,hge,cond_false,cond_true,hD1,hln,hd,hst]
   try rfl
 exact hz0
end
def Wd (l:List UInt8):Prop:=l≠[]∧∀ c∈l,33≤c.toNat∧c.toNat≤126
inductive GL:List UInt8→Prop
 | w {l:List UInt8} (h:Wd l):GL l
 | cat {a b:List UInt8} (ha:GL a) (hb:GL b):GL (a ++ b)
 | sp {a b:List UInt8} (ha:GL a) (hb:GL b):GL (a ++ 32 :: b)
structure GoodL (l:List UInt8):Prop where
 ne:l≠[]
 hd:l[0]?≠some 32
 la:l[l.length - 1]?≠some 32
 rng:∀ c∈l,32≤c.toNat∧c.toNat≤126
 dd:∀ j:Nat,l[j]?=some 32→l[j+1]?≠some 32
theorem not32 {c:UInt8} (h:33≤c.toNat):c≠32:=by
 intro e;subst e
 exact absurd h (by decide)
theorem GL.goodL {l:List UInt8} (h:GL l):GoodL l:=by
 induction h with
 | w h=>
   rename_i l;have hn:∀ j:Nat,l[j]?≠some 32:=fun j e=>not32 (h.2 _ (ak e)).1 rfl
   exact ⟨h.1,hn _,hn _,fun c hc=>⟨by have:=(h.2 c hc).1;omega,(h.2 c hc).2⟩,fun j e=>absurd e (hn j)⟩
 | cat ha hb iha ihb=>
   rename_i a b;have la:0 < a.length:=af1.2 iha.ne;have lb:0 < b.length:=af1.2 ihb.ne
   refine ⟨by simp [iha.ne],by rw [ag la];exact iha.hd,?_,?_,?_⟩
   ·rw [az,bg (by omega),show a.length+b.length - 1 - a.length=b.length - 1 by omega]
    exact ihb.la
   ·intro c hc
    rcases ou.1 hc with h | h
    ·exact iha.rng c h
    ·exact ihb.rng c h
   ·intro j h1 h2;by_cases c1:j+1 < a.length
    ·rw [ag (by omega)] at h1 h2
     exact iha.dd j h1 h2
    ·by_cases c2:j < a.length
     ·rw [ag c2] at h1
      obtain rfl:j=a.length - 1:=by omega
      exact iha.la h1
     ·rw [bg (by omega)] at h1 h2
      rw [show j+1 - a.length=j - a.length+1 by omega] at h2
      exact ihb.dd _ h1 h2
 | sp ha hb iha ihb=>
   rename_i a b;have la:0 < a.length:=af1.2 iha.ne;have lb:0 < b.length:=af1.2 ihb.ne
   refine ⟨by simp,by rw [ag la];exact iha.hd,?_,?_,?_⟩
   ·rw [az,fq,bg (by omega),show a.length+(b.length+1) - 1 - a.length=(b.length - 1)+1 by omega,kw]
    exact ihb.la
   ·intro c hc
    rcases ou.1 hc with h | h
    ·exact iha.rng c h
    ·rcases qc.1 h with rfl | h
     ·decide
     ·exact ihb.rng c h
   ·intro j h1 h2;by_cases c1:j+1 < a.length
    ·rw [ag (by omega)] at h1 h2
     exact iha.dd j h1 h2
    ·by_cases c2:j < a.length
     ·rw [ag c2] at h1
      obtain rfl:j=a.length - 1:=by omega
      exact iha.la h1
     ·rw [bg (by omega)] at h1 h2
      rw [show j+1 - a.length=(j - a.length)+1 by omega,kw] at h2
      by_cases c3:j=a.length
      ·subst c3;rw [a6c] at h2;exact ihb.hd h2
      ·obtain ⟨k,hk⟩:∃ k,j - a.length=k+1:=⟨j - a.length - 1,by omega⟩
       rw [hk,kw] at h1;rw [hk] at h2;exact ihb.dd _ h1 h2
theorem ao6 (a b:ByteArray):(a ++ b).data.toList=a.data.toList ++ b.data.toList:=by
 rw [yz,x9]
def GB (b:ByteArray):Prop:=GL b.data.toList
theorem aml {α:Type} (s a b:List α) (l:List (List α)):s.intercalate (a :: b :: l)=a ++ (s ++ s.intercalate (b :: l)):=by
 simp [List.intercalate,List.intersperse]
theorem ahq {α:Type} (s a:List α):s.intercalate [a]=a:=by
 simp [List.intercalate,List.intersperse]
theorem GL.words:∀ (xs:List (List UInt8)),xs≠[]→(∀ x∈xs,GL x)→GL ([32].intercalate xs):=by
 intro xs
 induction xs with
 | nil=>intro h;exact absurd rfl h
 | cons a xs ih=>
   intro _ h;cases xs with
   | nil=>rw [ahq];exact h a gm
   | cons b xs=>
     rw [aml]
     exact .sp (h a gm) (ih (by simp) fun x hx=>h x (fe _ hx))
theorem GB.words {xs:List ByteArray} (hn:xs≠[]) (h:∀ x∈xs,GB x):GB (ko xs):=by
 unfold GB ko abo Lib.join bSp;rw [uq]
 refine GL.words _ (by simpa using hn) fun x hx=>?_
 obtain ⟨b,hb,rfl⟩:=xq.1 hx;exact h b hb
theorem GB.w {b:ByteArray} (h:Wd b.data.toList):GB b:=GL.w h
theorem a5s {i:Nat} {c:UInt8} (h:awu i c=false):33≤c.toNat∧c.toNat≤126:=by
 unfold awu letter at h;by_cases h1:c.toNat=46
 ·omega
 ·by_cases h2:48≤c.toNat∧c.toNat≤57
  ·omega
  ·by_cases h3:(c.toNat ≥ 97∧c.toNat≤122)∨(c.toNat ≥ 65∧c.toNat≤90)∨c.toNat=95
   ·omega
   ·exfalso
    have e1:(decide ((c.toNat:Int) ≥ 97) && decide ((c.toNat:Int)≤122))=false:=by
     rw [← Bool.decide_and,decide_eq_false_iff_not];omega
    have e2:(decide ((c.toNat:Int) ≥ 65) && decide ((c.toNat:Int)≤90))=false:=by
     rw [← Bool.decide_and,decide_eq_false_iff_not];omega
    have e3:((c.toNat:Int) == 95)=false:=by
     rw [beq_eq_false_iff_ne];omega
    have e4:(decide ((c.toNat:Int) < 48) || decide ((c.toNat:Int) > 57))=true:=by
     rw [← Bool.decide_or,decide_eq_true_iff];omega
    have e5:((c.toNat:Int) != 46)=true:=by
     rw [bne_iff_ne];omega
    rw [e1,e2,e3,e4,e5] at h;simp at h
theorem azb:∀ {l:List UInt8} {i:Nat},aee i l=true→∀ c∈l,33≤c.toNat∧c.toNat≤126:=by
 intro l
 induction l with
 | nil=>intro i _ c hc;cases hc
 | cons a l ih=>
   intro i h c hc;rw [aee,dx,qm] at h
   rcases qc.1 hc with rfl | hc
   ·exact a5s h.1
   ·exact ih h.2 c hc
theorem ahp {b:ByteArray} (h:mh b=true):Wd b.data.toList:=by
 unfold mh at h;rw [dx,qm,jq,jq] at h
 exact ⟨by have:=h.1.1.1;simpa using this,azb h.2⟩
theorem agq {op:Bool} {b:ByteArray} (h:ad9 op b=false) (hn:b.data.toList≠[]):Wd b.data.toList:=by
 unfold ad9 acr at h
 have h0:(b.data.toList == [])=false:=by simpa using hn
 rw [h0] at h;cases hi:mh b with
 | true=>exact ahp hi
 | false=>
   rw [hi] at h
   have:an3 b=true:=by
    cases op <;> simp at h;exact h
   unfold an3 at this;rw [beq_iff_eq] at this;rw [this];unfold Wd;decide
structure TI (x:InsD):Prop where
 fo:FormOk x
 d:x.d.data.toList≠[]→Wd x.d.data.toList
 a:x.op=5∨x.op=7∨x.op=8∨x.op=9∨x.op=11→Wd x.a.data.toList
 r:x.op=14→x.a.data.toList=[]∨Wd x.a.data.toList
 b:x.op=9→Wd x.b.data.toList
 f:x.op=4∨x.op=10→Wd x.f.data.toList
 xs:x.op=6∨x.op=10∨x.op=11→∀ s∈x.xs,Wd s.data.toList
 ls:x.op=6∨x.op=12∨x.op=13→∀ s∈x.ls,Wd s.data.toList
theorem a3t {l:List ByteArray} (h:azn l=false):∀ s∈l,s.data.toList≠[]:=by
 intro s hs e;have:=abj.1 h s hs;rw [e] at this;exact this rfl
theorem TI.of {x:InsD} (h1:bnB (bnA (shp x.op) x) (shp x.op) x=false) (h2:biG x=false):TI x:=by
 have fo:=asy h2;unfold bnB bnA at h1;simp only [jq] at h1;obtain ⟨⟨⟨⟨⟨hd,hf⟩,ha⟩,hb⟩,hx⟩,hl⟩:=h1;unfold biG bi1 bi2 at h2;simp only [jq] at h2
 obtain ⟨⟨⟨⟨⟨⟨⟨⟨_,id⟩,ia⟩,ib⟩,ik⟩,if'⟩,ix⟩,il⟩,⟨⟨⟨jd,ja⟩,jb⟩,jf⟩,_⟩:=h2
 have fd:x.d.data.toList≠[]→Wd x.d.data.toList:=fun hn=>by
  cases e:(shp x.op).d with
  | true=>rw [e] at hd;exact agq (by simpa using hd) hn
  | false=>rw [e] at id;exact absurd (by simpa using id) hn
 have fa:(shp x.op).a=true→x.op≠14→Wd x.a.data.toList:=fun e h14=>by
  rw [e] at ha ja;have h14':(x.op != 14)=true:=bne_iff_ne.2 h14;rw [h14'] at ja
  exact agq (by simpa using ha) (by simpa using ja)
 have fb:(shp x.op).b=true→Wd x.b.data.toList:=fun e=>by
  rw [e] at hb jb
  exact agq (by simpa using hb) (by simpa using jb)
 have ff:(shp x.op).f=true→Wd x.f.data.toList:=fun e=>by
  rw [e] at hf jf
  exact agq (by simpa using hf) (by simpa using jf)
 have fx:(shp x.op).xs=true→∀ s∈x.xs,Wd s.data.toList:=fun e s hs=>by
  rw [e,ig,jq] at hx
  exact agq (by have:=abj.1 hx.1 s hs;simpa using this) (a3t hx.2 s hs)
 have fl:(shp x.op).ls=true→∀ s∈x.ls,Wd s.data.toList:=fun e s hs=>by
  rw [e,ig,jq] at hl
  exact agq (by have:=abj.1 hl.1 s hs;simpa using this) (a3t hl.2 s hs)
 refine ⟨fo,fd,fun hh=>?_,fun hh=>?_,fun hh=>?_,fun hh=>?_,fun hh=>?_,fun hh=>?_⟩
 ·rcases hh with e | e | e | e | e <;> exact fa (by rw [e];rfl) (by rw [e];decide)
 ·by_cases hn:x.a.data.toList=[]
  ·exact .inl hn
  ·refine .inr (agq (op:=true) ?_ hn);rw [hh] at ha
   simpa [shp] using ha
 ·exact fb (by rw [hh];rfl)
 ·rcases hh with e | e <;> exact ff (by rw [e];rfl)
 ·rcases hh with e | e | e <;> exact fx (by rw [e];rfl)
 ·rcases hh with e | e | e <;> exact fl (by rw [e];rfl)
theorem GB.two {a b:ByteArray} (ha:GB a) (hb:GB b):GB (ko [a,b]):=GB.words (by simp) fun x hx=>by
 simp only [qc,aav,or_false] at hx
 rcases hx with rfl | rfl <;> assumption
theorem GB.lit {b:ByteArray} (h:b.data.toList≠[]∧b.data.toList.all (fun c=>decide (33≤c.toNat) && decide (c.toNat≤126))=true):GB b:=.w ⟨h.1,fun c hc=>by
 have:=bi.1 h.2 c hc
 simpa using this⟩
theorem aq1 (a b:ByteArray):(ko [a,b]).data.toList=a.data.toList ++ (32 :: b.data.toList):=by
 unfold ko abo Lib.join bSp;rw [uq,jv,jv,lh,aml,ahq];rfl
theorem ahl (a:ByteArray):(adi [a]).data.toList=a.data.toList ++ [10]:=by
 unfold adi;rw [ao6];unfold abo Lib.join;rw [uq,jv,lh,ahq]
theorem ahk (a b:ByteArray):(adi [a,b]).data.toList=(a.data.toList ++ b.data.toList) ++ [10]:=by
 unfold adi;rw [ao6];unfold abo Lib.join;rw [uq,jv,jv,lh,aml,ahq];rfl
structure TF (f:FunD):Prop where
 n:Wd f.name.data.toList
 ps:∀ s∈f.ps,Wd s.data.toList
 b:∀ b∈f.blocks,Wd b.label.data.toList∧∀ x∈b.code,TI x
theorem bbb {G:Nat→Nat→Nat→Nat→InsD→Bool} {fs:List FunD} (h:aj2 G fs=none) {i:Nat} {f:FunD} (hf:fs[i]?=some f) {b:Nat} {x:BlkD} (hb:f.blocks[b]?=some x) {k:Nat} {y:InsD} (hy:x.code[k]?=some y):G (cF (fs.take i)+cI (f.blocks.take b)+k) i b k y=false:=by
 have h1:=yh.1 h i f hf;have h2:=yh.1 h1 b x hb;have h3:=yh.1 h2 k y hy;simp only [om] at h3;unfold giI at h3;rw [ite_eq_right_iff] at h3;cases e:G (cF (fs.take i)+cI (f.blocks.take b)+k) i b k y with
 | false=>rfl
 | true=>cases h3 e
theorem a3j {c:Prop} [Decidable c] {t:Pt} {r:Option Pt} (h:(if c then some t else r)=none):¬ c∧r=none:=by
 split at h
 ·cases h
 ·exact ⟨by assumption,h⟩
theorem ba5 {b:Bool} (h:¬ (!b)=true):b=true:=by cases b <;> simp_all
theorem TF.of {fs:List FunD} (h2:qh fs 2=none) (h9:qh fs 9=none):∀ f∈fs,TF f:=by
 intro f hf;obtain ⟨i,hi⟩:=pq.1 hf
 have b1:=a3j (by have:=yh.1 (show ags bnF fs 0=none from h2) i f hi;exact this)
 have hnp:=b1.1;rw [l6,not_or] at hnp;refine ⟨ahp (ba5 hnp.1),fun s hs=>ahp ?_,fun b hb=>?_⟩
 ·cases e:mh s with
  | true=>rfl
  | false=>exact absurd (ui.2 ⟨s,hs,by rw [e];rfl⟩) hnp.2
 ·obtain ⟨j,hj⟩:=pq.1 hb;have b2:=a3j (yh.1 b1.2 j b hj);refine ⟨ahp (ba5 b2.1),fun x hx=>?_⟩;obtain ⟨k,hk⟩:=pq.1 hx;have b3:=(a3j (yh.1 b2.2 k x hk)).1;exact .of (Bool.not_eq_true _ ▸ b3) (bbb (show aj2 (fun _=>fun _ _ _ x=>biG x) fs=none from h9) hi hj hk)
theorem aja {S T:Type} (n:Nat) (P:Nat→S→Prop) (Q:Nat→Prop) (X:Nat→S→T) (R:T→Prop) (step:∀ i s,i < n→P i s→(Q i∧∃ s',X i s=X (i+1) s'∧P (i+1) s')∨R (X i s)):∀ s,P 0 s→((∀ i,i < n→Q i)∧∃ s',X 0 s=X n s'∧P n s')∨R (X 0 s):=by
 have key:∀ d i s,i+d=n→P i s→(∀ j,j < i→Q j)→((∀ j,j < n→Q j)∧∃ s',X i s=X n s'∧P n s')∨R (X i s):=by
  intro d
  induction d with
  | zero=>
    intro i s hi hp hq
    obtain rfl:i=n:=by omega
    exact .inl ⟨hq,s,rfl,hp⟩
  | succ d ih=>
    intro i s hi hp hq
    rcases step i s (by omega) hp with ⟨h1,s1,h2,h3⟩ | h
    ·rw [h2]
     exact ih (i+1) s1 (by omega) h3 fun j hj=>by
      by_cases e:j=i
      ·rw [e];exact h1
      ·exact hq j (by omega)
    ·exact .inr h
 exact fun s hp=>key n 0 s (by omega) hp fun j hj=>absurd hj (bbk _)
def az4 (s:ByteArray):Bool:=decide ((s.size:Int) > 200)
def bkf (x:InsD):Prop:=x.d.size≤200∧x.a.size≤200∧x.b.size≤200∧x.f.size≤200∧x.xs.length≤20∧x.ls.length≤20∧(∀ s∈x.xs,s.size≤200)∧∀ s∈x.ls,s.size≤200
def BlkL (b:BlkD):Prop:=b.label.size≤200∧b.code.length≤200∧∀ x∈b.code,bkf x
def FunL (f:FunD):Prop:=f.name.size≤200∧f.ps.length≤20∧(∀ s∈f.ps,s.size≤200)∧f.blocks.length≤70∧∀ b∈f.blocks,BlkL b
structure Light (fs:List FunD):Prop where
 n:fs.length≤70
 f:∀ f∈fs,FunL f
 c:cF fs≤200
theorem Light.small {fs:List FunD} (h:Light fs):Small fs:=by
 refine ⟨by have:=h.n;omega,fun f hf=>?_,fun f hf=>?_,fun f hf b hb=>?_,fun f hf b hb x hx=>?_,fun f hf b hb x hx=>?_⟩
 ·have:=(h.f f hf).2.1;omega
 ·have:=(h.f f hf).2.2.2.1;omega
 ·have:=((h.f f hf).2.2.2.2 b hb).2.1;omega
 ·have:=(((h.f f hf).2.2.2.2 b hb).2.2 x hx).2.2.2.2.1;omega
 ·have:=(((h.f f hf).2.2.2.2 b hb).2.2 x hx).2.2.2.2.2.1;omega
theorem akr {α:Type} {l:List α} {d:α} {P:α→Prop} (h:∀ i,i < l.length→P (l.getD i d)):∀ x∈l,P x:=by
 intro x hx;obtain ⟨i,hi⟩:=pq.1 hx;have:=h i (ae.1 hi).1
 rwa [getD_some hi] at this
theorem awr {l:List ByteArray} (h:l.any az4=false):∀ s∈l,s.size≤200:=by
 intro s hs;have:=abj.1 h s hs;unfold az4 at this;rw [decide_eq_true_iff] at this;omega
section
variable {CT:Nat→Option CFun}
theorem ap2 (hT:CT avv=some (.code ag8)) (base:Nat) (A:Heap) {v:V} {l:List ByteArray} (hv:Rd A v (l.map Sb)) (hw:aa7 v) (hl:l.length < 2 ^ 63):
 dn CT (.fn avv [] []) [v] base A=some (bl (l.any az4),A):=by
 have hlen:=qf hv
 have step:∀ i,i < l.length→az4 (l.getD i ⟨#[]⟩)=false→itW (evC (dn CT) itW base ado) [] A.length (iw 16 [(0,v),(3,Iz i)]) A=itW (evC (dn CT) itW base ado) [] A.length (iw 16 [(0,v),(3,Iz (i+1:Nat))]) A:=by
  intro i hi hp
  have hlt':((i:Int) < (l.length:Int)):=by omega
  have hwk:IntKind.i64.wrap ((i:Int)+1)=((i+1:Nat):Int):=by rw [IntKind.wrap_i64];omega
  obtain ⟨a,a1,a2⟩:=ab0 hv hw hi;unfold az4 at hp;rw [dw];simp only [Iz,Sb,a6a,aa,simprocAttr,hlen,hlt',a1,a2,hp,hwk,mr rfl]
 refine oo (c:=ag8) hT (by simp [ag8]) ?_
 rcases amk l.length (fun i=>az4 (l.getD i ⟨#[]⟩)) (fun i=>itW (evC (dn CT) itW base ado) [] A.length (iw 16 [(0,v),(3,Iz i)]) A) step with ⟨h1,h2⟩ | ⟨i,hi,h1,h2,h3⟩
 ·have hall:l.any az4=false:=by
   rw [abj];intro x hx;have:=akr (P:=fun s=>az4 s=false) h1 x hx;rw [this];decide
  rw [hall]
  have hend:itW (evC (dn CT) itW base ado) [] A.length (iw 16 [(0,v),(3,Iz l.length)]) A=some (.ext 0,iw 16 [(0,v),(3,Iz l.length),(7,bl false)],A):=by
   rw [dw];simp only [Iz,Sb,bl,a6a,aa,simprocAttr,hlen,jo,mr rfl]
  have h4:=h2.trans hend;simp only [Iz,Sb,bl,ry] at h4;simp only [Iz,Sb,ag8,a6a,aa,simprocAttr,h4]
 ·have hany:l.any az4=true:=ui.2 ⟨_,ak (nk hi ⟨#[]⟩),h1⟩;rw [hany]
  have hlt':((i:Int) < (l.length:Int)):=by omega
  obtain ⟨a,a1,a2⟩:=ab0 hv hw hi
  have hend:itW (evC (dn CT) itW base ado) [] A.length (iw 16 [(0,v),(3,Iz i)]) A=some (.ret,iw 16 [(2,bl true)],A):=by
   unfold az4 at h1;rw [dw];simp only [Iz,Sb,bl,a6a,aa,simprocAttr,hlen,hlt',a1,a2,h1,mr rfl]
  have h4:=h3.trans hend;simp only [Iz,Sb,bl,ry] at h4;simp only [Iz,Sb,ag8,a6a,aa,simprocAttr,h4]
def Hv (A:Heap) (r:Option (Ex × List V × Heap)):Prop:=∃ D,r=some (.ret,iw 133 [(2,bl true)],D)∧Ext A D
theorem hv_l0 (hL:CT avv=some (.code ag8)) (base:Nat) {A A1:Heap} (h1:Ext A A1) (hb:base≤A1.length) {p q i b:Nat} {n3:Int} {cv:V} {l:List InsD} (hv:RdL 8 p9 A cv l) (hn:l.length < 2 ^ 62) {L:Nat} (hL1:A1.length≤L):
 ∀ C,Ext A1 C→((∀ x∈l,bkf x)∧∃ C',itW (evC (dn CT) itW base alf) [] L (iw 133 [(1,.ref p 0 0),(3,Iz n3),(4,Iz i),(5,.ref q 0 0),(6,Iz b),(7,cv),(8,Iz 0)]) C=some (.ext 4,iw 133 [(1,.ref p 0 0),(3,Iz n3),(4,Iz i),(5,.ref q 0 0),(6,Iz b),(7,cv),(8,Iz l.length),(82,bl false)],C')∧Ext A1 C')∨Hv A1 (itW (evC (dn CT) itW base alf) [] L (iw 133 [(1,.ref p 0 0),(3,Iz n3),(4,Iz i),(5,.ref q 0 0),(6,Iz b),(7,cv),(8,Iz 0)]) C):=by
 intro C0 hC0
 rcases aja l.length (fun _ C=>Ext A1 C) (fun k=>bkf (l.getD k a3o)) (fun k C=>itW (evC (dn CT) itW base alf) [] L (iw 133 [(1,.ref p 0 0),(3,Iz n3),(4,Iz i),(5,.ref q 0 0),(6,Iz b),(7,cv),(8,Iz k)]) C) (Hv A1) (by
  intro k C hk hE
  have hlt':((k:Int) < (l.length:Int)):=by omega
  have hwk:=w64 (n:=k) (by omega)
  have hkx:=nk hk a3o;obtain ⟨x,hxe⟩:∃ x,l.getD k a3o=x:=⟨_,rfl⟩;rw [hxe] at hkx ⊢;obtain ⟨a,r,a1,hr,a2,_⟩:=hv.at2 hkx;have hEA:=h1.trans hE;have ld:=a2 C hEA
  have hbC:base≤C.length:=by have:=hE.le;omega
  have hcl:=(zi hv hEA).len;obtain ⟨av,lv,rfl,q1,q2,q3,q4,q5,q6⟩:=hr;have hav:=q1.one;have hlv:=q3.one;obtain ⟨D,hD⟩:∃ D,C ++ [Ob.cells 0 (jg x av lv)]=D:=⟨_,rfl⟩;have eD:Ext C D:=hD ▸ Ext.app _ _;have hgg:jm D C.length 0=some (jg x av lv):=hD ▸ dh C 0 _;have hgg':∀ c,jm (C ++ [Ob.cells 0 c]) C.length 0=some c:=fun c=>dh C 0 c;have hss:∀ c d,(C ++ [c]).set C.length d=C ++ [d]:=fun c d=>ny C c d;have hxl:=qf (q1.ext (hEA.trans eD));have hll:=qf (q3.ext (hEA.trans eD));have hca:=ap2 hL base D (q1.ext (hEA.trans eD)) q2 q5;have hcb:=ap2 hL base D (q3.ext (hEA.trans eD)) q4 q6;have eE:Ext A1 D:=hE.trans eD;simp only [jg,Iz,bl] at ld hD hgg hca hcb
  cases g1:(((((decide ((x.d.size:Int) > 200) || decide ((x.a.size:Int) > 200)) || decide ((x.b.size:Int) > 200)) || decide ((x.f.size:Int) > 200)) || decide ((x.xs.length:Int) > 20)) || decide ((x.ls.length:Int) > 20)) with
  | true=>
    refine .inr ⟨trim L (iw 133 [(2,bl true)]) D,?_,eE.trim hL1 _⟩;rw [dw];simp only [jg,Iz,bl,ato,aa,simprocAttr,hcl,hlt',a1,ld,hbC,hD,hgg,hgg',hss,hav,hlv,di,hxl,hll,g1]
  | false=>
    cases g2:x.xs.any az4 with
    | true=>
      rw [g2] at hca;refine .inr ⟨trim L (iw 133 [(2,bl true)]) D,?_,eE.trim hL1 _⟩;rw [dw];simp only [jg,Iz,bl,ato,aa,simprocAttr,hcl,hlt',a1,ld,hbC,hD,hgg,hgg',hss,hav,hlv,di,hxl,hll,g1,hca]
    | false=>
      rw [g2] at hca;cases g3:x.ls.any az4 with
      | true=>
        rw [g3] at hcb;refine .inr ⟨trim L (iw 133 [(2,bl true)]) D,?_,eE.trim hL1 _⟩;rw [dw];simp only [jg,Iz,bl,ato,aa,simprocAttr,hcl,hlt',a1,ld,hbC,hD,hgg,hgg',hss,hav,hlv,di,hxl,hll,g1,hca,hcb]
      | false=>
        rw [g3] at hcb;refine .inl ⟨?_,trim L (iw 133 [(1,.ref p 0 0),(3,Iz n3),(4,Iz i),(5,.ref q 0 0),(6,Iz b),(7,cv),(8,Iz (k+1:Nat))]) D,?_,eE.trim hL1 _⟩
        ·simp only [jq,decide_eq_false_iff_not] at g1;obtain ⟨⟨⟨⟨⟨w1,w2⟩,w3⟩,w4⟩,w5⟩,w6⟩:=g1
         exact ⟨by omega,by omega,by omega,by omega,by omega,by omega,awr g2,awr g3⟩
        ·rw [dw]
         simp only [jg,Iz,bl,ato,aa,simprocAttr,hcl,hlt',a1,ld,hbC,hD,hgg,hgg',hss,hav,hlv,di,hxl,hll,g1,hca,hcb,hwk]) C0 hC0 with ⟨e1,C,e2,e3⟩ | e
 ·refine .inl ⟨akr e1,trim L (iw 133 [(1,.ref p 0 0),(3,Iz n3),(4,Iz i),(5,.ref q 0 0),(6,Iz b),(7,cv),(8,Iz l.length),(82,bl false)]) C,?_,e3.trim hL1 _⟩;rw [ry] at e2;refine e2.trans ?_;have hcl:=(zi hv (h1.trans e3)).len;rw [dw];simp only [Iz,bl,ato,aa,simprocAttr,hcl,jo]
 ·rw [ry] at e;exact .inr e
theorem hv_l1 (hL:CT avv=some (.code ag8)) (base:Nat) {A A1:Heap} (h1:Ext A A1) (hb:base≤A1.length) {p q i:Nat} {nm:ByteArray} {pv bv:V} (hq:jm A1 q 0=some [Sb nm,pv,bv]) {l:List BlkD} (hv:RdL 2 aay A bv l) (hn:l.length < 2 ^ 20) {L:Nat} (hL1:A1.length≤L) {n0:Nat} (hn0:n0≤200):
 ∀ C,Ext A1 C→(((∀ x∈l,BlkL x)∧n0+cI l≤200)∧∃ C',itW (evC (dn CT) itW base ald) [] L (iw 133 [(1,.ref p 0 0),(3,Iz n0),(4,Iz i),(5,.ref q 0 0),(6,Iz 0)]) C=some (.ext 2,iw 133 [(1,.ref p 0 0),(3,Iz (n0+cI l:Nat)),(4,Iz i),(5,.ref q 0 0),(6,Iz l.length),(51,bl false)],C')∧Ext A1 C')∨Hv A1 (itW (evC (dn CT) itW base ald) [] L (iw 133 [(1,.ref p 0 0),(3,Iz n0),(4,Iz i),(5,.ref q 0 0),(6,Iz 0)]) C):=by
 intro C0 hC0
 rcases aja l.length (fun k (s:Heap)=>Ext A1 s∧n0+cI (l.take k)≤200) (fun k=>BlkL (l.getD k a5q)) (fun k (s:Heap)=>itW (evC (dn CT) itW base ald) [] L (iw 133 [(1,.ref p 0 0),(3,Iz (n0+cI (l.take k):Nat)),(4,Iz i),(5,.ref q 0 0),(6,Iz k)]) s) (Hv A1) (by
  intro k C hk ⟨hE,hsum⟩
  have hlt':((k:Int) < (l.length:Int)):=by omega
  have hwk:=w64 (n:=k) (by omega)
  have hkx:=nk hk a5q;obtain ⟨x,hxe⟩:∃ x,l.getD k a5q=x:=⟨_,rfl⟩;rw [hxe] at hkx ⊢;have hct:=a5k hkx;obtain ⟨m,hm⟩:∃ m,n0+cI (l.take k)=m:=⟨_,rfl⟩
  have hm2:n0+cI (l.take (k+1))=m+x.code.length:=by omega
  rw [hm] at hsum;rw [hm,hm2];obtain ⟨a,r,a1,hr,_,a3⟩:=hv.at2 hkx;have hEA:=h1.trans hE
  have hbC:base≤C.length:=by have:=hE.le;omega
  have hgq:=cz hq hE;have hbl:=(wz hv hEA).len;obtain ⟨cv,rfl,hcv⟩:=hr;obtain ⟨b0,b1,b2⟩:=a3 0 _ rfl;obtain ⟨c0,c1,c2⟩:=a3 1 _ rfl;have b2':=b2 C hEA;have c2':=c2 C hEA;have hcl:=(zi hcv hEA).len
  have hw2:IntKind.i64.wrap (200 - (m:Int))=200 - (m:Int):=by rw [IntKind.wrap_i64];omega
  simp only [Iz,Sb] at hgq b2'
  cases g1:(decide ((x.code.length:Int) > 200 - (m:Int)) || decide ((x.label.size:Int) > 200)) with
  | true=>
    refine .inr ⟨trim L (iw 133 [(2,bl true)]) C,?_,hE.trim hL1 _⟩;rw [dw];simp only [Iz,bl,ato,aa,simprocAttr,hgq,hbl,hlt',a1,b1,b2',c1,c2',hcl,hw2,g1]
  | false=>
    simp only [jq,decide_eq_false_iff_not] at g1
    have g1':(decide ((x.code.length:Int) > 200 - (m:Int)) || decide ((x.label.size:Int) > 200))=false:=by simp only [jq,decide_eq_false_iff_not];exact g1
    have hw3:IntKind.i64.wrap ((m:Int)+(x.code.length:Int))=((m+x.code.length:Nat):Int):=by rw [IntKind.wrap_i64];omega
    rcases hv_l0 hL base hEA hbC (p:=p) (q:=q) (i:=i) (b:=k) (n3:=(m+x.code.length:Nat)) hcv (by omega) (af C.length) C (Ext.refl C) with ⟨z1,D,z2,z3⟩ | ⟨D,z2,z3⟩
    ·refine .inl ⟨⟨by omega,by omega,z1⟩,trim L (iw 133 [(1,.ref p 0 0),(3,Iz (m+x.code.length:Nat)),(4,Iz i),(5,.ref q 0 0),(6,Iz (k+1:Nat))]) D,?_,(hE.trans z3).trim hL1 _,by omega⟩
     rw [dw];simp only [Iz,bl] at z2;simp only [Iz,bl,ato,aa,simprocAttr,hgq,hbl,hlt',a1,b1,b2',c1,c2',hcl,hw2,hw3,g1',z2,hwk]
    ·refine .inr ⟨trim L (iw 133 [(2,bl true)]) D,?_,(hE.trans z3).trim hL1 _⟩;rw [dw];simp only [Iz,bl] at z2
     simp only [Iz,bl,ato,aa,simprocAttr,hgq,hbl,hlt',a1,b1,b2',c1,c2',hcl,hw2,hw3,g1',z2]) C0 ⟨hC0,by rw [df];exact hn0⟩ with ⟨e1,C,e2,e3,e4⟩ | e
 ·rw [ky] at e2 e4;refine .inl ⟨⟨akr e1,e4⟩,trim L (iw 133 [(1,.ref p 0 0),(3,Iz (n0+cI l:Nat)),(4,Iz i),(5,.ref q 0 0),(6,Iz l.length),(51,bl false)]) C,?_,e3.trim hL1 _⟩;rw [ry,df,show n0+cI []=n0 from rfl] at e2;refine e2.trans ?_;have hcl:=(wz hv (h1.trans e3)).len;have hgq:=cz hq e3;rw [dw];simp only [Iz,bl,Sb] at hgq;simp only [Iz,bl,ato,aa,simprocAttr,hgq,hcl,jo]
 ·rw [ry,df,show n0+cI []=n0 from rfl] at e;exact .inr e
theorem hv_l2 (hL:CT avv=some (.code ag8)) (base:Nat) {A A1:Heap} (h1:Ext A A1) (hb:base≤A1.length) {p:Nat} {fv:V} (hp:jm A1 p 0=some [fv]) {l:List FunD} (hv:RdL 3 agr A fv l) (hn:l.length≤70) {L:Nat} (hL1:A1.length≤L):
 ∀ C,Ext A1 C→(((∀ x∈l,FunL x)∧cF l≤200)∧∃ C',itW (evC (dn CT) itW base alb) [] L (iw 133 [(1,.ref p 0 0),(3,Iz 0),(4,Iz 0)]) C=some (.ext 0,iw 133 [(1,.ref p 0 0),(3,Iz (cF l:Nat)),(4,Iz l.length),(18,bl false)],C')∧Ext A1 C')∨Hv A1 (itW (evC (dn CT) itW base alb) [] L (iw 133 [(1,.ref p 0 0),(3,Iz 0),(4,Iz 0)]) C):=by
 intro C0 hC0
 rcases aja l.length (fun k (s:Heap)=>Ext A1 s∧cF (l.take k)≤200) (fun k=>FunL (l.getD k a3y)) (fun k (s:Heap)=>itW (evC (dn CT) itW base alb) [] L (iw 133 [(1,.ref p 0 0),(3,Iz (cF (l.take k):Nat)),(4,Iz k)]) s) (Hv A1) (by
  intro k C hk ⟨hE,hsum⟩
  have hlt':((k:Int) < (l.length:Int)):=by omega
  have hwk:=w64 (n:=k) (by omega)
  have hkx:=nk hk a3y;obtain ⟨x,hxe⟩:∃ x,l.getD k a3y=x:=⟨_,rfl⟩;rw [hxe] at hkx ⊢;have hct:=a5l hkx;obtain ⟨m,hm⟩:∃ m,cF (l.take k)=m:=⟨_,rfl⟩
  have hm2:cF (l.take (k+1))=m+cI x.blocks:=by omega
  rw [hm] at hsum;rw [hm,hm2];obtain ⟨a,r,a1,hr,a2,_⟩:=hv.at2 hkx;have hEA:=h1.trans hE;have ld:=a2 C hEA
  have hbC:base≤C.length:=by have:=hE.le;omega
  have hgp:=cz hp hE;have hfl:=(sj.ext hv hEA).len;obtain ⟨pv,bv,rfl,q1,q2,q3,hbv⟩:=hr;have hpo:=q1.one;have hbo:=hbv.one;obtain ⟨D,hD⟩:∃ D,C ++ [Ob.cells 0 [Sb x.name,pv,bv]]=D:=⟨_,rfl⟩;have eD:Ext C D:=hD ▸ Ext.app _ _
  have hlD:D.length=C.length+1:=by rw [← hD,eu]
  have hgg:jm D C.length 0=some [Sb x.name,pv,bv]:=hD ▸ dh C 0 _;have hgg':∀ c,jm (C ++ [Ob.cells 0 c]) C.length 0=some c:=fun c=>dh C 0 c;have hss:∀ c d,(C ++ [c]).set C.length d=C ++ [d]:=fun c d=>ny C c d;have hpl:=qf (q1.ext (hEA.trans eD));have hbl:=(wz hbv (hEA.trans eD)).len;have hca:=ap2 hL base D (q1.ext (hEA.trans eD)) q2 q3;have eE:Ext A1 D:=hE.trans eD;simp only [Iz,bl,Sb] at ld hD hgg hca hgp
  cases g1:((decide ((x.name.size:Int) > 200) || decide ((x.ps.length:Int) > 20)) || decide ((x.blocks.length:Int) > 70)) with
  | true=>
    refine .inr ⟨trim L (iw 133 [(2,bl true)]) D,?_,eE.trim hL1 _⟩;rw [dw];simp only [Iz,bl,ato,aa,simprocAttr,hgp,hfl,hlt',a1,ld,hbC,hD,hgg,hgg',hss,hpo,hbo,di,hpl,hbl,g1]
  | false=>
    simp only [jq,decide_eq_false_iff_not] at g1
    have g1':((decide ((x.name.size:Int) > 200) || decide ((x.ps.length:Int) > 20)) || decide ((x.blocks.length:Int) > 70))=false:=by simp only [jq,decide_eq_false_iff_not];exact g1
    cases g2:x.ps.any az4 with
    | true=>
      rw [g2] at hca;refine .inr ⟨trim L (iw 133 [(2,bl true)]) D,?_,eE.trim hL1 _⟩;rw [dw];simp only [Iz,bl,ato,aa,simprocAttr,hgp,hfl,hlt',a1,ld,hbC,hD,hgg,hgg',hss,hpo,hbo,di,hpl,hbl,g1',hca]
    | false=>
      rw [g2] at hca
      rcases hv_l1 hL base (hEA.trans eD) (by omega) (p:=p) (q:=C.length) (i:=k) (hD ▸ dh C 0 _) hbv (by omega) (af D.length) hsum D (Ext.refl D) with ⟨⟨z0,z1⟩,E,z2,z3⟩ | ⟨E,z2,z3⟩
      ·refine .inl ⟨⟨by omega,by omega,awr g2,by omega,z0⟩,trim L (iw 133 [(1,.ref p 0 0),(3,Iz (m+cI x.blocks:Nat)),(4,Iz (k+1:Nat))]) E,?_,(eE.trans z3).trim hL1 _,by omega⟩
       rw [dw];simp only [Iz,bl,hlD] at z2;simp only [Iz,bl,ato,aa,simprocAttr,hgp,hfl,hlt',a1,ld,hbC,hD,hlD,hgg,hgg',hss,hpo,hbo,di,hpl,hbl,g1',hca,z2,hwk]
      ·refine .inr ⟨trim L (iw 133 [(2,bl true)]) E,?_,(eE.trans z3).trim hL1 _⟩;rw [dw];simp only [Iz,bl,hlD] at z2
       simp only [Iz,bl,ato,aa,simprocAttr,hgp,hfl,hlt',a1,ld,hbC,hD,hlD,hgg,hgg',hss,hpo,hbo,di,hpl,hbl,g1',hca,z2]) C0 ⟨hC0,by rw [df];exact gq _⟩ with ⟨e1,C,e2,e3,e4⟩ | e
 ·rw [ky] at e2 e4;refine .inl ⟨⟨akr e1,e4⟩,trim L (iw 133 [(1,.ref p 0 0),(3,Iz (cF l:Nat)),(4,Iz l.length),(18,bl false)]) C,?_,e3.trim hL1 _⟩;rw [df,show cF []=0 from rfl,ry] at e2;refine e2.trans ?_;have hcl:=(sj.ext hv (h1.trans e3)).len;have hgp:=cz hp e3;rw [dw];simp only [Iz,bl,ato,aa,simprocAttr,hgp,hcl,jo]
 ·rw [df,show cF []=0 from rfl,ry] at e;exact .inr e
theorem a3s (hL:CT avv=some (.code ag8)) (hT:CT k_f7=some (.code axb)) (base:Nat) {A:Heap} (hb:base≤A.length) {fv:V} {fs:List FunD} (hr:sj A fv fs):
 ∃ b H',dn CT (.fn k_f7 [] []) [.agg [fv]] base A=some (.s (.bool b),H')∧Ext A H'∧(b=false→Light fs):=by
 have hfo:=hr.one;obtain ⟨A1,hA1⟩:∃ A1,A ++ [Ob.cells 0 [fv]]=A1:=⟨_,rfl⟩
 have l1:A1.length=A.length+1:=by rw [← hA1,eu]
 have e1:Ext A A1:=hA1 ▸ Ext.app _ _;have x1:jm A1 A.length 0=some [fv]:=hA1 ▸ dh A 0 _;have hfl:=(hr.ext e1).len;by_cases h70:(fs.length:Int) > 70
 ·refine ⟨true,A1,gp (c:=axb) (k:=1) hT rfl (by decide) aie ?_,e1,fun e=>by cases e⟩
  simp only [Iz,bl,axb,ato,aa,simprocAttr,hfo,di,hA1,x1,hfl,h70]
 ·rcases hv_l2 hL base e1 (by omega) (p:=A.length) x1 hr (by omega) (af A1.length) A1 (Ext.refl A1) with ⟨⟨z0,z1⟩,E,z2,z3⟩ | ⟨E,z2,z3⟩
  ·refine ⟨false,E,gp (c:=axb) (k:=1) hT rfl (by decide) aie ?_,e1.trans z3,fun _=>⟨by omega,z0,z1⟩⟩
   simp only [Iz,bl,l1] at z2;simp only [Iz,bl,axb,ato,aa,simprocAttr,hfo,di,hA1,l1,x1,hfl,h70,z2]
  ·refine ⟨true,E,gp (c:=axb) (k:=1) hT rfl (by decide) aie ?_,e1.trans z3,fun e=>by cases e⟩
   simp only [Iz,bl,l1] at z2;simp only [Iz,bl,axb,ato,aa,simprocAttr,hfo,di,hA1,l1,x1,hfl,h70,z2]
end
abbrev k_f8:Nat:=8
def K8_0:List Nat:=List.range' 0 23
theorem ayw:y5 K8_0 (si 23 [] 0)=[]:=by kernel_rfl
def R8_0:LO:=[q 0 (.move (.c (.s (.bool false))))]
def R8_1t11:LO:=[oM 3 14,q 15 (.extract (.t 3) 0),q 16 (.extract (.t 3) 1),oM 1 15,oM 2 16]
def R8_1t10:LO:=⟨some 14,.call (.c (.fn 10 [] [])) [.t 13],none⟩ :: R8_1t11
def R8_1p9:LO:=[q 13 (.build [.s (.slice none 0 0)] [(0,1)] [(0,.t 12)])]
def R8_1t9:LO:=R8_1p9 ++ R8_1t10
def R8_1t8:LO:=⟨some 12,.buildSl 3 1 [.s (.string ⟨#[]⟩),.s (.slice none 0 0),.s (.slice none 0 0)] [(0,.t 11)],none⟩ :: R8_1t9
def R8_1p7:LO:=[q 11 (.build [.s (.string ⟨#[]⟩),.s (.slice none 0 0),.s (.slice none 0 0)] [(0,1),(1,1),(2,1)] [(0,.c (.s (.string ⟨#[102]⟩))),(1,.t 4),(2,.t 10)])]
def R8_1t7:LO:=R8_1p7 ++ R8_1t8
def R8_1t6:LO:=⟨some 10,.buildSl 2 1 [.s (.string ⟨#[]⟩),.s (.slice none 0 0)] [(0,.t 9)],none⟩ :: R8_1t7
def R8_1p5:LO:=[q 9 (.build [.s (.string ⟨#[]⟩),.s (.slice none 0 0)] [(0,1),(1,1)] [(0,.c (.s (.string ⟨#[97]⟩))),(1,.t 8)])]
def R8_1t5:LO:=R8_1p5 ++ R8_1t6
def R8_1t4:LO:=⟨some 8,.buildSl 8 1 [.s (.int .u8 0),.s (.string ⟨#[]⟩),.s (.string ⟨#[]⟩),.s (.string ⟨#[]⟩),.s (.int .i64 0),.s (.string ⟨#[]⟩),.s (.slice none 0 0),.s (.slice none 0 0)] [(0,.t 7)],none⟩ :: R8_1t5
def R8_1p3:LO:=[q 7 (.build [.s (.int .u8 0),.s (.string ⟨#[]⟩),.s (.string ⟨#[]⟩),.s (.string ⟨#[]⟩),.s (.int .i64 0),.s (.string ⟨#[]⟩),.s (.slice none 0 0),.s (.slice none 0 0)] [(0,1),(1,1),(2,1),(3,1),(4,1),(5,1),(6,1),(7,1)] [(0,.c (.s (.int .u8 6))),(1,.c (.s (.string ⟨#[104]⟩))),(6,.t 5),(7,.t 6)])]
def R8_1t3:LO:=R8_1p3 ++ R8_1t4
def R8_1t2:LO:=⟨some 6,.buildSl 1 2 [.s (.string ⟨#[]⟩),.s (.string ⟨#[]⟩)] [(0,.c (.s (.string ⟨#[97]⟩))),(1,.c (.s (.string ⟨#[98]⟩)))],none⟩ :: R8_1t3
def R8_1t1:LO:=⟨some 5,.buildSl 1 2 [.s (.string ⟨#[]⟩),.s (.string ⟨#[]⟩)] [(0,.c (.s (.string ⟨#[120]⟩))),(1,.c (.s (.string ⟨#[110,117,108,108]⟩)))],none⟩ :: R8_1t2
def R8_1:LO:=⟨some 4,.buildSl 1 2 [.s (.string ⟨#[]⟩),.s (.string ⟨#[]⟩)] [(0,.c (.s (.string ⟨#[112]⟩))),(1,.c (.s (.string ⟨#[113]⟩)))],none⟩ :: R8_1t1
def R8_2:LO:=[oM 17 2,q 18 (.bin .eql (.t 17) (.c (.s (.int .i64 0)))),oM 19 18,gM 20 1 19 true,qg 21 (.bin .eql (.t 20) (.c (.s (.string ⟨#[102,117,110,99,32,102,40,112,44,32,113,41,32,123,10,97,58,10,32,32,104,32,61,32,112,104,105,32,91,97,58,32,120,44,32,98,58,32,110,117,108,108,93,10,125,10]⟩)))) 19 true,q 22 (.pick (.t 19) (.t 21) (.c (.s (.bool false)))),oM 0 22]
def a7b:ACFun:={ ntmps:=23,results:=[.tmp 0],body:=
 (.seq (.regionE R8_0 K8_0 [])
 (.seq (.region R8_1 [] [3,4,5,6,7,8,9,10,11,12,13,14,15,16])
 (.seq (.regionE R8_2 [1,2,17,18,19,20,21,22] [0])
 .ret))) }
def a_f8:=ai (hT R8_0 K8_0 [] 1 [] [] [.cc (.s (.bool false))]) (ai ayw (ai (hP R8_1 [] [3,4,5,6,7,8,9,10,11,12,13,14,15,16]) (ai (hP R8_1t1 [] [3,4,5,6,7,8,9,10,11,12,13,14,15,16]) (ai (hP R8_1t2 [] [3,4,5,6,7,8,9,10,11,12,13,14,15,16]) (ai (hU R8_1t3 [5,6] [7] [3,4,5,6,7,8,9,10,11,12,13,14,15,16] 8 [] [(7,.op (.build [.s (.int .u8 0),.s (.string ⟨#[]⟩),.s (.string ⟨#[]⟩),.s (.string ⟨#[]⟩),.s (.int .i64 0),.s (.string ⟨#[]⟩),.s (.slice none 0 0),.s (.slice none 0 0)] [(0,1),(1,1),(2,1),(3,1),(4,1),(5,1),(6,1),(7,1)] [(0,.c (.s (.int .u8 6))),(1,.c (.s (.string ⟨#[104]⟩))),(6,.t 2),(7,.t 3)]) [.c (.s (.int .u8 6)),.c (.s (.string ⟨#[104]⟩)),.t 5,.t 6])] [sb []]) (ai (hP R8_1t4 [7] [3,4,5,6,7,8,9,10,11,12,13,14,15,16]) (ai (hU R8_1t5 [8] [9] [3,4,5,6,7,8,9,10,11,12,13,14,15,16] 10 [] [(9,.op (.build [.s (.string ⟨#[]⟩),.s (.slice none 0 0)] [(0,1),(1,1)] [(0,.c (.s (.string ⟨#[97]⟩))),(1,.t 1)]) [.c (.s (.string ⟨#[97]⟩)),.t 8])] [sb []]) (ai (hP R8_1t6 [9] [3,4,5,6,7,8,9,10,11,12,13,14,15,16]) (ai (hU R8_1t7 [4,10] [11] [3,4,5,6,7,8,9,10,11,12,13,14,15,16] 12 [] [(11,.op (.build [.s (.string ⟨#[]⟩),.s (.slice none 0 0),.s (.slice none 0 0)] [(0,1),(1,1),(2,1)] [(0,.c (.s (.string ⟨#[102]⟩))),(1,.t 1),(2,.t 2)]) [.c (.s (.string ⟨#[102]⟩)),.t 4,.t 10])] [sb []]) (ai (hP R8_1t8 [11] [3,4,5,6,7,8,9,10,11,12,13,14,15,16]) (ai (hU R8_1t9 [12] [13] [3,4,5,6,7,8,9,10,11,12,13,14,15,16] 14 [] [(13,.op (.build [.s (.slice none 0 0)] [(0,1)] [(0,.t 0)]) [.t 12])] [sb []]) (ai (hP R8_1t10 [13] [3,4,5,6,7,8,9,10,11,12,13,14,15,16]) (ai (hV R8_1t11 [3,4,5,6,7,8,9,10,11,12,13,14,15,16] [1,2] 17 [] [(1,.op (.extract (.t 0) 0) [.t 14]),(2,.op (.extract (.t 0) 1) [.t 14])] [.tt 14,sb [],.sub 1 [] [],sb [],.sub 1 [] []]) ((hT R8_2 [1,2,17,18,19,20,21,22] [0] 23 [] [(0,.pick (.op (.bin .eql (.t 0) (.c (.s (.int .i64 0)))) [.t 2,.c (.s (.int .i64 0))]) (.op (.bin .eql (.t 0) (.c (.s (.string ⟨#[102,117,110,99,32,102,40,112,44,32,113,41,32,123,10,97,58,10,32,32,104,32,61,32,112,104,105,32,91,97,58,32,120,44,32,98,58,32,110,117,108,108,93,10,125,10]⟩)))) [.t 1,.c (.s (.string ⟨#[102,117,110,99,32,102,40,112,44,32,113,41,32,123,10,97,58,10,32,32,104,32,61,32,112,104,105,32,91,97,58,32,120,44,32,98,58,32,110,117,108,108,93,10,125,10]⟩))]) (.c (.s (.bool false))))] [.tt 2,sb [0],sb [0],.sub 0 [1,0] [19],.sub 0 [1] [19],sb [],sb []])))))))))))))))
theorem SA4_8:qi Tryz.prog PX0 8=some (false,a7b.ntmps,a7b.results,a7b.body.bare):=by kernel_rfl
section
variable {CT:Nat→Option CFun}
end
def teX:List ByteArray:=[⟨#[120]⟩,⟨#[110,117,108,108]⟩]
def teL:List ByteArray:=[⟨#[97]⟩,⟨#[98]⟩]
def teP:List ByteArray:=[⟨#[112]⟩,⟨#[113]⟩]
def teI:InsD:=⟨6,⟨#[104]⟩,⟨#[]⟩,⟨#[]⟩,0,⟨#[]⟩,teX,teL⟩
def teF:List FunD:=[⟨⟨#[102]⟩,teP,[⟨⟨#[97]⟩,[teI]⟩]⟩]
theorem a0r:Small teF:=by
 refine ⟨by decide,fun f hf=>?_,fun f hf=>?_,fun f hf b hb=>?_,fun f hf b hb x hx=>?_,fun f hf b hb x hx=>?_⟩ <;> (obtain rfl:=ng.1 hf)
 ·decide
 ·decide
 ·obtain rfl:=ng.1 hb;decide
 ·obtain rfl:=ng.1 hb;obtain rfl:=ng.1 hx;decide
 ·obtain rfl:=ng.1 hb;obtain rfl:=ng.1 hx;decide
theorem teF_2:qh teF 2=none:=by decide
theorem teF_9:qh teF 9=none:=by decide
theorem bgu:∀ f∈teF,SmF f:=by
 intro f hf;obtain rfl:=ng.1 hf
 refine ⟨by decide,by decide,by decide,fun b hb=>?_,by decide⟩
 obtain rfl:=ng.1 hb
 refine ⟨by decide,fun x hx=>?_,by decide⟩
 obtain rfl:=ng.1 hx
 exact ⟨⟨by decide,by decide,by decide,by decide,by decide,by decide,by decide,by decide⟩,asy (by decide)⟩
def teT:List UInt8:=[102,117,110,99,32,102,40,112,44,32,113,41,32,123,10,97,58,10,32,32,104,32,61,32,112,104,105,32,91,97,58,32,120,44,32,98,58,32,110,117,108,108,93,10,125,10]
theorem aw2:uf teF=teT:=by decide
section
variable {CT:Nat→Option CFun}
theorem aq5 (h:PriT CT) (hT:CT k_f8=some (.code a7b)) (base:Nat) {A:Heap} (hb:base≤A.length):
 ∃ H',dn CT (.fn k_f8 [] []) [] base A=some (.s (.bool true),H')∧Ext A H':=by
 obtain ⟨A1,hA1⟩:∃ A1,A ++ [Ob.cells 0 (teP.map Sb)]=A1:=⟨_,rfl⟩
 have l1:A1.length=A.length+1:=by rw [← hA1,eu]
 obtain ⟨A2,hA2⟩:∃ A2,A1 ++ [Ob.cells 0 (teX.map Sb)]=A2:=⟨_,rfl⟩
 have l2:A2.length=A.length+2:=by rw [← hA2,eu,l1]
 obtain ⟨A3,hA3⟩:∃ A3,A2 ++ [Ob.cells 0 (teL.map Sb)]=A3:=⟨_,rfl⟩
 have l3:A3.length=A.length+3:=by rw [← hA3,eu,l2]
 obtain ⟨A4,hA4⟩:∃ A4,A3 ++ [Ob.cells 0 (jg teI (.sl (A.length+1) 0 0 2 1) (.sl (A.length+2) 0 0 2 1))]=A4:=⟨_,rfl⟩
 have l4:A4.length=A.length+4:=by rw [← hA4,eu,l3]
 obtain ⟨A5,hA5⟩:∃ A5,A4 ++ [Ob.cells 0 [Sb ⟨#[97]⟩,.sl (A.length+3) 0 0 1 8]]=A5:=⟨_,rfl⟩
 have l5:A5.length=A.length+5:=by rw [← hA5,eu,l4]
 obtain ⟨A6,hA6⟩:∃ A6,A5 ++ [Ob.cells 0 [Sb ⟨#[102]⟩,.sl A.length 0 0 2 1,.sl (A.length+4) 0 0 1 2]]=A6:=⟨_,rfl⟩;have e1:Ext A A1:=hA1 ▸ Ext.app _ _;have e2:Ext A1 A2:=hA2 ▸ Ext.app _ _;have e3:Ext A2 A3:=hA3 ▸ Ext.app _ _;have e4:Ext A3 A4:=hA4 ▸ Ext.app _ _;have e5:Ext A4 A5:=hA5 ▸ Ext.app _ _;have e6:Ext A5 A6:=hA6 ▸ Ext.app _ _;have g1:jm A6 A.length 0=some (teP.map Sb):=cz (hA1 ▸ dh A 0 _) (e2.trans (e3.trans (e4.trans (e5.trans e6))))
 have g2:jm A6 (A.length+1) 0=some (teX.map Sb):=cz (by rw [← l1,← hA2];exact dh A1 0 _) (e3.trans (e4.trans (e5.trans e6)))
 have g3:jm A6 (A.length+2) 0=some (teL.map Sb):=cz (by rw [← l2,← hA3];exact dh A2 0 _) (e4.trans (e5.trans e6))
 have g4:jm A6 (A.length+3) 0=some (jg teI (.sl (A.length+1) 0 0 2 1) (.sl (A.length+2) 0 0 2 1)):=cz (by rw [← l3,← hA4];exact dh A3 0 _) (e5.trans e6)
 have g5:jm A6 (A.length+4) 0=some [Sb ⟨#[97]⟩,.sl (A.length+3) 0 0 1 8]:=cz (by rw [← l4,← hA5];exact dh A4 0 _) e6
 have g6:jm A6 (A.length+5) 0=some [Sb ⟨#[102]⟩,.sl A.length 0 0 2 1,.sl (A.length+4) 0 0 1 2]:=by rw [← l5,← hA6];exact dh A5 0 _
 have r1:Rd A6 (.sl A.length 0 0 2 1) (teP.map Sb):=Rd.sl g1 (off:=0) (n:=2) (by simp [teP])
 have r2:Rd A6 (.sl (A.length+1) 0 0 2 1) (teX.map Sb):=Rd.sl g2 (off:=0) (n:=2) (by simp [teX])
 have r3:Rd A6 (.sl (A.length+2) 0 0 2 1) (teL.map Sb):=Rd.sl g3 (off:=0) (n:=2) (by simp [teL])
 have hI:RdL 8 p9 A6 (.sl (A.length+3) 0 0 1 8) [teI]:=
  ⟨[jg teI (.sl (A.length+1) 0 0 2 1) (.sl (A.length+2) 0 0 2 1)],RdW.sl (R:=[jg teI (.sl (A.length+1) 0 0 2 1) (.sl (A.length+2) 0 0 2 1)]) (by rw [g4];rfl) (fun r hr=>by rw [ng.1 hr];rfl),rfl,by decide,fun i x hx=>by
   cases i with
   | zero=>cases hx;exact ⟨_,rfl,_,_,rfl,r2,trivial,r3,trivial,by decide⟩
   | succ i=>simp at hx⟩
 have hB:RdL 2 aay A6 (.sl (A.length+4) 0 0 1 2) [⟨⟨#[97]⟩,[teI]⟩]:=
  ⟨[[Sb ⟨#[97]⟩,.sl (A.length+3) 0 0 1 8]],RdW.sl (R:=[[Sb ⟨#[97]⟩,.sl (A.length+3) 0 0 1 8]]) (by rw [g5];rfl) (fun r hr=>by rw [ng.1 hr];rfl),rfl,by decide,fun i x hx=>by
   cases i with
   | zero=>cases hx;exact ⟨_,rfl,_,rfl,hI⟩
   | succ i=>simp at hx⟩
 have hP:sj A6 (.sl (A.length+5) 0 0 1 3) teF:=
  ⟨[[Sb ⟨#[102]⟩,.sl A.length 0 0 2 1,.sl (A.length+4) 0 0 1 2]],RdW.sl (R:=[[Sb ⟨#[102]⟩,.sl A.length 0 0 2 1,.sl (A.length+4) 0 0 1 2]]) (by rw [g6];rfl) (fun r hr=>by rw [ng.1 hr];rfl),rfl,by decide,fun i x hx=>by
   cases i with
   | zero=>cases hx;exact ⟨_,rfl,_,_,rfl,r1,trivial,by decide,hB⟩
   | succ i=>exact absurd hx (by simp [teF])⟩
 have eA:Ext A A6:=e1.trans (e2.trans (e3.trans (e4.trans (e5.trans e6))))
 obtain ⟨H',hc,hE⟩:=axf h base (A:=A6) (by have:=eA.le;omega) hP a0r teF_2 teF_9 bgu (by rw [aw2];decide)
 rw [aw2,if_neg (by decide)] at hc
 refine ⟨H',oo (c:=a7b) hT (by simp [a7b]) ?_,eA.trans hE⟩
 simp only [Sb,Iz] at hc;simp only [jg,teI,Sb,Iz,abw,teP,teX,teL,jv,lh] at hA1 hA2 hA3 hA4 hA5 hA6
 have hq:(teT.toArray.toList == teT)=true:=by decide
 simp only [teT] at hc hq;simp only [Iz,Sb,bl,abw,a7b,a_f8,aa,simprocAttr,hA1,l1,hA2,l2,hA3,l3,hA4,l4,hA5,l5,hA6,hc,hq]
end
theorem av4 {α:Type} {f:α→List UInt8} {M:Nat}:∀ {l:List α},(∀ x∈l,(f x).length≤M)→(l.flatMap f).length≤M * l.length:=by
 intro l
 induction l with
 | nil=>intro _;simp
 | cons a l ih=>
   intro h;have h1:=h a gm;have h2:=ih fun x hx=>h x (fe _ hx);rw [List.flatMap_cons,az,fq,Nat.mul_succ];omega
theorem SmI.of {x:InsD} (h:bkf x):SmI x:=⟨h.1,h.2.1,h.2.2.1,h.2.2.2.1,h.2.2.2.2.1,h.2.2.2.2.2.1,h.2.2.2.2.2.2.1,h.2.2.2.2.2.2.2⟩
theorem SmF.of {fs:List FunD} (h:Light fs) (ht:∀ f∈fs,TF f):∀ f∈fs,SmF f:=by
 intro f hf;obtain ⟨h1,h2,h3,h4,h5⟩:=h.f f hf
 refine ⟨h1,h2,h3,fun b hb=>⟨(h5 b hb).1,fun x hx=>⟨.of ((h5 b hb).2.2 x hx),(((ht f hf).b b hb).2 x hx).fo⟩,by have:=(h5 b hb).2.1;omega⟩,by omega⟩
theorem afr (b:ByteArray):b.data.toList.length=b.size:=rfl
theorem bhm {x:InsD} (hx:SmI x) (hf:FormOk x):(lnI x).data.toList.length≤90030:=by
 have:=aor hx hf;unfold lnI;rw [ahk,az,az,afr,afr];have e:(⟨#[32,32]⟩:ByteArray).size=2:=rfl;simp only [fq,gy];omega
theorem ama {fs:List FunD} (h:Light fs) (ht:∀ f∈fs,TF f):(uf fs).length≤140737488355328:=by
 have hs:=SmF.of h ht
 have h1:(uf fs).length≤2000000000 * fs.length:=av4 fun f hf=>by
  have sf:=hs f hf;have hz:=(head_size sf).2
  have hb:(aaq f.blocks).length≤20000000 * f.blocks.length:=av4 fun b hb=>by
   have sb:=sf.b b hb;have hc:(aaw b.code).length≤90030 * b.code.length:=av4 fun x hx=>bhm (sb.x x hx).1 (sb.x x hx).2;have hn:=(((h.f f hf).2.2.2.2 b hb)).2.1;have hl:=sb.l;unfold a6h lnB;rw [ahk,az,az,az,afr,afr];have e:(⟨#[58]⟩:ByteArray).size=1:=rfl;simp only [fq,gy];omega
  have hn:=(h.f f hf).2.2.2.1;unfold a3x lnF lnE;rw [ahl,ahl,az,az,az,az,afr,afr];have e:(⟨#[125]⟩:ByteArray).size=1:=rfl;simp only [fq,gy];omega
 have:=h.n;omega
section
variable {CT:Nat→Option CFun}
structure LawT (CT:Nat→Option CFun):Prop where
 P:PriT CT
 tells:CT k_f8=some (.code a7b)
 long:CT avv=some (.code ag8)
 heavy:CT k_f7=some (.code axb)
end
end Go.Proofs.YtngfpadeebpoeaaGreatDoor
