/- Texts of the proof: NamG4, NamC2, NamD1, NamE4, NamE1, NamE3, NamD2, NamP3, NamD3, NamD4, NamD5, NamB2, NamB3, NamQ1, NamI1, NamI2, NmS7, NamM1, NamJ1, NmS5, NamK1, AmR, NamArg, NamX, NamQ2, NamQ3, NamL2. -/
import Derived.Test.YtamlbkalopefgaaRP0
import Derived.Test.YtamlbkalopefgaaRP1
import Derived.Test.YtamlbkalopefgaaRP2
import Derived.Test.YtamlbkalopefgaaRP3
import Derived.Test.YtamlbkalopefgaaRP4
import Derived.DataReads
import Derived.ChangeOld
import Derived.ChangeArms
import Derived.ProofKit
import Derived.LaidMore
import Derived.Stop.Joined
import Derived.Test.YtamlbkalopefgaaRRows
set_option linter.all false
set_option maxRecDepth 100000
namespace Go.Proofs.YtamlbkalopefgaaR
open Go.AM
def nvI (S:ByteArray→Bool) (i b:Nat) (k:Nat) (x:InsD):Option Pt:=if (x.a :: x.b :: x.xs).any (fun s=>!S s)=true then some (i,b,k) else none
def nvB (S:ByteArray→Bool) (i:Nat) (b:Nat) (bl:BlkD):Option Pt:=srch (nvI S i b) bl.code 0
section
variable {CT:Nat→Option CFun}
theorem noVar1_fun (hT:CT k_f61=some (.code s_f61)) (base:Nat) {D:Heap} {c q:Nat} {M:Ob} {S:ByteArray→Bool} (hg:getC D c 0=some [.mp q]) (hM:D[q]?=some M) (hS:SetOf eS S M) (s:ByteArray):callW CT (.fn k_f61 [] [.ref c 0 0]) [Sb s] base D=some (.s (.bool (!S s)),D):=by
 have hx:=getC_load hg
 have hgt:=setOf_get same_str key_str hS s hM
 refine callW_fn (c:=s_f61) hT (by simp [s_f61]) ?_
 simp only [s_f61,a_f61,aa,reduceIte,reduceCtorEq,Nat.reduceEqDiff,Nat.reduceLT,Nat.reduceLeDiff,Nat.reduceBEq,Nat.reduceAdd,Nat.reduceMul,hx,hgt]
theorem nv_l3 (hT1:CT k_f61=some (.code s_f61)) (hC:CT k_f39=some (.code s_f39)) (hX:CT k_f62=some (.code s_f62)) (base:Nat) {A A1:Heap} (h1:Ext A A1) (hb:base≤A.length) (hg:getC A1 A.length 0=some [Iz 0,Iz 0,Iz 0]) {v21 v60 cv:V} {i b:Nat} {n22 n23 n61 n62:Int} {l:List InsD} (hv:RdL 8 RdIns A cv l) (hn:l.length < 2 ^ 20) (hx:∀ x∈l,x.xs.length < 2 ^ 20) {q c:Nat} {M:Ob} {S:ByteArray→Bool} (hc6:getC A1 c 0=some [.mp q]) (hM:A1[q]?=some M) (hS:SetOf eS S M) {L:Nat} (hL:A1.length≤L) (hA1:A.length < A1.length):
 ∀ C,Ext A1 C→(srch (nvI S i b) l 0=none∧∃ C',itW (evC (callW CT) itW base s_f37_l3) [] L (frOf 93 [(2,.ref A.length 0 0),(4,Iz i),(6,.ref c 0 0),(13,Iz b),(21,v21),(22,Iz n22),(23,Iz n23),(60,v60),(61,Iz n61),(62,Iz n62),(68,cv),(69,Iz l.length),(70,Iz 0)]) C=some (.ext 10,frOf 93 [(2,.ref A.length 0 0),(4,Iz i),(6,.ref c 0 0),(13,Iz b),(21,v21),(22,Iz n22),(23,Iz n23),(60,v60),(61,Iz n61),(62,Iz n62),(68,cv),(69,Iz l.length),(70,Iz l.length),(71,bl false)],C')∧Ext A1 C')∨∃ t,srch (nvI S i b) l 0=some t∧Found A 93 A.length t (itW (evC (callW CT) itW base s_f37_l3) [] L (frOf 93 [(2,.ref A.length 0 0),(4,Iz i),(6,.ref c 0 0),(13,Iz b),(21,v21),(22,Iz n22),(23,Iz n23),(60,v60),(61,Iz n61),(62,Iz n62),(68,cv),(69,Iz l.length),(70,Iz 0)]) C):=by
 intro C0 hC0
 rcases it_srch l ins0 (nvI S i b) (fun _ C=>Ext A1 C) (fun k C=>itW (evC (callW CT) itW base s_f37_l3) [] L (frOf 93 [(2,.ref A.length 0 0),(4,Iz i),(6,.ref c 0 0),(13,Iz b),(21,v21),(22,Iz n22),(23,Iz n23),(60,v60),(61,Iz n61),(62,Iz n62),(68,cv),(69,Iz l.length),(70,Iz k)]) C) (Found A 93 A.length) (by
  intro k C hk hE
  have hlt':((k:Int) < (l.length:Int)):=by omega
  have hwk:=w64 (n:=k) (by omega)
  have hle:=hE.le
  have hkx:=some_getD hk ins0
  obtain ⟨x,hxe⟩:∃ x,l.getD k ins0=x:=⟨_,rfl⟩
  rw [hxe] at hkx ⊢
  have hmem:=List.mem_of_getElem? hkx
  obtain ⟨a,r,a1,hr,a2,_⟩:=hv.at2 hkx
  have hEA:=h1.trans hE
  have ld:=a2 C hEA
  have hbC:base≤C.length:=by omega
  have hgg:∀ c,getC (C ++ [Ob.cells 0 c]) C.length 0=some c:=fun c=>getC_new C 0 c
  have hss:∀ c d,(C ++ [c]).set C.length d=C ++ [d]:=fun c d=>set_snoc C c d
  have eC:∀ c,Ext C (C ++ [Ob.cells 0 c]):=fun c=>Ext.app _ _
  have g2:∀ D,Ext A1 D→getC D A.length 0=some [Iz 0,Iz 0,Iz 0]:=fun D h=>getC_ext hg h
  obtain ⟨av,lv,rfl,q1,q2,q3,q4,_⟩:=hr
  have hxl:=hx x hmem
  have hav:=q1.one
  have hlv:=q3.one
  obtain ⟨D,hD⟩:∃ D,C ++ [Ob.cells 0 (insC x av lv)]=D:=⟨_,rfl⟩
  have hED:Ext C D:=hD ▸ Ext.app _ _
  have hgD:getC D C.length 0=some (insC x av lv):=by rw [← hD];exact getC_new C 0 _
  have hsD:∀ c,(C ++ [c]).set C.length (Ob.cells 0 (insC x av lv))=D:=fun c=>by rw [← hD];exact set_snoc C c _
  have hDl:D.length=C.length+1:=by rw [← hD,len_snoc]
  have hbD:base≤D.length:=by omega
  have hq1:=q1.ext ((hEA.trans hED).trans (Ext.app D [Ob.cells 0 [Sb x.a,Sb x.b]]))
  obtain ⟨g',happ⟩:=append_full (H:=D ++ [Ob.cells 0 [Sb x.a,Sb x.b]]) (base:=base) (bytes:=16) (id:=D.length) (g:=0) (l:=[Sb x.a,Sb x.b]) (getC_new D 0 _) hbD hq1 (List.all_eq_true.2 fun v hv=>by obtain ⟨s,_,rfl⟩:=List.mem_map.1 hv;rfl) (by simp only [List.length_cons,List.length_nil,List.length_map];omega)
  have hset:∀ d,(D ++ [Ob.cells 0 [Sb x.a,Sb x.b]]).set D.length d=D ++ [d]:=fun d=>set_snoc D _ d
  rw [hset] at happ
  obtain ⟨E0,hE0⟩:∃ E0,D ++ [Ob.cells g' ([Sb x.a,Sb x.b] ++ x.xs.map Sb)]=E0:=⟨_,rfl⟩
  rw [hE0] at happ
  have hDE:Ext D E0:=hE0 ▸ Ext.app _ _
  have hg0:getC E0 D.length g'=some ([Sb x.a,Sb x.b] ++ x.xs.map Sb):=hE0 ▸ getC_new D g' _
  have hrd:Rd E0 (.sl D.length g' 0 ([Sb x.a,Sb x.b].length+(x.xs.map Sb).length) 1) ((x.a :: x.b :: x.xs).map Sb):=by
   have:=Rd.sl hg0 (off:=0) (n:=[Sb x.a,Sb x.b].length+(x.xs.map Sb).length) (by simp;omega)
   rw [List.drop_zero,List.take_of_length_le (by simp;omega)] at this
   exact this
  have eCE:=hED.trans hDE
  obtain ⟨E1,t1,t2⟩:=conS_fun hC hX base E0 (f:=.fn k_f61 [] [.ref c 0 0]) (p:=fun s=>!S s) hrd trivial (fun s _ E hE'=>⟨E,noVar1_fun hT1 base (getC_ext hc6 ((hE.trans eCE).trans hE')) (Ext.at' ((hE.trans eCE).trans hE') hM) hS s,Ext.refl _⟩) (by simp only [List.length_cons];omega)
  have hg2:=getC_ext hg ((hE.trans eCE).trans t2)
  rw [hDl] at happ t1
  unfold nvI
  simp only [Iz,insC,Sb,List.length_cons,List.length_nil,Nat.zero_add,Nat.reduceAdd,List.length_map] at hgD hsD hg2 happ t1 ld
  cases hs:(x.a :: x.b :: x.xs).any (fun s=>!S s) with
  | true=>
    rw [hs] at t1
    refine .inr ⟨(i,b,k),if_pos rfl,trim L (frOf 93 [(2,.ref A.length 0 0),(3,bl true)]) (E1.set A.length (.cells 0 [Iz i,Iz b,Iz k])),?_,(((hEA.trans eCE).trans t2).set (Nat.le_refl _) _).trim (by omega) _,trim_get (getC_put (getC_ext hg ((hE.trans eCE).trans t2))) (by omega)⟩
    rw [itW_step]
    simp only [insC,Iz,bl,a_f37,s_f37_l0_b,s_f37_l1_b,s_f37_l2_b,s_f37_l3_b,s_f37_l4_b,s_f37_l5_b,aa,reduceIte,reduceCtorEq,Nat.reduceEqDiff,Nat.reduceLT,Nat.reduceLeDiff,Nat.reduceBEq,Nat.reduceAdd,Nat.reduceMul,hlt',a1,ld,hbC,hgg,hsD,hav,hlv,Bool.and_self,hgD,hDl,happ,xsub_mkFn,t1,hg2,hb]
  | false=>
    rw [hs] at t1
    refine .inl ⟨if_neg Bool.false_ne_true,trim L (frOf 93 [(2,.ref A.length 0 0),(4,Iz i),(6,.ref c 0 0),(13,Iz b),(21,v21),(22,Iz n22),(23,Iz n23),(60,v60),(61,Iz n61),(62,Iz n62),(68,cv),(69,Iz l.length),(70,Iz (k+1:Nat))]) E1,?_,((hE.trans eCE).trans t2).trim (by omega) _⟩
    rw [itW_step]
    simp only [insC,Iz,bl,a_f37,s_f37_l0_b,s_f37_l1_b,s_f37_l2_b,s_f37_l3_b,s_f37_l4_b,s_f37_l5_b,aa,reduceIte,reduceCtorEq,Nat.reduceEqDiff,Nat.reduceLT,Nat.reduceLeDiff,Nat.reduceBEq,Nat.reduceAdd,Nat.reduceMul,hlt',a1,ld,hbC,hgg,hsD,hav,hlv,Bool.and_self,hgD,hDl,happ,xsub_mkFn,t1,hwk]) C0 hC0 with ⟨e1,C,e2,e3⟩ | e
 ·refine .inl ⟨e1,trim L (frOf 93 [(2,.ref A.length 0 0),(4,Iz i),(6,.ref c 0 0),(13,Iz b),(21,v21),(22,Iz n22),(23,Iz n23),(60,v60),(61,Iz n61),(62,Iz n62),(68,cv),(69,Iz l.length),(70,Iz l.length),(71,bl false)]) C,?_,e3.trim (by omega) _⟩
  rw [cast0] at e2
  refine e2.trans ?_
  rw [itW_step]
  simp only [Iz,bl,a_f37,s_f37_l0_b,s_f37_l1_b,s_f37_l2_b,s_f37_l3_b,s_f37_l4_b,s_f37_l5_b,aa,reduceIte,reduceCtorEq,Nat.reduceEqDiff,Nat.reduceLT,Nat.reduceLeDiff,Nat.reduceBEq,Nat.reduceAdd,Nat.reduceMul,Int.lt_irrefl]
 ·rw [cast0] at e
  exact .inr e
theorem nv_l4 (hT1:CT k_f61=some (.code s_f61)) (hC:CT k_f39=some (.code s_f39)) (hX:CT k_f62=some (.code s_f62)) (base:Nat) {A A1:Heap} (h1:Ext A A1) (hb:base≤A.length) (hg:getC A1 A.length 0=some [Iz 0,Iz 0,Iz 0]) {v21 bv:V} {i:Nat} {n22 n23:Int} {l:List BlkD} (hv:RdL 2 RdBlk A bv l) (hn:l.length < 2 ^ 20) (hnc:∀ b∈l,b.code.length < 2 ^ 20) (hx:∀ b∈l,∀ x∈b.code,x.xs.length < 2 ^ 20) {q c:Nat} {M:Ob} {S:ByteArray→Bool} (hc6:getC A1 c 0=some [.mp q]) (hM:A1[q]?=some M) (hS:SetOf eS S M) {L:Nat} (hL:A1.length≤L) (hA1:A.length < A1.length):
 ∀ C,Ext A1 C→(srch (nvB S i) l 0=none∧∃ C',itW (evC (callW CT) itW base s_f37_l4) [] L (frOf 93 [(2,.ref A.length 0 0),(4,Iz i),(6,.ref c 0 0),(21,v21),(22,Iz n22),(23,Iz n23),(60,bv),(61,Iz l.length),(62,Iz 0)]) C=some (.ext 8,frOf 93 [(2,.ref A.length 0 0),(4,Iz i),(6,.ref c 0 0),(21,v21),(22,Iz n22),(23,Iz n23),(60,bv),(61,Iz l.length),(62,Iz l.length),(63,bl false)],C')∧Ext A1 C')∨∃ t,srch (nvB S i) l 0=some t∧Found A 93 A.length t (itW (evC (callW CT) itW base s_f37_l4) [] L (frOf 93 [(2,.ref A.length 0 0),(4,Iz i),(6,.ref c 0 0),(21,v21),(22,Iz n22),(23,Iz n23),(60,bv),(61,Iz l.length),(62,Iz 0)]) C):=by
 intro C0 hC0
 rcases it_srch l blk0 (nvB S i) (fun _ C=>Ext A1 C) (fun k C=>itW (evC (callW CT) itW base s_f37_l4) [] L (frOf 93 [(2,.ref A.length 0 0),(4,Iz i),(6,.ref c 0 0),(21,v21),(22,Iz n22),(23,Iz n23),(60,bv),(61,Iz l.length),(62,Iz k)]) C) (Found A 93 A.length) (by
  intro k C hk hE
  have hlt':((k:Int) < (l.length:Int)):=by omega
  have hwk:=w64 (n:=k) (by omega)
  have hle:=hE.le
  have hkx:=some_getD hk blk0
  obtain ⟨x,hxe⟩:∃ x,l.getD k blk0=x:=⟨_,rfl⟩
  rw [hxe] at hkx ⊢
  have hmem:=List.mem_of_getElem? hkx
  obtain ⟨a,r,a1,hr,a2,_⟩:=hv.at2 hkx
  have hEA:=h1.trans hE
  have ld:=a2 C hEA
  have hbC:base≤C.length:=by omega
  have hgg:∀ c,getC (C ++ [Ob.cells 0 c]) C.length 0=some c:=fun c=>getC_new C 0 c
  have hss:∀ c d,(C ++ [c]).set C.length d=C ++ [d]:=fun c d=>set_snoc C c d
  have eC:∀ c,Ext C (C ++ [Ob.cells 0 c]):=fun c=>Ext.app _ _
  have g2:∀ D,Ext A1 D→getC D A.length 0=some [Iz 0,Iz 0,Iz 0]:=fun D h=>getC_ext hg h
  obtain ⟨cv,rfl,hcv⟩:=hr
  have hcl:=(rdI_ext hcv (hEA.trans (eC [Sb x.label,cv]))).len
  have hco:=hcv.one
  have hin:=nv_l3 (CT:=CT) (v21:=v21) (v60:=bv) (i:=i) (b:=k) (n22:=n22) (n23:=n23) (n61:=l.length) (n62:=k) hT1 hC hX base h1 hb hg hcv (hnc x hmem) (hx x hmem) hc6 hM hS (L:=(C ++ [Ob.cells 0 [Sb x.label,cv]]).length) (by rw [len_snoc];omega) hA1 (C ++ [Ob.cells 0 [Sb x.label,cv]]) (hE.trans (eC _))
  have hl2:(C ++ [Ob.cells 0 [Sb x.label,cv]]).length=C.length+1:=by simp
  rw [hl2] at hin
  unfold nvB
  rcases hin with ⟨z1,C2,z2,z3⟩ | ⟨t,z1,D,z2,z3,z4⟩
  ·refine .inl ⟨z1,trim L (frOf 93 [(2,.ref A.length 0 0),(4,Iz i),(6,.ref c 0 0),(21,v21),(22,Iz n22),(23,Iz n23),(60,bv),(61,Iz l.length),(62,Iz (k+1:Nat))]) C2,?_,z3.trim (by omega) _⟩
   rw [itW_step]
   simp only [Iz,bl] at z2
   simp only [Iz,bl,a_f37,s_f37_l0_b,s_f37_l1_b,s_f37_l2_b,s_f37_l3_b,s_f37_l4_b,s_f37_l5_b,aa,reduceIte,reduceCtorEq,Nat.reduceEqDiff,Nat.reduceLT,Nat.reduceLeDiff,Nat.reduceBEq,Nat.reduceAdd,Nat.reduceMul,hlt',a1,ld,hbC,hgg,hss,hco,Bool.and_self,hcl,hl2,z2,hwk]
  ·refine .inr ⟨t,z1,trim L (frOf 93 [(2,.ref A.length 0 0),(3,bl true)]) D,?_,z3.trim (by omega) _,trim_get z4 (by omega)⟩
   rw [itW_step]
   simp only [Iz,bl] at z2
   simp only [Iz,bl,a_f37,s_f37_l0_b,s_f37_l1_b,s_f37_l2_b,s_f37_l3_b,s_f37_l4_b,s_f37_l5_b,aa,reduceIte,reduceCtorEq,Nat.reduceEqDiff,Nat.reduceLT,Nat.reduceLeDiff,Nat.reduceBEq,Nat.reduceAdd,Nat.reduceMul,hlt',a1,ld,hbC,hgg,hss,hco,Bool.and_self,hcl,hl2,z2]) C0 hC0 with ⟨e1,C,e2,e3⟩ | e
 ·refine .inl ⟨e1,trim L (frOf 93 [(2,.ref A.length 0 0),(4,Iz i),(6,.ref c 0 0),(21,v21),(22,Iz n22),(23,Iz n23),(60,bv),(61,Iz l.length),(62,Iz l.length),(63,bl false)]) C,?_,e3.trim (by omega) _⟩
  rw [cast0] at e2
  refine e2.trans ?_
  rw [itW_step]
  simp only [Iz,bl,a_f37,s_f37_l0_b,s_f37_l1_b,s_f37_l2_b,s_f37_l3_b,s_f37_l4_b,s_f37_l5_b,aa,reduceIte,reduceCtorEq,Nat.reduceEqDiff,Nat.reduceLT,Nat.reduceLeDiff,Nat.reduceBEq,Nat.reduceAdd,Nat.reduceMul,Int.lt_irrefl]
 ·rw [cast0] at e
  exact .inr e
def emptyBA:ByteArray:=⟨#[]⟩
def nullBA:ByteArray:=⟨#[110,117,108,108]⟩
def nvS (f:FunD) (s:ByteArray):Bool:=(((false || decide (s=emptyBA)) || decide (s=nullBA)) || seenS f.ps s) || seenB f.blocks s
def nvF (i:Nat) (f:FunD):Option Pt:=srch (nvB (nvS f) i) f.blocks 0
theorem nv_l5 (hT1:CT k_f61=some (.code s_f61)) (hC:CT k_f39=some (.code s_f39)) (hX:CT k_f62=some (.code s_f62)) (base:Nat) {A A1:Heap} (h1:Ext A A1) (hb:base≤A.length) (hg:getC A1 A.length 0=some [Iz 0,Iz 0,Iz 0]) {fv:V} {l:List FunD} (hv:RdL 3 RdFun A fv l) (hn:l.length < 2 ^ 20) (hps:∀ f∈l,f.ps.length < 2 ^ 20) (hnb:∀ f∈l,f.blocks.length < 2 ^ 20) (hnc:∀ f∈l,∀ b∈f.blocks,b.code.length < 2 ^ 20) (hx:∀ f∈l,∀ b∈f.blocks,∀ x∈b.code,x.xs.length < 2 ^ 20) {L:Nat} (hL:A1.length≤L) (hA1:A.length < A1.length):
 ∀ C,Ext A1 C→(srch (nvF) l 0=none∧∃ C',itW (evC (callW CT) itW base s_f37_l5) [] L (frOf 93 [(2,.ref A.length 0 0),(21,fv),(22,Iz l.length),(23,Iz 0)]) C=some (.ext 0,frOf 93 [(2,.ref A.length 0 0),(21,fv),(22,Iz l.length),(23,Iz l.length),(24,bl false)],C')∧Ext A1 C')∨∃ t,srch (nvF) l 0=some t∧Found A 93 A.length t (itW (evC (callW CT) itW base s_f37_l5) [] L (frOf 93 [(2,.ref A.length 0 0),(21,fv),(22,Iz l.length),(23,Iz 0)]) C):=by
 intro C0 hC0
 rcases it_srch l fun0 (nvF) (fun _ C=>Ext A1 C) (fun k C=>itW (evC (callW CT) itW base s_f37_l5) [] L (frOf 93 [(2,.ref A.length 0 0),(21,fv),(22,Iz l.length),(23,Iz k)]) C) (Found A 93 A.length) (by
  intro k C hk hE
  have hlt':((k:Int) < (l.length:Int)):=by omega
  have hwk:=w64 (n:=k) (by omega)
  have hle:=hE.le
  have hkx:=some_getD hk fun0
  obtain ⟨x,hxe⟩:∃ x,l.getD k fun0=x:=⟨_,rfl⟩
  rw [hxe] at hkx ⊢
  have hmem:=List.mem_of_getElem? hkx
  obtain ⟨a,r,a1,hr,a2,_⟩:=hv.at2 hkx
  have hEA:=h1.trans hE
  have ld:=a2 C hEA
  have hbC:base≤C.length:=by omega
  have hgg:∀ c,getC (C ++ [Ob.cells 0 c]) C.length 0=some c:=fun c=>getC_new C 0 c
  have hss:∀ c d,(C ++ [c]).set C.length d=C ++ [d]:=fun c d=>set_snoc C c d
  have eC:∀ c,Ext C (C ++ [Ob.cells 0 c]):=fun c=>Ext.app _ _
  have g2:∀ D,Ext A1 D→getC D A.length 0=some [Iz 0,Iz 0,Iz 0]:=fun D h=>getC_ext hg h
  obtain ⟨pv,bv,rfl,q1,q2,q3,hbv⟩:=hr
  have hpl:=Sb_len (q1.ext (hEA.trans (eC [Sb x.name,pv,bv])))
  have hpo:=q1.one
  have hbo:=hbv.one
  have hbl:=(rdB_ext hbv (hEA.trans (eC [Sb x.name,pv,bv]))).len
  have hl2:(C ++ [Ob.cells 0 [Sb x.name,pv,bv]]).length=C.length+1:=by simp
  obtain ⟨C0,hC0⟩:∃ C0,C ++ [Ob.cells 0 [Sb x.name,pv,bv]]=C0:=⟨_,rfl⟩
  have hC0l:C0.length=C.length+1:=by rw [← hC0,len_snoc]
  have hE0:Ext C C0:=hC0 ▸ Ext.app _ _
  have hsD:∀ c,(C ++ [c]).set C.length (Ob.cells 0 [Sb x.name,pv,bv])=C0:=fun c=>by rw [← hC0];exact set_snoc C c _
  have hb0:base≤C0.length:=by omega
  have hb00:base≤C0.length+1:=by omega
  have hm0:∀ M:Ob,(C0 ++ [M])[C0.length]?=some M:=fun M=>by simp
  have hs0:∀ M M':Ob,(C0 ++ [M]).set C0.length M'=C0 ++ [M']:=fun M M'=>set_snoc C0 M M'
  obtain ⟨M1,u1,w1⟩:=setOf_put same_str key_str (setOf_nil eS) emptyBA (H:=C0 ++ [.map []]) hb0 (hm0 _)
  obtain ⟨M2,u2,w2⟩:=setOf_put same_str key_str w1 nullBA (H:=C0 ++ [M1]) hb0 (hm0 _)
  rw [hs0] at u1 u2
  have hl3:∀ M:Ob,(C0 ++ [M]).length=C0.length+1:=fun M=>len_snoc _ _
  have hss3:∀ (M c d:Ob),(C0 ++ [M] ++ [c]).set (C0.length+1) d=C0 ++ [M] ++ [d]:=fun M c d=>by have:=set_snoc (C0 ++ [M]) c d;rwa [hl3] at this
  have hgg3:∀ (M:Ob) c,getC (C0 ++ [M] ++ [Ob.cells 0 c]) (C0.length+1) 0=some c:=fun M c=>by have:=getC_new (C0 ++ [M]) 0 c;rwa [hl3] at this
  obtain ⟨K,hK⟩:∃ K,C0 ++ [M2] ++ [Ob.cells 0 [.mp C0.length]]=K:=⟨_,rfl⟩
  have hKn:K=nvH C0 M2 []:=by rw [← hK];simp [nvH]
  have hKl:K.length=C0.length+2:=by rw [hKn,nvH_len]
  have hEK:Ext C0 K:=hKn ▸ nvH_ext C0 M2 []
  have hgf0:getC C0 C.length 0=some [Sb x.name,pv,bv]:=by rw [← hC0];exact getC_new C 0 _
  have hgfK:=getC_ext hgf0 hEK
  have hplK:=Sb_len (q1.ext ((hEA.trans hE0).trans hEK))
  have hA0:A.length < C0.length:=by omega
  obtain ⟨C2,z2,M3,G3,z3,z4⟩:=nv_l0 (CT:=CT) (v21:=fv) (i:=k) (p5:=C.length) (n22:=l.length) (n23:=k) base (hEA.trans hE0) hb hA0 (L:=C0.length+2) (Nat.le_refl _) q1 q2 (hps x hmem) K ⟨M2,[],hKn,w2⟩
  have hE2:Ext C0 C2:=z3 ▸ nvH_ext C0 M3 G3
  have hL2:C0.length+2≤C2.length:=by rw [z3,nvH_app,List.length_append,nvH_len];omega
  have hgf2:=getC_ext hgf0 hE2
  have hbl2:=(rdB_ext hbv ((hEA.trans hE0).trans hE2)).len
  obtain ⟨C4,y2,M5,G5,y3,y4⟩:=nv_l2 (CT:=CT) (v21:=fv) (i:=k) (p5:=C.length) (n22:=l.length) (n23:=k) base (hEA.trans hE0) hb hA0 hL2 hbv (hnc x hmem) (hnb x hmem) C2 ⟨M3,G3,z3,z4⟩
  have hE4:Ext C0 C4:=y3 ▸ nvH_ext C0 M5 G5
  have hgf4:=getC_ext hgf0 hE4
  have hbl4:=(rdB_ext hbv ((hEA.trans hE0).trans hE4)).len
  have hle4:=hE4.le
  unfold nvF
  have hin:=nv_l4 (CT:=CT) (v21:=fv) (i:=k) (n22:=l.length) (n23:=k) hT1 hC hX base (A1:=C4) ((hEA.trans hE0).trans hE4) hb (g2 _ ((hE.trans hE0).trans hE4)) hbv (hnb x hmem) (hnc x hmem) (hx x hmem) (q:=C0.length) (c:=C0.length+1) (y3 ▸ nvH_c C0 M5 G5) (y3 ▸ nvH_m C0 M5 G5) (S:=nvS x) y4 (L:=C4.length) (Nat.le_refl _) (by omega) C4 (Ext.refl _)
  have hKl':(C0 ++ [M2] ++ [Ob.cells 0 [V.mp C0.length]]).length=C0.length+2:=by rw [hK,hKl]
  simp only [eS,emptyBA,nullBA] at u1 u2
  rcases hin with ⟨x1,C5,x2,x3⟩ | ⟨t,x1,D,x2,x3,x4⟩
  ·refine .inl ⟨x1,trim L (frOf 93 [(2,.ref A.length 0 0),(21,fv),(22,Iz l.length),(23,Iz (k+1:Nat))]) C5,?_,(((hE.trans hE0).trans hE4).trans x3).trim (by omega) _⟩
   rw [itW_step]
   simp only [Iz,bl] at z2 y2 x2 hplK
   simp only [Iz,bl,a_f37,s_f37_l0_b,s_f37_l1_b,s_f37_l2_b,s_f37_l3_b,s_f37_l4_b,s_f37_l5_b,aa,reduceIte,reduceCtorEq,Nat.reduceEqDiff,Nat.reduceLT,Nat.reduceLeDiff,Nat.reduceBEq,Nat.reduceAdd,Nat.reduceMul,op_mapNew,op_mapUpd,hlt',a1,ld,hbC,hgg,hsD,hpo,hbo,Bool.and_self,u1,u2,hl3,hss3,hgg3,hb0,hb00,hK,hKl,hgfK,hplK,z2,hgf2,hbl2,y2,hgf4,hbl4,x2,hwk]
  ·refine .inr ⟨t,x1,trim L (frOf 93 [(2,.ref A.length 0 0),(3,bl true)]) D,?_,x3.trim (by omega) _,trim_get x4 (by omega)⟩
   rw [itW_step]
   simp only [Iz,bl] at z2 y2 x2 hplK
   simp only [Iz,bl,a_f37,s_f37_l0_b,s_f37_l1_b,s_f37_l2_b,s_f37_l3_b,s_f37_l4_b,s_f37_l5_b,aa,reduceIte,reduceCtorEq,Nat.reduceEqDiff,Nat.reduceLT,Nat.reduceLeDiff,Nat.reduceBEq,Nat.reduceAdd,Nat.reduceMul,op_mapNew,op_mapUpd,hlt',a1,ld,hbC,hgg,hsD,hpo,hbo,Bool.and_self,u1,u2,hl3,hss3,hgg3,hb0,hb00,hK,hKl,hgfK,hplK,z2,hgf2,hbl2,y2,hgf4,hbl4,x2]) C0 hC0 with ⟨e1,C,e2,e3⟩ | e
 ·refine .inl ⟨e1,trim L (frOf 93 [(2,.ref A.length 0 0),(21,fv),(22,Iz l.length),(23,Iz l.length),(24,bl false)]) C,?_,e3.trim (by omega) _⟩
  rw [cast0] at e2
  refine e2.trans ?_
  rw [itW_step]
  simp only [Iz,bl,a_f37,s_f37_l0_b,s_f37_l1_b,s_f37_l2_b,s_f37_l3_b,s_f37_l4_b,s_f37_l5_b,aa,reduceIte,reduceCtorEq,Nat.reduceEqDiff,Nat.reduceLT,Nat.reduceLeDiff,Nat.reduceBEq,Nat.reduceAdd,Nat.reduceMul,Int.lt_irrefl]
 ·rw [cast0] at e
  exact .inr e
theorem noVar_fun (hT:CT k_f37=some (.code s_f37)) (hT1:CT k_f61=some (.code s_f61)) (hC:CT k_f39=some (.code s_f39)) (hX:CT k_f62=some (.code s_f62)) (base:Nat) {A:Heap} (hb:base≤A.length) {w sm:Nat} {fv:V} {fs:List FunD} (hc:NC A w sm fv fs):
 ∃ H',callW CT (.fn k_f37 [] []) [.ref w 0 0] base A=some (resP (srch nvF fs 0),H')∧Ext A H':=by
 have e1:Ext A (A ++ [Ob.cells 0 [Iz 0,Iz 0,Iz 0]]):=Ext.app _ _
 have x1:=hc.load e1
 have hl:=(hc.rd.ext e1).len
 have g1:getC (A ++ [Ob.cells 0 [Iz 0,Iz 0,Iz 0]]) A.length 0=some [Iz 0,Iz 0,Iz 0]:=getC_new A 0 _
 have hl1:(A ++ [Ob.cells 0 [Iz 0,Iz 0,Iz 0]]).length=A.length+1:=by simp
 rcases nv_l5 (CT:=CT) hT1 hC hX base e1 hb g1 hc.rd hc.sml.n hc.sml.ps hc.sml.nb hc.sml.nc hc.sml.xs (L:=A.length+1) (by omega) (by omega) (A ++ [Ob.cells 0 [Iz 0,Iz 0,Iz 0]]) (Ext.refl _) with ⟨q1,C,q2,q3⟩ | ⟨⟨i,b,k⟩,q1,D,q2,q3,q4⟩
 ·have g2:=getC_ext g1 q3
  have g3:=getC_put (c':=[Iz 0,Iz 0,Iz 0]) g2
  refine ⟨C.set A.length (.cells 0 [Iz 0,Iz 0,Iz 0]),callW_fnA (c:=s_f37) (k:=1) hT rfl (by decide) s_f37_first ?_,(e1.trans q3).set (Nat.le_refl _) _⟩
  rw [q1]
  have xR:loadV (C.set A.length (.cells 0 [Iz 0,Iz 0,Iz 0])) true 3 (.ref A.length 0 0)=some (.agg [Iz 0,Iz 0,Iz 0]):=by
   show xLoad _ true 3 _=_
   rw [xo_ref,g3];rfl
  simp only [Iz,bl] at x1 hl hl1 q2 g2 xR
  simp only [Iz,s_f37,a_f37,s_f37_l0_b,s_f37_l1_b,s_f37_l2_b,s_f37_l3_b,s_f37_l4_b,s_f37_l5_b,aa,reduceIte,reduceCtorEq,Nat.reduceEqDiff,Nat.reduceLT,Nat.reduceLeDiff,Nat.reduceBEq,Nat.reduceAdd,Nat.reduceMul,x1,hl,hl1,q2,g2,hb]
  rw [xR]
  rfl
 ·refine ⟨D,callW_fnA (c:=s_f37) (k:=1) hT rfl (by decide) s_f37_first ?_,q3⟩
  rw [q1]
  have xR:loadV D true 3 (.ref A.length 0 0)=some (.agg [Iz i,Iz b,Iz k]):=by
   show xLoad _ true 3 _=_
   rw [xo_ref,q4];rfl
  simp only [Iz,bl] at x1 hl hl1 q2 xR
  simp only [Iz,s_f37,a_f37,s_f37_l0_b,s_f37_l1_b,s_f37_l2_b,s_f37_l3_b,s_f37_l4_b,s_f37_l5_b,aa,reduceIte,reduceCtorEq,Nat.reduceEqDiff,Nat.reduceLT,Nat.reduceLeDiff,Nat.reduceBEq,Nat.reduceAdd,Nat.reduceMul,x1,hl,hl1,q2]
  rw [xR]
  rfl
end
end Go.Proofs.YtamlbkalopefgaaR
set_option maxRecDepth 100000
namespace Go.Proofs.YtamlbkalopefgaaR
open Go.AM
abbrev frF (m:Nat):List V:=frOf 18 [(3,.ref m 0 0),(4,.ref (m+1) 0 0),(5,.ref (m+2) 0 0),(9,.fn k_f70 [] [.ref (m+3) 0 0])]
def lpR (m:Nat):Ob:=.loop .ready none (frF m) [10,11] s_names_walk_find_a0 s_f48_b0
def lpB (m:Nat):Ob:=.loop .busy none (frF m) [10,11] s_names_walk_find_a0 s_f48_b0
def lpD (m:Nat):Ob:=.loop .done (pendOf .ret) (frF m) [10,11] s_names_walk_find_a0 s_f48_b0
def fC (B:Heap) (f:V) (p:List V) (q:Bool) (w:Nat) (lp:Ob):Heap:=B ++ [.cells 0 [f]] ++ [.cells 0 p] ++ [.cells 0 [.s (.bool q)]] ++ [.cells 0 [.ref w 0 0]] ++ [lp]
theorem fC_len (B:Heap) (f:V) (p:List V) (q:Bool) (w:Nat) (lp:Ob):(fC B f p q w lp).length=B.length+5:=by simp [fC]
theorem fC_ext (B:Heap) (f:V) (p:List V) (q:Bool) (w:Nat) (lp:Ob) (G:Heap):Ext B (fC B f p q w lp ++ G):=⟨[.cells 0 [f]] ++ [.cells 0 p] ++ [.cells 0 [.s (.bool q)]] ++ [.cells 0 [.ref w 0 0]] ++ [lp] ++ G,by simp [fC]⟩
theorem fC_f (B:Heap) (f:V) (p:List V) (q:Bool) (w:Nat) (lp:Ob) (G:Heap):getC (fC B f p q w lp ++ G) B.length 0=some [f]:=by simp [fC,getC]
theorem fC_p (B:Heap) (f:V) (p:List V) (q:Bool) (w:Nat) (lp:Ob) (G:Heap):getC (fC B f p q w lp ++ G) (B.length+1) 0=some p:=by simp [fC,getC]
theorem fC_q (B:Heap) (f:V) (p:List V) (q:Bool) (w:Nat) (lp:Ob) (G:Heap):getC (fC B f p q w lp ++ G) (B.length+2) 0=some [.s (.bool q)]:=by simp [fC,getC]
theorem fC_w (B:Heap) (f:V) (p:List V) (q:Bool) (w:Nat) (lp:Ob) (G:Heap):getC (fC B f p q w lp ++ G) (B.length+3) 0=some [.ref w 0 0]:=by simp [fC,getC]
theorem fC_lp (B:Heap) (f:V) (p:List V) (q:Bool) (w:Nat) (lp:Ob) (G:Heap):(fC B f p q w lp ++ G)[B.length+4]?=some lp:=by simp [fC]
theorem fC_sp (B:Heap) (f:V) (p p':List V) (q:Bool) (w:Nat) (lp:Ob) (G:Heap):(fC B f p q w lp ++ G).set (B.length+1) (.cells 0 p')=fC B f p' q w lp ++ G:=by simp [fC]
theorem fC_sq (B:Heap) (f:V) (p:List V) (q q':Bool) (w:Nat) (lp:Ob) (G:Heap):(fC B f p q w lp ++ G).set (B.length+2) (.cells 0 [.s (.bool q')])=fC B f p q' w lp ++ G:=by simp [fC]
theorem fC_sl (B:Heap) (f:V) (p:List V) (q:Bool) (w:Nat) (lp lp':Ob) (G:Heap):(fC B f p q w lp ++ G).set (B.length+4) lp'=fC B f p q w lp' ++ G:=by simp [fC]
theorem fC_app (B:Heap) (f:V) (p:List V) (q:Bool) (w:Nat) (lp:Ob) (G:Heap):fC B f p q w lp ++ G=B ++ ([.cells 0 [f]] ++ [.cells 0 p] ++ [.cells 0 [.s (.bool q)]] ++ [.cells 0 [.ref w 0 0]] ++ [lp] ++ G):=by simp [fC]
def gC (B:Heap) (f:V) (p:List V) (q:Bool) (w:Nat):Heap:=B ++ [.cells 0 [f]] ++ [.cells 0 p] ++ [.cells 0 [.s (.bool q)]] ++ [.cells 0 [.ref w 0 0]]
theorem gC_len (B:Heap) (f:V) (p:List V) (q:Bool) (w:Nat):(gC B f p q w).length=B.length+4:=by simp [gC]
theorem fC_cut (B:Heap) (f:V) (p:List V) (q:Bool) (w:Nat) (lp lp':Ob) (G:Heap):(fC B f p q w lp ++ G).set (B.length+4) lp'=gC B f p q w ++ (lp' :: G):=by simp [fC,gC]
theorem gC_p (B:Heap) (f:V) (p:List V) (q:Bool) (w:Nat) (G:Heap):getC (gC B f p q w ++ G) (B.length+1) 0=some p:=by simp [gC,getC]
theorem gC_q (B:Heap) (f:V) (p:List V) (q:Bool) (w:Nat) (G:Heap):getC (gC B f p q w ++ G) (B.length+2) 0=some [.s (.bool q)]:=by simp [gC,getC]
theorem gC_sp (B:Heap) (f:V) (p p':List V) (q:Bool) (w:Nat) (G:Heap):(gC B f p q w ++ G).set (B.length+1) (.cells 0 p')=gC B f p' q w ++ G:=by simp [gC]
theorem gC_sq (B:Heap) (f:V) (p:List V) (q q':Bool) (w:Nat) (G:Heap):(gC B f p q w ++ G).set (B.length+2) (.cells 0 [.s (.bool q')])=gC B f p q' w ++ G:=by simp [gC]
theorem gC_app (B:Heap) (f:V) (p:List V) (q:Bool) (w:Nat) (G:Heap):∃ G',gC B f p q w ++ G=B ++ G':=⟨[.cells 0 [f]] ++ [.cells 0 p] ++ [.cells 0 [.s (.bool q)]] ++ [.cells 0 [.ref w 0 0]] ++ G,by simp [gC]⟩
section
variable {CT:Nat→Option CFun}
def kF (B:Nat→Heap) (m:Nat) (f:V) (w n:Nat):Heap:=fC (B n) f [Iz 0,Iz 0,Iz 0] false w (lpR m)
def kD (B:Nat→Heap) (m:Nat) (f:V) (w n i b k:Nat):Heap:=fC (B (n+1)) f [Iz i,Iz b,Iz k] true w (lpD m)
def Pred (CT:Nat→Option CFun) (base:Nat) (f:V) (B:Nat→Heap) (n i b k:Nat) (r:List V) (g:Bool):Prop:=∀ G,∃ G',callW CT f [.agg [Iz i,Iz b,Iz k],.agg r] base (B n ++ G)=some (bl g,B (n+1) ++ G ++ G')
theorem find_yld (base m:Nat) {B:Nat→Heap} (hB:∀ n,(B n).length=m) (hb:base≤m) {f:V} (hf:f.one=true) {w n i b k:Nat} {A:Heap} {r:List V} {x:InsD} (hr:RdIns A r x) {g:Bool} (hp:Pred CT base f B n i b k r g):
 Yld CT base (.yld (m+4)) (kF B m f w) (kD B m f w) n i b k r g:=by
 intro G
 obtain ⟨av,lv,rfl,q1,q2,q3,q4,_⟩:=id hr
 have hav:=q1.one
 have hlv:=q3.one
 obtain ⟨C,hC⟩:∃ C,kF B m f w n ++ G=C:=⟨_,rfl⟩
 obtain ⟨c,hcc⟩:∃ c,m+(5+G.length)=c:=⟨_,rfl⟩
 have hCl:C.length=c:=by rw [← hcc];rw [← hC,List.length_append,kF,fC_len,hB];omega
 obtain ⟨G1,hG1⟩:∃ G1,G ++ [Ob.cells 0 [Iz i,Iz b,Iz k]] ++ [Ob.cells 0 (insC x av lv)]=G1:=⟨_,rfl⟩
 have eH1:C ++ [Ob.cells 0 [Iz i,Iz b,Iz k]] ++ [Ob.cells 0 (insC x av lv)]=kF B m f w n ++ G1:=by rw [← hC,← hG1];simp
 have hm:=hB n
 have h0:=fC_lp (B n) f [Iz 0,Iz 0,Iz 0] false w (lpR m) G
 have h1:=fC_lp (B n) f [Iz 0,Iz 0,Iz 0] false w (lpR m) G1
 have e2:=fC_sl (B n) f [Iz 0,Iz 0,Iz 0] false w (lpR m) (lpB m) G1
 have lf:=fC_f (B n) f [Iz 0,Iz 0,Iz 0] false w (lpB m) G1
 rw [hm] at h0 h1 e2 lf
 have g6:getC (fC (B n) f [Iz 0,Iz 0,Iz 0] false w (lpB m) ++ G1) c 0=some [Iz i,Iz b,Iz k]:=by
  rw [← hG1,← List.append_assoc,← List.append_assoc]
  refine getC_ext ?_ (Ext.app _ _)
  have:=getC_new (fC (B n) f [Iz 0,Iz 0,Iz 0] false w (lpB m) ++ G) 0 [Iz i,Iz b,Iz k]
  rwa [List.length_append,fC_len,hm,Nat.add_assoc,hcc] at this
 have g7:getC (fC (B n) f [Iz 0,Iz 0,Iz 0] false w (lpB m) ++ G1) (c+1) 0=some (insC x av lv):=by
  rw [← hG1,← List.append_assoc,← List.append_assoc]
  have:=getC_new (fC (B n) f [Iz 0,Iz 0,Iz 0] false w (lpB m) ++ G ++ [Ob.cells 0 [Iz i,Iz b,Iz k]]) 0 (insC x av lv)
  rwa [len_snoc,show (fC (B n) f [Iz 0,Iz 0,Iz 0] false w (lpB m) ++ G).length=c by rw [← hcc,List.length_append,fC_len,hm];omega] at this
 obtain ⟨G2,hp⟩:=hp ([.cells 0 [f]] ++ [.cells 0 [Iz 0,Iz 0,Iz 0]] ++ [.cells 0 [.s (.bool false)]] ++ [.cells 0 [.ref w 0 0]] ++ [lpB m] ++ G1)
 rw [← fC_app] at hp
 have eR:B (n+1) ++ ([.cells 0 [f]] ++ [.cells 0 [Iz 0,Iz 0,Iz 0]] ++ [.cells 0 [.s (.bool false)]] ++ [.cells 0 [.ref w 0 0]] ++ [lpB m] ++ G1) ++ G2=fC (B (n+1)) f [Iz 0,Iz 0,Iz 0] false w (lpB m) ++ (G1 ++ G2):=by simp [fC]
 rw [eR] at hp
 have hm1:=hB (n+1)
 refine ⟨G1 ++ G2,?_⟩
 rw [hC]
 rw [show (if g=true then some (bl false,kD B m f w n i b k ++ (G1 ++ G2)) else some (bl true,kF B m f w (n+1) ++ (G1 ++ G2)))=some (if g=true then (bl false,kD B m f w n i b k ++ (G1 ++ G2)) else (bl true,kF B m f w (n+1) ++ (G1 ++ G2))) by cases g <;> rfl]
 have hH:C[m+4]?=some (lpR m):=by rw [← hC];exact h0
 refine callW_yld2 (id:=m+4) (by omega) hH (fr:=frOf 18 [(3,.ref m 0 0),(4,.ref (m+1) 0 0),(5,.ref (m+2) 0 0),(9,.fn k_f70 [] [.ref (m+3) 0 0]),(10,.agg [Iz i,Iz b,Iz k]),(11,.agg (insC x av lv))]) (fr1:=frOf 18 [(3,.ref m 0 0),(4,.ref (m+1) 0 0),(5,.ref (m+2) 0 0),(6,.ref c 0 0),(7,.ref (c+1) 0 0)]) (H1:=C ++ [Ob.cells 0 [Iz i,Iz b,Iz k]] ++ [Ob.cells 0 (insC x av lv)]) ?_ ?_ (by rw [eH1];exact h1) ?_
 ·simp only [frF,aa,reduceIte,reduceCtorEq,Nat.reduceEqDiff,Nat.reduceLT,Nat.reduceLeDiff,Nat.reduceBEq,Nat.reduceAdd,Nat.reduceMul]
 ·have h6:base≤c:=by omega
  have h7:base≤c+1:=by omega
  have hgg:∀ e,getC (C ++ [Ob.cells 0 e]) c 0=some e:=fun e=>by have:=getC_new C 0 e;rwa [hCl] at this
  have hss:∀ e d,(C ++ [e]).set c d=C ++ [d]:=fun e d=>by have:=set_snoc C e d;rwa [hCl] at this
  have hl2:∀ d,(C ++ [d]).length=c+1:=fun d=>by rw [len_snoc,hCl]
  have hgg2:∀ a e,getC (C ++ [a] ++ [Ob.cells 0 e]) (c+1) 0=some e:=fun a e=>by have:=getC_new (C ++ [a]) 0 e;rwa [hl2] at this
  have hss2:∀ a e d,(C ++ [a] ++ [e]).set (c+1) d=C ++ [a] ++ [d]:=fun a e d=>by have:=set_snoc (C ++ [a]) e d;rwa [hl2] at this
  simp only [insC,Iz,s_names_walk_find_a0,a_f48,aa,reduceIte,reduceCtorEq,Nat.reduceEqDiff,Nat.reduceLT,Nat.reduceLeDiff,Nat.reduceBEq,Nat.reduceAdd,Nat.reduceMul,hCl,h6,h7,hgg,hss,hl2,hgg2,hss2,hav,hlv,Bool.and_self]
 ·rw [eH1]
  have e2':(kF B m f w n ++ G1).set (m+4) (Ob.loop .busy none (frF m) [10,11] s_names_walk_find_a0 s_f48_b0)=fC (B n) f [Iz 0,Iz 0,Iz 0] false w (lpB m) ++ G1:=e2
  rw [e2']
  obtain ⟨D,hD⟩:∃ D,fC (B n) f [Iz 0,Iz 0,Iz 0] false w (lpB m) ++ G1=D:=⟨_,rfl⟩
  rw [hD] at lf g6 g7 hp ⊢
  have lfx:xLoad D false 1 (.ref m 0 0)=some f:=getC_load lf
  cases g with
  | false=>
    have hend:evC (callW CT) itW base s_f48_b0 (frOf 18 [(3,.ref m 0 0),(4,.ref (m+1) 0 0),(5,.ref (m+2) 0 0),(6,.ref c 0 0),(7,.ref (c+1) 0 0)]) D=some (.nrm,frOf 18 [(4,.ref (m+1) 0 0),(5,.ref (m+2) 0 0),(6,.ref c 0 0),(15,bl false)],fC (B (n+1)) f [Iz 0,Iz 0,Iz 0] false w (lpB m) ++ (G1 ++ G2)):=by
     simp only [insC,Iz,bl] at g6 g7 hp lfx
     simp only [insC,Iz,bl,s_f48_b0,a_f48,aa,reduceIte,reduceCtorEq,Nat.reduceEqDiff,Nat.reduceLT,Nat.reduceLeDiff,Nat.reduceBEq,Nat.reduceAdd,Nat.reduceMul,g6,g7,lfx,hp]
    have hl:=fC_lp (B (n+1)) f [Iz 0,Iz 0,Iz 0] false w (lpB m) (G1 ++ G2)
    have e3:=fC_sl (B (n+1)) f [Iz 0,Iz 0,Iz 0] false w (lpB m) (lpR m) (G1 ++ G2)
    rw [hm1] at hl e3
    rw [hend,yldE_some hl]
    exact congrArg some (Prod.ext rfl e3)
  | true=>
    have hend:evC (callW CT) itW base s_f48_b0 (frOf 18 [(3,.ref m 0 0),(4,.ref (m+1) 0 0),(5,.ref (m+2) 0 0),(6,.ref c 0 0),(7,.ref (c+1) 0 0)]) D=some (.ret,frOf 18 [],fC (B (n+1)) f [Iz i,Iz b,Iz k] true w (lpB m) ++ (G1 ++ G2)):=by
     have hb1:base≤m+1:=by omega
     have hb2:base≤m+2:=by omega
     have p1:=fC_p (B (n+1)) f [Iz 0,Iz 0,Iz 0] false w (lpB m) (G1 ++ G2)
     have p2:=fC_sp (B (n+1)) f [Iz 0,Iz 0,Iz 0] [Iz i,Iz b,Iz k] false w (lpB m) (G1 ++ G2)
     have p3:=fC_q (B (n+1)) f [Iz i,Iz b,Iz k] false w (lpB m) (G1 ++ G2)
     have p4:=fC_sq (B (n+1)) f [Iz i,Iz b,Iz k] false true w (lpB m) (G1 ++ G2)
     have g6':getC (fC (B (n+1)) f [Iz 0,Iz 0,Iz 0] false w (lpB m) ++ (G1 ++ G2)) c 0=some [Iz i,Iz b,Iz k]:=by
      have:=getC_new (fC (B (n+1)) f [Iz 0,Iz 0,Iz 0] false w (lpB m) ++ G) 0 [Iz i,Iz b,Iz k]
      rw [List.length_append,fC_len,hm1,Nat.add_assoc,hcc] at this
      exact getC_ext this ⟨[Ob.cells 0 (insC x av lv)] ++ G2,by rw [← hG1];simp⟩
     rw [hm1] at p1 p2 p3 p4
     simp only [insC,Iz,bl] at g6 g7 hp lfx p1 p2 p3 p4 g6'
     simp only [insC,Iz,bl,s_f48_b0,a_f48,aa,reduceIte,reduceCtorEq,Nat.reduceEqDiff,Nat.reduceLT,Nat.reduceLeDiff,Nat.reduceBEq,Nat.reduceAdd,Nat.reduceMul,g6,g7,lfx,hp,g6',p1,p2,p3,p4,hb1,hb2]
    have hl:=fC_lp (B (n+1)) f [Iz i,Iz b,Iz k] true w (lpB m) (G1 ++ G2)
    have e3:=fC_sl (B (n+1)) f [Iz i,Iz b,Iz k] true w (lpB m) (lpD m) (G1 ++ G2)
    rw [hm1] at hl e3
    rw [hend,yldE_some hl]
    exact congrArg some (Prod.ext rfl e3)
structure FindT (CT:Nat→Option CFun):Prop where
 find:CT k_f48=some (.code s_f48)
 code:CT k_f67=some (.code s_f67)
 code1:CT k_f70=some (.code s_f70)
theorem code_fun (hT:FindT CT) (base:Nat) (H:Heap) (w:Nat):callW CT (.fn k_f67 [] []) [.ref w 0 0] base H=some (.fn k_f70 [] [.ref H.length 0 0],H ++ [.cells 0 [.ref w 0 0]]):=by
 refine callW_fnA (c:=s_f67) (k:=1) hT.code rfl (by decide) s_f67_first ?_
 simp only [s_f67,a_f67,aa,reduceIte,reduceCtorEq,Nat.reduceEqDiff,Nat.reduceLT,Nat.reduceLeDiff,Nat.reduceBEq,Nat.reduceAdd,Nat.reduceMul,xsub_mkFn]
theorem find_fun (hT:FindT CT) (base:Nat) {A:Heap} (hb:base≤A.length) {w sm:Nat} {fv:V} {fs:List FunD} (hc:NC A w sm fv fs) {f:V} (hf:f.one=true) {B:Nat→Heap} {m:Nat} (hB:∀ n,(B n).length=m) (hE:∀ n,Ext A (B n)) {Gf:Nat→Nat→Nat→Nat→InsD→Bool}
 (hp:∀ i f1,fs[i]?=some f1→∀ b x,f1.blocks[b]?=some x→∀ k z r,x.code[k]?=some z→RdIns A r z→Pred CT base f B (cF (fs.take i)+cI (f1.blocks.take b)+k) i b k r (Gf (cF (fs.take i)+cI (f1.blocks.take b)+k) i b k z)):
 ∃ n G,callW CT (.fn k_f48 [] []) [.ref w 0 0,f] base (B 0)=some (resP (gSrch Gf fs),B n ++ G):=by
 have hbm:base≤m:=by have:=(hE 0).le;rw [hB] at this;omega
 have hm:=hB 0
 have hK:∀ n,(kF B m f w n).length=m+5:=fun n=>by rw [kF,fC_len,hB]
 have hKD:∀ n i b k,(kD B m f w n i b k).length=m+5:=fun n i b k=>by rw [kD,fC_len,hB]
 have hEK:∀ n,Ext A (kF B m f w n):=fun n=>(hE n).trans (by have:=fC_ext (B n) f [Iz 0,Iz 0,Iz 0] false w (lpR m) [];rwa [List.append_nil] at this)
 have hw:getC (kF B m f w 0) (m+3) 0=some [.ref w 0 0]:=by
  have:=fC_w (B 0) f [Iz 0,Iz 0,Iz 0] false w (lpR m) []
  rwa [List.append_nil,hm] at this
 have hfc:=cells_of_one hf
 have hcd:=code_fun hT base
 have hb1:base≤m+1:=by omega
 have hb2:base≤m+2:=by omega
 have e0:B 0 ++ [.cells 0 [f]] ++ [.cells 0 [Iz 0,Iz 0,Iz 0]] ++ [.cells 0 [.s (.bool false)]] ++ [.cells 0 [.ref w 0 0]] ++ [lpR m]=kF B m f w 0:=rfl
 rcases code1_fun (CT:=CT) hT.code1 base hK hKD hEK (show base≤m+5 by omega) hc hw (y:=.yld (m+4)) (Gf:=Gf) (fun i f1 hi b x hx k z r hz hr=>find_yld base m hB hbm hf hr (hp i f1 hi b x hx k z r hz hr)) with ⟨z1,G,z2⟩ | ⟨⟨i,b,k⟩,z1,n,G,z2⟩
 ·obtain ⟨G1,t1⟩:=trim_app2 (C:=gC (B (cF fs)) f [Iz 0,Iz 0,Iz 0] false w) (m:=m+4) (by rw [gC_len,hB];omega) (frF m) (.dead :: G)
  have hmn:=hB (cF fs)
  have hl:=fC_lp (B (cF fs)) f [Iz 0,Iz 0,Iz 0] false w (lpR m) G
  have hd:=fC_cut (B (cF fs)) f [Iz 0,Iz 0,Iz 0] false w (lpR m) .dead G
  have p1:=gC_p (B (cF fs)) f [Iz 0,Iz 0,Iz 0] false w G1
  have p2:=gC_sp (B (cF fs)) f [Iz 0,Iz 0,Iz 0] [Iz 0,Iz 0,Iz 0] false w G1
  have p3:=gC_q (B (cF fs)) f [Iz 0,Iz 0,Iz 0] false w G1
  have p4:=gC_sq (B (cF fs)) f [Iz 0,Iz 0,Iz 0] false false w G1
  rw [hmn] at hl hd p1 p2 p3 p4
  rw [← hd] at t1
  have hrn:=fun fr v=>rngC_nrm (L:=m+4) (fr:=fr) (v:=v) hl
  obtain ⟨G2,hG2⟩:=gC_app (B (cF fs)) f [Iz 0,Iz 0,Iz 0] false w G1
  refine ⟨cF fs,G2,callW_fnA (c:=s_f48) (k:=2) hT.find rfl (by decide) s_f48_first ?_⟩
  rw [z1,← hG2]
  simp only [kF,fC,lpR] at z2 hrn t1 hl
  simp only [Iz,bl] at z2 hrn t1 p1 p2 p3 p4
  simp only [Iz,s_f48,a_f48,aa,reduceIte,reduceCtorEq,Nat.reduceEqDiff,Nat.reduceLT,Nat.reduceLeDiff,Nat.reduceBEq,Nat.reduceAdd,Nat.reduceMul,hm,hfc,hf,hcd,len_snoc,z2,hrn,t1,p1,p2,p3,p4,hb1,hb2]
  have xR:loadV (gC (B (cF fs)) f [Iz 0,Iz 0,Iz 0] false w ++ G1) true 3 (.ref (m+1) 0 0)=some (.agg [Iz 0,Iz 0,Iz 0]):=by
   show xLoad _ true 3 _=_
   rw [xo_ref,p1];rfl
  have xQ:loadV (gC (B (cF fs)) f [Iz 0,Iz 0,Iz 0] false w ++ G1) false 1 (.ref (m+2) 0 0)=some (bl false):=by
   show xLoad _ false 1 _=_
   exact getC_load p3
  simp only [Iz,bl] at xR xQ
  rw [xR,xQ]
  rfl
 ·obtain ⟨G1,t1⟩:=trim_app2 (C:=gC (B (n+1)) f [Iz i,Iz b,Iz k] true w) (m:=m+4) (by rw [gC_len,hB];omega) (frF m) (.dead :: G)
  have hmn:=hB (n+1)
  have hl:=fC_lp (B (n+1)) f [Iz i,Iz b,Iz k] true w (lpD m) G
  have hd:=fC_cut (B (n+1)) f [Iz i,Iz b,Iz k] true w (lpD m) .dead G
  have p1:=gC_p (B (n+1)) f [Iz i,Iz b,Iz k] true w G1
  have p3:=gC_q (B (n+1)) f [Iz i,Iz b,Iz k] true w G1
  rw [hmn] at hl hd p1 p3
  rw [← hd] at t1
  have hrn:=fun fr v=>rngC_done (L:=m+4) (fr:=fr) (v:=v) (e:=.ret) hl
  obtain ⟨G2,hG2⟩:=gC_app (B (n+1)) f [Iz i,Iz b,Iz k] true w G1
  refine ⟨n+1,G2,callW_fnA (c:=s_f48) (k:=2) hT.find rfl (by decide) s_f48_first ?_⟩
  rw [z1,← hG2]
  simp only [kF,kD,fC,lpR,lpD] at z2 hrn t1 hl
  simp only [Iz,bl] at z2 hrn t1 p1 p3
  simp only [Iz,s_f48,a_f48,aa,reduceIte,reduceCtorEq,Nat.reduceEqDiff,Nat.reduceLT,Nat.reduceLeDiff,Nat.reduceBEq,Nat.reduceAdd,Nat.reduceMul,hm,hfc,hf,hcd,len_snoc,z2,hrn,t1,hb1,hb2]
  have xR:loadV (gC (B (n+1)) f [Iz i,Iz b,Iz k] true w ++ G1) true 3 (.ref (m+1) 0 0)=some (.agg [Iz i,Iz b,Iz k]):=by
   show xLoad _ true 3 _=_
   rw [xo_ref,p1];rfl
  have xQ:loadV (gC (B (n+1)) f [Iz i,Iz b,Iz k] true w ++ G1) false 1 (.ref (m+2) 0 0)=some (bl true):=by
   show xLoad _ false 1 _=_
   exact getC_load p3
  simp only [Iz,bl] at xR xQ
  rw [xR,xQ]
  rfl
end
end Go.Proofs.YtamlbkalopefgaaR
set_option maxRecDepth 100000
namespace Go.Proofs.YtamlbkalopefgaaR
open Go.AM
def eqB (a b:ByteArray):Bool:=a.data.toList == b.data.toList
def namedI (s:ByteArray) (fs:List FunD):Int:=idxP (fun f=>eqB f.name s) fs
section
variable {CT:Nat→Option CFun}
theorem find_pure (hT:FindT CT) (base:Nat) {A:Heap} (hb:base≤A.length) {w sm:Nat} {fv:V} {fs:List FunD} (hc:NC A w sm fv fs) {f:V} (hf:f.one=true) {g:Nat→Nat→Nat→InsD→Bool}
 (hp:∀ (i:Nat) (f1:FunD),fs[i]?=some f1→∀ (b:Nat) (x:BlkD),f1.blocks[b]?=some x→∀ (k:Nat) (z:InsD) (r:List V),x.code[k]?=some z→RdIns A r z→∀ D,Ext A D→∃ D',callW CT f [.agg [Iz i,Iz b,Iz k],.agg r] base D=some (bl (g i b k z),D')∧Ext D D'):
 ∃ H',callW CT (.fn k_f48 [] []) [.ref w 0 0,f] base A=some (resP (gSrch (fun _=>g) fs),H')∧Ext A H':=by
 obtain ⟨n,G,h1⟩:=find_fun hT base hb hc hf (B:=fun _=>A) (m:=A.length) (fun _=>rfl) (fun _=>Ext.refl A) (Gf:=fun _=>g) (fun i f1 hi b x hx k z r hz hr G=>by
  obtain ⟨D',d1,G',rfl⟩:=hp i f1 hi b x hx k z r hz hr (A ++ G) ⟨G,rfl⟩
  exact ⟨G',d1⟩)
 exact ⟨A ++ G,h1,G,rfl⟩
theorem named1_fun (hT:CT k_f66=some (.code s_f66)) (base:Nat) {H:Heap} (hb:base≤H.length) {id:Nat} {s:ByteArray} (hg:getC H id 0=some [Sb s]) {A:Heap} {r:List V} {x:FunD} (hr:RdFun A r x):∃ H',callW CT (.fn k_f66 [] [.ref id 0 0]) [.agg r] base H=some (bl (eqB x.name s),H')∧Ext H H':=by
 obtain ⟨pv,bv,rfl,q1,q2,q3,hbv⟩:=hr
 have hpo:=q1.one
 have hbo:=hbv.one
 have e1:Ext H (H ++ [Ob.cells 0 [Sb x.name,pv,bv]]):=Ext.app _ _
 have hx:=getC_load (getC_ext hg e1)
 have hgg:=getC_new H 0 [Sb x.name,pv,bv]
 refine ⟨H ++ [Ob.cells 0 [Sb x.name,pv,bv]],callW_fnA (c:=s_f66) (k:=2) hT rfl (by decide) s_f66_first ?_,e1⟩
 unfold eqB
 simp only [s_f66,a_f66,aa,reduceIte,reduceCtorEq,Nat.reduceEqDiff,Nat.reduceLT,Nat.reduceLeDiff,Nat.reduceBEq,Nat.reduceAdd,Nat.reduceMul,hpo,hbo,Bool.and_self,hx,hgg]
theorem named_fun (hT1:CT k_f66=some (.code s_f66)) (hT:CT k_f45=some (.code s_f45)) (hI:CT k_f65=some (.code s_f65)) (base:Nat) {A:Heap} (hb:base≤A.length) {w sm:Nat} {fv:V} {fs:List FunD} (hc:NC A w sm fv fs) (s:ByteArray):
 ∃ H',callW CT (.fn k_f45 [] []) [.ref w 0 0,Sb s] base A=some (Iz (namedI s fs),H')∧Ext A H':=by
 have e1:Ext A (A ++ [Ob.cells 0 [Sb s]]):=Ext.app _ _
 have x1:=hc.load e1
 obtain ⟨H',h1,h2⟩:=idxF_fun hI base (A ++ [Ob.cells 0 [Sb s]]) (f:=.fn k_f66 [] [.ref A.length 0 0]) (p:=fun f=>eqB f.name s) (hc.rd.ext e1) (fun i x r _ hr D hD=>named1_fun hT1 base (by have:=hD.le;rw [len_snoc] at this;omega) (getC_ext (getC_new A 0 _) hD) hr) (by have:=hc.sml.n;omega)
 refine ⟨H',callW_fnA (c:=s_f45) (k:=2) hT rfl (by decide) s_f45_first ?_,e1.trans h2⟩
 unfold namedI
 simp only [Iz] at h1
 simp only [Iz,s_f45,a_f45,aa,reduceIte,reduceCtorEq,Nat.reduceEqDiff,Nat.reduceLT,Nat.reduceLeDiff,Nat.reduceBEq,Nat.reduceAdd,Nat.reduceMul,xsub_mkFn,x1,h1]
def nfG (fs:List FunD) (x:InsD):Bool:=(x.op == 10 || x.op == 4) && decide (namedI x.f fs < 0)
theorem noFunc1_fun (hT1:CT k_f66=some (.code s_f66)) (hN:CT k_f45=some (.code s_f45)) (hI:CT k_f65=some (.code s_f65)) (hT:CT k_f59=some (.code s_f59)) (base:Nat) {A:Heap} (hb:base≤A.length) {w w1 sm:Nat} {fv:V} {fs:List FunD} (hc:NC A w sm fv fs) (hw:getC A w1 0=some [.ref w 0 0]) {i b k:Nat} {r:List V} {x:InsD} (hr:RdIns A r x) (D:Heap) (hD:Ext A D):
 ∃ D',callW CT (.fn k_f59 [] [.ref w1 0 0]) [.agg [Iz i,Iz b,Iz k],.agg r] base D=some (bl (nfG fs x),D')∧Ext D D':=by
 obtain ⟨av,lv,rfl,q1,q2,q3,q4,_⟩:=hr
 have hav:=q1.one
 have hlv:=q3.one
 have hbD:base≤D.length:=by have:=hD.le;omega
 obtain ⟨D1,hD1⟩:∃ D1,D ++ [Ob.cells 0 [Iz i,Iz b,Iz k]] ++ [Ob.cells 0 (insC x av lv)]=D1:=⟨_,rfl⟩
 have e1:Ext D D1:=hD1 ▸ (Ext.app _ _).trans (Ext.app _ _)
 have hw1:=getC_load (getC_ext hw (hD.trans e1))
 have hgg:getC D1 (D.length+1) 0=some (insC x av lv):=by
  have:=getC_new (D ++ [Ob.cells 0 [Iz i,Iz b,Iz k]]) 0 (insC x av lv)
  rwa [len_snoc,hD1] at this
 have hl1:=len_snoc D (Ob.cells 0 [Iz i,Iz b,Iz k])
 obtain ⟨D2,h1,h2⟩:=named_fun hT1 hN hI base (by have:=e1.le;omega) (hc.ext (hD.trans e1)) x.f
 unfold nfG
 simp only [insC,Iz,bl] at h1 hgg hD1 hl1
 cases ho:(x.op == 10) with
 | true=>
   refine ⟨D2,callW_fnA (c:=s_f59) (k:=3) hT rfl (by decide) s_f59_first ?_,e1.trans h2⟩
   simp only [insC,Iz,s_f59,a_f59,aa,reduceIte,reduceCtorEq,Nat.reduceEqDiff,Nat.reduceLT,Nat.reduceLeDiff,Nat.reduceBEq,Nat.reduceAdd,Nat.reduceMul,hav,hlv,Bool.and_self,hl1,hD1,hgg,ho,hw1,h1]
 | false=>
   cases ho4:(x.op == 4) with
   | true=>
     refine ⟨D2,callW_fnA (c:=s_f59) (k:=3) hT rfl (by decide) s_f59_first ?_,e1.trans h2⟩
     simp only [insC,Iz,s_f59,a_f59,aa,reduceIte,reduceCtorEq,Nat.reduceEqDiff,Nat.reduceLT,Nat.reduceLeDiff,Nat.reduceBEq,Nat.reduceAdd,Nat.reduceMul,hav,hlv,Bool.and_self,hl1,hD1,hgg,ho,ho4,hw1,h1]
   | false=>
     refine ⟨D1,callW_fnA (c:=s_f59) (k:=3) hT rfl (by decide) s_f59_first ?_,e1⟩
     simp only [insC,Iz,s_f59,a_f59,aa,reduceIte,reduceCtorEq,Nat.reduceEqDiff,Nat.reduceLT,Nat.reduceLeDiff,Nat.reduceBEq,Nat.reduceAdd,Nat.reduceMul,hav,hlv,Bool.and_self,hl1,hD1,hgg,ho,ho4]
end
end Go.Proofs.YtamlbkalopefgaaR
set_option maxRecDepth 100000
namespace Go.Proofs.YtamlbkalopefgaaR
open Go.AM
def mainB:ByteArray:=⟨#[109,97,105,110]⟩
def mfO (fs:List FunD):Option Pt:=if ((fs.length:Int) == 0 || decide ((fs.length:Int) > 64))=true then some (0,0,0) else none
def nmO (fs:List FunD):Option Pt:=if namedI mainB fs < 0 then some (0,0,0) else if (fs.getD (namedI mainB fs).toNat fun0).ps.length > 0 then some ((namedI mainB fs).toNat,0,0) else none
theorem namedI_at' {s:ByteArray} {fs:List FunD} (h:¬ namedI s fs < 0):∃ j:Nat,namedI s fs=(j:Int)∧j < fs.length:=by
 unfold namedI idxP at h ⊢
 cases e:fs.findIdx? (fun f=>eqB f.name s) with
 | none=>rw [e] at h;exact absurd h (by decide)
 | some j=>exact ⟨j,rfl,(List.findIdx?_eq_some_iff_getElem.1 e).1⟩
section
variable {CT:Nat→Option CFun}
theorem manyFuncs_fun (hT:CT k_f22=some (.code s_f22)) (base:Nat) {A:Heap} (hb:base≤A.length) {w sm:Nat} {fv:V} {fs:List FunD} (hc:NC A w sm fv fs):
 ∃ H',callW CT (.fn k_f22 [] []) [.ref w 0 0] base A=some (resP (mfO fs),H')∧Ext A H':=by
 have e1:Ext A (A ++ [Ob.cells 0 [Iz 0,Iz 0,Iz 0]]):=Ext.app _ _
 have x1:=hc.load e1
 have hl:=(hc.rd.ext e1).len
 have g1:getC (A ++ [Ob.cells 0 [Iz 0,Iz 0,Iz 0]]) A.length 0=some [Iz 0,Iz 0,Iz 0]:=getC_new A 0 _
 have s1:∀ d,(A ++ [Ob.cells 0 [Iz 0,Iz 0,Iz 0]]).set A.length d=A ++ [d]:=fun d=>set_snoc A _ d
 have xR:loadV (A ++ [Ob.cells 0 [Iz 0,Iz 0,Iz 0]]) true 3 (.ref A.length 0 0)=some (.agg [Iz 0,Iz 0,Iz 0]):=by
  show xLoad _ true 3 _=_
  rw [xo_ref,g1];rfl
 have hne:(w != A.length)=true:=by
  have hgw:=hc.gw
  by_cases e:w=A.length
  ·subst e
   simp [getC] at hgw
  ·simpa using e
 have oR:∀ (a b c:Nat),V.obj? (.ref a b c)=some (some a):=fun _ _ _=>rfl
 have oA:∀ i j:Nat,apartO (some (some i)) (some (some j))=(i != j):=fun _ _=>rfl
 have oB:∀ x:Option Nat,apartO (some none) (some x)=true:=fun _=>rfl
 have hfo:V.obj? fv=some none:=by
  obtain ⟨R,hr1,_⟩:=hc.rd
  have hel:=hr1.el
  unfold elems at hel
  split at hel <;> first | rfl | cases hel
 refine ⟨A ++ [Ob.cells 0 [Iz 0,Iz 0,Iz 0]],callW_fnA (c:=s_f22) (k:=1) hT rfl (by decide) s_f22_first ?_,e1⟩
 unfold mfO
 simp only [Iz,bl] at x1 hl g1 s1 xR
 cases h0:((fs.length:Int) == 0) with
 | true=>
   simp only [Iz,s_f22,X22_1,opsK,a_f22,aa,reduceIte,reduceCtorEq,Nat.reduceEqDiff,Nat.reduceLT,Nat.reduceLeDiff,Nat.reduceBEq,Nat.reduceAdd,Nat.reduceMul,x1,hl,g1,s1,hb,h0]
   rw [xR]
   rfl
 | false=>
   cases h1:decide ((fs.length:Int) > 64) with
   | true=>
     simp only [Iz,s_f22,X22_1,opsK,a_f22,aa,reduceIte,reduceCtorEq,Nat.reduceEqDiff,Nat.reduceLT,Nat.reduceLeDiff,Nat.reduceBEq,Nat.reduceAdd,Nat.reduceMul,x1,hl,g1,s1,hb,h0,h1]
     simp only [List.all_cons,List.all_nil,lateOk,apartAt_eq,R22_1,List.getD_cons_succ,List.getD_cons_zero,apartP,AOp.place,AOp.obj,aa,reduceIte,reduceCtorEq,Nat.reduceEqDiff,Nat.reduceLT,Nat.reduceLeDiff,Nat.reduceBEq,Nat.reduceAdd,Nat.reduceMul,oR,oA,oB,hne,hfo,Bool.true_or,Bool.and_self,cond_true]
     rw [xR]
     rfl
   | false=>
     simp only [Iz,s_f22,X22_1,opsK,a_f22,aa,reduceIte,reduceCtorEq,Nat.reduceEqDiff,Nat.reduceLT,Nat.reduceLeDiff,Nat.reduceBEq,Nat.reduceAdd,Nat.reduceMul,x1,hl,g1,s1,hb,h0,h1]
     simp only [List.all_cons,List.all_nil,lateOk,apartAt_eq,R22_1,List.getD_cons_succ,List.getD_cons_zero,apartP,AOp.place,AOp.obj,aa,reduceIte,reduceCtorEq,Nat.reduceEqDiff,Nat.reduceLT,Nat.reduceLeDiff,Nat.reduceBEq,Nat.reduceAdd,Nat.reduceMul,oR,oA,oB,hne,hfo,Bool.true_or,Bool.and_self,cond_true]
     rw [xR]
     rfl
theorem noMain_fun (hT1:CT k_f66=some (.code s_f66)) (hN:CT k_f45=some (.code s_f45)) (hI:CT k_f65=some (.code s_f65)) (hT:CT k_f25=some (.code s_f25)) (base:Nat) {A:Heap} (hb:base≤A.length) {w sm:Nat} {fv:V} {fs:List FunD} (hc:NC A w sm fv fs):
 ∃ H',callW CT (.fn k_f25 [] []) [.ref w 0 0] base A=some (resP (nmO fs),H')∧Ext A H':=by
 have e1:Ext A (A ++ [Ob.cells 0 [Iz 0,Iz 0,Iz 0]]):=Ext.app _ _
 obtain ⟨H1,h1,h2⟩:=named_fun hT1 hN hI base (by have:=e1.le;omega) (hc.ext e1) mainB
 have g2:getC H1 A.length 0=some [Iz 0,Iz 0,Iz 0]:=getC_ext (getC_new A 0 _) h2
 have x1:=hc.load (e1.trans h2)
 have FIN:∀ (i:Nat),loadV (H1.set A.length (.cells 0 [Iz i,Iz 0,Iz 0])) true 3 (.ref A.length 0 0)=some (.agg [Iz i,Iz 0,Iz 0]):=fun i=>by
  show xLoad _ true 3 _=_
  rw [xo_ref,getC_put g2];rfl
 have z0:((0:Nat):Int)=0:=rfl
 unfold nmO
 by_cases hlt:namedI mainB fs < 0
 ·rw [if_pos hlt]
  refine ⟨H1.set A.length (.cells 0 [Iz 0,Iz 0,Iz 0]),callW_fnA (c:=s_f25) (k:=1) hT rfl (by decide) s_f25_first ?_,(e1.trans h2).set (Nat.le_refl _) _⟩
  have xR:=FIN 0
  rw [z0] at xR
  simp only [Iz,Sb,mainB] at h1 g2 xR
  simp only [mainB] at hlt
  simp only [Iz,s_f25,a_f25,aa,reduceIte,reduceCtorEq,Nat.reduceEqDiff,Nat.reduceLT,Nat.reduceLeDiff,Nat.reduceBEq,Nat.reduceAdd,Nat.reduceMul,h1,g2,hb,hlt]
  rw [xR]
  rfl
 ·rw [if_neg hlt]
  obtain ⟨j,hj,hjl⟩:=namedI_at' hlt
  rw [hj,Int.toNat_natCast]
  rw [hj] at h1
  have hfj:=some_getD hjl fun0
  obtain ⟨f,hfe⟩:∃ f,fs.getD j fun0=f:=⟨_,rfl⟩
  rw [hfe] at hfj ⊢
  obtain ⟨a,r,a1,hr,_,a3⟩:=hc.rd.at2 hfj
  obtain ⟨pv,bv,rfl,p1,p2,p3,hbv⟩:=hr
  obtain ⟨a',b1,b2⟩:=a3 1 pv rfl
  have b3:=b2 H1 (e1.trans h2)
  have hpl:=Sb_len (p1.ext (e1.trans h2))
  have hj0:¬ ((j:Int) < 0):=by omega
  by_cases h0:f.ps.length > 0
  ·rw [if_pos h0]
   have h0':((f.ps.length:Int) > 0):=by omega
   refine ⟨H1.set A.length (.cells 0 [Iz j,Iz 0,Iz 0]),callW_fnA (c:=s_f25) (k:=1) hT rfl (by decide) s_f25_first ?_,(e1.trans h2).set (Nat.le_refl _) _⟩
   have xR:=FIN j
   simp only [Iz,Sb,mainB] at h1 g2 xR
   simp only [Iz,s_f25,a_f25,aa,reduceIte,reduceCtorEq,Nat.reduceEqDiff,Nat.reduceLT,Nat.reduceLeDiff,Nat.reduceBEq,Nat.reduceAdd,Nat.reduceMul,h1,g2,hb,hj0,x1,a1,b1,b3,hpl,h0']
   rw [xR]
   rfl
  ·rw [if_neg h0]
   have h0':¬ ((f.ps.length:Int) > 0):=by omega
   refine ⟨H1.set A.length (.cells 0 [Iz 0,Iz 0,Iz 0]),callW_fnA (c:=s_f25) (k:=1) hT rfl (by decide) s_f25_first ?_,(e1.trans h2).set (Nat.le_refl _) _⟩
   have xR:=FIN 0
   rw [z0] at xR
   simp only [Iz,Sb,mainB] at h1 g2 xR
   simp only [Iz,s_f25,a_f25,aa,reduceIte,reduceCtorEq,Nat.reduceEqDiff,Nat.reduceLT,Nat.reduceLeDiff,Nat.reduceBEq,Nat.reduceAdd,Nat.reduceMul,h1,g2,hb,hj0,x1,a1,b1,b3,hpl,h0']
   rw [xR]
   rfl
end
end Go.Proofs.YtamlbkalopefgaaR
set_option maxRecDepth 100000
namespace Go.Proofs.YtamlbkalopefgaaR
open Go.AM
theorem sum_le {α:Type} (f:α→Nat) (c:Nat):∀ (l:List α),(∀ x∈l,f x≤c)→(l.map f).sum≤l.length * c:=by
 intro l
 induction l with
 | nil=>intro _;simp
 | cons x l ih=>
   intro h
   have h1:=ih fun y hy=>h y (List.mem_cons_of_mem _ hy)
   have h2:=h x List.mem_cons_self
   rw [List.map_cons,List.sum_cons,List.length_cons,Nat.add_mul]
   omega
theorem cI_lt {bs:List BlkD} (h1:bs.length < 2 ^ 20) (h2:∀ b∈bs,b.code.length < 2 ^ 20):cI bs≤2 ^ 40:=by
 have h:=sum_le (fun b:BlkD=>b.code.length) (2 ^ 20) bs fun b hb=>by have:=h2 b hb;omega
 have:bs.length * 2 ^ 20≤2 ^ 20 * 2 ^ 20:=Nat.mul_le_mul_right _ (by omega)
 unfold cI
 omega
theorem cF_lt {fs:List FunD} (h:Small fs):cF fs≤2 ^ 60:=by
 have h':=sum_le (fun f:FunD=>cI f.blocks) (2 ^ 40) fs fun f hf=>cI_lt (h.nb f hf) (h.nc f hf)
 have:fs.length * 2 ^ 40≤2 ^ 20 * 2 ^ 40:=Nat.mul_le_mul_right _ (by have:=h.n;omega)
 unfold cF
 omega
theorem sum_take {α:Type} (f:α→Nat) (l:List α) (k:Nat):((l.take k).map f).sum≤(l.map f).sum:=by
 have:l.map f=(l.take k).map f ++ (l.drop k).map f:=by rw [← List.map_append,List.take_append_drop]
 rw [this,List.sum_append]
 omega
def mcG (n:Nat):Bool:=decide ((n:Int)+1 > 4096)
section
variable {CT:Nat→Option CFun}
theorem manyCode1_fun (hT:CT k_f49=some (.code s_f49)) (base:Nat) {A:Heap} (hb:base≤A.length) {n i b k:Nat} (hn:n < 2 ^ 62) {A0:Heap} {r:List V} {x:InsD} (hr:RdIns A0 r x):
 Pred CT base (.fn k_f49 [] [.ref (A.length+1) 0 0]) (fun n=>A ++ [Ob.cells 0 [Iz 0,Iz 0,Iz 0]] ++ [Ob.cells 0 [Iz n]]) n i b k r (mcG n):=by
 intro G
 obtain ⟨av,lv,rfl,q1,q2,q3,q4,_⟩:=hr
 have hav:=q1.one
 have hlv:=q3.one
 obtain ⟨B,hB⟩:∃ B:Nat→Heap,(fun n:Nat=>A ++ [Ob.cells 0 [Iz 0,Iz 0,Iz 0]] ++ [Ob.cells 0 [Iz n]])=B:=⟨_,rfl⟩
 rw [hB]
 obtain ⟨G',hG'⟩:∃ G',[Ob.cells 0 [Iz i,Iz b,Iz k]] ++ [Ob.cells 0 (insC x av lv)]=G':=⟨_,rfl⟩
 have e0:∀ n,B n ++ G ++ [Ob.cells 0 [Iz i,Iz b,Iz k]] ++ [Ob.cells 0 (insC x av lv)]=B n ++ G ++ G':=fun n=>by rw [← hG'];simp
 have hBn:∀ n:Nat,B n=A ++ [Ob.cells 0 [Iz 0,Iz 0,Iz 0]] ++ [Ob.cells 0 [Iz n]]:=fun n=>by rw [← hB]
 have g1:∀ n,getC (B n ++ G ++ G') (A.length+1) 0=some [Iz n]:=fun n=>by rw [hBn];simp [getC]
 have s1:∀ n m:Nat,(B n ++ G ++ G').set (A.length+1) (.cells 0 [Iz m])=B m ++ G ++ G':=fun n m=>by rw [hBn,hBn];simp
 have hwk:=w64 (n:=n) hn
 have hb1:base≤A.length+1:=by omega
 have hb2:base≤(B n ++ G).length:=by rw [hBn];simp;omega
 have hg1:=g1 n
 have hg2:=g1 (n+1)
 have hs1:=s1 n (n+1)
 have hcc:((n+1:Nat):Int)=(n:Int)+1:=by omega
 refine ⟨G',callW_fnA (c:=s_f49) (k:=3) hT rfl (by decide) s_f49_first ?_⟩
 have ee:=e0 n
 unfold mcG
 simp only [insC,Iz] at ee hg1 hg2 hs1
 simp only [insC,Iz,s_f49,a_f49,aa,reduceIte,reduceCtorEq,Nat.reduceEqDiff,Nat.reduceLT,Nat.reduceLeDiff,Nat.reduceBEq,Nat.reduceAdd,Nat.reduceMul,hav,hlv,Bool.and_self,ee,hg1,hwk,hb1,hs1,hg2]
 rw [hcc]
theorem manyCode_fun (hF:FindT CT) (hT1:CT k_f49=some (.code s_f49)) (hT:CT k_f29=some (.code s_f29)) (base:Nat) {A:Heap} (hb:base≤A.length) {w sm:Nat} {fv:V} {fs:List FunD} (hc:NC A w sm fv fs):
 ∃ H',callW CT (.fn k_f29 [] []) [.ref w 0 0] base A=some (resP (gSrch (fun n _ _ _ _=>mcG n) fs),H')∧Ext A H':=by
 obtain ⟨n,G,h1⟩:=find_fun hF base hb hc (f:=.fn k_f49 [] [.ref (A.length+1) 0 0]) rfl (B:=fun n=>A ++ [Ob.cells 0 [Iz 0,Iz 0,Iz 0]] ++ [Ob.cells 0 [Iz n]]) (m:=A.length+2) (fun n=>by simp) (fun n=>(Ext.app _ _).trans (Ext.app _ _)) (Gf:=fun n _ _ _ _=>mcG n) (fun i f1 hi b x hx k z r hz hr=>manyCode1_fun hT1 base hb (by
  have h1:=cF_lt hc.sml
  have h2:cF (fs.take i)≤cF fs:=sum_take _ _ _
  have hm:=List.mem_of_getElem? hi
  have h3:=cI_lt (hc.sml.nb f1 hm) (hc.sml.nc f1 hm)
  have h4:cI (f1.blocks.take b)≤cI f1.blocks:=sum_take _ _ _
  have h5:=hc.sml.nc f1 hm x (List.mem_of_getElem? hx)
  have h6:=(List.getElem?_eq_some_iff.1 hz).1
  omega) hr)
 have hl:=len_snoc A (Ob.cells 0 [Iz 0,Iz 0,Iz 0])
 have hb1:base≤A.length+1:=by omega
 have hss:∀ c d,(A ++ [Ob.cells 0 [Iz 0,Iz 0,Iz 0]] ++ [c]).set (A.length+1) d=A ++ [Ob.cells 0 [Iz 0,Iz 0,Iz 0]] ++ [d]:=fun c d=>by have:=set_snoc (A ++ [Ob.cells 0 [Iz 0,Iz 0,Iz 0]]) c d;rwa [hl] at this
 have hgg:∀ c,getC (A ++ [Ob.cells 0 [Iz 0,Iz 0,Iz 0]] ++ [Ob.cells 0 c]) (A.length+1) 0=some c:=fun c=>by have:=getC_new (A ++ [Ob.cells 0 [Iz 0,Iz 0,Iz 0]]) 0 c;rwa [hl] at this
 obtain ⟨H1,hH1⟩:∃ H1,A ++ [Ob.cells 0 [Iz 0,Iz 0,Iz 0]] ++ [Ob.cells 0 [Iz n]] ++ G=H1:=⟨_,rfl⟩
 rw [hH1] at h1
 have eH1:Ext A H1:=hH1 ▸ ((Ext.app _ _).trans (Ext.app _ _)).trans ⟨G,rfl⟩
 have g2:getC H1 A.length 0=some [Iz 0,Iz 0,Iz 0]:=by rw [← hH1];exact getC_ext (getC_new A 0 _) ((Ext.app _ _).trans ⟨G,rfl⟩)
 have FIN:∀ (i b k:Nat),loadV (H1.set A.length (.cells 0 [Iz i,Iz b,Iz k])) true 3 (.ref A.length 0 0)=some (.agg [Iz i,Iz b,Iz k]):=fun i b k=>by
  show xLoad _ true 3 _=_
  rw [xo_ref,getC_put g2];rfl
 have z0:Iz ((0:Nat):Int)=Iz 0:=rfl
 rw [z0] at h1
 cases ho:gSrch (fun n _ _ _ _=>mcG n) fs with
 | none=>
   rw [ho] at h1
   refine ⟨H1.set A.length (.cells 0 [Iz 0,Iz 0,Iz 0]),callW_fnA (c:=s_f29) (k:=1) hT rfl (by decide) s_f29_first ?_,eH1.set (Nat.le_refl _) _⟩
   have xR:=FIN 0 0 0
   simp only [z0] at xR
   simp only [resP,Iz,bl] at h1 g2 xR hl hgg hss
   simp only [Iz,s_f29,a_f29,aa,reduceIte,reduceCtorEq,Nat.reduceEqDiff,Nat.reduceLT,Nat.reduceLeDiff,Nat.reduceBEq,Nat.reduceAdd,Nat.reduceMul,xsub_mkFn,hl,hss,hgg,h1,g2,hb1,hb]
   rw [xR]
   rfl
 | some t=>
   obtain ⟨i,b,k⟩:=t
   rw [ho] at h1
   refine ⟨H1.set A.length (.cells 0 [Iz i,Iz b,Iz k]),callW_fnA (c:=s_f29) (k:=1) hT rfl (by decide) s_f29_first ?_,eH1.set (Nat.le_refl _) _⟩
   have xR:=FIN i b k
   simp only [resP,Iz,bl] at h1 g2 xR hl hgg hss
   simp only [Iz,s_f29,a_f29,aa,reduceIte,reduceCtorEq,Nat.reduceEqDiff,Nat.reduceLT,Nat.reduceLeDiff,Nat.reduceBEq,Nat.reduceAdd,Nat.reduceMul,xsub_mkFn,hl,hss,hgg,h1,g2,hb1,hb]
   rw [xR]
   rfl
end
end Go.Proofs.YtamlbkalopefgaaR
set_option maxRecDepth 100000
namespace Go.Proofs.YtamlbkalopefgaaR
open Go.AM
section
variable {CT:Nat→Option CFun}
def mbG (f:FunD):Bool:=(f.blocks.length:Int) == 0 || decide ((f.blocks.length:Int) > 64)
theorem manyBlocks1_fun (hT:CT k_f47=some (.code s_f47)) (base:Nat) {A H:Heap} (hE:Ext A H) {i:Nat} {r:List V} {x:FunD} (hr:RdFun A r x):∃ G',callW CT (.fn k_f47 [] []) [Iz i,.agg r] base H=some (bl (mbG x),H ++ G'):=by
 obtain ⟨pv,bv,rfl,q1,q2,q3,hbv⟩:=hr
 have hpo:=q1.one
 have hbo:=hbv.one
 have hbl:=(rdB_ext hbv (hE.trans (Ext.app H [Ob.cells 0 [Sb x.name,pv,bv]]))).len
 have hgg:=getC_new H 0 [Sb x.name,pv,bv]
 refine ⟨[Ob.cells 0 [Sb x.name,pv,bv]],callW_fnA (c:=s_f47) (k:=2) hT rfl (by decide) s_f47_first ?_⟩
 unfold mbG
 simp only [Iz,s_f47,a_f47,aa,reduceIte,reduceCtorEq,Nat.reduceEqDiff,Nat.reduceLT,Nat.reduceLeDiff,Nat.reduceBEq,Nat.reduceAdd,Nat.reduceMul,hpo,hbo,Bool.and_self,hgg,hbl]
theorem manyBlocks_fun (hF:CT k_f43=some (.code s_f43)) (hT1:CT k_f47=some (.code s_f47)) (hT:CT k_f27=some (.code s_f27)) (base:Nat) {A:Heap} (hb:base≤A.length) {w sm:Nat} {fv:V} {fs:List FunD} (hc:NC A w sm fv fs):
 ∃ H',callW CT (.fn k_f27 [] []) [.ref w 0 0] base A=some (resP (srch (fuS fun _=>mbG) fs 0),H')∧Ext A H':=by
 have eA:Ext A (A ++ [Ob.cells 0 [Iz 0,Iz 0,Iz 0]]):=Ext.app _ _
 obtain ⟨n,B,G,h1,rfl⟩:=funcs_fun hF base (A.length+1) (by omega) (Inv:=fun _ B=>B=A ++ [Ob.cells 0 [Iz 0,Iz 0,Iz 0]]) (fun _ B hB=>by subst hB;exact ⟨len_snoc _ _,eA⟩) hc (f:=.fn k_f47 [] []) (P:=fun _=>mbG) (fun i x r hi hr B hB G=>by
  subst hB
  obtain ⟨G',h⟩:=manyBlocks1_fun (CT:=CT) hT1 base (i:=i) (eA.trans ⟨G,rfl⟩) hr
  exact ⟨_,G',h,rfl⟩) rfl
 obtain ⟨H1,hH1⟩:∃ H1,A ++ [Ob.cells 0 [Iz 0,Iz 0,Iz 0]] ++ G=H1:=⟨_,rfl⟩
 rw [hH1] at h1
 have eH1:Ext A H1:=hH1 ▸ eA.trans ⟨G,rfl⟩
 have g2:getC H1 A.length 0=some [Iz 0,Iz 0,Iz 0]:=by rw [← hH1];exact getC_ext (getC_new A 0 _) ⟨G,rfl⟩
 cases ho:srch (fuS fun _=>mbG) fs 0 with
 | none=>
   rw [ho] at h1
   have g3:=getC_put (c':=[Iz 0,Iz 0,Iz 0]) g2
   refine ⟨H1.set (A.length) (.cells 0 [Iz 0,Iz 0,Iz 0]),callW_fnA (c:=s_f27) (k:=1) hT rfl (by decide) s_f27_first ?_,eH1.set (Nat.le_refl _) _⟩
   have xR:loadV (H1.set (A.length) (.cells 0 [Iz 0,Iz 0,Iz 0])) true 3 (.ref (A.length) 0 0)=some (.agg [Iz 0,Iz 0,Iz 0]):=by
    show xLoad _ true 3 _=_
    rw [xo_ref,g3];rfl
   simp only [resP,Iz,bl] at h1 g2 xR
   simp only [Iz,s_f27,a_f27,aa,reduceIte,reduceCtorEq,Nat.reduceEqDiff,Nat.reduceLT,Nat.reduceLeDiff,Nat.reduceBEq,Nat.reduceAdd,Nat.reduceMul,h1,g2,hb]
   rw [xR]
   rfl
 | some t=>
   obtain ⟨i,b,k⟩:=t
   rw [ho] at h1
   have g3:=getC_put (c':=[Iz i,Iz b,Iz k]) g2
   refine ⟨H1.set (A.length) (.cells 0 [Iz i,Iz b,Iz k]),callW_fnA (c:=s_f27) (k:=1) hT rfl (by decide) s_f27_first ?_,eH1.set (Nat.le_refl _) _⟩
   have xR:loadV (H1.set (A.length) (.cells 0 [Iz i,Iz b,Iz k])) true 3 (.ref (A.length) 0 0)=some (.agg [Iz i,Iz b,Iz k]):=by
    show xLoad _ true 3 _=_
    rw [xo_ref,g3];rfl
   simp only [resP,Iz,bl] at h1 g2 xR
   simp only [Iz,s_f27,a_f27,aa,reduceIte,reduceCtorEq,Nat.reduceEqDiff,Nat.reduceLT,Nat.reduceLeDiff,Nat.reduceBEq,Nat.reduceAdd,Nat.reduceMul,h1,g2,hb]
   rw [xR]
   rfl
def twG (fs:List FunD) (i:Nat) (f:FunD):Bool:=(fs.take i).any fun g=>decide (g.name=f.name)
def twB (A:Heap) (M:Ob):Heap:=A ++ [Ob.cells 0 [Iz 0,Iz 0,Iz 0]] ++ [M] ++ [Ob.cells 0 [.mp (A.length+1)]]
theorem twiceFunc1_fun (hT:CT k_f44=some (.code s_f44)) (base:Nat) {A A0:Heap} (hb:base≤A.length) {S:ByteArray→Bool} {M:Ob} (hM:SetOf eS S M) {i:Nat} {r:List V} {x:FunD} (hr:RdFun A0 r x) (G:Heap):
 ∃ M' G',callW CT (.fn k_f44 [] [.ref (A.length+2) 0 0]) [Iz i,.agg r] base (twB A M ++ G)=some (bl (S x.name),twB A M' ++ G ++ G')∧SetOf eS (fun l=>S l || decide (l=x.name)) M':=by
 obtain ⟨pv,bv,rfl,q1,q2,q3,hbv⟩:=hr
 have hpo:=q1.one
 have hbo:=hbv.one
 obtain ⟨C,hC⟩:∃ C,twB A M ++ G ++ [Ob.cells 0 [Sb x.name,pv,bv]]=C:=⟨_,rfl⟩
 have hm:C[A.length+1]?=some M:=by rw [← hC];simp [twB]
 have hx:xLoad C false 1 (.ref (A.length+2) 0 0)=some (.mp (A.length+1)):=getC_load (by rw [← hC];simp [twB,getC])
 have hgg:getC C (twB A M ++ G).length 0=some [Sb x.name,pv,bv]:=by rw [← hC];exact getC_new _ 0 _
 have hget:=setOf_get same_str key_str hM x.name hm
 obtain ⟨M',u1,u2⟩:=setOf_put same_str key_str hM x.name (H:=C) (base:=base) (j:=A.length+1) (by omega) hm
 have hset:C.set (A.length+1) M'=twB A M' ++ G ++ [Ob.cells 0 [Sb x.name,pv,bv]]:=by rw [← hC];simp [twB]
 rw [hset] at u1
 refine ⟨M',[Ob.cells 0 [Sb x.name,pv,bv]],callW_fnA (c:=s_f44) (k:=3) hT rfl (by decide) s_f44_first ?_,u2⟩
 try simp only [eS] at hget u1
 simp only [Iz,s_f44,a_f44,aa,reduceIte,reduceCtorEq,Nat.reduceEqDiff,Nat.reduceLT,Nat.reduceLeDiff,Nat.reduceBEq,Nat.reduceAdd,Nat.reduceMul,op_mapUpd,hpo,hbo,Bool.and_self,hC,hgg,hx,hget,u1]
theorem twiceFunc_fun (hF:CT k_f43=some (.code s_f43)) (hT1:CT k_f44=some (.code s_f44)) (hT:CT k_f24=some (.code s_f24)) (base:Nat) {A:Heap} (hb:base≤A.length) {w sm:Nat} {fv:V} {fs:List FunD} (hc:NC A w sm fv fs):
 ∃ H',callW CT (.fn k_f24 [] []) [.ref w 0 0] base A=some (resP (srch (fuS (twG fs)) fs 0),H')∧Ext A H':=by
 have eB:∀ M,Ext A (twB A M):=fun M=>⟨_,by unfold twB;rw [List.append_assoc,List.append_assoc]⟩
 have lB:∀ M,(twB A M).length=A.length+3:=fun M=>by simp [twB]
 obtain ⟨n,B,G,h1,M1,rfl,hS1⟩:=funcs_fun hF base (A.length+3) (by omega) (Inv:=fun n B=>∃ M,B=twB A M∧SetOf eS (fun l=>(fs.take n).any fun g=>decide (g.name=l)) M) (fun n B hB=>by
  obtain ⟨M,rfl,_⟩:=hB
  exact ⟨lB M,eB M⟩) hc (f:=.fn k_f44 [] [.ref (A.length+2) 0 0]) (P:=twG fs) (fun i x r hi hr B hB G=>by
  obtain ⟨M,rfl,hS⟩:=hB
  obtain ⟨M',G',t1,t2⟩:=twiceFunc1_fun (CT:=CT) hT1 base hb hS (i:=i) hr G
  refine ⟨twB A M',G',t1,M',rfl,t2.congr fun l=>?_⟩
  rw [List.take_add_one,hi,List.any_append]
  simp [eq_comm]) (B0:=twB A (.map [])) ⟨.map [],rfl,by simpa using setOf_nil eS⟩
 obtain ⟨H1,hH1⟩:∃ H1,twB A M1 ++ G=H1:=⟨_,rfl⟩
 rw [hH1] at h1
 have eH1:Ext A H1:=hH1 ▸ (eB M1).trans ⟨G,rfl⟩
 have g2:getC H1 A.length 0=some [Iz 0,Iz 0,Iz 0]:=by rw [← hH1];simp [twB,getC]
 have hl1:=len_snoc A (Ob.cells 0 [Iz 0,Iz 0,Iz 0])
 have hl2:∀ a,(A ++ [Ob.cells 0 [Iz 0,Iz 0,Iz 0]] ++ [a]).length=A.length+2:=fun a=>by simp
 have hb2:base≤A.length+2:=by omega
 have hgg:∀ a c,getC (A ++ [Ob.cells 0 [Iz 0,Iz 0,Iz 0]] ++ [a] ++ [Ob.cells 0 c]) (A.length+2) 0=some c:=fun a c=>by have:=getC_new (A ++ [Ob.cells 0 [Iz 0,Iz 0,Iz 0]] ++ [a]) 0 c;rwa [hl2] at this
 have hss:∀ a c d,(A ++ [Ob.cells 0 [Iz 0,Iz 0,Iz 0]] ++ [a] ++ [c]).set (A.length+2) d=A ++ [Ob.cells 0 [Iz 0,Iz 0,Iz 0]] ++ [a] ++ [d]:=fun a c d=>by have:=set_snoc (A ++ [Ob.cells 0 [Iz 0,Iz 0,Iz 0]] ++ [a]) c d;rwa [hl2] at this
 unfold twB at h1
 simp only [Iz] at hl1 hl2 hgg hss
 cases ho:srch (fuS (twG fs)) fs 0 with
 | none=>
   rw [ho] at h1
   have g3:=getC_put (c':=[Iz 0,Iz 0,Iz 0]) g2
   refine ⟨H1.set (A.length) (.cells 0 [Iz 0,Iz 0,Iz 0]),callW_fnA (c:=s_f24) (k:=1) hT rfl (by decide) s_f24_first ?_,eH1.set (Nat.le_refl _) _⟩
   have xR:loadV (H1.set (A.length) (.cells 0 [Iz 0,Iz 0,Iz 0])) true 3 (.ref (A.length) 0 0)=some (.agg [Iz 0,Iz 0,Iz 0]):=by
    show xLoad _ true 3 _=_
    rw [xo_ref,g3];rfl
   simp only [resP,Iz,bl] at h1 g2 xR
   simp only [Iz,s_f24,a_f24,aa,reduceIte,reduceCtorEq,Nat.reduceEqDiff,Nat.reduceLT,Nat.reduceLeDiff,Nat.reduceBEq,Nat.reduceAdd,Nat.reduceMul,h1,g2,op_mapNew,xsub_mkFn,hl1,hl2,hgg,hss,hb2,hb]
   rw [xR]
   rfl
 | some t=>
   obtain ⟨i,b,k⟩:=t
   rw [ho] at h1
   have g3:=getC_put (c':=[Iz i,Iz b,Iz k]) g2
   refine ⟨H1.set (A.length) (.cells 0 [Iz i,Iz b,Iz k]),callW_fnA (c:=s_f24) (k:=1) hT rfl (by decide) s_f24_first ?_,eH1.set (Nat.le_refl _) _⟩
   have xR:loadV (H1.set (A.length) (.cells 0 [Iz i,Iz b,Iz k])) true 3 (.ref (A.length) 0 0)=some (.agg [Iz i,Iz b,Iz k]):=by
    show xLoad _ true 3 _=_
    rw [xo_ref,g3];rfl
   simp only [resP,Iz,bl] at h1 g2 xR
   simp only [Iz,s_f24,a_f24,aa,reduceIte,reduceCtorEq,Nat.reduceEqDiff,Nat.reduceLT,Nat.reduceLeDiff,Nat.reduceBEq,Nat.reduceAdd,Nat.reduceMul,h1,g2,op_mapNew,xsub_mkFn,hl1,hl2,hgg,hss,hb2,hb]
   rw [xR]
   rfl
end
end Go.Proofs.YtamlbkalopefgaaR
set_option maxRecDepth 100000
namespace Go.Proofs.YtamlbkalopefgaaR
open Go.AM
section
variable {CT:Nat→Option CFun}
def arG (fs:List FunD) (x:InsD):Bool:=(x.op == 10 && decide (namedI x.f fs ≥ 0)) && (((fs.getD (namedI x.f fs).toNat fun0).ps.length:Int) != (x.xs.length:Int))
theorem namedI_at {s:ByteArray} {fs:List FunD} (h:namedI s fs ≥ 0):∃ j:Nat,namedI s fs=(j:Int)∧j < fs.length:=by
 unfold namedI idxP at h ⊢
 cases e:fs.findIdx? (fun f=>eqB f.name s) with
 | none=>rw [e] at h;exact absurd h (by decide)
 | some j=>exact ⟨j,rfl,(List.findIdx?_eq_some_iff_getElem.1 e).1⟩
theorem arity1_fun (hT1:CT k_f66=some (.code s_f66)) (hN:CT k_f45=some (.code s_f45)) (hI:CT k_f65=some (.code s_f65)) (hT:CT k_f60=some (.code s_f60)) (base:Nat) {A:Heap} (hb:base≤A.length) {w w1 sm:Nat} {fv:V} {fs:List FunD} (hc:NC A w sm fv fs) (hw:getC A w1 0=some [.ref w 0 0]) {i b k:Nat} {r:List V} {x:InsD} (hr:RdIns A r x) (D:Heap) (hD:Ext A D):
 ∃ D',callW CT (.fn k_f60 [] [.ref w1 0 0]) [.agg [Iz i,Iz b,Iz k],.agg r] base D=some (bl (arG fs x),D')∧Ext D D':=by
 obtain ⟨av,lv,rfl,q1,q2,q3,q4,_⟩:=hr
 have hav:=q1.one
 have hlv:=q3.one
 have hbD:base≤D.length:=by have:=hD.le;omega
 obtain ⟨D1,hD1⟩:∃ D1,D ++ [Ob.cells 0 [Iz i,Iz b,Iz k]] ++ [Ob.cells 0 (insC x av lv)]=D1:=⟨_,rfl⟩
 have e1:Ext D D1:=hD1 ▸ (Ext.app _ _).trans (Ext.app _ _)
 have hw1:=getC_load (getC_ext hw (hD.trans e1))
 have hgg:getC D1 (D.length+1) 0=some (insC x av lv):=by
  have:=getC_new (D ++ [Ob.cells 0 [Iz i,Iz b,Iz k]]) 0 (insC x av lv)
  rwa [len_snoc,hD1] at this
 have hgp:getC D1 D.length 0=some [Iz i,Iz b,Iz k]:=hD1 ▸ getC_ext (getC_new D 0 [Iz i,Iz b,Iz k]) (Ext.app _ _)
 have hl1:=len_snoc D (Ob.cells 0 [Iz i,Iz b,Iz k])
 have hxl:=Sb_len (q1.ext (hD.trans e1))
 have hll:=Sb_len (q3.ext (hD.trans e1))
 have hW:=(hc.ext (hD.trans e1)).load (Ext.refl _)
 obtain ⟨D2,h1,h2⟩:=named_fun hT1 hN hI base (by have:=e1.le;omega) (hc.ext (hD.trans e1)) x.f
 have hgg2:=getC_ext hgg h2
 have hw2:=getC_load (getC_ext hw ((hD.trans e1).trans h2))
 have hW2:=(hc.ext ((hD.trans e1).trans h2)).load (Ext.refl _)
 have hxl2:=Sb_len (q1.ext ((hD.trans e1).trans h2))
 unfold arG
 refine ⟨D2,callW_fnA (c:=s_f60) (k:=3) hT rfl (by decide) s_f60_first ?_,e1.trans h2⟩
 simp only [insC,Iz,bl] at h1 hgg hgg2 hD1 hl1 hxl2
 cases ho:(x.op == 10) with
 | false=>
   simp only [insC,Iz,s_f60,a_f60,aa,reduceIte,reduceCtorEq,Nat.reduceEqDiff,Nat.reduceLT,Nat.reduceLeDiff,Nat.reduceBEq,Nat.reduceAdd,Nat.reduceMul,hav,hlv,Bool.and_self,hl1,hD1,hgg,hgg2,ho,hw1,h1]
 | true=>
   by_cases hge:namedI x.f fs ≥ 0
   ·obtain ⟨j,hj,hjl⟩:=namedI_at hge
    have hfj:=some_getD hjl fun0
    rw [hj,Int.toNat_natCast]
    rw [hj] at h1
    obtain ⟨f,hfe⟩:∃ f,fs.getD j fun0=f:=⟨_,rfl⟩
    rw [hfe] at hfj ⊢
    obtain ⟨a,r,a1,hr,_,a3⟩:=hc.rd.at2 hfj
    obtain ⟨pv,bv,rfl,p1,p2,p3,hbv⟩:=hr
    obtain ⟨a',b1,b2⟩:=a3 1 pv rfl
    have b3:=b2 D2 ((hD.trans e1).trans h2)
    have hpl:=Sb_len (p1.ext ((hD.trans e1).trans h2))
    have hj0:((j:Int) ≥ 0):=by omega
    simp only [insC,Iz,s_f60,a_f60,aa,reduceIte,reduceCtorEq,Nat.reduceEqDiff,Nat.reduceLT,Nat.reduceLeDiff,Nat.reduceBEq,Nat.reduceAdd,Nat.reduceMul,hav,hlv,Bool.and_self,hl1,hD1,hgg,hgg2,ho,hw1,hw2,h1,hW2,a1,b1,b3,hpl,hxl2,hj0]
   ·rw [decide_eq_false hge]
    simp only [insC,Iz,s_f60,a_f60,aa,reduceIte,reduceCtorEq,Nat.reduceEqDiff,Nat.reduceLT,Nat.reduceLeDiff,Nat.reduceBEq,Nat.reduceAdd,Nat.reduceMul,hav,hlv,Bool.and_self,hl1,hD1,hgg,hgg2,ho,hw1,h1,hge]
def hasL (bs:List BlkD) (l:ByteArray):Bool:=bs.any fun b=>eqB b.label l
def nlG (fs:List FunD) (i:Nat) (x:InsD):Bool:=x.ls.any fun l=>!hasL (fs.getD i fun0).blocks l
theorem noLabel111_fun (hT:CT k_f58=some (.code s_f58)) (base:Nat) {H:Heap} (hb:base≤H.length) {id:Nat} {s:ByteArray} (hg:getC H id 0=some [Sb s]) {A:Heap} {r:List V} {x:BlkD} (hr:RdBlk A r x):∃ H',callW CT (.fn k_f58 [] [.ref id 0 0]) [.agg r] base H=some (bl (eqB x.label s),H')∧Ext H H':=by
 obtain ⟨cv,rfl,hcv⟩:=hr
 have hco:=hcv.one
 have e1:Ext H (H ++ [Ob.cells 0 [Sb x.label,cv]]):=Ext.app _ _
 have hx:=getC_load (getC_ext hg e1)
 have hgg:=getC_new H 0 [Sb x.label,cv]
 refine ⟨H ++ [Ob.cells 0 [Sb x.label,cv]],callW_fnA (c:=s_f58) (k:=2) hT rfl (by decide) s_f58_first ?_,e1⟩
 unfold eqB
 simp only [s_f58,a_f58,aa,reduceIte,reduceCtorEq,Nat.reduceEqDiff,Nat.reduceLT,Nat.reduceLeDiff,Nat.reduceBEq,Nat.reduceAdd,Nat.reduceMul,hco,Bool.and_self,hx,hgg]
theorem noLabel11_fun (hT2:CT k_f58=some (.code s_f58)) (hT:CT k_f56=some (.code s_f56)) (hC:CT k_f57=some (.code s_f57)) (hX:CT k_f69=some (.code s_f69)) (base:Nat) {H:Heap} (hb:base≤H.length) {w w1 p sm:Nat} {fv:V} {fs:List FunD} (hc:NC H w sm fv fs) (hw:getC H w1 0=some [.ref w 0 0]) {i b k:Nat} (hp:getC H p 0=some [Iz i,Iz b,Iz k]) (hi:i < fs.length) (s:ByteArray):
 ∃ H',callW CT (.fn k_f56 [] [.ref w1 0 0,.ref p 0 0]) [Sb s] base H=some (bl (!hasL (fs.getD i fun0).blocks s),H')∧Ext H H':=by
 have e1:Ext H (H ++ [Ob.cells 0 [Sb s]]):=Ext.app _ _
 have hw1:=getC_load (getC_ext hw e1)
 have hp1:=getC_ext hp e1
 have hW:=(hc.ext e1).load (Ext.refl _)
 have hfi:=some_getD hi fun0
 obtain ⟨f,hfe⟩:∃ f,fs.getD i fun0=f:=⟨_,rfl⟩
 rw [hfe] at hfi ⊢
 obtain ⟨a,r,a1,hr,_,a3⟩:=hc.rd.at2 hfi
 obtain ⟨pv,bv,rfl,p1,p2,p3,hbv⟩:=hr
 obtain ⟨a',b1,b2⟩:=a3 2 bv rfl
 have b3:=b2 _ e1
 obtain ⟨H',h1,h2⟩:=conB_fun hC hX base (H ++ [Ob.cells 0 [Sb s]]) (f:=.fn k_f58 [] [.ref H.length 0 0]) (p:=fun b=>eqB b.label s) (rdB_ext hbv e1) (fun i x r _ hr D hD=>noLabel111_fun hT2 base (by have:=hD.le;rw [len_snoc] at this;omega) (getC_ext (getC_new H 0 _) hD) hr) (by have:=hc.sml.nb f (List.mem_of_getElem? hfi);omega)
 refine ⟨H',callW_fnA (c:=s_f56) (k:=3) hT rfl (by decide) s_f56_first ?_,e1.trans h2⟩
 unfold hasL
 simp only [Iz,bl] at h1 hp1
 simp only [Iz,s_f56,a_f56,aa,reduceIte,reduceCtorEq,Nat.reduceEqDiff,Nat.reduceLT,Nat.reduceLeDiff,Nat.reduceBEq,Nat.reduceAdd,Nat.reduceMul,xsub_mkFn,hw1,hp1,hW,a1,b1,b3,h1]
theorem noLabel1_fun (hT2:CT k_f58=some (.code s_f58)) (hT1:CT k_f56=some (.code s_f56)) (hC:CT k_f57=some (.code s_f57)) (hX:CT k_f69=some (.code s_f69)) (hCS:CT k_f39=some (.code s_f39)) (hXS:CT k_f62=some (.code s_f62)) (hT:CT k_f55=some (.code s_f55)) (base:Nat) {A:Heap} (hb:base≤A.length) {w w1 sm:Nat} {fv:V} {fs:List FunD} (hc:NC A w sm fv fs) (hw:getC A w1 0=some [.ref w 0 0]) {i b k:Nat} {r:List V} {x:InsD} (hr:RdIns A r x) (hi:i < fs.length) (hls:x.ls.length < 2 ^ 20) (D:Heap) (hD:Ext A D):
 ∃ D',callW CT (.fn k_f55 [] [.ref w1 0 0]) [.agg [Iz i,Iz b,Iz k],.agg r] base D=some (bl (nlG fs i x),D')∧Ext D D':=by
 obtain ⟨av,lv,rfl,q1,q2,q3,q4,_⟩:=hr
 have hav:=q1.one
 have hlv:=q3.one
 have hbD:base≤D.length:=by have:=hD.le;omega
 obtain ⟨D1,hD1⟩:∃ D1,D ++ [Ob.cells 0 [Iz i,Iz b,Iz k]] ++ [Ob.cells 0 (insC x av lv)]=D1:=⟨_,rfl⟩
 have e1:Ext D D1:=hD1 ▸ (Ext.app _ _).trans (Ext.app _ _)
 have hw1:=getC_load (getC_ext hw (hD.trans e1))
 have hgg:getC D1 (D.length+1) 0=some (insC x av lv):=by
  have:=getC_new (D ++ [Ob.cells 0 [Iz i,Iz b,Iz k]]) 0 (insC x av lv)
  rwa [len_snoc,hD1] at this
 have hgp:getC D1 D.length 0=some [Iz i,Iz b,Iz k]:=hD1 ▸ getC_ext (getC_new D 0 [Iz i,Iz b,Iz k]) (Ext.app _ _)
 have hl1:=len_snoc D (Ob.cells 0 [Iz i,Iz b,Iz k])
 have hxl:=Sb_len (q1.ext (hD.trans e1))
 have hll:=Sb_len (q3.ext (hD.trans e1))
 have hW:=(hc.ext (hD.trans e1)).load (Ext.refl _)
 obtain ⟨D2,h1,h2⟩:=conS_fun hCS hXS base D1 (f:=.fn k_f56 [] [.ref w1 0 0,.ref D.length 0 0]) (p:=fun l=>!hasL (fs.getD i fun0).blocks l) (q3.ext (hD.trans e1)) q4 (fun s _ E hE=>noLabel11_fun hT2 hT1 hC hX base (by have:=e1.le;have:=hE.le;omega) (hc.ext ((hD.trans e1).trans hE)) (getC_ext hw ((hD.trans e1).trans hE)) (getC_ext hgp hE) hi s) (by omega)
 unfold nlG
 refine ⟨D2,callW_fnA (c:=s_f55) (k:=3) hT rfl (by decide) s_f55_first ?_,e1.trans h2⟩
 simp only [insC,Iz,bl] at h1 hgg hD1 hl1
 simp only [insC,Iz,s_f55,a_f55,aa,reduceIte,reduceCtorEq,Nat.reduceEqDiff,Nat.reduceLT,Nat.reduceLeDiff,Nat.reduceBEq,Nat.reduceAdd,Nat.reduceMul,xsub_mkFn,hav,hlv,Bool.and_self,hl1,hD1,hgg,h1]
end
end Go.Proofs.YtamlbkalopefgaaR
set_option maxRecDepth 100000
namespace Go.AM
theorem flat_eq {w:Nat}:∀ (E R:List (List V)),E.length=R.length→E.flatten=R.flatten→(∀ r∈R,r.length=w)→(∀ e∈E,w≤e.length)→E=R:=by
 intro E
 induction E with
 | nil=>intro R h _ _ _;exact (List.length_eq_zero_iff.1 h.symm).symm
 | cons e E ih=>
   intro R h1 h2 h3 h4
   cases R with
   | nil=>simp at h1
   | cons r R=>
     simp only [List.length_cons,Nat.add_right_cancel_iff] at h1
     rw [List.flatten_cons,List.flatten_cons] at h2
     have hr:=h3 r List.mem_cons_self
     have he:=h4 e List.mem_cons_self
     have hge:∀ (E:List (List V)),(∀ e∈E,w≤e.length)→E.length * w≤E.flatten.length:=by
      intro E
      induction E with
      | nil=>intro _;simp
      | cons e E ih=>
        intro h
        have:=ih fun x hx=>h x (List.mem_cons_of_mem _ hx)
        have:=h e List.mem_cons_self
        rw [List.flatten_cons,List.length_append,List.length_cons,Nat.add_mul]
        omega
     have hl:=congrArg List.length h2
     have e1:=flat_len R fun x hx=>h3 x (List.mem_cons_of_mem _ hx)
     have e2:=hge E fun x hx=>h4 x (List.mem_cons_of_mem _ hx)
     rw [List.length_append,List.length_append,e1,← h1] at hl
     obtain ⟨a,b⟩:=List.append_inj h2 (by omega)
     rw [a,ih R h1 b (fun x hx=>h3 x (List.mem_cons_of_mem _ hx)) fun x hx=>h4 x (List.mem_cons_of_mem _ hx)]
theorem flat_take {w:Nat} {R:List (List V)} (hR:∀ r∈R,r.length=w) {k:Nat} (hk:k≤R.length):R.flatten.take (k * w)=(R.take k).flatten:=by
 have e1:R.flatten=(R.take k).flatten ++ (R.drop k).flatten:=by rw [← List.flatten_append,List.take_append_drop]
 have e2:=flat_len (R.take k) fun r hr=>hR r (List.mem_of_mem_take hr)
 rw [List.length_take,Nat.min_eq_left hk] at e2
 rw [e1,List.take_left' e2]
theorem RdW.cut {w:Nat} {H:Heap} {v:V} {R:List (List V)} (h:RdW w H v R) (hw:w≠1) (hR:∀ r∈R,r.length=w) {k:Nat} (hk:k≤R.length):∃ v',xSlice w v none (some (.s (.int .i64 k)))=some v'∧RdW w H v' (R.take k):=by
 have he:=h.el
 have hat:=h.at'
 have hmin:(R.take k).length=k:=by rw [List.length_take,Nat.min_eq_left hk]
 have i4:(0:Int)≤(0:Int)∧(0:Int)≤k∧(k:Int)≤R.length∧w=w:=⟨by omega,by omega,by omega,rfl⟩
 have i5:((k:Int) - 0).toNat=k:=by omega
 have ht:∀ (i:Nat) (r:List V),(R.take k)[i]?=some r→i < k∧R[i]?=some r:=fun i r h=>by
  rw [List.getElem?_take] at h
  split at h
  ·exact ⟨by assumption,h⟩
  ·cases h
 unfold elems at he
 split at he
 ·have e0:R.length=0:=(Prod.mk.inj (Option.some.inj he)).1.symm
  obtain rfl:=List.length_eq_zero_iff.1 e0
  have hk0:k=0:=Nat.le_zero.1 hk
  subst hk0
  exact ⟨_,rfl,RdW.nil w H⟩
 ·rw [if_neg hw] at he
  cases he
 ·have e0:R.length=0:=(Prod.mk.inj (Option.some.inj he)).1.symm
  obtain rfl:=List.length_eq_zero_iff.1 e0
  have hk0:k=0:=Nat.le_zero.1 hk
  subst hk0
  exact ⟨_,rfl,rfl,rfl,rfl,fun i r h=>by simp at h⟩
 ·rename_i es z
  split at he
  ·rename_i ez
   subst ez
   obtain ⟨e1,e2⟩:=Prod.mk.inj (Option.some.inj he)
   have eR:es=R:=flat_eq es R e1 e2 hR fun e hm=>by
    obtain ⟨i,hi,rfl⟩:=List.getElem_of_mem hm
    obtain ⟨a,a1,a2,_⟩:=hat i (R[i]'(by omega)) (List.getElem?_eq_getElem (by omega))
    rw [xi_psl,if_pos ⟨by omega,rfl⟩,Int.toNat_natCast,List.getElem?_eq_getElem hi] at a1
    cases a1
    rw [xo_pref] at a2
    split at a2
    ·rename_i hl
     rw [List.length_take] at hl
     omega
    ·cases a2
   subst eR
   have hRt:∀ r∈es.take k,r.length=z:=fun r hr=>hR r (List.mem_of_mem_take hr)
   refine ⟨.psl (es.take k) z,?_,RdW.psl H hRt⟩
   simp only [xslice_psl,bndV_none,bndV_int,cutPsl_some,cast0,i4,i5,and_self,if_true,Int.toNat_zero,List.drop_zero]
  ·cases he
 ·rename_i id g off len z
  split at he
  ·rename_i ez
   subst ez
   split at he
   ·rename_i c hc
    simp only at he
    split at he
    ·rename_i hl
     obtain ⟨e1,e2⟩:=Prod.mk.inj (Option.some.inj he)
     subst e1
     refine ⟨.sl id g off k z,?_,?_,?_,rfl,?_⟩
     ·simp only [xslice_sl,bndV_none,bndV_int,cutSl_some,cast0,i4,i5,and_self,if_true,Int.toNat_zero,Nat.zero_mul,Nat.add_zero]
     ·have ec:(c.drop off).take (k * z)=(R.take k).flatten:=by
       rw [← flat_take hR hk,← e2,List.take_take,Nat.min_eq_left (Nat.mul_le_mul_right z hk)]
      have el:=flat_len (R.take k) fun r hr=>hR r (List.mem_of_mem_take hr)
      rw [hmin] at el
      simp only [elems,if_true,hc,ec,el,hmin]
     ·rw [hmin];rfl
     ·intro i r hir
      obtain ⟨h1,h2⟩:=ht i r hir
      obtain ⟨a,a1,a2,a3⟩:=hat i r h2
      rw [xi_sl,if_pos ⟨by omega,by omega,rfl⟩] at a1
      exact ⟨a,by rw [xi_sl,if_pos ⟨by omega,by omega,rfl⟩];exact a1,a2,a3⟩
    ·cases he
   ·cases he
  ·cases he
 ·cases he
end Go.AM
set_option maxRecDepth 100000
namespace Go.Proofs.YtamlbkalopefgaaR
open Go.AM
theorem rdI_cut {H:Heap} {v:V} {l:List InsD} (h:RdL 8 RdIns H v l) {k:Nat} (hk:k≤l.length):∃ v',xSlice 8 v none (some (.s (.int .i64 k)))=some v'∧RdL 8 RdIns H v' (l.take k):=by
 obtain ⟨R,h1,h2,h3,h4⟩:=h
 have hR:∀ r∈R,r.length=8:=fun r hr=>by
  obtain ⟨i,hi,rfl⟩:=List.getElem_of_mem hr
  obtain ⟨r,r1,av,lv,r2,_⟩:=h4 i (l[i]'(by omega)) (List.getElem?_eq_getElem (by omega))
  rw [List.getElem?_eq_getElem hi] at r1
  rw [Option.some.inj r1,r2];rfl
 obtain ⟨v',e1,e2⟩:=h1.cut (by decide) hR (k:=k) (by omega)
 refine ⟨v',e1,R.take k,e2,by rw [List.length_take,List.length_take,h2],by rw [List.length_take];omega,fun i x hx=>?_⟩
 rw [List.getElem?_take] at hx
 split at hx
 ·rename_i hik
  obtain ⟨r,r1,r2⟩:=h4 i x hx
  exact ⟨r,by rw [List.getElem?_take,if_pos hik];exact r1,r2⟩
 ·cases hx
section
variable {CT:Nat→Option CFun}
def bpG (fs:List FunD) (i b k:Nat) (x:InsD):Bool:=x.op == 6 && ((b:Int) == 0 || (((fs.getD i fun0).blocks.getD b blk0).code.take k).any fun z=>z.op != 6)
theorem badPhi11_fun (hT:CT k_f54=some (.code s_f54)) (base:Nat) {H:Heap} (hb:base≤H.length) {A:Heap} {r:List V} {x:InsD} (hr:RdIns A r x):∃ H',callW CT (.fn k_f54 [] []) [.agg r] base H=some (bl (x.op != 6),H')∧Ext H H':=by
 obtain ⟨av,lv,rfl,q1,q2,q3,q4,_⟩:=hr
 have hav:=q1.one
 have hlv:=q3.one
 have hgg:=getC_new H 0 (insC x av lv)
 refine ⟨H ++ [Ob.cells 0 (insC x av lv)],callW_fnA (c:=s_f54) (k:=1) hT rfl (by decide) s_f54_first ?_,Ext.app _ _⟩
 simp only [insC] at hgg
 simp only [insC,s_f54,a_f54,aa,reduceIte,reduceCtorEq,Nat.reduceEqDiff,Nat.reduceLT,Nat.reduceLeDiff,Nat.reduceBEq,Nat.reduceAdd,Nat.reduceMul,hav,hlv,Bool.and_self,hgg]
theorem badPhi1_fun (hT1:CT k_f54=some (.code s_f54)) (hC:CT k_f53=some (.code s_f53)) (hX:CT k_f68=some (.code s_f68)) (hT:CT k_f52=some (.code s_f52)) (base:Nat) {A:Heap} (hb:base≤A.length) {w w1 sm:Nat} {fv:V} {fs:List FunD} (hc:NC A w sm fv fs) (hw:getC A w1 0=some [.ref w 0 0]) {i b k:Nat} {r:List V} {x:InsD} (hr:RdIns A r x) {f:FunD} {bk:BlkD} (hi:fs[i]?=some f) (hbk:f.blocks[b]?=some bk) (hk:k≤bk.code.length) (D:Heap) (hD:Ext A D):
 ∃ D',callW CT (.fn k_f52 [] [.ref w1 0 0]) [.agg [Iz i,Iz b,Iz k],.agg r] base D=some (bl (bpG fs i b k x),D')∧Ext D D':=by
 obtain ⟨av,lv,rfl,q1,q2,q3,q4,_⟩:=hr
 have hav:=q1.one
 have hlv:=q3.one
 have hbD:base≤D.length:=by have:=hD.le;omega
 obtain ⟨D1,hD1⟩:∃ D1,D ++ [Ob.cells 0 [Iz i,Iz b,Iz k]] ++ [Ob.cells 0 (insC x av lv)]=D1:=⟨_,rfl⟩
 have e1:Ext D D1:=hD1 ▸ (Ext.app _ _).trans (Ext.app _ _)
 have hw1:=getC_load (getC_ext hw (hD.trans e1))
 have hgg:getC D1 (D.length+1) 0=some (insC x av lv):=by
  have:=getC_new (D ++ [Ob.cells 0 [Iz i,Iz b,Iz k]]) 0 (insC x av lv)
  rwa [len_snoc,hD1] at this
 have hgp:getC D1 D.length 0=some [Iz i,Iz b,Iz k]:=hD1 ▸ getC_ext (getC_new D 0 [Iz i,Iz b,Iz k]) (Ext.app _ _)
 have hl1:=len_snoc D (Ob.cells 0 [Iz i,Iz b,Iz k])
 have hxl:=Sb_len (q1.ext (hD.trans e1))
 have hll:=Sb_len (q3.ext (hD.trans e1))
 have hW:=(hc.ext (hD.trans e1)).load (Ext.refl _)
 have eAD:=hD.trans e1
 obtain ⟨a,r,a1,hr,_,a3⟩:=hc.rd.at2 hi
 obtain ⟨pv,bv,rfl,p1,p2,p3,hbv⟩:=hr
 obtain ⟨a',b1,b2⟩:=a3 2 bv rfl
 have b3:=b2 D1 eAD
 obtain ⟨c,rc,c1,hrc,_,c3⟩:=hbv.at2 hbk
 obtain ⟨cv,rfl,hcv⟩:=hrc
 obtain ⟨c',d1,d2⟩:=c3 1 cv rfl
 have d3:=d2 D1 eAD
 obtain ⟨sv,s1,s2⟩:=rdI_cut hcv hk
 have hcl:=hc.sml.nc f (List.mem_of_getElem? hi) bk (List.mem_of_getElem? hbk)
 obtain ⟨D2,h1,h2⟩:=conI_fun hC hX base D1 (f:=.fn k_f54 [] []) (p:=fun z=>z.op != 6) (rdI_ext s2 eAD) (fun j z r _ hr E hE=>badPhi11_fun hT1 base (by have:=e1.le;have:=hE.le;omega) hr) (by rw [List.length_take];omega)
 unfold bpG
 rw [show fs.getD i fun0=f by rw [List.getD,hi];rfl,show f.blocks.getD b blk0=bk by rw [List.getD,hbk];rfl]
 simp only [insC,Iz,bl] at h1 hgg hgp hD1 hl1
 cases ho:(x.op == 6) with
 | false=>
   refine ⟨D1,callW_fnA (c:=s_f52) (k:=3) hT rfl (by decide) s_f52_first ?_,e1⟩
   simp only [insC,Iz,s_f52,a_f52,aa,reduceIte,reduceCtorEq,Nat.reduceEqDiff,Nat.reduceLT,Nat.reduceLeDiff,Nat.reduceBEq,Nat.reduceAdd,Nat.reduceMul,hav,hlv,Bool.and_self,hl1,hD1,hgg,hgp,hw1,hW,a1,b1,b3,c1,d1,d3,s1,ho]
 | true=>
   cases hb0:((b:Int) == 0) with
   | true=>
     refine ⟨D1,callW_fnA (c:=s_f52) (k:=3) hT rfl (by decide) s_f52_first ?_,e1⟩
     simp only [insC,Iz,s_f52,a_f52,aa,reduceIte,reduceCtorEq,Nat.reduceEqDiff,Nat.reduceLT,Nat.reduceLeDiff,Nat.reduceBEq,Nat.reduceAdd,Nat.reduceMul,hav,hlv,Bool.and_self,hl1,hD1,hgg,hgp,hw1,hW,a1,b1,b3,c1,d1,d3,s1,ho,hb0]
   | false=>
     refine ⟨D2,callW_fnA (c:=s_f52) (k:=3) hT rfl (by decide) s_f52_first ?_,e1.trans h2⟩
     simp only [insC,Iz,s_f52,a_f52,aa,reduceIte,reduceCtorEq,Nat.reduceEqDiff,Nat.reduceLT,Nat.reduceLeDiff,Nat.reduceBEq,Nat.reduceAdd,Nat.reduceMul,hav,hlv,Bool.and_self,hl1,hD1,hgg,hgp,hw1,hW,a1,b1,b3,c1,d1,d3,s1,ho,hb0,h1]
end
end Go.Proofs.YtamlbkalopefgaaR
set_option maxRecDepth 100000
namespace Go.Proofs.YtamlbkalopefgaaR
open Go.AM
def bi1 (x:InsD):Bool:=!(lookI shT x.op).isSome || !(shp x.op).d && !x.d.data.toList == [] || !(shp x.op).a && !x.a.data.toList == [] || !(shp x.op).b && !x.b.data.toList == [] || !(shp x.op).k && x.k != 0 || !(shp x.op).f && !x.f.data.toList == [] || !(shp x.op).xs && decide ((x.xs.length:Int) > 0) || !(shp x.op).ls && decide ((x.ls.length:Int) > 0)
def bi2 (x:InsD):Bool:=(shp x.op).d && x.d.data.toList == [] && !(x.op == 10 || x.op == 11) || (shp x.op).a && x.a.data.toList == [] && x.op != 14 || (shp x.op).b && x.b.data.toList == [] || (shp x.op).f && x.f.data.toList == []
def bi3 (x:InsD):Bool:=bif x.op == 1 || x.op == 2 then decide (x.k < 1) || decide (x.k > 64) else bif x.op == 7 then decide (x.k < 0) || decide (x.k ≥ 64) else bif x.op == 6 then (x.xs.length:Int) == 0 || (x.xs.length:Int) != (x.ls.length:Int) else bif x.op == 12 then (x.ls.length:Int) != 2 else bif x.op == 13 then (x.ls.length:Int) != 1 else false
def biG (x:InsD):Bool:=bi1 x || (bi2 x || bi3 x)
section
variable {CT:Nat→Option CFun}
theorem badInstr1_fun (hCl:CT k_f46=some (.code s_f46)) (hT:CT k_f50=some (.code s_f50)) (base:Nat) {A:Heap} (hb:base≤A.length) {w w1 sm:Nat} {fv:V} {fs:List FunD} (hc:NC A w sm fv fs) (hw:getC A w1 0=some [.ref w 0 0]) {i b k:Nat} {r:List V} {x:InsD} (hr:RdIns A r x) (D:Heap) (hD:Ext A D):
 ∃ D',callW CT (.fn k_f50 [] [.ref w1 0 0]) [.agg [Iz i,Iz b,Iz k],.agg r] base D=some (bl (biG x),D')∧Ext D D':=by
 obtain ⟨av,lv,rfl,q1,q2,q3,q4,_⟩:=hr
 have hav:=q1.one
 have hlv:=q3.one
 have hbD:base≤D.length:=by have:=hD.le;omega
 obtain ⟨D1,hD1⟩:∃ D1,D ++ [Ob.cells 0 [Iz i,Iz b,Iz k]] ++ [Ob.cells 0 (insC x av lv)]=D1:=⟨_,rfl⟩
 have e1:Ext D D1:=hD1 ▸ (Ext.app _ _).trans (Ext.app _ _)
 have hw1:=getC_load (getC_ext hw (hD.trans e1))
 have hgg:getC D1 (D.length+1) 0=some (insC x av lv):=by
  have:=getC_new (D ++ [Ob.cells 0 [Iz i,Iz b,Iz k]]) 0 (insC x av lv)
  rwa [len_snoc,hD1] at this
 have hgp:getC D1 D.length 0=some [Iz i,Iz b,Iz k]:=hD1 ▸ getC_ext (getC_new D 0 [Iz i,Iz b,Iz k]) (Ext.app _ _)
 have hl1:=len_snoc D (Ob.cells 0 [Iz i,Iz b,Iz k])
 have hxl:=Sb_len (q1.ext (hD.trans e1))
 have hll:=Sb_len (q3.ext (hD.trans e1))
 have hW:=(hc.ext (hD.trans e1)).load (Ext.refl _)
 have hws:=(getC_ext hc.gw (hD.trans e1))
 have hmp:xLoad D1 false 1 (.ref w 0 1)=some (.mp sm):=by rw [xo_ref,hws];rfl
 have hmg:=get_I .u8 (Ext.at' (hD.trans e1) hc.sh) (.agg (ShD.c ⟨false,false,false,false,false,false,false⟩)) true x.op
 rw [if_pos rfl,shT_get] at hmg
 have hl2:D1.length=D.length+2:=by rw [← hD1,len_snoc,len_snoc]
 have hbD1:base≤D.length+2:=by omega
 have hgg2:=getC_ext hgg (Ext.app D1 [Ob.cells 0 (shp x.op).c])
 have hgs:=getC_new D1 0 (shp x.op).c
 have hss:∀ c d,(D1 ++ [c]).set D1.length d=D1 ++ [d]:=fun c d=>set_snoc D1 c d
 have hgz:∀ c,getC (D1 ++ [Ob.cells 0 c]) D1.length 0=some c:=fun c=>getC_new D1 0 c
 rw [hl2] at hgs hss hgz
 have e2:Ext D (D1 ++ [Ob.cells 0 (shp x.op).c]):=e1.trans (Ext.app _ _)
 have hxl2:=Sb_len (q1.ext (hD.trans e2))
 have hll2:=Sb_len (q3.ext (hD.trans e2))
 have hcal:=fun E=>calls_fun hCl base E x.op
 refine ⟨D1 ++ [Ob.cells 0 (shp x.op).c],callW_fnA (c:=s_f50) (k:=3) hT rfl (by decide) s_f50_first ?_,e2⟩
 simp only [insC,Iz,bl,ShD.c] at hgg hgg2 hgs hD1 hl1 hmg hcal hgz hss hxl2 hll2
 unfold biG
 cases hd:((shp x.op).d && x.d.data.toList == []) with
 | true=>
   simp only [insC,Iz,ShD.c,s_f50,a_f50,aa,reduceIte,reduceCtorEq,Nat.reduceEqDiff,Nat.reduceLT,Nat.reduceLeDiff,Nat.reduceBEq,Nat.reduceAdd,Nat.reduceMul,hav,hlv,Bool.and_self,hl1,hD1,hl2,hgg,hgg2,hgs,hw1,hmp,hmg,hbD1,hss,hgz,hcal,hxl2,hll2,hd]
   cases e1:bi1 x with
   | true=>
     unfold bi1 at e1
     simp only [e1,cond_true,Bool.true_or]
   | false=>
     unfold bi1 at e1
     simp only [e1,cond_false,Bool.false_or]
     cases e2:bi2 x with
     | true=>
       unfold bi2 at e2
       rw [hd] at e2
       simp only [Bool.false_and,Bool.false_or,Bool.true_and] at e2
       simp only [e2,cond_true,cond_false,Bool.true_or,Bool.false_and,Bool.false_or,Bool.true_and]
     | false=>
       unfold bi2 at e2
       rw [hd] at e2
       simp only [Bool.false_and,Bool.false_or,Bool.true_and] at e2
       simp only [e2,cond_true,cond_false,Bool.false_or,Bool.false_and,Bool.true_and]
       unfold bi3
       cases o1:(x.op == 1) <;> cases o2:(x.op == 2) <;> cases o7:(x.op == 7) <;> cases o6:(x.op == 6) <;> cases o12:(x.op == 12) <;> cases o13:(x.op == 13) <;> simp only [cond_true,cond_false,Bool.true_or,Bool.false_or,Bool.or_true,Bool.or_false]
 | false=>
   simp only [insC,Iz,ShD.c,s_f50,a_f50,aa,reduceIte,reduceCtorEq,Nat.reduceEqDiff,Nat.reduceLT,Nat.reduceLeDiff,Nat.reduceBEq,Nat.reduceAdd,Nat.reduceMul,hav,hlv,Bool.and_self,hl1,hD1,hl2,hgg,hgg2,hgs,hw1,hmp,hmg,hbD1,hss,hgz,hcal,hxl2,hll2,hd]
   cases e1:bi1 x with
   | true=>
     unfold bi1 at e1
     simp only [e1,cond_true,Bool.true_or]
   | false=>
     unfold bi1 at e1
     simp only [e1,cond_false,Bool.false_or]
     cases e2:bi2 x with
     | true=>
       unfold bi2 at e2
       rw [hd] at e2
       simp only [Bool.false_and,Bool.false_or,Bool.true_and] at e2
       simp only [e2,cond_true,cond_false,Bool.true_or,Bool.false_and,Bool.false_or,Bool.true_and]
     | false=>
       unfold bi2 at e2
       rw [hd] at e2
       simp only [Bool.false_and,Bool.false_or,Bool.true_and] at e2
       simp only [e2,cond_true,cond_false,Bool.false_or,Bool.false_and,Bool.true_and]
       unfold bi3
       cases o1:(x.op == 1) <;> cases o2:(x.op == 2) <;> cases o7:(x.op == 7) <;> cases o6:(x.op == 6) <;> cases o12:(x.op == 12) <;> cases o13:(x.op == 13) <;> simp only [cond_true,cond_false,Bool.true_or,Bool.false_or,Bool.or_true,Bool.or_false]
end
end Go.Proofs.YtamlbkalopefgaaR
set_option maxRecDepth 100000
namespace Go.Proofs.YtamlbkalopefgaaR
open Go.AM
section
variable {CT:Nat→Option CFun}
theorem noFunc_fun (hF:FindT CT) (hN1:CT k_f66=some (.code s_f66)) (hN:CT k_f45=some (.code s_f45)) (hI:CT k_f65=some (.code s_f65)) (hT1:CT k_f59=some (.code s_f59)) (hT:CT k_f34=some (.code s_f34)) (base:Nat) {A:Heap} (hb:base≤A.length) {w sm:Nat} {fv:V} {fs:List FunD} (hc:NC A w sm fv fs):
 ∃ H',callW CT (.fn k_f34 [] []) [.ref w 0 0] base A=some (resP (gSrch (fun _=>fun _ _ _ x=>nfG fs x) fs),H')∧Ext A H':=by
 have e1:Ext A (A ++ [Ob.cells 0 [.ref w 0 0]]):=Ext.app _ _
 have e2:Ext (A ++ [Ob.cells 0 [.ref w 0 0]]) (A ++ [Ob.cells 0 [.ref w 0 0]] ++ [Ob.cells 0 [Iz 0,Iz 0,Iz 0]]):=Ext.app _ _
 have hw:getC (A ++ [Ob.cells 0 [.ref w 0 0]] ++ [Ob.cells 0 [Iz 0,Iz 0,Iz 0]]) A.length 0=some [.ref w 0 0]:=getC_ext (getC_new A 0 _) e2
 have hl:=len_snoc A (Ob.cells 0 [.ref w 0 0])
 have hb1:base≤A.length+1:=by omega
 have hb2:base≤(A ++ [Ob.cells 0 [.ref w 0 0]] ++ [Ob.cells 0 [Iz 0,Iz 0,Iz 0]]).length:=by rw [len_snoc,len_snoc];omega
 obtain ⟨H1,h1,h2⟩:=find_pure hF base hb2 (hc.ext (e1.trans e2)) (f:=.fn k_f59 [] [.ref A.length 0 0]) rfl (g:=fun _ _ _ x=>nfG fs x) (fun i f1 hi b x hx k z r hz hr D hD=>noFunc1_fun hN1 hN hI hT1 base hb2 (hc.ext (e1.trans e2)) hw hr D hD)
 have g2:getC H1 (A.length+1) 0=some [Iz 0,Iz 0,Iz 0]:=by
  have:=getC_new (A ++ [Ob.cells 0 [.ref w 0 0]]) 0 [Iz 0,Iz 0,Iz 0]
  rw [len_snoc] at this
  exact getC_ext this h2
 have hwx:=getC_load hw
 cases ho:gSrch (fun _=>fun _ _ _ x=>nfG fs x) fs with
 | none=>
   rw [ho] at h1
   have g3:=getC_put (c':=[Iz 0,Iz 0,Iz 0]) g2
   refine ⟨H1.set (A.length+1) (.cells 0 [Iz 0,Iz 0,Iz 0]),callW_fnA (c:=s_f34) (k:=1) hT rfl (by decide) s_f34_first ?_,((e1.trans e2).trans h2).set (Nat.le_succ _) _⟩
   have xR:loadV (H1.set (A.length+1) (.cells 0 [Iz 0,Iz 0,Iz 0])) true 3 (.ref (A.length+1) 0 0)=some (.agg [Iz 0,Iz 0,Iz 0]):=by
    show xLoad _ true 3 _=_
    rw [xo_ref,g3];rfl
   simp only [resP,Iz,bl] at h1 g2 xR
   simp only [Iz,s_f34,a_f34,aa,reduceIte,reduceCtorEq,Nat.reduceEqDiff,Nat.reduceLT,Nat.reduceLeDiff,Nat.reduceBEq,Nat.reduceAdd,Nat.reduceMul,xsub_mkFn,hl,hwx,h1,g2,hb1]
   rw [xR]
   rfl
 | some t=>
   obtain ⟨i,b,k⟩:=t
   rw [ho] at h1
   have g3:=getC_put (c':=[Iz i,Iz b,Iz k]) g2
   refine ⟨H1.set (A.length+1) (.cells 0 [Iz i,Iz b,Iz k]),callW_fnA (c:=s_f34) (k:=1) hT rfl (by decide) s_f34_first ?_,((e1.trans e2).trans h2).set (Nat.le_succ _) _⟩
   have xR:loadV (H1.set (A.length+1) (.cells 0 [Iz i,Iz b,Iz k])) true 3 (.ref (A.length+1) 0 0)=some (.agg [Iz i,Iz b,Iz k]):=by
    show xLoad _ true 3 _=_
    rw [xo_ref,g3];rfl
   simp only [resP,Iz,bl] at h1 g2 xR
   simp only [Iz,s_f34,a_f34,aa,reduceIte,reduceCtorEq,Nat.reduceEqDiff,Nat.reduceLT,Nat.reduceLeDiff,Nat.reduceBEq,Nat.reduceAdd,Nat.reduceMul,xsub_mkFn,hl,hwx,h1,g2,hb1]
   rw [xR]
   rfl
theorem arity_fun (hF:FindT CT) (hN1:CT k_f66=some (.code s_f66)) (hN:CT k_f45=some (.code s_f45)) (hI:CT k_f65=some (.code s_f65)) (hT1:CT k_f60=some (.code s_f60)) (hT:CT k_f35=some (.code s_f35)) (base:Nat) {A:Heap} (hb:base≤A.length) {w sm:Nat} {fv:V} {fs:List FunD} (hc:NC A w sm fv fs):
 ∃ H',callW CT (.fn k_f35 [] []) [.ref w 0 0] base A=some (resP (gSrch (fun _=>fun _ _ _ x=>arG fs x) fs),H')∧Ext A H':=by
 have e1:Ext A (A ++ [Ob.cells 0 [.ref w 0 0]]):=Ext.app _ _
 have e2:Ext (A ++ [Ob.cells 0 [.ref w 0 0]]) (A ++ [Ob.cells 0 [.ref w 0 0]] ++ [Ob.cells 0 [Iz 0,Iz 0,Iz 0]]):=Ext.app _ _
 have hw:getC (A ++ [Ob.cells 0 [.ref w 0 0]] ++ [Ob.cells 0 [Iz 0,Iz 0,Iz 0]]) A.length 0=some [.ref w 0 0]:=getC_ext (getC_new A 0 _) e2
 have hl:=len_snoc A (Ob.cells 0 [.ref w 0 0])
 have hb1:base≤A.length+1:=by omega
 have hb2:base≤(A ++ [Ob.cells 0 [.ref w 0 0]] ++ [Ob.cells 0 [Iz 0,Iz 0,Iz 0]]).length:=by rw [len_snoc,len_snoc];omega
 obtain ⟨H1,h1,h2⟩:=find_pure hF base hb2 (hc.ext (e1.trans e2)) (f:=.fn k_f60 [] [.ref A.length 0 0]) rfl (g:=fun _ _ _ x=>arG fs x) (fun i f1 hi b x hx k z r hz hr D hD=>arity1_fun hN1 hN hI hT1 base hb2 (hc.ext (e1.trans e2)) hw hr D hD)
 have g2:getC H1 (A.length+1) 0=some [Iz 0,Iz 0,Iz 0]:=by
  have:=getC_new (A ++ [Ob.cells 0 [.ref w 0 0]]) 0 [Iz 0,Iz 0,Iz 0]
  rw [len_snoc] at this
  exact getC_ext this h2
 have hwx:=getC_load hw
 cases ho:gSrch (fun _=>fun _ _ _ x=>arG fs x) fs with
 | none=>
   rw [ho] at h1
   have g3:=getC_put (c':=[Iz 0,Iz 0,Iz 0]) g2
   refine ⟨H1.set (A.length+1) (.cells 0 [Iz 0,Iz 0,Iz 0]),callW_fnA (c:=s_f35) (k:=1) hT rfl (by decide) s_f35_first ?_,((e1.trans e2).trans h2).set (Nat.le_succ _) _⟩
   have xR:loadV (H1.set (A.length+1) (.cells 0 [Iz 0,Iz 0,Iz 0])) true 3 (.ref (A.length+1) 0 0)=some (.agg [Iz 0,Iz 0,Iz 0]):=by
    show xLoad _ true 3 _=_
    rw [xo_ref,g3];rfl
   simp only [resP,Iz,bl] at h1 g2 xR
   simp only [Iz,s_f35,a_f35,aa,reduceIte,reduceCtorEq,Nat.reduceEqDiff,Nat.reduceLT,Nat.reduceLeDiff,Nat.reduceBEq,Nat.reduceAdd,Nat.reduceMul,xsub_mkFn,hl,hwx,h1,g2,hb1]
   rw [xR]
   rfl
 | some t=>
   obtain ⟨i,b,k⟩:=t
   rw [ho] at h1
   have g3:=getC_put (c':=[Iz i,Iz b,Iz k]) g2
   refine ⟨H1.set (A.length+1) (.cells 0 [Iz i,Iz b,Iz k]),callW_fnA (c:=s_f35) (k:=1) hT rfl (by decide) s_f35_first ?_,((e1.trans e2).trans h2).set (Nat.le_succ _) _⟩
   have xR:loadV (H1.set (A.length+1) (.cells 0 [Iz i,Iz b,Iz k])) true 3 (.ref (A.length+1) 0 0)=some (.agg [Iz i,Iz b,Iz k]):=by
    show xLoad _ true 3 _=_
    rw [xo_ref,g3];rfl
   simp only [resP,Iz,bl] at h1 g2 xR
   simp only [Iz,s_f35,a_f35,aa,reduceIte,reduceCtorEq,Nat.reduceEqDiff,Nat.reduceLT,Nat.reduceLeDiff,Nat.reduceBEq,Nat.reduceAdd,Nat.reduceMul,xsub_mkFn,hl,hwx,h1,g2,hb1]
   rw [xR]
   rfl
theorem noLabel_fun (hF:FindT CT) (hL3:CT k_f58=some (.code s_f58)) (hL2:CT k_f56=some (.code s_f56)) (hC:CT k_f57=some (.code s_f57)) (hX:CT k_f69=some (.code s_f69)) (hCS:CT k_f39=some (.code s_f39)) (hXS:CT k_f62=some (.code s_f62)) (hT1:CT k_f55=some (.code s_f55)) (hT:CT k_f33=some (.code s_f33)) (base:Nat) {A:Heap} (hb:base≤A.length) {w sm:Nat} {fv:V} {fs:List FunD} (hc:NC A w sm fv fs):
 ∃ H',callW CT (.fn k_f33 [] []) [.ref w 0 0] base A=some (resP (gSrch (fun _=>fun i _ _ x=>nlG fs i x) fs),H')∧Ext A H':=by
 have e1:Ext A (A ++ [Ob.cells 0 [.ref w 0 0]]):=Ext.app _ _
 have e2:Ext (A ++ [Ob.cells 0 [.ref w 0 0]]) (A ++ [Ob.cells 0 [.ref w 0 0]] ++ [Ob.cells 0 [Iz 0,Iz 0,Iz 0]]):=Ext.app _ _
 have hw:getC (A ++ [Ob.cells 0 [.ref w 0 0]] ++ [Ob.cells 0 [Iz 0,Iz 0,Iz 0]]) A.length 0=some [.ref w 0 0]:=getC_ext (getC_new A 0 _) e2
 have hl:=len_snoc A (Ob.cells 0 [.ref w 0 0])
 have hb1:base≤A.length+1:=by omega
 have hb2:base≤(A ++ [Ob.cells 0 [.ref w 0 0]] ++ [Ob.cells 0 [Iz 0,Iz 0,Iz 0]]).length:=by rw [len_snoc,len_snoc];omega
 obtain ⟨H1,h1,h2⟩:=find_pure hF base hb2 (hc.ext (e1.trans e2)) (f:=.fn k_f55 [] [.ref A.length 0 0]) rfl (g:=fun i _ _ x=>nlG fs i x) (fun i f1 hi b x hx k z r hz hr D hD=>noLabel1_fun hL3 hL2 hC hX hCS hXS hT1 base hb2 (hc.ext (e1.trans e2)) hw hr (List.getElem?_eq_some_iff.1 hi).1 (hc.sml.ls f1 (List.mem_of_getElem? hi) x (List.mem_of_getElem? hx) z (List.mem_of_getElem? hz)) D hD)
 have g2:getC H1 (A.length+1) 0=some [Iz 0,Iz 0,Iz 0]:=by
  have:=getC_new (A ++ [Ob.cells 0 [.ref w 0 0]]) 0 [Iz 0,Iz 0,Iz 0]
  rw [len_snoc] at this
  exact getC_ext this h2
 have hwx:=getC_load hw
 cases ho:gSrch (fun _=>fun i _ _ x=>nlG fs i x) fs with
 | none=>
   rw [ho] at h1
   have g3:=getC_put (c':=[Iz 0,Iz 0,Iz 0]) g2
   refine ⟨H1.set (A.length+1) (.cells 0 [Iz 0,Iz 0,Iz 0]),callW_fnA (c:=s_f33) (k:=1) hT rfl (by decide) s_f33_first ?_,((e1.trans e2).trans h2).set (Nat.le_succ _) _⟩
   have xR:loadV (H1.set (A.length+1) (.cells 0 [Iz 0,Iz 0,Iz 0])) true 3 (.ref (A.length+1) 0 0)=some (.agg [Iz 0,Iz 0,Iz 0]):=by
    show xLoad _ true 3 _=_
    rw [xo_ref,g3];rfl
   simp only [resP,Iz,bl] at h1 g2 xR
   simp only [Iz,s_f33,a_f33,aa,reduceIte,reduceCtorEq,Nat.reduceEqDiff,Nat.reduceLT,Nat.reduceLeDiff,Nat.reduceBEq,Nat.reduceAdd,Nat.reduceMul,xsub_mkFn,hl,hwx,h1,g2,hb1]
   rw [xR]
   rfl
 | some t=>
   obtain ⟨i,b,k⟩:=t
   rw [ho] at h1
   have g3:=getC_put (c':=[Iz i,Iz b,Iz k]) g2
   refine ⟨H1.set (A.length+1) (.cells 0 [Iz i,Iz b,Iz k]),callW_fnA (c:=s_f33) (k:=1) hT rfl (by decide) s_f33_first ?_,((e1.trans e2).trans h2).set (Nat.le_succ _) _⟩
   have xR:loadV (H1.set (A.length+1) (.cells 0 [Iz i,Iz b,Iz k])) true 3 (.ref (A.length+1) 0 0)=some (.agg [Iz i,Iz b,Iz k]):=by
    show xLoad _ true 3 _=_
    rw [xo_ref,g3];rfl
   simp only [resP,Iz,bl] at h1 g2 xR
   simp only [Iz,s_f33,a_f33,aa,reduceIte,reduceCtorEq,Nat.reduceEqDiff,Nat.reduceLT,Nat.reduceLeDiff,Nat.reduceBEq,Nat.reduceAdd,Nat.reduceMul,xsub_mkFn,hl,hwx,h1,g2,hb1]
   rw [xR]
   rfl
theorem badPhi_fun (hF:FindT CT) (hP:CT k_f54=some (.code s_f54)) (hC:CT k_f53=some (.code s_f53)) (hX:CT k_f68=some (.code s_f68)) (hT1:CT k_f52=some (.code s_f52)) (hT:CT k_f32=some (.code s_f32)) (base:Nat) {A:Heap} (hb:base≤A.length) {w sm:Nat} {fv:V} {fs:List FunD} (hc:NC A w sm fv fs):
 ∃ H',callW CT (.fn k_f32 [] []) [.ref w 0 0] base A=some (resP (gSrch (fun _=>fun i b k x=>bpG fs i b k x) fs),H')∧Ext A H':=by
 have e1:Ext A (A ++ [Ob.cells 0 [.ref w 0 0]]):=Ext.app _ _
 have e2:Ext (A ++ [Ob.cells 0 [.ref w 0 0]]) (A ++ [Ob.cells 0 [.ref w 0 0]] ++ [Ob.cells 0 [Iz 0,Iz 0,Iz 0]]):=Ext.app _ _
 have hw:getC (A ++ [Ob.cells 0 [.ref w 0 0]] ++ [Ob.cells 0 [Iz 0,Iz 0,Iz 0]]) A.length 0=some [.ref w 0 0]:=getC_ext (getC_new A 0 _) e2
 have hl:=len_snoc A (Ob.cells 0 [.ref w 0 0])
 have hb1:base≤A.length+1:=by omega
 have hb2:base≤(A ++ [Ob.cells 0 [.ref w 0 0]] ++ [Ob.cells 0 [Iz 0,Iz 0,Iz 0]]).length:=by rw [len_snoc,len_snoc];omega
 obtain ⟨H1,h1,h2⟩:=find_pure hF base hb2 (hc.ext (e1.trans e2)) (f:=.fn k_f52 [] [.ref A.length 0 0]) rfl (g:=fun i b k x=>bpG fs i b k x) (fun i f1 hi b x hx k z r hz hr D hD=>badPhi1_fun hP hC hX hT1 base hb2 (hc.ext (e1.trans e2)) hw hr hi hx (Nat.le_of_lt (List.getElem?_eq_some_iff.1 hz).1) D hD)
 have g2:getC H1 (A.length+1) 0=some [Iz 0,Iz 0,Iz 0]:=by
  have:=getC_new (A ++ [Ob.cells 0 [.ref w 0 0]]) 0 [Iz 0,Iz 0,Iz 0]
  rw [len_snoc] at this
  exact getC_ext this h2
 have hwx:=getC_load hw
 cases ho:gSrch (fun _=>fun i b k x=>bpG fs i b k x) fs with
 | none=>
   rw [ho] at h1
   have g3:=getC_put (c':=[Iz 0,Iz 0,Iz 0]) g2
   refine ⟨H1.set (A.length+1) (.cells 0 [Iz 0,Iz 0,Iz 0]),callW_fnA (c:=s_f32) (k:=1) hT rfl (by decide) s_f32_first ?_,((e1.trans e2).trans h2).set (Nat.le_succ _) _⟩
   have xR:loadV (H1.set (A.length+1) (.cells 0 [Iz 0,Iz 0,Iz 0])) true 3 (.ref (A.length+1) 0 0)=some (.agg [Iz 0,Iz 0,Iz 0]):=by
    show xLoad _ true 3 _=_
    rw [xo_ref,g3];rfl
   simp only [resP,Iz,bl] at h1 g2 xR
   simp only [Iz,s_f32,a_f32,aa,reduceIte,reduceCtorEq,Nat.reduceEqDiff,Nat.reduceLT,Nat.reduceLeDiff,Nat.reduceBEq,Nat.reduceAdd,Nat.reduceMul,xsub_mkFn,hl,hwx,h1,g2,hb1]
   rw [xR]
   rfl
 | some t=>
   obtain ⟨i,b,k⟩:=t
   rw [ho] at h1
   have g3:=getC_put (c':=[Iz i,Iz b,Iz k]) g2
   refine ⟨H1.set (A.length+1) (.cells 0 [Iz i,Iz b,Iz k]),callW_fnA (c:=s_f32) (k:=1) hT rfl (by decide) s_f32_first ?_,((e1.trans e2).trans h2).set (Nat.le_succ _) _⟩
   have xR:loadV (H1.set (A.length+1) (.cells 0 [Iz i,Iz b,Iz k])) true 3 (.ref (A.length+1) 0 0)=some (.agg [Iz i,Iz b,Iz k]):=by
    show xLoad _ true 3 _=_
    rw [xo_ref,g3];rfl
   simp only [resP,Iz,bl] at h1 g2 xR
   simp only [Iz,s_f32,a_f32,aa,reduceIte,reduceCtorEq,Nat.reduceEqDiff,Nat.reduceLT,Nat.reduceLeDiff,Nat.reduceBEq,Nat.reduceAdd,Nat.reduceMul,xsub_mkFn,hl,hwx,h1,g2,hb1]
   rw [xR]
   rfl
theorem badInstr_fun (hF:FindT CT) (hCl:CT k_f46=some (.code s_f46)) (hT1:CT k_f50=some (.code s_f50)) (hT:CT k_f30=some (.code s_f30)) (base:Nat) {A:Heap} (hb:base≤A.length) {w sm:Nat} {fv:V} {fs:List FunD} (hc:NC A w sm fv fs):
 ∃ H',callW CT (.fn k_f30 [] []) [.ref w 0 0] base A=some (resP (gSrch (fun _=>fun _ _ _ x=>biG x) fs),H')∧Ext A H':=by
 have e1:Ext A (A ++ [Ob.cells 0 [.ref w 0 0]]):=Ext.app _ _
 have e2:Ext (A ++ [Ob.cells 0 [.ref w 0 0]]) (A ++ [Ob.cells 0 [.ref w 0 0]] ++ [Ob.cells 0 [Iz 0,Iz 0,Iz 0]]):=Ext.app _ _
 have hw:getC (A ++ [Ob.cells 0 [.ref w 0 0]] ++ [Ob.cells 0 [Iz 0,Iz 0,Iz 0]]) A.length 0=some [.ref w 0 0]:=getC_ext (getC_new A 0 _) e2
 have hl:=len_snoc A (Ob.cells 0 [.ref w 0 0])
 have hb1:base≤A.length+1:=by omega
 have hb2:base≤(A ++ [Ob.cells 0 [.ref w 0 0]] ++ [Ob.cells 0 [Iz 0,Iz 0,Iz 0]]).length:=by rw [len_snoc,len_snoc];omega
 obtain ⟨H1,h1,h2⟩:=find_pure hF base hb2 (hc.ext (e1.trans e2)) (f:=.fn k_f50 [] [.ref A.length 0 0]) rfl (g:=fun _ _ _ x=>biG x) (fun i f1 hi b x hx k z r hz hr D hD=>badInstr1_fun hCl hT1 base hb2 (hc.ext (e1.trans e2)) hw hr D hD)
 have g2:getC H1 (A.length+1) 0=some [Iz 0,Iz 0,Iz 0]:=by
  have:=getC_new (A ++ [Ob.cells 0 [.ref w 0 0]]) 0 [Iz 0,Iz 0,Iz 0]
  rw [len_snoc] at this
  exact getC_ext this h2
 have hwx:=getC_load hw
 cases ho:gSrch (fun _=>fun _ _ _ x=>biG x) fs with
 | none=>
   rw [ho] at h1
   have g3:=getC_put (c':=[Iz 0,Iz 0,Iz 0]) g2
   refine ⟨H1.set (A.length+1) (.cells 0 [Iz 0,Iz 0,Iz 0]),callW_fnA (c:=s_f30) (k:=1) hT rfl (by decide) s_f30_first ?_,((e1.trans e2).trans h2).set (Nat.le_succ _) _⟩
   have xR:loadV (H1.set (A.length+1) (.cells 0 [Iz 0,Iz 0,Iz 0])) true 3 (.ref (A.length+1) 0 0)=some (.agg [Iz 0,Iz 0,Iz 0]):=by
    show xLoad _ true 3 _=_
    rw [xo_ref,g3];rfl
   simp only [resP,Iz,bl] at h1 g2 xR
   simp only [Iz,s_f30,a_f30,aa,reduceIte,reduceCtorEq,Nat.reduceEqDiff,Nat.reduceLT,Nat.reduceLeDiff,Nat.reduceBEq,Nat.reduceAdd,Nat.reduceMul,xsub_mkFn,hl,hwx,h1,g2,hb1]
   rw [xR]
   rfl
 | some t=>
   obtain ⟨i,b,k⟩:=t
   rw [ho] at h1
   have g3:=getC_put (c':=[Iz i,Iz b,Iz k]) g2
   refine ⟨H1.set (A.length+1) (.cells 0 [Iz i,Iz b,Iz k]),callW_fnA (c:=s_f30) (k:=1) hT rfl (by decide) s_f30_first ?_,((e1.trans e2).trans h2).set (Nat.le_succ _) _⟩
   have xR:loadV (H1.set (A.length+1) (.cells 0 [Iz i,Iz b,Iz k])) true 3 (.ref (A.length+1) 0 0)=some (.agg [Iz i,Iz b,Iz k]):=by
    show xLoad _ true 3 _=_
    rw [xo_ref,g3];rfl
   simp only [resP,Iz,bl] at h1 g2 xR
   simp only [Iz,s_f30,a_f30,aa,reduceIte,reduceCtorEq,Nat.reduceEqDiff,Nat.reduceLT,Nat.reduceLeDiff,Nat.reduceBEq,Nat.reduceAdd,Nat.reduceMul,xsub_mkFn,hl,hwx,h1,g2,hb1]
   rw [xR]
   rfl
end
end Go.Proofs.YtamlbkalopefgaaR
set_option maxRecDepth 100000
namespace Go.Proofs.YtamlbkalopefgaaR
open Go.AM
def mpI (i b:Nat) (k:Nat) (x:InsD):Option Pt:=if (x.op == 10 || x.op == 11) && decide (x.xs.length > 8) then some (i,b,k) else none
def mpB (i:Nat) (b:Nat) (bl:BlkD):Option Pt:=srch (mpI i b) bl.code 0
def mpF (i:Nat) (f:FunD):Option Pt:=if f.ps.length > 8 then some (i,0,0) else srch (mpB i) f.blocks 0
section
variable {CT:Nat→Option CFun}
theorem mp_l0 (hC:CT k_f46=some (.code s_f46)) (base:Nat) {A A1:Heap} (h1:Ext A A1) (hb:base≤A.length) (hg:getC A1 A.length 0=some [Iz 0,Iz 0,Iz 0]) {v14 v28 cv:V} {l:List InsD} (hv:RdL 8 RdIns A cv l) (hn:l.length < 2 ^ 20) {i b:Nat} {n15 n16 n29 n30:Int} (hx:∀ x∈l,x.xs.length < 2 ^ 20) {L:Nat} (hL:A1.length≤L) (hA1:A.length < A1.length):
 ∀ C,Ext A1 C→(srch (mpI i b) l 0=none∧∃ C',itW (evC (callW CT) itW base s_f26_l0) [] L (frOf 60 [(2,.ref A.length 0 0),(4,Iz i),(6,Iz b),(14,v14),(15,Iz n15),(16,Iz n16),(28,v28),(29,Iz n29),(30,Iz n30),(36,cv),(37,Iz l.length),(38,Iz 0)]) C=some (.ext 4,frOf 60 [(2,.ref A.length 0 0),(4,Iz i),(6,Iz b),(14,v14),(15,Iz n15),(16,Iz n16),(28,v28),(29,Iz n29),(30,Iz n30),(36,cv),(37,Iz l.length),(38,Iz l.length),(39,bl false)],C')∧Ext A1 C')∨∃ t,srch (mpI i b) l 0=some t∧Found A 60 A.length t (itW (evC (callW CT) itW base s_f26_l0) [] L (frOf 60 [(2,.ref A.length 0 0),(4,Iz i),(6,Iz b),(14,v14),(15,Iz n15),(16,Iz n16),(28,v28),(29,Iz n29),(30,Iz n30),(36,cv),(37,Iz l.length),(38,Iz 0)]) C):=by
 intro C0 hC0
 rcases it_srch l ins0 (mpI i b) (fun _ C=>Ext A1 C) (fun k C=>itW (evC (callW CT) itW base s_f26_l0) [] L (frOf 60 [(2,.ref A.length 0 0),(4,Iz i),(6,Iz b),(14,v14),(15,Iz n15),(16,Iz n16),(28,v28),(29,Iz n29),(30,Iz n30),(36,cv),(37,Iz l.length),(38,Iz k)]) C) (Found A 60 A.length) (by
  intro k C hk hE
  have hlt':((k:Int) < (l.length:Int)):=by omega
  have hwk:=w64 (n:=k) (by omega)
  have hle:=hE.le
  have hkx:=some_getD hk ins0
  obtain ⟨x,hxe⟩:∃ x,l.getD k ins0=x:=⟨_,rfl⟩
  rw [hxe] at hkx ⊢
  have hmem:=List.mem_of_getElem? hkx
  obtain ⟨a,r,a1,hr,a2,_⟩:=hv.at2 hkx
  have hEA:=h1.trans hE
  have ld:=a2 C hEA
  have hbC:base≤C.length:=by omega
  have hgg:∀ c,getC (C ++ [Ob.cells 0 c]) C.length 0=some c:=fun c=>getC_new C 0 c
  have hss:∀ c d,(C ++ [c]).set C.length d=C ++ [d]:=fun c d=>set_snoc C c d
  have eC:∀ c,Ext C (C ++ [Ob.cells 0 c]):=fun c=>Ext.app _ _
  have g2:∀ D,Ext A1 D→getC D A.length 0=some [Iz 0,Iz 0,Iz 0]:=fun D h=>getC_ext hg h
  obtain ⟨av,lv,rfl,q1,q2,q3,q4,_⟩:=hr
  have hxl:=Sb_len (q1.ext (hEA.trans (eC (insC x av lv))))
  have hav:=q1.one
  have hlv:=q3.one
  have hxx:=hx x hmem
  have hcal:=fun D=>calls_fun hC base D x.op
  unfold mpI
  cases hop:(x.op == 10 || x.op == 11) with
  | false=>
    rw [hop] at hcal
    refine .inl ⟨by rw [Bool.false_and,if_neg Bool.false_ne_true],trim L (frOf 60 [(2,.ref A.length 0 0),(4,Iz i),(6,Iz b),(14,v14),(15,Iz n15),(16,Iz n16),(28,v28),(29,Iz n29),(30,Iz n30),(36,cv),(37,Iz l.length),(38,Iz (k+1:Nat))]) (C ++ [Ob.cells 0 (insC x av lv)]),?_,(hE.trans (eC _)).trim (by omega) _⟩
    simp only [insC] at ld hxl ⊢
    rw [itW_step]
    simp only [Iz,bl,a_f26,s_f26_l0_b,s_f26_l1_b,s_f26_l2_b,aa,reduceIte,reduceCtorEq,Nat.reduceEqDiff,Nat.reduceLT,Nat.reduceLeDiff,Nat.reduceBEq,Nat.reduceAdd,Nat.reduceMul,hlt',a1,ld,hbC,hgg,hss,hav,hlv,Bool.and_self,hcal,hwk]
  | true=>
    rw [hop] at hcal
    by_cases h8:(x.xs.length:Int) > 8
    ·refine .inr ⟨(i,b,k),by rw [Bool.true_and,decide_eq_true (by omega),if_pos rfl],trim L (frOf 60 [(2,.ref A.length 0 0),(3,bl true)]) ((C ++ [Ob.cells 0 (insC x av lv)]).set A.length (.cells 0 [Iz i,Iz b,Iz k])),?_,?_,?_⟩
     ·have hgc:=g2 (C ++ [Ob.cells 0 (insC x av lv)]) (hE.trans (eC _))
      simp only [insC] at ld hxl hgc ⊢
      rw [itW_step]
      simp only [Iz] at hgc
      simp only [Iz,bl,a_f26,s_f26_l0_b,s_f26_l1_b,s_f26_l2_b,aa,reduceIte,reduceCtorEq,Nat.reduceEqDiff,Nat.reduceLT,Nat.reduceLeDiff,Nat.reduceBEq,Nat.reduceAdd,Nat.reduceMul,hlt',a1,ld,hbC,hgg,hss,hav,hlv,Bool.and_self,hcal,hxl,h8,hgc,hb]
     ·exact ((hEA.trans (eC _)).set (Nat.le_refl _) _).trim (by omega) _
     ·exact trim_get (getC_put (g2 _ (hE.trans (eC _)))) (by omega)
    ·refine .inl ⟨by rw [Bool.true_and,decide_eq_false (by omega),if_neg Bool.false_ne_true],trim L (frOf 60 [(2,.ref A.length 0 0),(4,Iz i),(6,Iz b),(14,v14),(15,Iz n15),(16,Iz n16),(28,v28),(29,Iz n29),(30,Iz n30),(36,cv),(37,Iz l.length),(38,Iz (k+1:Nat))]) (C ++ [Ob.cells 0 (insC x av lv)]),?_,(hE.trans (eC _)).trim (by omega) _⟩
     simp only [insC] at ld hxl ⊢
     rw [itW_step]
     simp only [Iz,bl,a_f26,s_f26_l0_b,s_f26_l1_b,s_f26_l2_b,aa,reduceIte,reduceCtorEq,Nat.reduceEqDiff,Nat.reduceLT,Nat.reduceLeDiff,Nat.reduceBEq,Nat.reduceAdd,Nat.reduceMul,hlt',a1,ld,hbC,hgg,hss,hav,hlv,Bool.and_self,hcal,hxl,h8,hwk]) C0 hC0 with ⟨e1,C,e2,e3⟩ | e
 ·refine .inl ⟨e1,trim L (frOf 60 [(2,.ref A.length 0 0),(4,Iz i),(6,Iz b),(14,v14),(15,Iz n15),(16,Iz n16),(28,v28),(29,Iz n29),(30,Iz n30),(36,cv),(37,Iz l.length),(38,Iz l.length),(39,bl false)]) C,?_,e3.trim (by omega) _⟩
  rw [cast0] at e2
  refine e2.trans ?_
  rw [itW_step]
  simp only [Iz,bl,a_f26,s_f26_l0_b,s_f26_l1_b,s_f26_l2_b,aa,reduceIte,reduceCtorEq,Nat.reduceEqDiff,Nat.reduceLT,Nat.reduceLeDiff,Nat.reduceBEq,Nat.reduceAdd,Nat.reduceMul,Int.lt_irrefl]
 ·rw [cast0] at e
  exact .inr e
theorem mp_l1 (hC:CT k_f46=some (.code s_f46)) (base:Nat) {A A1:Heap} (h1:Ext A A1) (hb:base≤A.length) (hg:getC A1 A.length 0=some [Iz 0,Iz 0,Iz 0]) {v14 bv:V} {i:Nat} {n15 n16:Int} {l:List BlkD} (hv:RdL 2 RdBlk A bv l) (hn:l.length < 2 ^ 20) (hnc:∀ b∈l,b.code.length < 2 ^ 20) (hx:∀ b∈l,∀ x∈b.code,x.xs.length < 2 ^ 20) {L:Nat} (hL:A1.length≤L) (hA1:A.length < A1.length):
 ∀ C,Ext A1 C→(srch (mpB i) l 0=none∧∃ C',itW (evC (callW CT) itW base s_f26_l1) [] L (frOf 60 [(2,.ref A.length 0 0),(4,Iz i),(14,v14),(15,Iz n15),(16,Iz n16),(28,bv),(29,Iz l.length),(30,Iz 0)]) C=some (.ext 2,frOf 60 [(2,.ref A.length 0 0),(4,Iz i),(14,v14),(15,Iz n15),(16,Iz n16),(28,bv),(29,Iz l.length),(30,Iz l.length),(31,bl false)],C')∧Ext A1 C')∨∃ t,srch (mpB i) l 0=some t∧Found A 60 A.length t (itW (evC (callW CT) itW base s_f26_l1) [] L (frOf 60 [(2,.ref A.length 0 0),(4,Iz i),(14,v14),(15,Iz n15),(16,Iz n16),(28,bv),(29,Iz l.length),(30,Iz 0)]) C):=by
 intro C0 hC0
 rcases it_srch l blk0 (mpB i) (fun _ C=>Ext A1 C) (fun k C=>itW (evC (callW CT) itW base s_f26_l1) [] L (frOf 60 [(2,.ref A.length 0 0),(4,Iz i),(14,v14),(15,Iz n15),(16,Iz n16),(28,bv),(29,Iz l.length),(30,Iz k)]) C) (Found A 60 A.length) (by
  intro k C hk hE
  have hlt':((k:Int) < (l.length:Int)):=by omega
  have hwk:=w64 (n:=k) (by omega)
  have hle:=hE.le
  have hkx:=some_getD hk blk0
  obtain ⟨x,hxe⟩:∃ x,l.getD k blk0=x:=⟨_,rfl⟩
  rw [hxe] at hkx ⊢
  have hmem:=List.mem_of_getElem? hkx
  obtain ⟨a,r,a1,hr,a2,_⟩:=hv.at2 hkx
  have hEA:=h1.trans hE
  have ld:=a2 C hEA
  have hbC:base≤C.length:=by omega
  have hgg:∀ c,getC (C ++ [Ob.cells 0 c]) C.length 0=some c:=fun c=>getC_new C 0 c
  have hss:∀ c d,(C ++ [c]).set C.length d=C ++ [d]:=fun c d=>set_snoc C c d
  have eC:∀ c,Ext C (C ++ [Ob.cells 0 c]):=fun c=>Ext.app _ _
  have g2:∀ D,Ext A1 D→getC D A.length 0=some [Iz 0,Iz 0,Iz 0]:=fun D h=>getC_ext hg h
  obtain ⟨cv,rfl,hcv⟩:=hr
  have hcl:=(rdI_ext hcv (hEA.trans (eC [Sb x.label,cv]))).len
  have hco:=hcv.one
  have hin:=mp_l0 (CT:=CT) (v14:=v14) (v28:=bv) (i:=i) (b:=k) (n15:=n15) (n16:=n16) (n29:=l.length) (n30:=k) hC base h1 hb hg hcv (hnc x hmem) (hx x hmem) (L:=(C ++ [Ob.cells 0 [Sb x.label,cv]]).length) (by rw [len_snoc];omega) hA1 (C ++ [Ob.cells 0 [Sb x.label,cv]]) (hE.trans (eC _))
  have hl2:(C ++ [Ob.cells 0 [Sb x.label,cv]]).length=C.length+1:=by simp
  rw [hl2] at hin
  rcases hin with ⟨z1,C2,z2,z3⟩ | ⟨t,z1,D,z2,z3,z4⟩
  ·refine .inl ⟨z1,trim L (frOf 60 [(2,.ref A.length 0 0),(4,Iz i),(14,v14),(15,Iz n15),(16,Iz n16),(28,bv),(29,Iz l.length),(30,Iz (k+1:Nat))]) C2,?_,z3.trim (by omega) _⟩
   rw [itW_step]
   simp only [Iz,bl] at z2
   simp only [Iz,bl,a_f26,s_f26_l0_b,s_f26_l1_b,s_f26_l2_b,aa,reduceIte,reduceCtorEq,Nat.reduceEqDiff,Nat.reduceLT,Nat.reduceLeDiff,Nat.reduceBEq,Nat.reduceAdd,Nat.reduceMul,hlt',a1,ld,hbC,hgg,hss,hco,Bool.and_self,hcl,hl2,z2,hwk]
  ·refine .inr ⟨t,z1,trim L (frOf 60 [(2,.ref A.length 0 0),(3,bl true)]) D,?_,z3.trim (by omega) _,trim_get z4 (by omega)⟩
   rw [itW_step]
   simp only [Iz,bl] at z2
   simp only [Iz,bl,a_f26,s_f26_l0_b,s_f26_l1_b,s_f26_l2_b,aa,reduceIte,reduceCtorEq,Nat.reduceEqDiff,Nat.reduceLT,Nat.reduceLeDiff,Nat.reduceBEq,Nat.reduceAdd,Nat.reduceMul,hlt',a1,ld,hbC,hgg,hss,hco,Bool.and_self,hcl,hl2,z2]) C0 hC0 with ⟨e1,C,e2,e3⟩ | e
 ·refine .inl ⟨e1,trim L (frOf 60 [(2,.ref A.length 0 0),(4,Iz i),(14,v14),(15,Iz n15),(16,Iz n16),(28,bv),(29,Iz l.length),(30,Iz l.length),(31,bl false)]) C,?_,e3.trim (by omega) _⟩
  rw [cast0] at e2
  refine e2.trans ?_
  rw [itW_step]
  simp only [Iz,bl,a_f26,s_f26_l0_b,s_f26_l1_b,s_f26_l2_b,aa,reduceIte,reduceCtorEq,Nat.reduceEqDiff,Nat.reduceLT,Nat.reduceLeDiff,Nat.reduceBEq,Nat.reduceAdd,Nat.reduceMul,Int.lt_irrefl]
 ·rw [cast0] at e
  exact .inr e
theorem mp_l2 (hC:CT k_f46=some (.code s_f46)) (base:Nat) {A A1:Heap} (h1:Ext A A1) (hb:base≤A.length) (hg:getC A1 A.length 0=some [Iz 0,Iz 0,Iz 0]) {fv:V} {l:List FunD} (hv:RdL 3 RdFun A fv l) (hn:l.length < 2 ^ 20) (hnb:∀ f∈l,f.blocks.length < 2 ^ 20) (hnc:∀ f∈l,∀ b∈f.blocks,b.code.length < 2 ^ 20) (hx:∀ f∈l,∀ b∈f.blocks,∀ x∈b.code,x.xs.length < 2 ^ 20) {L:Nat} (hL:A1.length≤L) (hA1:A.length < A1.length):
 ∀ C,Ext A1 C→(srch (mpF) l 0=none∧∃ C',itW (evC (callW CT) itW base s_f26_l2) [] L (frOf 60 [(2,.ref A.length 0 0),(14,fv),(15,Iz l.length),(16,Iz 0)]) C=some (.ext 0,frOf 60 [(2,.ref A.length 0 0),(14,fv),(15,Iz l.length),(16,Iz l.length),(17,bl false)],C')∧Ext A1 C')∨∃ t,srch (mpF) l 0=some t∧Found A 60 A.length t (itW (evC (callW CT) itW base s_f26_l2) [] L (frOf 60 [(2,.ref A.length 0 0),(14,fv),(15,Iz l.length),(16,Iz 0)]) C):=by
 intro C0 hC0
 rcases it_srch l fun0 (mpF) (fun _ C=>Ext A1 C) (fun k C=>itW (evC (callW CT) itW base s_f26_l2) [] L (frOf 60 [(2,.ref A.length 0 0),(14,fv),(15,Iz l.length),(16,Iz k)]) C) (Found A 60 A.length) (by
  intro k C hk hE
  have hlt':((k:Int) < (l.length:Int)):=by omega
  have hwk:=w64 (n:=k) (by omega)
  have hle:=hE.le
  have hkx:=some_getD hk fun0
  obtain ⟨x,hxe⟩:∃ x,l.getD k fun0=x:=⟨_,rfl⟩
  rw [hxe] at hkx ⊢
  have hmem:=List.mem_of_getElem? hkx
  obtain ⟨a,r,a1,hr,a2,_⟩:=hv.at2 hkx
  have hEA:=h1.trans hE
  have ld:=a2 C hEA
  have hbC:base≤C.length:=by omega
  have hgg:∀ c,getC (C ++ [Ob.cells 0 c]) C.length 0=some c:=fun c=>getC_new C 0 c
  have hss:∀ c d,(C ++ [c]).set C.length d=C ++ [d]:=fun c d=>set_snoc C c d
  have eC:∀ c,Ext C (C ++ [Ob.cells 0 c]):=fun c=>Ext.app _ _
  have g2:∀ D,Ext A1 D→getC D A.length 0=some [Iz 0,Iz 0,Iz 0]:=fun D h=>getC_ext hg h
  obtain ⟨pv,bv,rfl,q1,q2,q3,hbv⟩:=hr
  have hpl:=Sb_len (q1.ext (hEA.trans (eC [Sb x.name,pv,bv])))
  have hpo:=q1.one
  have hbo:=hbv.one
  have hbl:=(rdB_ext hbv (hEA.trans (eC [Sb x.name,pv,bv]))).len
  have hl2:(C ++ [Ob.cells 0 [Sb x.name,pv,bv]]).length=C.length+1:=by simp
  unfold mpF
  by_cases h8:(x.ps.length:Int) > 8
  ·refine .inr ⟨(k,0,0),if_pos (by omega),trim L (frOf 60 [(2,.ref A.length 0 0),(3,bl true)]) ((C ++ [Ob.cells 0 [Sb x.name,pv,bv]]).set A.length (.cells 0 [Iz k,Iz 0,Iz 0])),?_,?_,?_⟩
   ·have hgc:=g2 (C ++ [Ob.cells 0 [Sb x.name,pv,bv]]) (hE.trans (eC _))
    rw [itW_step]
    simp only [Iz] at hgc
    simp only [Iz,bl,a_f26,s_f26_l0_b,s_f26_l1_b,s_f26_l2_b,aa,reduceIte,reduceCtorEq,Nat.reduceEqDiff,Nat.reduceLT,Nat.reduceLeDiff,Nat.reduceBEq,Nat.reduceAdd,Nat.reduceMul,hlt',a1,ld,hbC,hgg,hss,hpo,hbo,Bool.and_self,hpl,h8,hgc,hb]
   ·exact ((hEA.trans (eC _)).set (Nat.le_refl _) _).trim (by omega) _
   ·exact trim_get (getC_put (g2 _ (hE.trans (eC _)))) (by omega)
  ·rw [if_neg (show ¬ x.ps.length > 8 by omega)]
   have hin:=mp_l1 (CT:=CT) (v14:=fv) (i:=k) (n15:=l.length) (n16:=k) hC base h1 hb hg hbv (hnb x hmem) (hnc x hmem) (hx x hmem) (L:=(C ++ [Ob.cells 0 [Sb x.name,pv,bv]]).length) (by rw [len_snoc];omega) hA1 (C ++ [Ob.cells 0 [Sb x.name,pv,bv]]) (hE.trans (eC _))
   rw [hl2] at hin
   rcases hin with ⟨z1,C2,z2,z3⟩ | ⟨t,z1,D,z2,z3,z4⟩
   ·refine .inl ⟨z1,trim L (frOf 60 [(2,.ref A.length 0 0),(14,fv),(15,Iz l.length),(16,Iz (k+1:Nat))]) C2,?_,z3.trim (by omega) _⟩
    rw [itW_step]
    simp only [Iz,bl] at z2
    simp only [Iz,bl,a_f26,s_f26_l0_b,s_f26_l1_b,s_f26_l2_b,aa,reduceIte,reduceCtorEq,Nat.reduceEqDiff,Nat.reduceLT,Nat.reduceLeDiff,Nat.reduceBEq,Nat.reduceAdd,Nat.reduceMul,hlt',a1,ld,hbC,hgg,hss,hpo,hbo,Bool.and_self,hpl,h8,hbl,hl2,z2,hwk]
   ·refine .inr ⟨t,z1,trim L (frOf 60 [(2,.ref A.length 0 0),(3,bl true)]) D,?_,z3.trim (by omega) _,trim_get z4 (by omega)⟩
    rw [itW_step]
    simp only [Iz,bl] at z2
    simp only [Iz,bl,a_f26,s_f26_l0_b,s_f26_l1_b,s_f26_l2_b,aa,reduceIte,reduceCtorEq,Nat.reduceEqDiff,Nat.reduceLT,Nat.reduceLeDiff,Nat.reduceBEq,Nat.reduceAdd,Nat.reduceMul,hlt',a1,ld,hbC,hgg,hss,hpo,hbo,Bool.and_self,hpl,h8,hbl,hl2,z2]) C0 hC0 with ⟨e1,C,e2,e3⟩ | e
 ·refine .inl ⟨e1,trim L (frOf 60 [(2,.ref A.length 0 0),(14,fv),(15,Iz l.length),(16,Iz l.length),(17,bl false)]) C,?_,e3.trim (by omega) _⟩
  rw [cast0] at e2
  refine e2.trans ?_
  rw [itW_step]
  simp only [Iz,bl,a_f26,s_f26_l0_b,s_f26_l1_b,s_f26_l2_b,aa,reduceIte,reduceCtorEq,Nat.reduceEqDiff,Nat.reduceLT,Nat.reduceLeDiff,Nat.reduceBEq,Nat.reduceAdd,Nat.reduceMul,Int.lt_irrefl]
 ·rw [cast0] at e
  exact .inr e
theorem manyParams_fun (hT:CT k_f26=some (.code s_f26)) (hC:CT k_f46=some (.code s_f46)) (base:Nat) {A:Heap} (hb:base≤A.length) {w sm:Nat} {fv:V} {fs:List FunD} (hc:NC A w sm fv fs):
 ∃ H',callW CT (.fn k_f26 [] []) [.ref w 0 0] base A=some (resP (srch mpF fs 0),H')∧Ext A H':=by
 have e1:Ext A (A ++ [Ob.cells 0 [Iz 0,Iz 0,Iz 0]]):=Ext.app _ _
 have x1:=hc.load e1
 have hl:=(hc.rd.ext e1).len
 have g1:getC (A ++ [Ob.cells 0 [Iz 0,Iz 0,Iz 0]]) A.length 0=some [Iz 0,Iz 0,Iz 0]:=getC_new A 0 _
 have hl1:(A ++ [Ob.cells 0 [Iz 0,Iz 0,Iz 0]]).length=A.length+1:=by simp
 rcases mp_l2 (CT:=CT) hC base e1 hb g1 hc.rd hc.sml.n hc.sml.nb hc.sml.nc hc.sml.xs (L:=A.length+1) (by omega) (by omega) (A ++ [Ob.cells 0 [Iz 0,Iz 0,Iz 0]]) (Ext.refl _) with ⟨q1,C,q2,q3⟩ | ⟨⟨i,b,k⟩,q1,D,q2,q3,q4⟩
 ·have g2:=getC_ext g1 q3
  have g3:=getC_put (c':=[Iz 0,Iz 0,Iz 0]) g2
  refine ⟨C.set A.length (.cells 0 [Iz 0,Iz 0,Iz 0]),callW_fnA (c:=s_f26) (k:=1) hT rfl (by decide) s_f26_first ?_,(e1.trans q3).set (Nat.le_refl _) _⟩
  rw [q1]
  have xR:loadV (C.set A.length (.cells 0 [Iz 0,Iz 0,Iz 0])) true 3 (.ref A.length 0 0)=some (.agg [Iz 0,Iz 0,Iz 0]):=by
   show xLoad _ true 3 _=_
   rw [xo_ref,g3];rfl
  simp only [Iz,bl] at x1 hl hl1 q2 g2 xR
  simp only [Iz,s_f26,a_f26,s_f26_l0_b,s_f26_l1_b,s_f26_l2_b,aa,reduceIte,reduceCtorEq,Nat.reduceEqDiff,Nat.reduceLT,Nat.reduceLeDiff,Nat.reduceBEq,Nat.reduceAdd,Nat.reduceMul,x1,hl,hl1,q2,g2,hb]
  rw [xR]
  rfl
 ·refine ⟨D,callW_fnA (c:=s_f26) (k:=1) hT rfl (by decide) s_f26_first ?_,q3⟩
  rw [q1]
  have xR:loadV D true 3 (.ref A.length 0 0)=some (.agg [Iz i,Iz b,Iz k]):=by
   show xLoad _ true 3 _=_
   rw [xo_ref,q4];rfl
  simp only [Iz,bl] at x1 hl hl1 q2 xR
  simp only [Iz,s_f26,a_f26,s_f26_l0_b,s_f26_l1_b,s_f26_l2_b,aa,reduceIte,reduceCtorEq,Nat.reduceEqDiff,Nat.reduceLT,Nat.reduceLeDiff,Nat.reduceBEq,Nat.reduceAdd,Nat.reduceMul,x1,hl,hl1,q2]
  rw [xR]
  rfl
end
end Go.Proofs.YtamlbkalopefgaaR
set_option maxRecDepth 100000
namespace Go.Proofs.YtamlbkalopefgaaR
open Go.AM
def endsO (o:Int):Bool:=o == 12 || o == 13 || o == 14
def beI (i b n:Nat) (k:Nat) (x:InsD):Option Pt:=if (endsO x.op == ((k:Int) == (n:Int) - 1)) != true then some (i,b,k) else none
def beB (i:Nat) (b:Nat) (bl:BlkD):Option Pt:=if bl.code.length=0 then some (i,b,0) else srch (beI i b bl.code.length) bl.code 0
def beF (i:Nat) (f:FunD):Option Pt:=srch (beB i) f.blocks 0
section
variable {CT:Nat→Option CFun}
theorem be_l0 (hC:CT k_f51=some (.code s_f51)) (base:Nat) {A A1:Heap} (h1:Ext A A1) (hb:base≤A.length) (hg:getC A1 A.length 0=some [Iz 0,Iz 0,Iz 0]) {v14 v28 cv:V} {i b p7:Nat} {n15 n16 n29 n30:Int} {l:List InsD} (hv:RdL 8 RdIns A cv l) (hn:l.length < 2 ^ 20) (h7:∀ C,Ext A1 C→xLoad C false 1 (.ref p7 0 1)=some cv) {L:Nat} (hL:A1.length≤L) (hA1:A.length < A1.length):
 ∀ C,Ext A1 C→(srch (beI i b l.length) l 0=none∧∃ C',itW (evC (callW CT) itW base s_f31_l0) [] L (frOf 62 [(2,.ref A.length 0 0),(4,Iz i),(6,Iz b),(7,.ref p7 0 0),(14,v14),(15,Iz n15),(16,Iz n16),(22,v28),(23,Iz n29),(24,Iz n30),(37,cv),(38,Iz l.length),(39,Iz 0)]) C=some (.ext 4,frOf 62 [(2,.ref A.length 0 0),(4,Iz i),(6,Iz b),(7,.ref p7 0 0),(14,v14),(15,Iz n15),(16,Iz n16),(22,v28),(23,Iz n29),(24,Iz n30),(37,cv),(38,Iz l.length),(39,Iz l.length),(40,bl false)],C')∧Ext A1 C')∨∃ t,srch (beI i b l.length) l 0=some t∧Found A 62 A.length t (itW (evC (callW CT) itW base s_f31_l0) [] L (frOf 62 [(2,.ref A.length 0 0),(4,Iz i),(6,Iz b),(7,.ref p7 0 0),(14,v14),(15,Iz n15),(16,Iz n16),(22,v28),(23,Iz n29),(24,Iz n30),(37,cv),(38,Iz l.length),(39,Iz 0)]) C):=by
 intro C0 hC0
 rcases it_srch l ins0 (beI i b l.length) (fun _ C=>Ext A1 C) (fun k C=>itW (evC (callW CT) itW base s_f31_l0) [] L (frOf 62 [(2,.ref A.length 0 0),(4,Iz i),(6,Iz b),(7,.ref p7 0 0),(14,v14),(15,Iz n15),(16,Iz n16),(22,v28),(23,Iz n29),(24,Iz n30),(37,cv),(38,Iz l.length),(39,Iz k)]) C) (Found A 62 A.length) (by
  intro k C hk hE
  have hlt':((k:Int) < (l.length:Int)):=by omega
  have hwk:=w64 (n:=k) (by omega)
  have hle:=hE.le
  have hkx:=some_getD hk ins0
  obtain ⟨x,hxe⟩:∃ x,l.getD k ins0=x:=⟨_,rfl⟩
  rw [hxe] at hkx ⊢
  have hmem:=List.mem_of_getElem? hkx
  obtain ⟨a,r,a1,hr,a2,_⟩:=hv.at2 hkx
  have hEA:=h1.trans hE
  have ld:=a2 C hEA
  have hbC:base≤C.length:=by omega
  have hgg:∀ c,getC (C ++ [Ob.cells 0 c]) C.length 0=some c:=fun c=>getC_new C 0 c
  have hss:∀ c d,(C ++ [c]).set C.length d=C ++ [d]:=fun c d=>set_snoc C c d
  have eC:∀ c,Ext C (C ++ [Ob.cells 0 c]):=fun c=>Ext.app _ _
  have g2:∀ D,Ext A1 D→getC D A.length 0=some [Iz 0,Iz 0,Iz 0]:=fun D h=>getC_ext hg h
  obtain ⟨av,lv,rfl,q1,q2,q3,q4,_⟩:=hr
  have hxl:=Sb_len (q1.ext (hEA.trans (eC (insC x av lv))))
  have hav:=q1.one
  have hlv:=q3.one
  have hcal:∀ D bs,callW CT (.fn k_f51 [] []) [.s (.int .u8 x.op)] bs D=some (.s (.bool (endsO x.op)),D):=fun D bs=>ends_fun hC bs D x.op
  have h7l:=h7 (C ++ [Ob.cells 0 (insC x av lv)]) (hE.trans (eC _))
  have h7n:=(rdI_ext hv (hEA.trans (eC (insC x av lv)))).len
  have hwm:IntKind.i64.wrap ((l.length:Int) - 1)=(l.length:Int) - 1:=by rw [IntKind.wrap_i64];omega
  unfold beI
  cases hop:((endsO x.op == ((k:Int) == (l.length:Int) - 1)) != true) with
  | false=>
    refine .inl ⟨by rw [if_neg Bool.false_ne_true],trim L (frOf 62 [(2,.ref A.length 0 0),(4,Iz i),(6,Iz b),(7,.ref p7 0 0),(14,v14),(15,Iz n15),(16,Iz n16),(22,v28),(23,Iz n29),(24,Iz n30),(37,cv),(38,Iz l.length),(39,Iz (k+1:Nat))]) (C ++ [Ob.cells 0 (insC x av lv)]),?_,(hE.trans (eC _)).trim (by omega) _⟩
    simp only [insC] at ld hxl h7l h7n ⊢
    rw [itW_step]
    simp only [Iz,bl,a_f31,s_f31_l0_b,s_f31_l1_b,s_f31_l2_b,aa,reduceIte,reduceCtorEq,Nat.reduceEqDiff,Nat.reduceLT,Nat.reduceLeDiff,Nat.reduceBEq,Nat.reduceAdd,Nat.reduceMul,hlt',a1,ld,hbC,hgg,hss,hav,hlv,Bool.and_self,hcal,h7l,h7n,hwm,hop,hwk]
  | true=>
    refine .inr ⟨(i,b,k),by rw [if_pos rfl],trim L (frOf 62 [(2,.ref A.length 0 0),(3,bl true)]) ((C ++ [Ob.cells 0 (insC x av lv)]).set A.length (.cells 0 [Iz i,Iz b,Iz k])),?_,?_,?_⟩
    ·have hgc:=g2 (C ++ [Ob.cells 0 (insC x av lv)]) (hE.trans (eC _))
     simp only [insC] at ld hxl hgc h7l h7n ⊢
     rw [itW_step]
     simp only [Iz] at hgc
     simp only [Iz,bl,a_f31,s_f31_l0_b,s_f31_l1_b,s_f31_l2_b,aa,reduceIte,reduceCtorEq,Nat.reduceEqDiff,Nat.reduceLT,Nat.reduceLeDiff,Nat.reduceBEq,Nat.reduceAdd,Nat.reduceMul,hlt',a1,ld,hbC,hgg,hss,hav,hlv,Bool.and_self,hcal,h7l,h7n,hwm,hop,hgc,hb]
    ·exact ((hEA.trans (eC _)).set (Nat.le_refl _) _).trim (by omega) _
    ·exact trim_get (getC_put (g2 _ (hE.trans (eC _)))) (by omega)) C0 hC0 with ⟨e1,C,e2,e3⟩ | e
 ·refine .inl ⟨e1,trim L (frOf 62 [(2,.ref A.length 0 0),(4,Iz i),(6,Iz b),(7,.ref p7 0 0),(14,v14),(15,Iz n15),(16,Iz n16),(22,v28),(23,Iz n29),(24,Iz n30),(37,cv),(38,Iz l.length),(39,Iz l.length),(40,bl false)]) C,?_,e3.trim (by omega) _⟩
  rw [cast0] at e2
  refine e2.trans ?_
  rw [itW_step]
  simp only [Iz,bl,a_f31,s_f31_l0_b,s_f31_l1_b,s_f31_l2_b,aa,reduceIte,reduceCtorEq,Nat.reduceEqDiff,Nat.reduceLT,Nat.reduceLeDiff,Nat.reduceBEq,Nat.reduceAdd,Nat.reduceMul,Int.lt_irrefl]
 ·rw [cast0] at e
  exact .inr e
theorem be_l1 (hC:CT k_f51=some (.code s_f51)) (base:Nat) {A A1:Heap} (h1:Ext A A1) (hb:base≤A.length) (hg:getC A1 A.length 0=some [Iz 0,Iz 0,Iz 0]) {v14 bv:V} {i:Nat} {n15 n16:Int} {l:List BlkD} (hv:RdL 2 RdBlk A bv l) (hn:l.length < 2 ^ 20) (hnc:∀ b∈l,b.code.length < 2 ^ 20) {L:Nat} (hL:A1.length≤L) (hA1:A.length < A1.length):
 ∀ C,Ext A1 C→(srch (beB i) l 0=none∧∃ C',itW (evC (callW CT) itW base s_f31_l1) [] L (frOf 62 [(2,.ref A.length 0 0),(4,Iz i),(14,v14),(15,Iz n15),(16,Iz n16),(22,bv),(23,Iz l.length),(24,Iz 0)]) C=some (.ext 2,frOf 62 [(2,.ref A.length 0 0),(4,Iz i),(14,v14),(15,Iz n15),(16,Iz n16),(22,bv),(23,Iz l.length),(24,Iz l.length),(25,bl false)],C')∧Ext A1 C')∨∃ t,srch (beB i) l 0=some t∧Found A 62 A.length t (itW (evC (callW CT) itW base s_f31_l1) [] L (frOf 62 [(2,.ref A.length 0 0),(4,Iz i),(14,v14),(15,Iz n15),(16,Iz n16),(22,bv),(23,Iz l.length),(24,Iz 0)]) C):=by
 intro C0 hC0
 rcases it_srch l blk0 (beB i) (fun _ C=>Ext A1 C) (fun k C=>itW (evC (callW CT) itW base s_f31_l1) [] L (frOf 62 [(2,.ref A.length 0 0),(4,Iz i),(14,v14),(15,Iz n15),(16,Iz n16),(22,bv),(23,Iz l.length),(24,Iz k)]) C) (Found A 62 A.length) (by
  intro k C hk hE
  have hlt':((k:Int) < (l.length:Int)):=by omega
  have hwk:=w64 (n:=k) (by omega)
  have hle:=hE.le
  have hkx:=some_getD hk blk0
  obtain ⟨x,hxe⟩:∃ x,l.getD k blk0=x:=⟨_,rfl⟩
  rw [hxe] at hkx ⊢
  have hmem:=List.mem_of_getElem? hkx
  obtain ⟨a,r,a1,hr,a2,_⟩:=hv.at2 hkx
  have hEA:=h1.trans hE
  have ld:=a2 C hEA
  have hbC:base≤C.length:=by omega
  have hgg:∀ c,getC (C ++ [Ob.cells 0 c]) C.length 0=some c:=fun c=>getC_new C 0 c
  have hss:∀ c d,(C ++ [c]).set C.length d=C ++ [d]:=fun c d=>set_snoc C c d
  have eC:∀ c,Ext C (C ++ [Ob.cells 0 c]):=fun c=>Ext.app _ _
  have g2:∀ D,Ext A1 D→getC D A.length 0=some [Iz 0,Iz 0,Iz 0]:=fun D h=>getC_ext hg h
  obtain ⟨cv,rfl,hcv⟩:=hr
  have hcl:=(rdI_ext hcv (hEA.trans (eC [Sb x.label,cv]))).len
  have hco:=hcv.one
  have hl2:(C ++ [Ob.cells 0 [Sb x.label,cv]]).length=C.length+1:=by simp
  unfold beB
  by_cases h0:x.code.length=0
  ·have e0:((x.code.length:Int) == 0)=true:=by rw [h0];rfl
   refine .inr ⟨(i,k,0),if_pos h0,trim L (frOf 62 [(2,.ref A.length 0 0),(3,bl true)]) ((C ++ [Ob.cells 0 [Sb x.label,cv]]).set A.length (.cells 0 [Iz i,Iz k,Iz 0])),?_,?_,?_⟩
   ·have hgc:=g2 (C ++ [Ob.cells 0 [Sb x.label,cv]]) (hE.trans (eC _))
    rw [itW_step]
    simp only [Iz] at hgc
    simp only [Iz,bl,a_f31,s_f31_l0_b,s_f31_l1_b,s_f31_l2_b,aa,reduceIte,reduceCtorEq,Nat.reduceEqDiff,Nat.reduceLT,Nat.reduceLeDiff,Nat.reduceBEq,Nat.reduceAdd,Nat.reduceMul,hlt',a1,ld,hbC,hgg,hss,hco,Bool.and_self,hcl,e0,hgc,hb]
   ·exact ((hEA.trans (eC _)).set (Nat.le_refl _) _).trim (by omega) _
   ·exact trim_get (getC_put (g2 _ (hE.trans (eC _)))) (by omega)
  ·have e0:((x.code.length:Int) == 0)=false:=by rw [beq_eq_false_iff_ne];omega
   rw [if_neg h0]
   have hin:=be_l0 (CT:=CT) (v14:=v14) (v28:=bv) (i:=i) (b:=k) (p7:=C.length) (n15:=n15) (n16:=n16) (n29:=l.length) (n30:=k) hC base (A:=A) (A1:=C ++ [Ob.cells 0 [Sb x.label,cv]]) (hEA.trans (eC _)) hb (g2 _ (hE.trans (eC _))) hcv (hnc x hmem) (fun D hD=>by rw [xo_ref,getC_ext (hgg _) hD];rfl) (L:=(C ++ [Ob.cells 0 [Sb x.label,cv]]).length) (Nat.le_refl _) (by rw [len_snoc];omega) (C ++ [Ob.cells 0 [Sb x.label,cv]]) (Ext.refl _)
   rw [hl2] at hin
   rcases hin with ⟨z1,C2,z2,z3⟩ | ⟨t,z1,D,z2,z3,z4⟩
   ·refine .inl ⟨z1,trim L (frOf 62 [(2,.ref A.length 0 0),(4,Iz i),(14,v14),(15,Iz n15),(16,Iz n16),(22,bv),(23,Iz l.length),(24,Iz (k+1:Nat))]) C2,?_,((hE.trans (eC _)).trans z3).trim (by omega) _⟩
    rw [itW_step]
    simp only [Iz,bl] at z2
    simp only [Iz,bl,a_f31,s_f31_l0_b,s_f31_l1_b,s_f31_l2_b,aa,reduceIte,reduceCtorEq,Nat.reduceEqDiff,Nat.reduceLT,Nat.reduceLeDiff,Nat.reduceBEq,Nat.reduceAdd,Nat.reduceMul,hlt',a1,ld,hbC,hgg,hss,hco,Bool.and_self,hcl,e0,hl2,z2,hwk]
   ·refine .inr ⟨t,z1,trim L (frOf 62 [(2,.ref A.length 0 0),(3,bl true)]) D,?_,z3.trim (by omega) _,trim_get z4 (by omega)⟩
    rw [itW_step]
    simp only [Iz,bl] at z2
    simp only [Iz,bl,a_f31,s_f31_l0_b,s_f31_l1_b,s_f31_l2_b,aa,reduceIte,reduceCtorEq,Nat.reduceEqDiff,Nat.reduceLT,Nat.reduceLeDiff,Nat.reduceBEq,Nat.reduceAdd,Nat.reduceMul,hlt',a1,ld,hbC,hgg,hss,hco,Bool.and_self,hcl,e0,hl2,z2]) C0 hC0 with ⟨e1,C,e2,e3⟩ | e
 ·refine .inl ⟨e1,trim L (frOf 62 [(2,.ref A.length 0 0),(4,Iz i),(14,v14),(15,Iz n15),(16,Iz n16),(22,bv),(23,Iz l.length),(24,Iz l.length),(25,bl false)]) C,?_,e3.trim (by omega) _⟩
  rw [cast0] at e2
  refine e2.trans ?_
  rw [itW_step]
  simp only [Iz,bl,a_f31,s_f31_l0_b,s_f31_l1_b,s_f31_l2_b,aa,reduceIte,reduceCtorEq,Nat.reduceEqDiff,Nat.reduceLT,Nat.reduceLeDiff,Nat.reduceBEq,Nat.reduceAdd,Nat.reduceMul,Int.lt_irrefl]
 ·rw [cast0] at e
  exact .inr e
theorem be_l2 (hC:CT k_f51=some (.code s_f51)) (base:Nat) {A A1:Heap} (h1:Ext A A1) (hb:base≤A.length) (hg:getC A1 A.length 0=some [Iz 0,Iz 0,Iz 0]) {fv:V} {l:List FunD} (hv:RdL 3 RdFun A fv l) (hn:l.length < 2 ^ 20) (hnb:∀ f∈l,f.blocks.length < 2 ^ 20) (hnc:∀ f∈l,∀ b∈f.blocks,b.code.length < 2 ^ 20) {L:Nat} (hL:A1.length≤L) (hA1:A.length < A1.length):
 ∀ C,Ext A1 C→(srch (beF) l 0=none∧∃ C',itW (evC (callW CT) itW base s_f31_l2) [] L (frOf 62 [(2,.ref A.length 0 0),(14,fv),(15,Iz l.length),(16,Iz 0)]) C=some (.ext 0,frOf 62 [(2,.ref A.length 0 0),(14,fv),(15,Iz l.length),(16,Iz l.length),(17,bl false)],C')∧Ext A1 C')∨∃ t,srch (beF) l 0=some t∧Found A 62 A.length t (itW (evC (callW CT) itW base s_f31_l2) [] L (frOf 62 [(2,.ref A.length 0 0),(14,fv),(15,Iz l.length),(16,Iz 0)]) C):=by
 intro C0 hC0
 rcases it_srch l fun0 (beF) (fun _ C=>Ext A1 C) (fun k C=>itW (evC (callW CT) itW base s_f31_l2) [] L (frOf 62 [(2,.ref A.length 0 0),(14,fv),(15,Iz l.length),(16,Iz k)]) C) (Found A 62 A.length) (by
  intro k C hk hE
  have hlt':((k:Int) < (l.length:Int)):=by omega
  have hwk:=w64 (n:=k) (by omega)
  have hle:=hE.le
  have hkx:=some_getD hk fun0
  obtain ⟨x,hxe⟩:∃ x,l.getD k fun0=x:=⟨_,rfl⟩
  rw [hxe] at hkx ⊢
  have hmem:=List.mem_of_getElem? hkx
  obtain ⟨a,r,a1,hr,a2,_⟩:=hv.at2 hkx
  have hEA:=h1.trans hE
  have ld:=a2 C hEA
  have hbC:base≤C.length:=by omega
  have hgg:∀ c,getC (C ++ [Ob.cells 0 c]) C.length 0=some c:=fun c=>getC_new C 0 c
  have hss:∀ c d,(C ++ [c]).set C.length d=C ++ [d]:=fun c d=>set_snoc C c d
  have eC:∀ c,Ext C (C ++ [Ob.cells 0 c]):=fun c=>Ext.app _ _
  have g2:∀ D,Ext A1 D→getC D A.length 0=some [Iz 0,Iz 0,Iz 0]:=fun D h=>getC_ext hg h
  obtain ⟨pv,bv,rfl,q1,q2,q3,hbv⟩:=hr
  have hpl:=Sb_len (q1.ext (hEA.trans (eC [Sb x.name,pv,bv])))
  have hpo:=q1.one
  have hbo:=hbv.one
  have hbl:=(rdB_ext hbv (hEA.trans (eC [Sb x.name,pv,bv]))).len
  have hl2:(C ++ [Ob.cells 0 [Sb x.name,pv,bv]]).length=C.length+1:=by simp
  unfold beF
  have hin:=be_l1 (CT:=CT) (v14:=fv) (i:=k) (n15:=l.length) (n16:=k) hC base h1 hb hg hbv (hnb x hmem) (hnc x hmem) (L:=(C ++ [Ob.cells 0 [Sb x.name,pv,bv]]).length) (by rw [len_snoc];omega) hA1 (C ++ [Ob.cells 0 [Sb x.name,pv,bv]]) (hE.trans (eC _))
  rw [hl2] at hin
  rcases hin with ⟨z1,C2,z2,z3⟩ | ⟨t,z1,D,z2,z3,z4⟩
  ·refine .inl ⟨z1,trim L (frOf 62 [(2,.ref A.length 0 0),(14,fv),(15,Iz l.length),(16,Iz (k+1:Nat))]) C2,?_,z3.trim (by omega) _⟩
   rw [itW_step]
   simp only [Iz,bl] at z2
   simp only [Iz,bl,a_f31,s_f31_l0_b,s_f31_l1_b,s_f31_l2_b,aa,reduceIte,reduceCtorEq,Nat.reduceEqDiff,Nat.reduceLT,Nat.reduceLeDiff,Nat.reduceBEq,Nat.reduceAdd,Nat.reduceMul,hlt',a1,ld,hbC,hgg,hss,hpo,hbo,Bool.and_self,hpl,hbl,hl2,z2,hwk]
  ·refine .inr ⟨t,z1,trim L (frOf 62 [(2,.ref A.length 0 0),(3,bl true)]) D,?_,z3.trim (by omega) _,trim_get z4 (by omega)⟩
   rw [itW_step]
   simp only [Iz,bl] at z2
   simp only [Iz,bl,a_f31,s_f31_l0_b,s_f31_l1_b,s_f31_l2_b,aa,reduceIte,reduceCtorEq,Nat.reduceEqDiff,Nat.reduceLT,Nat.reduceLeDiff,Nat.reduceBEq,Nat.reduceAdd,Nat.reduceMul,hlt',a1,ld,hbC,hgg,hss,hpo,hbo,Bool.and_self,hpl,hbl,hl2,z2]) C0 hC0 with ⟨e1,C,e2,e3⟩ | e
 ·refine .inl ⟨e1,trim L (frOf 62 [(2,.ref A.length 0 0),(14,fv),(15,Iz l.length),(16,Iz l.length),(17,bl false)]) C,?_,e3.trim (by omega) _⟩
  rw [cast0] at e2
  refine e2.trans ?_
  rw [itW_step]
  simp only [Iz,bl,a_f31,s_f31_l0_b,s_f31_l1_b,s_f31_l2_b,aa,reduceIte,reduceCtorEq,Nat.reduceEqDiff,Nat.reduceLT,Nat.reduceLeDiff,Nat.reduceBEq,Nat.reduceAdd,Nat.reduceMul,Int.lt_irrefl]
 ·rw [cast0] at e
  exact .inr e
theorem badEnd_fun (hT:CT k_f31=some (.code s_f31)) (hC:CT k_f51=some (.code s_f51)) (base:Nat) {A:Heap} (hb:base≤A.length) {w sm:Nat} {fv:V} {fs:List FunD} (hc:NC A w sm fv fs):
 ∃ H',callW CT (.fn k_f31 [] []) [.ref w 0 0] base A=some (resP (srch beF fs 0),H')∧Ext A H':=by
 have e1:Ext A (A ++ [Ob.cells 0 [Iz 0,Iz 0,Iz 0]]):=Ext.app _ _
 have x1:=hc.load e1
 have hl:=(hc.rd.ext e1).len
 have g1:getC (A ++ [Ob.cells 0 [Iz 0,Iz 0,Iz 0]]) A.length 0=some [Iz 0,Iz 0,Iz 0]:=getC_new A 0 _
 have hl1:(A ++ [Ob.cells 0 [Iz 0,Iz 0,Iz 0]]).length=A.length+1:=by simp
 rcases be_l2 (CT:=CT) hC base e1 hb g1 hc.rd hc.sml.n hc.sml.nb hc.sml.nc (L:=A.length+1) (by omega) (by omega) (A ++ [Ob.cells 0 [Iz 0,Iz 0,Iz 0]]) (Ext.refl _) with ⟨q1,C,q2,q3⟩ | ⟨⟨i,b,k⟩,q1,D,q2,q3,q4⟩
 ·have g2:=getC_ext g1 q3
  have g3:=getC_put (c':=[Iz 0,Iz 0,Iz 0]) g2
  refine ⟨C.set A.length (.cells 0 [Iz 0,Iz 0,Iz 0]),callW_fnA (c:=s_f31) (k:=1) hT rfl (by decide) s_f31_first ?_,(e1.trans q3).set (Nat.le_refl _) _⟩
  rw [q1]
  have xR:loadV (C.set A.length (.cells 0 [Iz 0,Iz 0,Iz 0])) true 3 (.ref A.length 0 0)=some (.agg [Iz 0,Iz 0,Iz 0]):=by
   show xLoad _ true 3 _=_
   rw [xo_ref,g3];rfl
  simp only [Iz,bl] at x1 hl hl1 q2 g2 xR
  simp only [Iz,s_f31,a_f31,s_f31_l0_b,s_f31_l1_b,s_f31_l2_b,aa,reduceIte,reduceCtorEq,Nat.reduceEqDiff,Nat.reduceLT,Nat.reduceLeDiff,Nat.reduceBEq,Nat.reduceAdd,Nat.reduceMul,x1,hl,hl1,q2,g2,hb]
  rw [xR]
  rfl
 ·refine ⟨D,callW_fnA (c:=s_f31) (k:=1) hT rfl (by decide) s_f31_first ?_,q3⟩
  rw [q1]
  have xR:loadV D true 3 (.ref A.length 0 0)=some (.agg [Iz i,Iz b,Iz k]):=by
   show xLoad _ true 3 _=_
   rw [xo_ref,q4];rfl
  simp only [Iz,bl] at x1 hl hl1 q2 xR
  simp only [Iz,s_f31,a_f31,s_f31_l0_b,s_f31_l1_b,s_f31_l2_b,aa,reduceIte,reduceCtorEq,Nat.reduceEqDiff,Nat.reduceLT,Nat.reduceLeDiff,Nat.reduceBEq,Nat.reduceAdd,Nat.reduceMul,x1,hl,hl1,q2]
  rw [xR]
  rfl
end
end Go.Proofs.YtamlbkalopefgaaR
set_option maxRecDepth 100000
namespace Go.Proofs.YtamlbkalopefgaaR
open Go.AM
def rulF (fs:List FunD):Nat→Nat→FunD→Option Pt
 | 2=>bnF
 | 3=>fuS (twG fs)
 | 5=>mpF
 | 6=>fuS fun _=>mbG
 | 7=>tlF
 | 8=>giF (fun n _ _ _ _=>mcG n) fs
 | 9=>giF (fun _=>fun _ _ _ x=>biG x) fs
 | 10=>beF
 | 11=>giF (fun _=>fun i b k x=>bpG fs i b k x) fs
 | 12=>giF (fun _=>fun i _ _ x=>nlG fs i x) fs
 | 13=>giF (fun _=>fun _ _ _ x=>nfG fs x) fs
 | 14=>giF (fun _=>fun _ _ _ x=>arG fs x) fs
 | 15=>tvF
 | 16=>nvF
 | _=>fun _ _=>none
def firstN (fs:List FunD):Nat→Option Pt
 | 1=>mfO fs
 | 4=>nmO fs
 | n=>srch (rulF fs n) fs 0
theorem srch_nil' {α β:Type} (f:Nat→α→Option β) (h:∀ i x,f i x=none):∀ (l:List α) (k:Nat),srch f l k=none:=by
 intro l
 induction l with
 | nil=>intro k;rfl
 | cons a l ih=>intro k;rw [srch,h];exact ih (k+1)
theorem firstN_over (fs:List FunD) {n:Nat} (h:n=0∨16 < n):firstN fs n=none:=by
 have e:∀ n,rulF fs (n+17)=fun _ _=>none:=fun n=>rfl
 rcases h with rfl | h
 ·exact srch_nil' _ (fun _ _=>rfl) _ _
 ·obtain ⟨m,rfl⟩:∃ m,n=m+17:=⟨n - 17,by omega⟩
  show srch (rulF fs (m+17)) fs 0=none
  exact srch_nil' _ (fun _ _=>by rw [e]) _ _
theorem srch_congr {α β:Type} {f g:Nat→α→Option β}:∀ {l:List α} {k:Nat},(∀ i x,l[i]?=some x→f (k+i) x=g (k+i) x)→srch f l k=srch g l k:=by
 intro l
 induction l with
 | nil=>intro k _;rfl
 | cons a l ih=>
   intro k h
   have h0:=h 0 a rfl
   rw [Nat.add_zero] at h0
   rw [srch,srch,h0,ih (k:=k+1) fun i x hx=>by
    have:=h (i+1) x (by rw [List.getElem?_cons_succ];exact hx)
    rwa [show k+(i+1)=k+1+i by omega] at this]
theorem firstN_eq (fs:List FunD) {n:Nat} (h1:n≠1) (h4:n≠4):firstN fs n=srch (rulF fs n) fs 0:=by
 unfold firstN
 split
 ·exact absurd rfl h1
 ·exact absurd rfl h4
 ·rfl
end Go.Proofs.YtamlbkalopefgaaR
set_option maxRecDepth 100000
namespace Go.Proofs.YtamlbkalopefgaaR
open Go.AM
theorem callW_fst {CP:Nat→Option CFun} {k:Nat} {a:V} {args:List V} {base:Nat} {H:Heap} {r:V × Heap} (h:callW CP (.fn k [] []) (a :: args) base H=some r):callW CP (.fn k [a] []) args base H=some r:=by
 obtain ⟨n,hn⟩:=callW_ex h
 refine callW_of (n:=n) ?_
 rw [← hn]
 cases n <;> rfl
structure RulT (CT:Nat→Option CFun):Prop where
 F:FindT CT
 B:BadT CT
 N:ConT CT
 manyFuncs:CT k_f22=some (.code s_f22)
 badName:CT k_f23=some (.code s_f23)
 twiceFunc:CT k_f24=some (.code s_f24)
 noMain:CT k_f25=some (.code s_f25)
 manyParams:CT k_f26=some (.code s_f26)
 manyBlocks:CT k_f27=some (.code s_f27)
 twiceLabel:CT k_f28=some (.code s_f28)
 manyCode:CT k_f29=some (.code s_f29)
 badInstr:CT k_f30=some (.code s_f30)
 badEnd:CT k_f31=some (.code s_f31)
 badPhi:CT k_f32=some (.code s_f32)
 noLabel:CT k_f33=some (.code s_f33)
 noFunc:CT k_f34=some (.code s_f34)
 arity:CT k_f35=some (.code s_f35)
 twiceVar:CT k_f36=some (.code s_f36)
 noVar:CT k_f37=some (.code s_f37)
 named_1:CT k_f66=some (.code s_f66)
 named:CT k_f45=some (.code s_f45)
 noFunc_1:CT k_f59=some (.code s_f59)
 arity_1:CT k_f60=some (.code s_f60)
 noLabel_1_1_1:CT k_f58=some (.code s_f58)
 noLabel_1_1:CT k_f56=some (.code s_f56)
 noLabel_1:CT k_f55=some (.code s_f55)
 badPhi_1_1:CT k_f54=some (.code s_f54)
 badPhi_1:CT k_f52=some (.code s_f52)
 badInstr_1:CT k_f50=some (.code s_f50)
 manyCode_1:CT k_f49=some (.code s_f49)
 funcs:CT k_f43=some (.code s_f43)
 manyBlocks_1:CT k_f47=some (.code s_f47)
 twiceFunc_1:CT k_f44=some (.code s_f44)
 noVar_1:CT k_f61=some (.code s_f61)
 badName_1:CT k_f40=some (.code s_f40)
 calls:CT k_f46=some (.code s_f46)
 ends:CT k_f51=some (.code s_f51)
 shapes:CT k_f21=some (.code s_f21)
 IndexFunc_api_Func_api_Func:CT k_f65=some (.code s_f65)
 ContainsFunc_api_Block_api_Block:CT k_f57=some (.code s_f57)
 IndexFunc_api_Block_api_Block:CT k_f69=some (.code s_f69)
 ContainsFunc_string_string:CT k_f39=some (.code s_f39)
 IndexFunc_string_string:CT k_f62=some (.code s_f62)
 ContainsFunc_api_Instr_api_Instr:CT k_f53=some (.code s_f53)
 IndexFunc_api_Instr_api_Instr:CT k_f68=some (.code s_f68)
def fnT (w:Nat):List (Int × V):=[(1,.fn 22 [.ref w 0 0] []),(2,.fn 23 [.ref w 0 0] []),(3,.fn 24 [.ref w 0 0] []),(4,.fn 25 [.ref w 0 0] []),(5,.fn 26 [.ref w 0 0] []),(6,.fn 27 [.ref w 0 0] []),(7,.fn 28 [.ref w 0 0] []),(8,.fn 29 [.ref w 0 0] []),(9,.fn 30 [.ref w 0 0] []),(10,.fn 31 [.ref w 0 0] []),(11,.fn 32 [.ref w 0 0] []),(12,.fn 33 [.ref w 0 0] []),(13,.fn 34 [.ref w 0 0] []),(14,.fn 35 [.ref w 0 0] []),(15,.fn 36 [.ref w 0 0] []),(16,.fn 37 [.ref w 0 0] [])]
section
variable {CT:Nat→Option CFun}
theorem rule_fun (h:RulT CT) (base:Nat) {A:Heap} (hb:base≤A.length) {w sm:Nat} {fv:V} {fs:List FunD} (hc:NC A w sm fv fs) {r:Nat} (h1:1≤r) (h2:r≤16):
 ∃ k H',lookI (fnT w) r=some (.fn k [.ref w 0 0] [])∧callW CT (.fn k [.ref w 0 0] []) [] base A=some (resP (firstN fs r),H')∧Ext A H':=by
 have hr:r=1∨r=2∨r=3∨r=4∨r=5∨r=6∨r=7∨r=8∨r=9∨r=10∨r=11∨r=12∨r=13∨r=14∨r=15∨r=16:=by omega
 rcases hr with rfl | rfl | rfl | rfl | rfl | rfl | rfl | rfl | rfl | rfl | rfl | rfl | rfl | rfl | rfl | rfl
 ·obtain ⟨H',e1,e2⟩:=manyFuncs_fun h.manyFuncs base hb hc
  exact ⟨_,H',rfl,callW_fst e1,e2⟩
 ·obtain ⟨H',e1,e2⟩:=badName_fun h.badName h.badName_1 h.B h.N base hb hc
  exact ⟨_,H',rfl,callW_fst e1,e2⟩
 ·obtain ⟨H',e1,e2⟩:=twiceFunc_fun h.funcs h.twiceFunc_1 h.twiceFunc base hb hc
  exact ⟨_,H',rfl,callW_fst e1,e2⟩
 ·obtain ⟨H',e1,e2⟩:=noMain_fun h.named_1 h.named h.IndexFunc_api_Func_api_Func h.noMain base hb hc
  exact ⟨_,H',rfl,callW_fst e1,e2⟩
 ·obtain ⟨H',e1,e2⟩:=manyParams_fun h.manyParams h.calls base hb hc
  exact ⟨_,H',rfl,callW_fst e1,e2⟩
 ·obtain ⟨H',e1,e2⟩:=manyBlocks_fun h.funcs h.manyBlocks_1 h.manyBlocks base hb hc
  exact ⟨_,H',rfl,callW_fst e1,e2⟩
 ·obtain ⟨H',e1,e2⟩:=twiceLabel_fun h.twiceLabel base hb hc
  exact ⟨_,H',rfl,callW_fst e1,e2⟩
 ·obtain ⟨H',e1,e2⟩:=manyCode_fun h.F h.manyCode_1 h.manyCode base hb hc
  exact ⟨_,H',rfl,callW_fst e1,e2⟩
 ·obtain ⟨H',e1,e2⟩:=badInstr_fun h.F h.calls h.badInstr_1 h.badInstr base hb hc
  exact ⟨_,H',rfl,callW_fst e1,e2⟩
 ·obtain ⟨H',e1,e2⟩:=badEnd_fun h.badEnd h.ends base hb hc
  exact ⟨_,H',rfl,callW_fst e1,e2⟩
 ·obtain ⟨H',e1,e2⟩:=badPhi_fun h.F h.badPhi_1_1 h.ContainsFunc_api_Instr_api_Instr h.IndexFunc_api_Instr_api_Instr h.badPhi_1 h.badPhi base hb hc
  exact ⟨_,H',rfl,callW_fst e1,e2⟩
 ·obtain ⟨H',e1,e2⟩:=noLabel_fun h.F h.noLabel_1_1_1 h.noLabel_1_1 h.ContainsFunc_api_Block_api_Block h.IndexFunc_api_Block_api_Block h.ContainsFunc_string_string h.IndexFunc_string_string h.noLabel_1 h.noLabel base hb hc
  exact ⟨_,H',rfl,callW_fst e1,e2⟩
 ·obtain ⟨H',e1,e2⟩:=noFunc_fun h.F h.named_1 h.named h.IndexFunc_api_Func_api_Func h.noFunc_1 h.noFunc base hb hc
  exact ⟨_,H',rfl,callW_fst e1,e2⟩
 ·obtain ⟨H',e1,e2⟩:=arity_fun h.F h.named_1 h.named h.IndexFunc_api_Func_api_Func h.arity_1 h.arity base hb hc
  exact ⟨_,H',rfl,callW_fst e1,e2⟩
 ·obtain ⟨H',e1,e2⟩:=twiceVar_fun h.twiceVar base hb hc
  exact ⟨_,H',rfl,callW_fst e1,e2⟩
 ·obtain ⟨H',e1,e2⟩:=noVar_fun h.noVar h.noVar_1 h.ContainsFunc_string_string h.IndexFunc_string_string base hb hc
  exact ⟨_,H',rfl,callW_fst e1,e2⟩
theorem fnT_none (w:Nat) {r:Nat} (h:r=0∨16 < r):lookI (fnT w) r=none:=by
 have e:∀ m:Nat,1≤m→m≤16→¬ ((r:Int)=(m:Int)):=fun m h1 h2=>by omega
 have e1:¬ ((r:Int)=1):=e 1 (by decide) (by decide)
 have e2:¬ ((r:Int)=2):=e 2 (by decide) (by decide)
 have e3:¬ ((r:Int)=3):=e 3 (by decide) (by decide)
 have e4:¬ ((r:Int)=4):=e 4 (by decide) (by decide)
 have e5:¬ ((r:Int)=5):=e 5 (by decide) (by decide)
 have e6:¬ ((r:Int)=6):=e 6 (by decide) (by decide)
 have e7:¬ ((r:Int)=7):=e 7 (by decide) (by decide)
 have e8:¬ ((r:Int)=8):=e 8 (by decide) (by decide)
 have e9:¬ ((r:Int)=9):=e 9 (by decide) (by decide)
 have e10:¬ ((r:Int)=10):=e 10 (by decide) (by decide)
 have e11:¬ ((r:Int)=11):=e 11 (by decide) (by decide)
 have e12:¬ ((r:Int)=12):=e 12 (by decide) (by decide)
 have e13:¬ ((r:Int)=13):=e 13 (by decide) (by decide)
 have e14:¬ ((r:Int)=14):=e 14 (by decide) (by decide)
 have e15:¬ ((r:Int)=15):=e 15 (by decide) (by decide)
 have e16:¬ ((r:Int)=16):=e 16 (by decide) (by decide)
 simp only [lookI,fnT,List.findIdx?_cons,List.findIdx?_nil,e1,e2,e3,e4,e5,e6,e7,e8,e9,e10,e11,e12,e13,e14,e15,e16,decide_false,Bool.false_eq_true,if_false,Option.map_none]
theorem first_fun (h:RulT CT) (hT:CT k_f12=some (.code s_f12)) (base:Nat) {A:Heap} (hb:base≤A.length) {fv:V} {fs:List FunD} (hr:RdProg A fv fs) (hs:Small fs) (r:Nat):
 ∃ H',callW CT (.fn k_f12 [] []) [.agg [fv],.s (.int .u8 r)] base A=some (resP (firstN fs r),H')∧Ext A H':=by
 have hfo:=hr.one
 obtain ⟨A1,hA1⟩:∃ A1,A ++ [Ob.cells 0 [fv]]=A1:=⟨_,rfl⟩
 have l1:A1.length=A.length+1:=by rw [← hA1,len_snoc]
 obtain ⟨A2,hA2⟩:∃ A2,A1 ++ [Ob.cells 0 [Iz 0,Iz 0,Iz 0]]=A2:=⟨_,rfl⟩
 have l2:A2.length=A.length+2:=by rw [← hA2,len_snoc,l1]
 obtain ⟨A3,hA3⟩:∃ A3,A2 ++ [Ob.map (esI .u8 shT)]=A3:=⟨_,rfl⟩
 have l3:A3.length=A.length+3:=by rw [← hA3,len_snoc,l2]
 obtain ⟨A4,hA4⟩:∃ A4,A3 ++ [Ob.cells 0 [fv,.mp (A.length+2)]]=A4:=⟨_,rfl⟩
 have l4:A4.length=A.length+4:=by rw [← hA4,len_snoc,l3]
 have e1:Ext A A1:=hA1 ▸ Ext.app _ _
 have e2:Ext A1 A2:=hA2 ▸ Ext.app _ _
 have e3:Ext A2 A3:=hA3 ▸ Ext.app _ _
 have e4:Ext A3 A4:=hA4 ▸ Ext.app _ _
 obtain ⟨w,hw⟩:∃ w,A.length+3=w:=⟨_,rfl⟩
 obtain ⟨A5,hA5⟩:∃ A5,A4 ++ [Ob.map (esI .u8 (fnT w))]=A5:=⟨_,rfl⟩
 have l5:A5.length=A.length+5:=by rw [← hA5,len_snoc,l4]
 have e5:Ext A4 A5:=hA5 ▸ Ext.app _ _
 have x1:getC A1 A.length 0=some [fv]:=hA1 ▸ getC_new A 0 _
 have x2:getC A2 (A.length+1) 0=some [Iz 0,Iz 0,Iz 0]:=by rw [← l1,← hA2];exact getC_new A1 0 _
 have x2p:=getC_load (getC_ext x1 e2)
 have ld1:xLoad A2 true 1 (.ref A.length 0 0)=some (.agg [fv]):=by rw [xo_ref,getC_ext x1 e2];rfl
 have hsh:=shapes_fun h.shapes A2.length A2 (Nat.le_refl _)
 rw [hA3,l2] at hsh
 have hc:NC A5 w (A.length+2) fv fs:=by
  refine ⟨?_,hr.ext (e1.trans (e2.trans (e3.trans (e4.trans e5)))),hs,?_⟩
  ·rw [← hw,← l3]
   exact getC_ext (by rw [← hA4];exact getC_new A3 0 _) e5
  ·refine Ext.at' (e4.trans e5) ?_
   rw [← hA3,← l2]
   simp
 have hA5':A5[A.length+4]?=some (.map (esI .u8 (fnT w))):=by rw [← hA5,← l4];simp
 have hmg:=get_I .u8 hA5' (.s .nilFunc) false (r:Int)
 rw [if_neg Bool.false_ne_true] at hmg
 have hb4:base≤A4.length:=by omega
 have e0:(Ob.map []:Ob)=.map (esI .u8 []):=rfl
 have u1:=upd_I hb4 .u8 ((fnT w).take 0) 1 (.fn 22 [.ref w 0 0] []) (by rfl)
 have u2:=upd_I hb4 .u8 ((fnT w).take 1) 2 (.fn 23 [.ref w 0 0] []) (by rfl)
 have u3:=upd_I hb4 .u8 ((fnT w).take 2) 3 (.fn 24 [.ref w 0 0] []) (by rfl)
 have u4:=upd_I hb4 .u8 ((fnT w).take 3) 4 (.fn 25 [.ref w 0 0] []) (by rfl)
 have u5:=upd_I hb4 .u8 ((fnT w).take 4) 5 (.fn 26 [.ref w 0 0] []) (by rfl)
 have u6:=upd_I hb4 .u8 ((fnT w).take 5) 6 (.fn 27 [.ref w 0 0] []) (by rfl)
 have u7:=upd_I hb4 .u8 ((fnT w).take 6) 7 (.fn 28 [.ref w 0 0] []) (by rfl)
 have u8:=upd_I hb4 .u8 ((fnT w).take 7) 8 (.fn 29 [.ref w 0 0] []) (by rfl)
 have u9:=upd_I hb4 .u8 ((fnT w).take 8) 9 (.fn 30 [.ref w 0 0] []) (by rfl)
 have u10:=upd_I hb4 .u8 ((fnT w).take 9) 10 (.fn 31 [.ref w 0 0] []) (by rfl)
 have u11:=upd_I hb4 .u8 ((fnT w).take 10) 11 (.fn 32 [.ref w 0 0] []) (by rfl)
 have u12:=upd_I hb4 .u8 ((fnT w).take 11) 12 (.fn 33 [.ref w 0 0] []) (by rfl)
 have u13:=upd_I hb4 .u8 ((fnT w).take 12) 13 (.fn 34 [.ref w 0 0] []) (by rfl)
 have u14:=upd_I hb4 .u8 ((fnT w).take 13) 14 (.fn 35 [.ref w 0 0] []) (by rfl)
 have u15:=upd_I hb4 .u8 ((fnT w).take 14) 15 (.fn 36 [.ref w 0 0] []) (by rfl)
 have u16:=upd_I hb4 .u8 ((fnT w).take 15) 16 (.fn 37 [.ref w 0 0] []) (by rfl)
 rw [show (fnT w).take 15 ++ [(16,.fn 37 [.ref w 0 0] [])]=fnT w from rfl,hA5] at u16
 simp only [fnT,List.take_succ_cons,List.take_zero,List.cons_append,List.nil_append,l4] at u1
 simp only [fnT,List.take_succ_cons,List.take_zero,List.cons_append,List.nil_append,l4] at u2
 simp only [fnT,List.take_succ_cons,List.take_zero,List.cons_append,List.nil_append,l4] at u3
 simp only [fnT,List.take_succ_cons,List.take_zero,List.cons_append,List.nil_append,l4] at u4
 simp only [fnT,List.take_succ_cons,List.take_zero,List.cons_append,List.nil_append,l4] at u5
 simp only [fnT,List.take_succ_cons,List.take_zero,List.cons_append,List.nil_append,l4] at u6
 simp only [fnT,List.take_succ_cons,List.take_zero,List.cons_append,List.nil_append,l4] at u7
 simp only [fnT,List.take_succ_cons,List.take_zero,List.cons_append,List.nil_append,l4] at u8
 simp only [fnT,List.take_succ_cons,List.take_zero,List.cons_append,List.nil_append,l4] at u9
 simp only [fnT,List.take_succ_cons,List.take_zero,List.cons_append,List.nil_append,l4] at u10
 simp only [fnT,List.take_succ_cons,List.take_zero,List.cons_append,List.nil_append,l4] at u11
 simp only [fnT,List.take_succ_cons,List.take_zero,List.cons_append,List.nil_append,l4] at u12
 simp only [fnT,List.take_succ_cons,List.take_zero,List.cons_append,List.nil_append,l4] at u13
 simp only [fnT,List.take_succ_cons,List.take_zero,List.cons_append,List.nil_append,l4] at u14
 simp only [fnT,List.take_succ_cons,List.take_zero,List.cons_append,List.nil_append,l4] at u15
 simp only [fnT,List.take_succ_cons,List.take_zero,l4] at u16
 have x5:=getC_ext x2 (e3.trans (e4.trans e5))
 have hb1:base≤A.length+1:=by omega
 have hb4':base≤A.length+4:=by omega
 have ee:Ext A A5:=e1.trans (e2.trans (e3.trans (e4.trans e5)))
 have ea:Ext A A1:=e1
 simp only [Iz] at hA2 x5
 by_cases h16:1≤r∧r≤16
 ·obtain ⟨k,H1,k1,k2,k3⟩:=rule_fun h base (A:=A5) (by omega) hc h16.1 h16.2
  rw [k1,Option.getD_some] at hmg
  have g2:=getC_ext x5 k3
  cases ho:firstN fs r with
  | none=>
    rw [ho] at k2
    have g3:=getC_put (c':=[Iz 0,Iz 0,Iz 0]) g2
    have xR:loadV (H1.set (A.length+1) (.cells 0 [Iz 0,Iz 0,Iz 0])) true 3 (.ref (A.length+1) 0 0)=some (.agg [Iz 0,Iz 0,Iz 0]):=by
     show xLoad _ true 3 _=_
     rw [xo_ref,g3];rfl
    refine ⟨H1.set (A.length+1) (.cells 0 [Iz 0,Iz 0,Iz 0]),callW_fnA (c:=s_f12) (k:=2) hT rfl (by decide) s_f12_first ?_,(ee.trans k3).set (Nat.le_succ _) _⟩
    simp only [resP,Iz,bl] at k2 g2 xR
    simp only [Iz,s_f12,a_f12,aa,reduceIte,reduceCtorEq,Nat.reduceEqDiff,Nat.reduceLT,Nat.reduceLeDiff,Nat.reduceBEq,Nat.reduceAdd,Nat.reduceMul,op_mapNew,op_mapUpd,xsub_mkFn,hfo,Bool.and_self,hA1,l1,hA2,l2,ld1,hsh,l3,hA4,l4,hw,hb4',hb4,e0,u1,u2,u3,u4,u5,u6,u7,u8,u9,u10,u11,u12,u13,u14,u15,u16,hmg,k2,g2,hb1]
    rw [xR]
    rfl
  | some t=>
    obtain ⟨i,b,q⟩:=t
    rw [ho] at k2
    have g3:=getC_put (c':=[Iz i,Iz b,Iz q]) g2
    have xR:loadV (H1.set (A.length+1) (.cells 0 [Iz i,Iz b,Iz q])) true 3 (.ref (A.length+1) 0 0)=some (.agg [Iz i,Iz b,Iz q]):=by
     show xLoad _ true 3 _=_
     rw [xo_ref,g3];rfl
    refine ⟨H1.set (A.length+1) (.cells 0 [Iz i,Iz b,Iz q]),callW_fnA (c:=s_f12) (k:=2) hT rfl (by decide) s_f12_first ?_,(ee.trans k3).set (Nat.le_succ _) _⟩
    simp only [resP,Iz,bl] at k2 g2 xR
    simp only [Iz,s_f12,a_f12,aa,reduceIte,reduceCtorEq,Nat.reduceEqDiff,Nat.reduceLT,Nat.reduceLeDiff,Nat.reduceBEq,Nat.reduceAdd,Nat.reduceMul,op_mapNew,op_mapUpd,xsub_mkFn,hfo,Bool.and_self,hA1,l1,hA2,l2,ld1,hsh,l3,hA4,l4,hw,hb4',hb4,e0,u1,u2,u3,u4,u5,u6,u7,u8,u9,u10,u11,u12,u13,u14,u15,u16,hmg,k2,g2,hb1]
    rw [xR]
    rfl
 ·have hov:r=0∨16 < r:=by omega
  rw [fnT_none w hov,Option.getD_none] at hmg
  rw [firstN_over fs hov]
  have g3:=getC_put (c':=[Iz 0,Iz 0,Iz 0]) x5
  have xR:loadV (A5.set (A.length+1) (.cells 0 [Iz 0,Iz 0,Iz 0])) true 3 (.ref (A.length+1) 0 0)=some (.agg [Iz 0,Iz 0,Iz 0]):=by
   show xLoad _ true 3 _=_
   rw [xo_ref,g3];rfl
  refine ⟨A5.set (A.length+1) (.cells 0 [Iz 0,Iz 0,Iz 0]),callW_fnA (c:=s_f12) (k:=2) hT rfl (by decide) s_f12_first ?_,ee.set (Nat.le_succ _) _⟩
  simp only [Iz] at xR
  simp only [Iz,s_f12,a_f12,aa,reduceIte,reduceCtorEq,Nat.reduceEqDiff,Nat.reduceLT,Nat.reduceLeDiff,Nat.reduceBEq,Nat.reduceAdd,Nat.reduceMul,op_mapNew,op_mapUpd,xsub_mkFn,hfo,Bool.and_self,hA1,l1,hA2,l2,ld1,hsh,l3,hA4,l4,hw,hb4',hb4,e0,u1,u2,u3,u4,u5,u6,u7,u8,u9,u10,u11,u12,u13,u14,u15,u16,hmg,x5,hb1]
  rw [xR]
  rfl
end
end Go.Proofs.YtamlbkalopefgaaR
set_option maxRecDepth 100000
namespace Go.Proofs.YtamlbkalopefgaaR
open Go.AM
def Checks (fs:List FunD) (r:Nat) (t:Pt):Prop:=(r=0∧t=(0,0,0)∧∀ n,firstN fs n=none)∨(1≤r∧r≤16∧firstN fs r=some t∧∀ n,n < r→firstN fs n=none)
theorem Checks.same {fs gs:List FunD} {r q:Nat} {t u:Pt} (h1:Checks fs r t) (h2:Checks gs q u) (h:∀ n,firstN gs n=firstN fs n):q=r∧u=t:=by
 rcases h1 with ⟨rfl,rfl,a⟩ | ⟨a1,a2,a3,a4⟩
 ·rcases h2 with ⟨rfl,rfl,_⟩ | ⟨b1,b2,b3,b4⟩
  ·exact ⟨rfl,rfl⟩
  ·rw [h,a] at b3;cases b3
 ·rcases h2 with ⟨rfl,rfl,b⟩ | ⟨b1,b2,b3,b4⟩
  ·have:=b r
   rw [h,a3] at this;cases this
  ·by_cases e1:q < r
   ·have:=a4 q e1
    rw [h] at b3
    rw [this] at b3;cases b3
   ·by_cases e2:r < q
    ·have:=b4 r e2
     rw [h,a3] at this;cases this
    ·obtain rfl:q=r:=by omega
     rw [h,a3] at b3
     exact ⟨rfl,(Option.some.inj b3).symm⟩
def wrV (r:Nat) (t:Pt):V:=.agg [.s (.int .u8 r),Iz t.1,Iz t.2.1,Iz t.2.2]
section
variable {CT:Nat→Option CFun}
theorem check_fun (h:RulT CT) (hF:CT k_f12=some (.code s_f12)) (hT:CT k_f11=some (.code s_f11)) (base:Nat) {A:Heap} (hb:base≤A.length) {fv:V} {fs:List FunD} (hr:RdProg A fv fs) (hs:Small fs):
 ∃ r t H',callW CT (.fn k_f11 [] []) [.agg [fv]] base A=some (wrV r t,H')∧Ext A H'∧Checks fs r t:=by
 have hfo:=hr.one
 obtain ⟨A1,hA1⟩:∃ A1,A ++ [Ob.cells 0 [fv]]=A1:=⟨_,rfl⟩
 have l1:A1.length=A.length+1:=by rw [← hA1,len_snoc]
 obtain ⟨A2,hA2⟩:∃ A2,A1 ++ [Ob.cells 0 [.s (.int .u8 0),Iz 0,Iz 0,Iz 0]]=A2:=⟨_,rfl⟩
 have l2:A2.length=A.length+2:=by rw [← hA2,len_snoc,l1]
 have e1:Ext A A1:=hA1 ▸ Ext.app _ _
 have e2:Ext A1 A2:=hA2 ▸ Ext.app _ _
 have x1:getC A1 A.length 0=some [fv]:=hA1 ▸ getC_new A 0 _
 have x2:getC A2 (A.length+1) 0=some [.s (.int .u8 0),Iz 0,Iz 0,Iz 0]:=by rw [← l1,← hA2];exact getC_new A1 0 _
 have hwr:∀ i:Nat,i < 16→IntKind.u8.wrap ((i:Int)+1+1)=((i+1:Nat):Int)+1:=fun i hi=>by
  rw [show ((i:Int)+1+1)=((i+2:Nat):Int) by omega]
  have:i+2 < 256:=by omega
  have e2:(2:Int) ^ IntKind.u8.bits=256:=by decide
  simp only [IntKind.wrap,e2]
  have e3:((i+2:Nat):Int) % 256=((i+2:Nat):Int):=by omega
  rw [e3]
  simp only [IntKind.signed,Bool.false_and,Bool.false_eq_true,if_false]
  omega
 have step:∀ i C,i < 16→Ext A2 C→∃ D,Ext A2 D∧(firstN fs (i+1)=none→itW (evC (callW CT) itW base s_f11_l0) [] A2.length (frOf 21 [(1,.ref A.length 0 0),(2,.ref (A.length+1) 0 0),(3,.s (.int .u8 ((i:Int)+1)))]) C=itW (evC (callW CT) itW base s_f11_l0) [] A2.length (frOf 21 [(1,.ref A.length 0 0),(2,.ref (A.length+1) 0 0),(3,.s (.int .u8 (((i+1:Nat):Int)+1)))]) (trim A2.length (frOf 21 [(1,.ref A.length 0 0),(2,.ref (A.length+1) 0 0),(3,.s (.int .u8 (((i+1:Nat):Int)+1)))]) D))∧(∀ t,firstN fs (i+1)=some t→itW (evC (callW CT) itW base s_f11_l0) [] A2.length (frOf 21 [(1,.ref A.length 0 0),(2,.ref (A.length+1) 0 0),(3,.s (.int .u8 ((i:Int)+1)))]) C=some (.ret,frOf 21 [(2,.ref (A.length+1) 0 0)],trim A2.length (frOf 21 [(2,.ref (A.length+1) 0 0)]) (D.set (A.length+1) (.cells 0 [.s (.int .u8 ((i:Int)+1)),Iz t.1,Iz t.2.1,Iz t.2.2])))):=by
  intro i C hi hE
  have hbC:base≤C.length:=by have:=hE.le;omega
  have ld1:xLoad C true 1 (.ref A.length 0 0)=some (.agg [fv]):=by rw [xo_ref,getC_ext x1 (e2.trans hE)];rfl
  obtain ⟨D1,c1,d1⟩:=first_fun h hF base hbC (hr.ext (e1.trans (e2.trans hE))) hs (i+1)
  have hle:(((i:Int)+1)≤16):=by omega
  have hbD:base≤D1.length:=by have:=d1.le;omega
  have hgg:∀ c,getC (D1 ++ [Ob.cells 0 c]) D1.length 0=some c:=fun c=>getC_new D1 0 c
  have hss:∀ c d,(D1 ++ [c]).set D1.length d=D1 ++ [d]:=fun c d=>set_snoc D1 c d
  have hw:=hwr i hi
  have hci:((i+1:Nat):Int)=(i:Int)+1:=by omega
  have hb1:base≤A.length+1:=by omega
  cases ho:firstN fs (i+1) with
  | none=>
    rw [ho,hci] at c1
    refine ⟨D1 ++ [Ob.cells 0 [Iz 0,Iz 0,Iz 0]],hE.trans (d1.trans (Ext.app _ _)),fun _=>?_,fun t e=>(by cases e)⟩
    rw [itW_step]
    simp only [resP,Iz,bl] at c1
    simp only [Iz,bl,a_f11,s_f11_l0_b,aa,reduceIte,reduceCtorEq,Nat.reduceEqDiff,Nat.reduceLT,Nat.reduceLeDiff,Nat.reduceBEq,Nat.reduceAdd,Nat.reduceMul,hle,ld1,c1,hbD,hgg,hss,hw]
  | some t=>
    obtain ⟨a,b,q⟩:=t
    rw [ho,hci] at c1
    have x2':=getC_ext x2 (hE.trans (d1.trans (Ext.app D1 [Ob.cells 0 [Iz a,Iz b,Iz q]])))
    refine ⟨D1 ++ [Ob.cells 0 [Iz a,Iz b,Iz q]],hE.trans (d1.trans (Ext.app _ _)),fun e=>(by cases e),fun t e=>?_⟩
    cases e
    rw [itW_step]
    simp only [resP,Iz,bl] at c1 x2'
    simp only [Iz,bl,a_f11,s_f11_l0_b,aa,reduceIte,reduceCtorEq,Nat.reduceEqDiff,Nat.reduceLT,Nat.reduceLeDiff,Nat.reduceBEq,Nat.reduceAdd,Nat.reduceMul,hle,ld1,c1,hbD,hgg,hss,x2',hb1]
 have hz:firstN fs 0=none:=firstN_over fs (.inl rfl)
 rcases it_findR 16 (fun i=>(firstN fs (i+1)).isSome) (fun C=>Ext A2 C) (fun i C=>itW (evC (callW CT) itW base s_f11_l0) [] A2.length (frOf 21 [(1,.ref A.length 0 0),(2,.ref (A.length+1) 0 0),(3,.s (.int .u8 ((i:Int)+1)))]) C) (fun i C hi hp hE=>by
  obtain ⟨D,q1,q2,_⟩:=step i C hi hE
  exact ⟨_,q2 (by cases e:firstN fs (i+1) with | none=>rfl | some t=>simp [e] at hp),q1.trim (Nat.le_refl _) _⟩) A2 (Ext.refl A2) with ⟨h1,C,h2,h3⟩ | ⟨i,C,hi,h1,h2,h3,h4⟩
 ·have hall:∀ n,firstN fs n=none:=fun n=>by
   by_cases hn:n=0∨16 < n
   ·exact firstN_over fs hn
   ·obtain ⟨m,rfl⟩:∃ m,n=m+1:=⟨n - 1,by omega⟩
    have:=h1 m (by omega)
    cases e:firstN fs (m+1) with
    | none=>rfl
    | some t=>simp [e] at this
  have x2':=getC_ext x2 h3
  have hend:itW (evC (callW CT) itW base s_f11_l0) [] A2.length (frOf 21 [(1,.ref A.length 0 0),(2,.ref (A.length+1) 0 0),(3,.s (.int .u8 (((16:Nat):Int)+1)))]) C=some (.ext 0,frOf 21 [(1,.ref A.length 0 0),(2,.ref (A.length+1) 0 0),(3,.s (.int .u8 (((16:Nat):Int)+1))),(7,bl false)],trim A2.length (frOf 21 [(1,.ref A.length 0 0),(2,.ref (A.length+1) 0 0),(3,.s (.int .u8 (((16:Nat):Int)+1))),(7,bl false)]) C):=by
   have hle:¬ ((((16:Nat):Int)+1)≤16):=by decide
   rw [itW_step]
   simp only [Iz,bl,a_f11,s_f11_l0_b,aa,reduceIte,reduceCtorEq,Nat.reduceEqDiff,Nat.reduceLT,Nat.reduceLeDiff,Nat.reduceBEq,Nat.reduceAdd,Nat.reduceMul,hle]
  have h5:=h2.trans hend
  obtain ⟨D,hD⟩:∃ D,trim A2.length (frOf 21 [(1,.ref A.length 0 0),(2,.ref (A.length+1) 0 0),(3,.s (.int .u8 (((16:Nat):Int)+1))),(7,bl false)]) C=D:=⟨_,rfl⟩
  have hDE:Ext A2 D:=hD ▸ h3.trim (Nat.le_refl _) _
  rw [hD] at h5
  have xD:=getC_ext x2 hDE
  have g3:=getC_put (c':=[.s (.int .u8 0),Iz 0,Iz 0,Iz 0]) xD
  have xR:loadV (D.set (A.length+1) (.cells 0 [.s (.int .u8 0),Iz 0,Iz 0,Iz 0])) true 4 (.ref (A.length+1) 0 0)=some (.agg [.s (.int .u8 0),Iz 0,Iz 0,Iz 0]):=by
   show xLoad _ true 4 _=_
   rw [xo_ref,g3];rfl
  refine ⟨0,(0,0,0),D.set (A.length+1) (.cells 0 [.s (.int .u8 0),Iz 0,Iz 0,Iz 0]),callW_fnA (c:=s_f11) (k:=1) hT rfl (by decide) s_f11_first ?_,((e1.trans e2).trans hDE).set (Nat.le_succ _) _,.inl ⟨rfl,rfl,hall⟩⟩
  have hb1:base≤A.length+1:=by omega
  simp only [Iz,bl,l2,cast0,Int.zero_add] at h5 xD xR hA2
  simp only [Iz,wrV,s_f11,a_f11,s_f11_l0_b,aa,reduceIte,reduceCtorEq,Nat.reduceEqDiff,Nat.reduceLT,Nat.reduceLeDiff,Nat.reduceBEq,Nat.reduceAdd,Nat.reduceMul,hfo,Bool.and_self,hA1,l1,hA2,l2,h5,xD,hb1]
  rw [xR]
  rfl
 ·obtain ⟨D,q1,_,q3⟩:=step i C hi h4
  cases ho:firstN fs (i+1) with
  | none=>simp [ho] at h1
  | some t=>
    have h5:=h3.trans (q3 t ho)
    obtain ⟨a,b,q⟩:=t
    obtain ⟨E,hE⟩:∃ E,trim A2.length (frOf 21 [(2,.ref (A.length+1) 0 0)]) (D.set (A.length+1) (.cells 0 [.s (.int .u8 ((i:Int)+1)),Iz a,Iz b,Iz q]))=E:=⟨_,rfl⟩
    rw [hE] at h5
    have xD:getC E (A.length+1) 0=some [.s (.int .u8 ((i:Int)+1)),Iz a,Iz b,Iz q]:=hE ▸ trim_get (getC_put (getC_ext x2 q1)) (by omega)
    have xR:loadV E true 4 (.ref (A.length+1) 0 0)=some (.agg [.s (.int .u8 ((i:Int)+1)),Iz a,Iz b,Iz q]):=by
     show xLoad _ true 4 _=_
     rw [xo_ref,xD];rfl
    have hEE:Ext A E:=hE ▸ (((e1.trans e2).trans q1).set (Nat.le_succ _) _).trim (by omega) _
    refine ⟨i+1,(a,b,q),E,callW_fnA (c:=s_f11) (k:=1) hT rfl (by decide) s_f11_first ?_,hEE,.inr ⟨by omega,by omega,ho,fun n hn=>?_⟩⟩
    ·have hci:((i+1:Nat):Int)=(i:Int)+1:=by omega
     simp only [Iz,bl,l2,cast0,Int.zero_add] at h5 xR hA2
     simp only [Iz,wrV,hci,s_f11,a_f11,s_f11_l0_b,aa,reduceIte,reduceCtorEq,Nat.reduceEqDiff,Nat.reduceLT,Nat.reduceLeDiff,Nat.reduceBEq,Nat.reduceAdd,Nat.reduceMul,hfo,Bool.and_self,hA1,l1,hA2,l2,h5]
     rw [xR]
     rfl
    ·by_cases e0:n=0
     ·subst e0;exact hz
     ·obtain ⟨m,rfl⟩:∃ m,n=m+1:=⟨n - 1,by omega⟩
      have:=h2 m (by omega)
      cases e:firstN fs (m+1) with
      | none=>rfl
      | some t=>simp [e] at this
end
end Go.Proofs.YtamlbkalopefgaaR
set_option maxRecDepth 100000
namespace Go.Proofs.YtamlbkalopefgaaR
open Go.AM
def K9_0:List Nat:=List.range' 0 23
theorem s_f9_r0_kT:killV K9_0 (startV 23 [] 0)=[]:=by kernel_rfl
def R9_0:LO:=[⟨some 0,.move (.c (.s (.bool false))),none⟩]
def T9_0:=hT R9_0 K9_0 [] 1 [] [] [.cc (.s (.bool false))]
def R9_1t8:LO:=[⟨none,.store 1 (.t 1) (.t 10),none⟩]
def R9_1t7:LO:=⟨some 1,.alloc [.s (.slice none 0 0)],none⟩ :: R9_1t8
def R9_1p6:LO:=[⟨some 10,.build [.s (.slice none 0 0)] [(0,1)] [(0,.t 9)],none⟩]
def R9_1t6:LO:=R9_1p6 ++ R9_1t7
def R9_1t5:LO:=⟨some 9,.buildSl 3 1 [.s (.string ⟨#[]⟩),.s (.slice none 0 0),.s (.slice none 0 0)] [(0,.t 8)],none⟩ :: R9_1t6
def R9_1p4:LO:=[⟨some 8,.build [.s (.string ⟨#[]⟩),.s (.slice none 0 0),.s (.slice none 0 0)] [(0,1),(1,1),(2,1)] [(0,.c (.s (.string ⟨#[109,97,105,110]⟩))),(2,.t 7)],none⟩]
def R9_1t4:LO:=R9_1p4 ++ R9_1t5
def R9_1t3:LO:=⟨some 7,.buildSl 2 1 [.s (.string ⟨#[]⟩),.s (.slice none 0 0)] [(0,.t 6)],none⟩ :: R9_1t4
def R9_1p2:LO:=[⟨some 6,.build [.s (.string ⟨#[]⟩),.s (.slice none 0 0)] [(0,1),(1,1)] [(0,.c (.s (.string ⟨#[108]⟩))),(1,.t 5)],none⟩]
def R9_1t2:LO:=R9_1p2 ++ R9_1t3
def R9_1t1:LO:=⟨some 5,.buildSl 8 3 [.s (.int .u8 0),.s (.string ⟨#[]⟩),.s (.string ⟨#[]⟩),.s (.string ⟨#[]⟩),.s (.int .i64 0),.s (.string ⟨#[]⟩),.s (.slice none 0 0),.s (.slice none 0 0),.s (.int .u8 0),.s (.string ⟨#[]⟩),.s (.string ⟨#[]⟩),.s (.string ⟨#[]⟩),.s (.int .i64 0),.s (.string ⟨#[]⟩),.s (.slice none 0 0),.s (.slice none 0 0),.s (.int .u8 0),.s (.string ⟨#[]⟩),.s (.string ⟨#[]⟩),.s (.string ⟨#[]⟩),.s (.int .i64 0),.s (.string ⟨#[]⟩),.s (.slice none 0 0),.s (.slice none 0 0)] [(0,.t 2),(1,.t 3),(2,.t 4)],none⟩ :: R9_1t2
def R9_1p0:LO:=[⟨some 2,.build [.s (.int .u8 0),.s (.string ⟨#[]⟩),.s (.string ⟨#[]⟩),.s (.string ⟨#[]⟩),.s (.int .i64 0),.s (.string ⟨#[]⟩),.s (.slice none 0 0),.s (.slice none 0 0)] [(0,1),(1,1),(2,1),(3,1),(4,1),(5,1),(6,1),(7,1)] [(0,.c (.s (.int .u8 3))),(1,.c (.s (.string ⟨#[97]⟩)))],none⟩,⟨some 3,.build [.s (.int .u8 0),.s (.string ⟨#[]⟩),.s (.string ⟨#[]⟩),.s (.string ⟨#[]⟩),.s (.int .i64 0),.s (.string ⟨#[]⟩),.s (.slice none 0 0),.s (.slice none 0 0)] [(0,1),(1,1),(2,1),(3,1),(4,1),(5,1),(6,1),(7,1)] [(0,.c (.s (.int .u8 5))),(1,.c (.s (.string ⟨#[98]⟩))),(2,.c (.s (.string ⟨#[99]⟩)))],none⟩,⟨some 4,.build [.s (.int .u8 0),.s (.string ⟨#[]⟩),.s (.string ⟨#[]⟩),.s (.string ⟨#[]⟩),.s (.int .i64 0),.s (.string ⟨#[]⟩),.s (.slice none 0 0),.s (.slice none 0 0)] [(0,1),(1,1),(2,1),(3,1),(4,1),(5,1),(6,1),(7,1)] [(0,.c (.s (.int .u8 14)))],none⟩]
def R9_1:LO:=R9_1p0 ++ R9_1t1
def T9_1p0:=hT R9_1p0 [] [2,3,4] 5 [] [(2,.op (.build [.s (.int .u8 0),.s (.string ⟨#[]⟩),.s (.string ⟨#[]⟩),.s (.string ⟨#[]⟩),.s (.int .i64 0),.s (.string ⟨#[]⟩),.s (.slice none 0 0),.s (.slice none 0 0)] [(0,1),(1,1),(2,1),(3,1),(4,1),(5,1),(6,1),(7,1)] [(0,.c (.s (.int .u8 3))),(1,.c (.s (.string ⟨#[97]⟩)))]) [.c (.s (.int .u8 3)),.c (.s (.string ⟨#[97]⟩))]),(3,.op (.build [.s (.int .u8 0),.s (.string ⟨#[]⟩),.s (.string ⟨#[]⟩),.s (.string ⟨#[]⟩),.s (.int .i64 0),.s (.string ⟨#[]⟩),.s (.slice none 0 0),.s (.slice none 0 0)] [(0,1),(1,1),(2,1),(3,1),(4,1),(5,1),(6,1),(7,1)] [(0,.c (.s (.int .u8 5))),(1,.c (.s (.string ⟨#[98]⟩))),(2,.c (.s (.string ⟨#[99]⟩)))]) [.c (.s (.int .u8 5)),.c (.s (.string ⟨#[98]⟩)),.c (.s (.string ⟨#[99]⟩))]),(4,.op (.build [.s (.int .u8 0),.s (.string ⟨#[]⟩),.s (.string ⟨#[]⟩),.s (.string ⟨#[]⟩),.s (.int .i64 0),.s (.string ⟨#[]⟩),.s (.slice none 0 0),.s (.slice none 0 0)] [(0,1),(1,1),(2,1),(3,1),(4,1),(5,1),(6,1),(7,1)] [(0,.c (.s (.int .u8 14)))]) [.c (.s (.int .u8 14))])] [sb [],.sub 1 [] [],.sub 2 [] []]
def X9_1:=hS R9_1 R9_1p0 R9_1t1 [] [2,3,4] [2,3,4,5,6,7,8,9,10]
def X9_1t1:=hP R9_1t1 R9_1t2 [2,3,4] [2,3,4,5,6,7,8,9,10] ⟨some 5,.buildSl 8 3 [.s (.int .u8 0),.s (.string ⟨#[]⟩),.s (.string ⟨#[]⟩),.s (.string ⟨#[]⟩),.s (.int .i64 0),.s (.string ⟨#[]⟩),.s (.slice none 0 0),.s (.slice none 0 0),.s (.int .u8 0),.s (.string ⟨#[]⟩),.s (.string ⟨#[]⟩),.s (.string ⟨#[]⟩),.s (.int .i64 0),.s (.string ⟨#[]⟩),.s (.slice none 0 0),.s (.slice none 0 0),.s (.int .u8 0),.s (.string ⟨#[]⟩),.s (.string ⟨#[]⟩),.s (.string ⟨#[]⟩),.s (.int .i64 0),.s (.string ⟨#[]⟩),.s (.slice none 0 0),.s (.slice none 0 0)] [(0,.t 2),(1,.t 3),(2,.t 4)],none⟩
def T9_1p2:=hT R9_1p2 [5] [6] 7 [] [(6,.op (.build [.s (.string ⟨#[]⟩),.s (.slice none 0 0)] [(0,1),(1,1)] [(0,.c (.s (.string ⟨#[108]⟩))),(1,.t 1)]) [.c (.s (.string ⟨#[108]⟩)),.t 5])] [sb []]
def X9_1t2:=hS R9_1t2 R9_1p2 R9_1t3 [5] [6] [2,3,4,5,6,7,8,9,10]
def X9_1t3:=hP R9_1t3 R9_1t4 [6] [2,3,4,5,6,7,8,9,10] ⟨some 7,.buildSl 2 1 [.s (.string ⟨#[]⟩),.s (.slice none 0 0)] [(0,.t 6)],none⟩
def T9_1p4:=hT R9_1p4 [7] [8] 9 [] [(8,.op (.build [.s (.string ⟨#[]⟩),.s (.slice none 0 0),.s (.slice none 0 0)] [(0,1),(1,1),(2,1)] [(0,.c (.s (.string ⟨#[109,97,105,110]⟩))),(2,.t 1)]) [.c (.s (.string ⟨#[109,97,105,110]⟩)),.t 7])] [sb []]
def X9_1t4:=hS R9_1t4 R9_1p4 R9_1t5 [7] [8] [2,3,4,5,6,7,8,9,10]
def X9_1t5:=hP R9_1t5 R9_1t6 [8] [2,3,4,5,6,7,8,9,10] ⟨some 9,.buildSl 3 1 [.s (.string ⟨#[]⟩),.s (.slice none 0 0),.s (.slice none 0 0)] [(0,.t 8)],none⟩
def T9_1p6:=hT R9_1p6 [9] [10] 11 [] [(10,.op (.build [.s (.slice none 0 0)] [(0,1)] [(0,.t 0)]) [.t 9])] [sb []]
def X9_1t6:=hS R9_1t6 R9_1p6 R9_1t7 [9] [10] [2,3,4,5,6,7,8,9,10]
def X9_1t7:=hP R9_1t7 R9_1t8 [] [2,3,4,5,6,7,8,9,10] ⟨some 1,.alloc [.s (.slice none 0 0)],none⟩
def X9_1t8:=hX R9_1t8 [2,3,4,5,6,7,8,9,10] [⟨none,.store 1 (.t 1) (.t 10),none⟩]
def R9_2t6:LO:=[⟨some 21,.un .not (.t 20),some (19,true)⟩,⟨some 22,.pick (.t 19) (.t 21) (.c (.s (.bool false))),none⟩,oM 0 22]
def R9_2t5:LO:=⟨some 20,.call (.c (.fn 7 [] [])) [.c (.s (.string ⟨#[110,117,108,108]⟩))],some (19,true)⟩ :: R9_2t6
def R9_2p4:LO:=[⟨some 18,.pick (.t 16) (.t 17) (.c (.s (.bool false))),none⟩,oM 19 18]
def R9_2t4:LO:=R9_2p4 ++ R9_2t5
def R9_2t3:LO:=⟨some 17,.call (.c (.fn 7 [] [])) [.c (.s (.string ⟨#[97,46,49]⟩))],some (16,true)⟩ :: R9_2t4
def R9_2p2:LO:=[⟨some 13,.build [.s (.int .i64 0),.s (.int .i64 0),.s (.int .i64 0)] [(0,1),(1,1),(2,1)] [(2,.c (.s (.int .i64 1)))],none⟩,⟨some 14,.build [.s (.int .u8 0),.s (.int .i64 0),.s (.int .i64 0),.s (.int .i64 0)] [(0,1),(1,3)] [(0,.c (.s (.int .u8 16))),(1,.t 13)],none⟩,⟨some 15,.eqAgg false [.int .u8,.int .i64,.int .i64,.int .i64] (.t 12) (.t 14),none⟩,oM 16 15]
def R9_2t2:LO:=R9_2p2 ++ R9_2t3
def R9_2t1:LO:=⟨some 12,.call (.c (.fn 11 [] [])) [.t 11],none⟩ :: R9_2t2
def R9_2p0:LO:=[⟨some 11,.load true 1 (.t 1),none⟩]
def R9_2:LO:=R9_2p0 ++ R9_2t1
def T9_2p0:=hT R9_2p0 [1] [11] 12 [] [(11,.op (.load true 1 (.t 0)) [.t 1])] [sb []]
def X9_2:=hS R9_2 R9_2p0 R9_2t1 [1] [11] [1,11,12,13,14,15,16,17,18,19,20,21,22]
def X9_2t1:=hP R9_2t1 R9_2t2 [11] [1,11,12,13,14,15,16,17,18,19,20,21,22] ⟨some 12,.call (.c (.fn 11 [] [])) [.t 11],none⟩
def T9_2p2:=hT R9_2p2 [12,13,14,15] [16] 17 [] [(16,.op (.eqAgg false [.int .u8,.int .i64,.int .i64,.int .i64] (.t 0) (.t 1)) [.t 12,.op (.build [.s (.int .u8 0),.s (.int .i64 0),.s (.int .i64 0),.s (.int .i64 0)] [(0,1),(1,3)] [(0,.c (.s (.int .u8 16))),(1,.t 1)]) [.c (.s (.int .u8 16)),.op (.build [.s (.int .i64 0),.s (.int .i64 0),.s (.int .i64 0)] [(0,1),(1,1),(2,1)] [(2,.c (.s (.int .i64 1)))]) [.c (.s (.int .i64 1))]]])] [sb [1,1],sb [1],sb [],sb []]
def X9_2t2:=hS R9_2t2 R9_2p2 R9_2t3 [12,13,14,15] [16] [1,11,12,13,14,15,16,17,18,19,20,21,22]
def X9_2t3:=hP R9_2t3 R9_2t4 [] [1,11,12,13,14,15,16,17,18,19,20,21,22] ⟨some 17,.call (.c (.fn 7 [] [])) [.c (.s (.string ⟨#[97,46,49]⟩))],some (16,true)⟩
def T9_2p4:=hT R9_2p4 [16,17,18] [19] 20 [] [(19,.pick (.t 16) (.t 17) (.c (.s (.bool false))))] [sb [],sb []]
def X9_2t4:=hS R9_2t4 R9_2p4 R9_2t5 [16,17,18] [19] [1,11,12,13,14,15,16,17,18,19,20,21,22]
def X9_2t5:=hP R9_2t5 R9_2t6 [] [1,11,12,13,14,15,16,17,18,19,20,21,22] ⟨some 20,.call (.c (.fn 7 [] [])) [.c (.s (.string ⟨#[110,117,108,108]⟩))],some (19,true)⟩
def T9_2t6:=hT R9_2t6 [1,11,12,13,14,15,16,17,18,19,20,21,22] [0] 23 [] [(0,.pick (.t 19) (.op (.un .not (.t 0)) [.t 20]) (.c (.s (.bool false))))] [.sub 0 [1] [19],sb [],sb []]
def X9_2t6:=hL R9_2t6 [1,11,12,13,14,15,16,17,18,19,20,21,22] [0]
def s_f9:ACFun:={ ntmps:=23,results:=[.tmp 0],body:=
 (.seq (.regionE R9_0 K9_0 [])
 (.seq (.region R9_1 [] [2,3,4,5,6,7,8,9,10])
 (.seq (.region R9_2 [] [1,11,12,13,14,15,16,17,18,19,20,21,22])
 .ret))) }
def a_f9:=ai T9_0 (ai s_f9_r0_kT (ai T9_1p0 (ai X9_1 (ai X9_1t1 (ai T9_1p2 (ai X9_1t2 (ai X9_1t3 (ai T9_1p4 (ai X9_1t4 (ai X9_1t5 (ai T9_1p6 (ai X9_1t6 (ai X9_1t7 (ai X9_1t8 (ai T9_2p0 (ai X9_2 (ai X9_2t1 (ai T9_2p2 (ai X9_2t2 (ai X9_2t3 (ai T9_2p4 (ai X9_2t4 (ai X9_2t5 (ai T9_2t6 (X9_2t6)))))))))))))))))))))))))
theorem NA7_9:compK Try.prog PX0 9=some (false,s_f9.ntmps,s_f9.results,s_f9.body.bare):=by kernel_rfl
end Go.Proofs.YtamlbkalopefgaaR
set_option maxRecDepth 100000
namespace Go.Proofs.YtamlbkalopefgaaR
open Go.AM
def chA:ByteArray:=⟨#[97]⟩
def chB:ByteArray:=⟨#[98]⟩
def chC:ByteArray:=⟨#[99]⟩
def chI:List InsD:=[⟨3,chA,emptyBA,emptyBA,0,emptyBA,[],[]⟩,⟨5,chB,chC,emptyBA,0,emptyBA,[],[]⟩,⟨14,emptyBA,emptyBA,emptyBA,0,emptyBA,[],[]⟩]
def chF:List FunD:=[⟨mainB,[],[⟨⟨#[108]⟩,chI⟩]⟩]
theorem chF_first:firstN chF 16=some (0,0,1)∧∀ n,n < 16→firstN chF n=none:=by
 refine ⟨by rfl,fun n hn=>?_⟩
 have h:∀ n:Fin 16,firstN chF n=none:=by decide
 exact h ⟨n,hn⟩
theorem chF_small:Small chF:=by
 refine ⟨by decide,fun f hf=>?_,fun f hf=>?_,fun f hf b hb=>?_,fun f hf b hb x hx=>?_,fun f hf b hb x hx=>?_⟩ <;> (obtain rfl:=List.mem_singleton.1 hf)
 ·decide
 ·decide
 ·obtain rfl:=List.mem_singleton.1 hb;decide
 ·obtain rfl:=List.mem_singleton.1 hb
  have:∀ x∈chI,x.xs.length < 2 ^ 20:=by decide
  exact this x hx
 ·obtain rfl:=List.mem_singleton.1 hb
  have:∀ x∈chI,x.ls.length < 2 ^ 20:=by decide
  exact this x hx
def chC3:List V:=insC ⟨3,chA,emptyBA,emptyBA,0,emptyBA,[],[]⟩ nilS nilS ++ (insC ⟨5,chB,chC,emptyBA,0,emptyBA,[],[]⟩ nilS nilS ++ insC ⟨14,emptyBA,emptyBA,emptyBA,0,emptyBA,[],[]⟩ nilS nilS)
section
variable {CT:Nat→Option CFun}
theorem checks_fun (h:RulT CT) (hF:CT k_f12=some (.code s_f12)) (hC:CT k_f11=some (.code s_f11)) (hT:CT k_f9=some (.code s_f9)) (base:Nat) {A:Heap} (hb:base≤A.length):
 ∃ H',callW CT (.fn k_f9 [] []) [] base A=some (.s (.bool true),H')∧Ext A H':=by
 obtain ⟨A1,hA1⟩:∃ A1,A ++ [Ob.cells 0 chC3]=A1:=⟨_,rfl⟩
 have l1:A1.length=A.length+1:=by rw [← hA1,len_snoc]
 obtain ⟨A2,hA2⟩:∃ A2,A1 ++ [Ob.cells 0 [Sb ⟨#[108]⟩,.sl A.length 0 0 3 8]]=A2:=⟨_,rfl⟩
 have l2:A2.length=A.length+2:=by rw [← hA2,len_snoc,l1]
 obtain ⟨A3,hA3⟩:∃ A3,A2 ++ [Ob.cells 0 [Sb mainB,nilS,.sl (A.length+1) 0 0 1 2]]=A3:=⟨_,rfl⟩
 have l3:A3.length=A.length+3:=by rw [← hA3,len_snoc,l2]
 obtain ⟨A4,hA4⟩:∃ A4,A3 ++ [Ob.cells 0 [.sl (A.length+2) 0 0 1 3]]=A4:=⟨_,rfl⟩
 have e1:Ext A A1:=hA1 ▸ Ext.app _ _
 have e2:Ext A1 A2:=hA2 ▸ Ext.app _ _
 have e3:Ext A2 A3:=hA3 ▸ Ext.app _ _
 have e4:Ext A3 A4:=hA4 ▸ Ext.app _ _
 have g1:getC A4 A.length 0=some chC3:=getC_ext (hA1 ▸ getC_new A 0 _) (e2.trans (e3.trans e4))
 have g2:getC A4 (A.length+1) 0=some [Sb ⟨#[108]⟩,.sl A.length 0 0 3 8]:=getC_ext (by rw [← l1,← hA2];exact getC_new A1 0 _) (e3.trans e4)
 have g3:getC A4 (A.length+2) 0=some [Sb mainB,nilS,.sl (A.length+1) 0 0 1 2]:=getC_ext (by rw [← l2,← hA3];exact getC_new A2 0 _) e4
 have g4:getC A4 (A.length+3) 0=some [.sl (A.length+2) 0 0 1 3]:=by rw [← l3,← hA4];exact getC_new A3 0 _
 have hI:RdL 8 RdIns A4 (.sl A.length 0 0 3 8) chI:=by
  refine ⟨chI.map fun x=>insC x nilS nilS,RdW.sl (R:=chI.map fun x=>insC x nilS nilS) (by rw [g1];rfl) (fun r hr=>by obtain ⟨x,_,rfl⟩:=List.mem_map.1 hr;rfl),rfl,by decide,fun i x hx=>⟨insC x nilS nilS,by rw [List.getElem?_map,hx];rfl,nilS,nilS,rfl,?_,trivial,?_,trivial,?_⟩⟩
  ·have:∀ x∈chI,x.xs=[]:=by decide
   rw [this x (List.mem_of_getElem? hx)]
   exact Rd.nil A4
  ·have:∀ x∈chI,x.ls=[]:=by decide
   rw [this x (List.mem_of_getElem? hx)]
   exact Rd.nil A4
  ·have:∀ x∈chI,x.xs.length < 2 ^ 63∧x.ls.length < 2 ^ 63:=by decide
   exact this x (List.mem_of_getElem? hx)
 have hB:RdL 2 RdBlk A4 (.sl (A.length+1) 0 0 1 2) [⟨⟨#[108]⟩,chI⟩]:=
  ⟨[[Sb ⟨#[108]⟩,.sl A.length 0 0 3 8]],RdW.sl (R:=[[Sb ⟨#[108]⟩,.sl A.length 0 0 3 8]]) (by rw [g2];rfl) (fun r hr=>by rw [List.mem_singleton.1 hr];rfl),rfl,by decide,fun i x hx=>by
   cases i with
   | zero=>cases hx;exact ⟨_,rfl,_,rfl,hI⟩
   | succ i=>simp at hx⟩
 have hP:RdProg A4 (.sl (A.length+2) 0 0 1 3) chF:=
  ⟨[[Sb mainB,nilS,.sl (A.length+1) 0 0 1 2]],RdW.sl (R:=[[Sb mainB,nilS,.sl (A.length+1) 0 0 1 2]]) (by rw [g3];rfl) (fun r hr=>by rw [List.mem_singleton.1 hr];rfl),rfl,by decide,fun i x hx=>by
   cases i with
   | zero=>cases hx;exact ⟨_,rfl,_,_,rfl,Rd.nil A4,trivial,by decide,hB⟩
   | succ i=>exact absurd hx (by simp [chF])⟩
 obtain ⟨r,t,H1,c1,d1,w1⟩:=check_fun h hF hC base (A:=A4) (by have:=(e1.trans (e2.trans (e3.trans e4))).le;omega) hP chF_small
 have hrt:r=16∧t=(0,0,1):=by
  rcases w1 with ⟨_,_,a⟩ | ⟨a1,a2,a3,a4⟩
  ·have:=chF_first.1
   rw [a 16] at this
   cases this
  ·have h16:¬ r < 16:=fun hlt=>by rw [chF_first.2 r hlt] at a3;cases a3
   obtain rfl:r=16:=by omega
   rw [chF_first.1] at a3
   exact ⟨rfl,(Option.some.inj a3).symm⟩
 obtain ⟨rfl,rfl⟩:=hrt
 have i1:=is_fun CT h.B.is' ⟨#[97,46,49]⟩ base H1
 have i2:=is_fun CT h.B.is' ⟨#[110,117,108,108]⟩ base H1
 rw [show isName ⟨#[97,46,49]⟩=true from by decide] at i1
 rw [show isName ⟨#[110,117,108,108]⟩=false from by decide] at i2
 have hl4:getC (A3 ++ [Ob.cells 0 [nilS]]) (A.length+3) 0=some [nilS]:=by rw [← l3];exact getC_new A3 0 _
 have hs4:∀ d,(A3 ++ [Ob.cells 0 [nilS]]).set (A.length+3) d=A3 ++ [d]:=fun d=>by rw [← l3];exact set_snoc A3 _ d
 have hb3:base≤A.length+3:=by omega
 have ld:xLoad A4 true 1 (.ref (A.length+3) 0 0)=some (.agg [.sl (A.length+2) 0 0 1 3]):=by rw [xo_ref,g4];rfl
 have hq:eqLeaves [Leaf.int .u8,Leaf.int .i64,Leaf.int .i64,Leaf.int .i64] [V.s (.int .u8 16),V.s (.int .i64 0),V.s (.int .i64 0),V.s (.int .i64 1)] [V.s (.int .u8 16),V.s (.int .i64 0),V.s (.int .i64 0),V.s (.int .i64 1)]=some true:=by decide
 refine ⟨H1,callW_fn (c:=s_f9) hT (by simp [s_f9]) ?_,(e1.trans (e2.trans (e3.trans e4))).trans d1⟩
 have z16:((16:Nat):Int)=16:=rfl
 have z0:((0:Nat):Int)=0:=rfl
 have z1:((1:Nat):Int)=1:=rfl
 simp only [wrV,bl,Iz,z16,z0,z1] at c1 i1 i2
 simp only [chC3,insC,Sb,Iz,nilS,chA,chB,chC,emptyBA,mainB,List.cons_append,List.nil_append] at hA1 hA2 hA3 hA4 hl4 hs4
 simp only [Iz,Sb,bl,nilS,s_f9,a_f9,aa,reduceIte,reduceCtorEq,Nat.reduceEqDiff,Nat.reduceLT,Nat.reduceLeDiff,Nat.reduceBEq,Nat.reduceAdd,Nat.reduceMul,hA1,l1,hA2,l2,hA3,l3,hl4,hs4,hb3,hA4,ld,c1,hq,i1,i2]
end
end Go.Proofs.YtamlbkalopefgaaR
set_option maxRecDepth 100000
namespace Go.Proofs.YtamlbkalopefgaaR
open Go.AM
theorem it_scan {S T:Type} (n:Nat) (P:Nat→S→Prop) (Q:Nat→Prop) (X:Nat→S→T) (R:T→Prop) (step:∀ i s,i < n→P i s→(Q i∧∃ s',X i s=X (i+1) s'∧P (i+1) s')∨R (X i s)):∀ s,P 0 s→((∀ i,i < n→Q i)∧∃ s',X 0 s=X n s'∧P n s')∨R (X 0 s):=by
 have key:∀ d i s,i+d=n→P i s→(∀ j,j < i→Q j)→((∀ j,j < n→Q j)∧∃ s',X i s=X n s'∧P n s')∨R (X i s):=by
  intro d
  induction d with
  | zero=>
    intro i s hi hp hq
    obtain rfl:i=n:=by omega
    exact .inl ⟨hq,s,rfl,hp⟩
  | succ d ih=>
    intro i s hi hp hq
    rcases step i s (by omega) hp with ⟨h1,s1,h2,h3⟩ | h
    ·rw [h2]
     exact ih (i+1) s1 (by omega) h3 fun j hj=>by
      by_cases e:j=i
      ·rw [e];exact h1
      ·exact hq j (by omega)
    ·exact .inr h
 exact fun s hp=>key n 0 s (by omega) hp fun j hj=>absurd hj (Nat.not_lt_zero _)
def bigS (s:ByteArray):Bool:=decide ((s.size:Int) > 200)
def InsL (x:InsD):Prop:=x.d.size≤200∧x.a.size≤200∧x.b.size≤200∧x.f.size≤200∧x.xs.length≤20∧x.ls.length≤20∧(∀ s∈x.xs,s.size≤200)∧∀ s∈x.ls,s.size≤200
def BlkL (b:BlkD):Prop:=b.label.size≤200∧b.code.length≤200∧∀ x∈b.code,InsL x
def FunL (f:FunD):Prop:=f.name.size≤200∧f.ps.length≤20∧(∀ s∈f.ps,s.size≤200)∧f.blocks.length≤70∧∀ b∈f.blocks,BlkL b
structure Light (fs:List FunD):Prop where
 n:fs.length≤70
 f:∀ f∈fs,FunL f
 c:cF fs≤200
theorem Light.small {fs:List FunD} (h:Light fs):Small fs:=by
 refine ⟨by have:=h.n;omega,fun f hf=>?_,fun f hf=>?_,fun f hf b hb=>?_,fun f hf b hb x hx=>?_,fun f hf b hb x hx=>?_⟩
 ·have:=(h.f f hf).2.1;omega
 ·have:=(h.f f hf).2.2.2.1;omega
 ·have:=((h.f f hf).2.2.2.2 b hb).2.1;omega
 ·have:=(((h.f f hf).2.2.2.2 b hb).2.2 x hx).2.2.2.2.1;omega
 ·have:=(((h.f f hf).2.2.2.2 b hb).2.2 x hx).2.2.2.2.2.1;omega
theorem all_getD {α:Type} {l:List α} {d:α} {P:α→Prop} (h:∀ i,i < l.length→P (l.getD i d)):∀ x∈l,P x:=by
 intro x hx
 obtain ⟨i,hi⟩:=List.mem_iff_getElem?.1 hx
 have:=h i (List.getElem?_eq_some_iff.1 hi).1
 rwa [getD_some hi] at this
theorem bigS_no {l:List ByteArray} (h:l.any bigS=false):∀ s∈l,s.size≤200:=by
 intro s hs
 have:=List.any_eq_false.1 h s hs
 unfold bigS at this
 rw [decide_eq_true_iff] at this
 omega
section
variable {CT:Nat→Option CFun}
theorem long_fun (hT:CT k_f20=some (.code s_f20)) (base:Nat) (A:Heap) {v:V} {l:List ByteArray} (hv:Rd A v (l.map Sb)) (hw:Wide1 v) (hl:l.length < 2 ^ 63):
 callW CT (.fn k_f20 [] []) [v] base A=some (bl (l.any bigS),A):=by
 have hlen:=Sb_len hv
 have step:∀ i,i < l.length→bigS (l.getD i ⟨#[]⟩)=false→itW (evC (callW CT) itW base s_f20_l0) [] A.length (frOf 16 [(0,v),(3,Iz i)]) A=itW (evC (callW CT) itW base s_f20_l0) [] A.length (frOf 16 [(0,v),(3,Iz (i+1:Nat))]) A:=by
  intro i hi hp
  have hlt':((i:Int) < (l.length:Int)):=by omega
  have hwk:IntKind.i64.wrap ((i:Int)+1)=((i+1:Nat):Int):=by rw [IntKind.wrap_i64];omega
  obtain ⟨a,a1,a2⟩:=Sb_at hv hw hi
  unfold bigS at hp
  rw [itW_step]
  simp only [Iz,Sb,a_f20,s_f20_l0_b,aa,reduceIte,reduceCtorEq,Nat.reduceEqDiff,Nat.reduceLT,Nat.reduceLeDiff,Nat.reduceBEq,Nat.reduceAdd,Nat.reduceMul,hlen,hlt',a1,a2,hp,hwk,trim_same rfl]
 refine callW_fn (c:=s_f20) hT (by simp [s_f20]) ?_
 rcases it_find l.length (fun i=>bigS (l.getD i ⟨#[]⟩)) (fun i=>itW (evC (callW CT) itW base s_f20_l0) [] A.length (frOf 16 [(0,v),(3,Iz i)]) A) step with ⟨h1,h2⟩ | ⟨i,hi,h1,h2,h3⟩
 ·have hall:l.any bigS=false:=by
   rw [List.any_eq_false]
   intro x hx
   have:=all_getD (P:=fun s=>bigS s=false) h1 x hx
   rw [this];decide
  rw [hall]
  have hend:itW (evC (callW CT) itW base s_f20_l0) [] A.length (frOf 16 [(0,v),(3,Iz l.length)]) A=some (.ext 0,frOf 16 [(0,v),(3,Iz l.length),(7,bl false)],A):=by
   rw [itW_step]
   simp only [Iz,Sb,bl,a_f20,s_f20_l0_b,aa,reduceIte,reduceCtorEq,Nat.reduceEqDiff,Nat.reduceLT,Nat.reduceLeDiff,Nat.reduceBEq,Nat.reduceAdd,Nat.reduceMul,hlen,Int.lt_irrefl,trim_same rfl]
  have h4:=h2.trans hend
  simp only [Iz,Sb,bl,cast0] at h4
  simp only [Iz,Sb,s_f20,a_f20,s_f20_l0_b,aa,reduceIte,reduceCtorEq,Nat.reduceEqDiff,Nat.reduceLT,Nat.reduceLeDiff,Nat.reduceBEq,Nat.reduceAdd,Nat.reduceMul,h4]
 ·have hany:l.any bigS=true:=List.any_eq_true.2 ⟨_,List.mem_of_getElem? (some_getD hi ⟨#[]⟩),h1⟩
  rw [hany]
  have hlt':((i:Int) < (l.length:Int)):=by omega
  obtain ⟨a,a1,a2⟩:=Sb_at hv hw hi
  have hend:itW (evC (callW CT) itW base s_f20_l0) [] A.length (frOf 16 [(0,v),(3,Iz i)]) A=some (.ret,frOf 16 [(2,bl true)],A):=by
   unfold bigS at h1
   rw [itW_step]
   simp only [Iz,Sb,bl,a_f20,s_f20_l0_b,aa,reduceIte,reduceCtorEq,Nat.reduceEqDiff,Nat.reduceLT,Nat.reduceLeDiff,Nat.reduceBEq,Nat.reduceAdd,Nat.reduceMul,hlen,hlt',a1,a2,h1,trim_same rfl]
  have h4:=h3.trans hend
  simp only [Iz,Sb,bl,cast0] at h4
  simp only [Iz,Sb,s_f20,a_f20,s_f20_l0_b,aa,reduceIte,reduceCtorEq,Nat.reduceEqDiff,Nat.reduceLT,Nat.reduceLeDiff,Nat.reduceBEq,Nat.reduceAdd,Nat.reduceMul,h4]
def Hv (A:Heap) (r:Option (Ex × List V × Heap)):Prop:=∃ D,r=some (.ret,frOf 133 [(2,bl true)],D)∧Ext A D
theorem hv_l0 (hL:CT k_f20=some (.code s_f20)) (base:Nat) {A A1:Heap} (h1:Ext A A1) (hb:base≤A1.length) {p q i b:Nat} {n3:Int} {cv:V} {l:List InsD} (hv:RdL 8 RdIns A cv l) (hn:l.length < 2 ^ 62) {L:Nat} (hL1:A1.length≤L):
 ∀ C,Ext A1 C→((∀ x∈l,InsL x)∧∃ C',itW (evC (callW CT) itW base s_f10_l0) [] L (frOf 133 [(1,.ref p 0 0),(3,Iz n3),(4,Iz i),(5,.ref q 0 0),(6,Iz b),(7,cv),(8,Iz 0)]) C=some (.ext 4,frOf 133 [(1,.ref p 0 0),(3,Iz n3),(4,Iz i),(5,.ref q 0 0),(6,Iz b),(7,cv),(8,Iz l.length),(82,bl false)],C')∧Ext A1 C')∨Hv A1 (itW (evC (callW CT) itW base s_f10_l0) [] L (frOf 133 [(1,.ref p 0 0),(3,Iz n3),(4,Iz i),(5,.ref q 0 0),(6,Iz b),(7,cv),(8,Iz 0)]) C):=by
 intro C0 hC0
 rcases it_scan l.length (fun _ C=>Ext A1 C) (fun k=>InsL (l.getD k ins0)) (fun k C=>itW (evC (callW CT) itW base s_f10_l0) [] L (frOf 133 [(1,.ref p 0 0),(3,Iz n3),(4,Iz i),(5,.ref q 0 0),(6,Iz b),(7,cv),(8,Iz k)]) C) (Hv A1) (by
  intro k C hk hE
  have hlt':((k:Int) < (l.length:Int)):=by omega
  have hwk:=w64 (n:=k) (by omega)
  have hkx:=some_getD hk ins0
  obtain ⟨x,hxe⟩:∃ x,l.getD k ins0=x:=⟨_,rfl⟩
  rw [hxe] at hkx ⊢
  obtain ⟨a,r,a1,hr,a2,_⟩:=hv.at2 hkx
  have hEA:=h1.trans hE
  have ld:=a2 C hEA
  have hbC:base≤C.length:=by have:=hE.le;omega
  have hcl:=(rdI_ext hv hEA).len
  obtain ⟨av,lv,rfl,q1,q2,q3,q4,q5,q6⟩:=hr
  have hav:=q1.one
  have hlv:=q3.one
  obtain ⟨D,hD⟩:∃ D,C ++ [Ob.cells 0 (insC x av lv)]=D:=⟨_,rfl⟩
  have eD:Ext C D:=hD ▸ Ext.app _ _
  have hgg:getC D C.length 0=some (insC x av lv):=hD ▸ getC_new C 0 _
  have hgg':∀ c,getC (C ++ [Ob.cells 0 c]) C.length 0=some c:=fun c=>getC_new C 0 c
  have hss:∀ c d,(C ++ [c]).set C.length d=C ++ [d]:=fun c d=>set_snoc C c d
  have hxl:=Sb_len (q1.ext (hEA.trans eD))
  have hll:=Sb_len (q3.ext (hEA.trans eD))
  have hca:=long_fun hL base D (q1.ext (hEA.trans eD)) q2 q5
  have hcb:=long_fun hL base D (q3.ext (hEA.trans eD)) q4 q6
  have eE:Ext A1 D:=hE.trans eD
  simp only [insC,Iz,bl] at ld hD hgg hca hcb
  cases g1:(((((decide ((x.d.size:Int) > 200) || decide ((x.a.size:Int) > 200)) || decide ((x.b.size:Int) > 200)) || decide ((x.f.size:Int) > 200)) || decide ((x.xs.length:Int) > 20)) || decide ((x.ls.length:Int) > 20)) with
  | true=>
    refine .inr ⟨trim L (frOf 133 [(2,bl true)]) D,?_,eE.trim hL1 _⟩
    rw [itW_step]
    simp only [insC,Iz,bl,a_f10,s_f10_l0_b,s_f10_l1_b,s_f10_l2_b,aa,reduceIte,reduceCtorEq,Nat.reduceEqDiff,Nat.reduceLT,Nat.reduceLeDiff,Nat.reduceBEq,Nat.reduceAdd,Nat.reduceMul,hcl,hlt',a1,ld,hbC,hD,hgg,hgg',hss,hav,hlv,Bool.and_self,hxl,hll,g1]
  | false=>
    cases g2:x.xs.any bigS with
    | true=>
      rw [g2] at hca
      refine .inr ⟨trim L (frOf 133 [(2,bl true)]) D,?_,eE.trim hL1 _⟩
      rw [itW_step]
      simp only [insC,Iz,bl,a_f10,s_f10_l0_b,s_f10_l1_b,s_f10_l2_b,aa,reduceIte,reduceCtorEq,Nat.reduceEqDiff,Nat.reduceLT,Nat.reduceLeDiff,Nat.reduceBEq,Nat.reduceAdd,Nat.reduceMul,hcl,hlt',a1,ld,hbC,hD,hgg,hgg',hss,hav,hlv,Bool.and_self,hxl,hll,g1,hca]
    | false=>
      rw [g2] at hca
      cases g3:x.ls.any bigS with
      | true=>
        rw [g3] at hcb
        refine .inr ⟨trim L (frOf 133 [(2,bl true)]) D,?_,eE.trim hL1 _⟩
        rw [itW_step]
        simp only [insC,Iz,bl,a_f10,s_f10_l0_b,s_f10_l1_b,s_f10_l2_b,aa,reduceIte,reduceCtorEq,Nat.reduceEqDiff,Nat.reduceLT,Nat.reduceLeDiff,Nat.reduceBEq,Nat.reduceAdd,Nat.reduceMul,hcl,hlt',a1,ld,hbC,hD,hgg,hgg',hss,hav,hlv,Bool.and_self,hxl,hll,g1,hca,hcb]
      | false=>
        rw [g3] at hcb
        refine .inl ⟨?_,trim L (frOf 133 [(1,.ref p 0 0),(3,Iz n3),(4,Iz i),(5,.ref q 0 0),(6,Iz b),(7,cv),(8,Iz (k+1:Nat))]) D,?_,eE.trim hL1 _⟩
        ·simp only [Bool.or_eq_false_iff,decide_eq_false_iff_not] at g1
         obtain ⟨⟨⟨⟨⟨w1,w2⟩,w3⟩,w4⟩,w5⟩,w6⟩:=g1
         exact ⟨by omega,by omega,by omega,by omega,by omega,by omega,bigS_no g2,bigS_no g3⟩
        ·rw [itW_step]
         simp only [insC,Iz,bl,a_f10,s_f10_l0_b,s_f10_l1_b,s_f10_l2_b,aa,reduceIte,reduceCtorEq,Nat.reduceEqDiff,Nat.reduceLT,Nat.reduceLeDiff,Nat.reduceBEq,Nat.reduceAdd,Nat.reduceMul,hcl,hlt',a1,ld,hbC,hD,hgg,hgg',hss,hav,hlv,Bool.and_self,hxl,hll,g1,hca,hcb,hwk]) C0 hC0 with ⟨e1,C,e2,e3⟩ | e
 ·refine .inl ⟨all_getD e1,trim L (frOf 133 [(1,.ref p 0 0),(3,Iz n3),(4,Iz i),(5,.ref q 0 0),(6,Iz b),(7,cv),(8,Iz l.length),(82,bl false)]) C,?_,e3.trim hL1 _⟩
  rw [cast0] at e2
  refine e2.trans ?_
  have hcl:=(rdI_ext hv (h1.trans e3)).len
  rw [itW_step]
  simp only [Iz,bl,a_f10,s_f10_l0_b,s_f10_l1_b,s_f10_l2_b,aa,reduceIte,reduceCtorEq,Nat.reduceEqDiff,Nat.reduceLT,Nat.reduceLeDiff,Nat.reduceBEq,Nat.reduceAdd,Nat.reduceMul,hcl,Int.lt_irrefl]
 ·rw [cast0] at e
  exact .inr e
theorem hv_l1 (hL:CT k_f20=some (.code s_f20)) (base:Nat) {A A1:Heap} (h1:Ext A A1) (hb:base≤A1.length) {p q i:Nat} {nm:ByteArray} {pv bv:V} (hq:getC A1 q 0=some [Sb nm,pv,bv]) {l:List BlkD} (hv:RdL 2 RdBlk A bv l) (hn:l.length < 2 ^ 20) {L:Nat} (hL1:A1.length≤L) {n0:Nat} (hn0:n0≤200):
 ∀ C,Ext A1 C→(((∀ x∈l,BlkL x)∧n0+cI l≤200)∧∃ C',itW (evC (callW CT) itW base s_f10_l1) [] L (frOf 133 [(1,.ref p 0 0),(3,Iz n0),(4,Iz i),(5,.ref q 0 0),(6,Iz 0)]) C=some (.ext 2,frOf 133 [(1,.ref p 0 0),(3,Iz (n0+cI l:Nat)),(4,Iz i),(5,.ref q 0 0),(6,Iz l.length),(51,bl false)],C')∧Ext A1 C')∨Hv A1 (itW (evC (callW CT) itW base s_f10_l1) [] L (frOf 133 [(1,.ref p 0 0),(3,Iz n0),(4,Iz i),(5,.ref q 0 0),(6,Iz 0)]) C):=by
 intro C0 hC0
 rcases it_scan l.length (fun k (s:Heap)=>Ext A1 s∧n0+cI (l.take k)≤200) (fun k=>BlkL (l.getD k blk0)) (fun k (s:Heap)=>itW (evC (callW CT) itW base s_f10_l1) [] L (frOf 133 [(1,.ref p 0 0),(3,Iz (n0+cI (l.take k):Nat)),(4,Iz i),(5,.ref q 0 0),(6,Iz k)]) s) (Hv A1) (by
  intro k C hk ⟨hE,hsum⟩
  have hlt':((k:Int) < (l.length:Int)):=by omega
  have hwk:=w64 (n:=k) (by omega)
  have hkx:=some_getD hk blk0
  obtain ⟨x,hxe⟩:∃ x,l.getD k blk0=x:=⟨_,rfl⟩
  rw [hxe] at hkx ⊢
  have hct:=cI_take hkx
  obtain ⟨m,hm⟩:∃ m,n0+cI (l.take k)=m:=⟨_,rfl⟩
  have hm2:n0+cI (l.take (k+1))=m+x.code.length:=by omega
  rw [hm] at hsum
  rw [hm,hm2]
  obtain ⟨a,r,a1,hr,_,a3⟩:=hv.at2 hkx
  have hEA:=h1.trans hE
  have hbC:base≤C.length:=by have:=hE.le;omega
  have hgq:=getC_ext hq hE
  have hbl:=(rdB_ext hv hEA).len
  obtain ⟨cv,rfl,hcv⟩:=hr
  obtain ⟨b0,b1,b2⟩:=a3 0 _ rfl
  obtain ⟨c0,c1,c2⟩:=a3 1 _ rfl
  have b2':=b2 C hEA
  have c2':=c2 C hEA
  have hcl:=(rdI_ext hcv hEA).len
  have hw2:IntKind.i64.wrap (200 - (m:Int))=200 - (m:Int):=by rw [IntKind.wrap_i64];omega
  simp only [Iz,Sb] at hgq b2'
  cases g1:(decide ((x.code.length:Int) > 200 - (m:Int)) || decide ((x.label.size:Int) > 200)) with
  | true=>
    refine .inr ⟨trim L (frOf 133 [(2,bl true)]) C,?_,hE.trim hL1 _⟩
    rw [itW_step]
    simp only [Iz,bl,a_f10,s_f10_l0_b,s_f10_l1_b,s_f10_l2_b,aa,reduceIte,reduceCtorEq,Nat.reduceEqDiff,Nat.reduceLT,Nat.reduceLeDiff,Nat.reduceBEq,Nat.reduceAdd,Nat.reduceMul,hgq,hbl,hlt',a1,b1,b2',c1,c2',hcl,hw2,g1]
  | false=>
    simp only [Bool.or_eq_false_iff,decide_eq_false_iff_not] at g1
    have g1':(decide ((x.code.length:Int) > 200 - (m:Int)) || decide ((x.label.size:Int) > 200))=false:=by simp only [Bool.or_eq_false_iff,decide_eq_false_iff_not];exact g1
    have hw3:IntKind.i64.wrap ((m:Int)+(x.code.length:Int))=((m+x.code.length:Nat):Int):=by rw [IntKind.wrap_i64];omega
    rcases hv_l0 hL base hEA hbC (p:=p) (q:=q) (i:=i) (b:=k) (n3:=(m+x.code.length:Nat)) hcv (by omega) (Nat.le_refl C.length) C (Ext.refl C) with ⟨z1,D,z2,z3⟩ | ⟨D,z2,z3⟩
    ·refine .inl ⟨⟨by omega,by omega,z1⟩,trim L (frOf 133 [(1,.ref p 0 0),(3,Iz (m+x.code.length:Nat)),(4,Iz i),(5,.ref q 0 0),(6,Iz (k+1:Nat))]) D,?_,(hE.trans z3).trim hL1 _,by omega⟩
     rw [itW_step]
     simp only [Iz,bl] at z2
     simp only [Iz,bl,a_f10,s_f10_l0_b,s_f10_l1_b,s_f10_l2_b,aa,reduceIte,reduceCtorEq,Nat.reduceEqDiff,Nat.reduceLT,Nat.reduceLeDiff,Nat.reduceBEq,Nat.reduceAdd,Nat.reduceMul,hgq,hbl,hlt',a1,b1,b2',c1,c2',hcl,hw2,hw3,g1',z2,hwk]
    ·refine .inr ⟨trim L (frOf 133 [(2,bl true)]) D,?_,(hE.trans z3).trim hL1 _⟩
     rw [itW_step]
     simp only [Iz,bl] at z2
     simp only [Iz,bl,a_f10,s_f10_l0_b,s_f10_l1_b,s_f10_l2_b,aa,reduceIte,reduceCtorEq,Nat.reduceEqDiff,Nat.reduceLT,Nat.reduceLeDiff,Nat.reduceBEq,Nat.reduceAdd,Nat.reduceMul,hgq,hbl,hlt',a1,b1,b2',c1,c2',hcl,hw2,hw3,g1',z2]) C0 ⟨hC0,by rw [List.take_zero];exact hn0⟩ with ⟨e1,C,e2,e3,e4⟩ | e
 ·rw [List.take_length] at e2 e4
  refine .inl ⟨⟨all_getD e1,e4⟩,trim L (frOf 133 [(1,.ref p 0 0),(3,Iz (n0+cI l:Nat)),(4,Iz i),(5,.ref q 0 0),(6,Iz l.length),(51,bl false)]) C,?_,e3.trim hL1 _⟩
  rw [cast0,List.take_zero,show n0+cI []=n0 from rfl] at e2
  refine e2.trans ?_
  have hcl:=(rdB_ext hv (h1.trans e3)).len
  have hgq:=getC_ext hq e3
  rw [itW_step]
  simp only [Iz,bl,Sb] at hgq
  simp only [Iz,bl,a_f10,s_f10_l0_b,s_f10_l1_b,s_f10_l2_b,aa,reduceIte,reduceCtorEq,Nat.reduceEqDiff,Nat.reduceLT,Nat.reduceLeDiff,Nat.reduceBEq,Nat.reduceAdd,Nat.reduceMul,hgq,hcl,Int.lt_irrefl]
 ·rw [cast0,List.take_zero,show n0+cI []=n0 from rfl] at e
  exact .inr e
theorem hv_l2 (hL:CT k_f20=some (.code s_f20)) (base:Nat) {A A1:Heap} (h1:Ext A A1) (hb:base≤A1.length) {p:Nat} {fv:V} (hp:getC A1 p 0=some [fv]) {l:List FunD} (hv:RdL 3 RdFun A fv l) (hn:l.length≤70) {L:Nat} (hL1:A1.length≤L):
 ∀ C,Ext A1 C→(((∀ x∈l,FunL x)∧cF l≤200)∧∃ C',itW (evC (callW CT) itW base s_f10_l2) [] L (frOf 133 [(1,.ref p 0 0),(3,Iz 0),(4,Iz 0)]) C=some (.ext 0,frOf 133 [(1,.ref p 0 0),(3,Iz (cF l:Nat)),(4,Iz l.length),(18,bl false)],C')∧Ext A1 C')∨Hv A1 (itW (evC (callW CT) itW base s_f10_l2) [] L (frOf 133 [(1,.ref p 0 0),(3,Iz 0),(4,Iz 0)]) C):=by
 intro C0 hC0
 rcases it_scan l.length (fun k (s:Heap)=>Ext A1 s∧cF (l.take k)≤200) (fun k=>FunL (l.getD k fun0)) (fun k (s:Heap)=>itW (evC (callW CT) itW base s_f10_l2) [] L (frOf 133 [(1,.ref p 0 0),(3,Iz (cF (l.take k):Nat)),(4,Iz k)]) s) (Hv A1) (by
  intro k C hk ⟨hE,hsum⟩
  have hlt':((k:Int) < (l.length:Int)):=by omega
  have hwk:=w64 (n:=k) (by omega)
  have hkx:=some_getD hk fun0
  obtain ⟨x,hxe⟩:∃ x,l.getD k fun0=x:=⟨_,rfl⟩
  rw [hxe] at hkx ⊢
  have hct:=cF_take hkx
  obtain ⟨m,hm⟩:∃ m,cF (l.take k)=m:=⟨_,rfl⟩
  have hm2:cF (l.take (k+1))=m+cI x.blocks:=by omega
  rw [hm] at hsum
  rw [hm,hm2]
  obtain ⟨a,r,a1,hr,a2,_⟩:=hv.at2 hkx
  have hEA:=h1.trans hE
  have ld:=a2 C hEA
  have hbC:base≤C.length:=by have:=hE.le;omega
  have hgp:=getC_ext hp hE
  have hfl:=(RdProg.ext hv hEA).len
  obtain ⟨pv,bv,rfl,q1,q2,q3,hbv⟩:=hr
  have hpo:=q1.one
  have hbo:=hbv.one
  obtain ⟨D,hD⟩:∃ D,C ++ [Ob.cells 0 [Sb x.name,pv,bv]]=D:=⟨_,rfl⟩
  have eD:Ext C D:=hD ▸ Ext.app _ _
  have hlD:D.length=C.length+1:=by rw [← hD,len_snoc]
  have hgg:getC D C.length 0=some [Sb x.name,pv,bv]:=hD ▸ getC_new C 0 _
  have hgg':∀ c,getC (C ++ [Ob.cells 0 c]) C.length 0=some c:=fun c=>getC_new C 0 c
  have hss:∀ c d,(C ++ [c]).set C.length d=C ++ [d]:=fun c d=>set_snoc C c d
  have hpl:=Sb_len (q1.ext (hEA.trans eD))
  have hbl:=(rdB_ext hbv (hEA.trans eD)).len
  have hca:=long_fun hL base D (q1.ext (hEA.trans eD)) q2 q3
  have eE:Ext A1 D:=hE.trans eD
  simp only [Iz,bl,Sb] at ld hD hgg hca hgp
  cases g1:((decide ((x.name.size:Int) > 200) || decide ((x.ps.length:Int) > 20)) || decide ((x.blocks.length:Int) > 70)) with
  | true=>
    refine .inr ⟨trim L (frOf 133 [(2,bl true)]) D,?_,eE.trim hL1 _⟩
    rw [itW_step]
    simp only [Iz,bl,a_f10,s_f10_l0_b,s_f10_l1_b,s_f10_l2_b,aa,reduceIte,reduceCtorEq,Nat.reduceEqDiff,Nat.reduceLT,Nat.reduceLeDiff,Nat.reduceBEq,Nat.reduceAdd,Nat.reduceMul,hgp,hfl,hlt',a1,ld,hbC,hD,hgg,hgg',hss,hpo,hbo,Bool.and_self,hpl,hbl,g1]
  | false=>
    simp only [Bool.or_eq_false_iff,decide_eq_false_iff_not] at g1
    have g1':((decide ((x.name.size:Int) > 200) || decide ((x.ps.length:Int) > 20)) || decide ((x.blocks.length:Int) > 70))=false:=by simp only [Bool.or_eq_false_iff,decide_eq_false_iff_not];exact g1
    cases g2:x.ps.any bigS with
    | true=>
      rw [g2] at hca
      refine .inr ⟨trim L (frOf 133 [(2,bl true)]) D,?_,eE.trim hL1 _⟩
      rw [itW_step]
      simp only [Iz,bl,a_f10,s_f10_l0_b,s_f10_l1_b,s_f10_l2_b,aa,reduceIte,reduceCtorEq,Nat.reduceEqDiff,Nat.reduceLT,Nat.reduceLeDiff,Nat.reduceBEq,Nat.reduceAdd,Nat.reduceMul,hgp,hfl,hlt',a1,ld,hbC,hD,hgg,hgg',hss,hpo,hbo,Bool.and_self,hpl,hbl,g1',hca]
    | false=>
      rw [g2] at hca
      rcases hv_l1 hL base (hEA.trans eD) (by omega) (p:=p) (q:=C.length) (i:=k) (hD ▸ getC_new C 0 _) hbv (by omega) (Nat.le_refl D.length) hsum D (Ext.refl D) with ⟨⟨z0,z1⟩,E,z2,z3⟩ | ⟨E,z2,z3⟩
      ·refine .inl ⟨⟨by omega,by omega,bigS_no g2,by omega,z0⟩,trim L (frOf 133 [(1,.ref p 0 0),(3,Iz (m+cI x.blocks:Nat)),(4,Iz (k+1:Nat))]) E,?_,(eE.trans z3).trim hL1 _,by omega⟩
       rw [itW_step]
       simp only [Iz,bl,hlD] at z2
       simp only [Iz,bl,a_f10,s_f10_l0_b,s_f10_l1_b,s_f10_l2_b,aa,reduceIte,reduceCtorEq,Nat.reduceEqDiff,Nat.reduceLT,Nat.reduceLeDiff,Nat.reduceBEq,Nat.reduceAdd,Nat.reduceMul,hgp,hfl,hlt',a1,ld,hbC,hD,hlD,hgg,hgg',hss,hpo,hbo,Bool.and_self,hpl,hbl,g1',hca,z2,hwk]
      ·refine .inr ⟨trim L (frOf 133 [(2,bl true)]) E,?_,(eE.trans z3).trim hL1 _⟩
       rw [itW_step]
       simp only [Iz,bl,hlD] at z2
       simp only [Iz,bl,a_f10,s_f10_l0_b,s_f10_l1_b,s_f10_l2_b,aa,reduceIte,reduceCtorEq,Nat.reduceEqDiff,Nat.reduceLT,Nat.reduceLeDiff,Nat.reduceBEq,Nat.reduceAdd,Nat.reduceMul,hgp,hfl,hlt',a1,ld,hbC,hD,hlD,hgg,hgg',hss,hpo,hbo,Bool.and_self,hpl,hbl,g1',hca,z2]) C0 ⟨hC0,by rw [List.take_zero];exact Nat.zero_le _⟩ with ⟨e1,C,e2,e3,e4⟩ | e
 ·rw [List.take_length] at e2 e4
  refine .inl ⟨⟨all_getD e1,e4⟩,trim L (frOf 133 [(1,.ref p 0 0),(3,Iz (cF l:Nat)),(4,Iz l.length),(18,bl false)]) C,?_,e3.trim hL1 _⟩
  rw [List.take_zero,show cF []=0 from rfl,cast0] at e2
  refine e2.trans ?_
  have hcl:=(RdProg.ext hv (h1.trans e3)).len
  have hgp:=getC_ext hp e3
  rw [itW_step]
  simp only [Iz,bl,a_f10,s_f10_l0_b,s_f10_l1_b,s_f10_l2_b,aa,reduceIte,reduceCtorEq,Nat.reduceEqDiff,Nat.reduceLT,Nat.reduceLeDiff,Nat.reduceBEq,Nat.reduceAdd,Nat.reduceMul,hgp,hcl,Int.lt_irrefl]
 ·rw [List.take_zero,show cF []=0 from rfl,cast0] at e
  exact .inr e
theorem heavy_fun (hL:CT k_f20=some (.code s_f20)) (hT:CT k_f10=some (.code s_f10)) (base:Nat) {A:Heap} (hb:base≤A.length) {fv:V} {fs:List FunD} (hr:RdProg A fv fs):
 ∃ b H',callW CT (.fn k_f10 [] []) [.agg [fv]] base A=some (.s (.bool b),H')∧Ext A H'∧(b=false→Light fs):=by
 have hfo:=hr.one
 obtain ⟨A1,hA1⟩:∃ A1,A ++ [Ob.cells 0 [fv]]=A1:=⟨_,rfl⟩
 have l1:A1.length=A.length+1:=by rw [← hA1,len_snoc]
 have e1:Ext A A1:=hA1 ▸ Ext.app _ _
 have x1:getC A1 A.length 0=some [fv]:=hA1 ▸ getC_new A 0 _
 have hfl:=(hr.ext e1).len
 by_cases h70:(fs.length:Int) > 70
 ·refine ⟨true,A1,callW_fnA (c:=s_f10) (k:=1) hT rfl (by decide) s_f10_first ?_,e1,fun e=>by cases e⟩
  simp only [Iz,bl,s_f10,a_f10,s_f10_l0_b,s_f10_l1_b,s_f10_l2_b,aa,reduceIte,reduceCtorEq,Nat.reduceEqDiff,Nat.reduceLT,Nat.reduceLeDiff,Nat.reduceBEq,Nat.reduceAdd,Nat.reduceMul,hfo,Bool.and_self,hA1,x1,hfl,h70]
 ·rcases hv_l2 hL base e1 (by omega) (p:=A.length) x1 hr (by omega) (Nat.le_refl A1.length) A1 (Ext.refl A1) with ⟨⟨z0,z1⟩,E,z2,z3⟩ | ⟨E,z2,z3⟩
  ·refine ⟨false,E,callW_fnA (c:=s_f10) (k:=1) hT rfl (by decide) s_f10_first ?_,e1.trans z3,fun _=>⟨by omega,z0,z1⟩⟩
   simp only [Iz,bl,l1] at z2
   simp only [Iz,bl,s_f10,a_f10,s_f10_l0_b,s_f10_l1_b,s_f10_l2_b,aa,reduceIte,reduceCtorEq,Nat.reduceEqDiff,Nat.reduceLT,Nat.reduceLeDiff,Nat.reduceBEq,Nat.reduceAdd,Nat.reduceMul,hfo,Bool.and_self,hA1,l1,x1,hfl,h70,z2]
  ·refine ⟨true,E,callW_fnA (c:=s_f10) (k:=1) hT rfl (by decide) s_f10_first ?_,e1.trans z3,fun e=>by cases e⟩
   simp only [Iz,bl,l1] at z2
   simp only [Iz,bl,s_f10,a_f10,s_f10_l0_b,s_f10_l1_b,s_f10_l2_b,aa,reduceIte,reduceCtorEq,Nat.reduceEqDiff,Nat.reduceLT,Nat.reduceLeDiff,Nat.reduceBEq,Nat.reduceAdd,Nat.reduceMul,hfo,Bool.and_self,hA1,l1,x1,hfl,h70,z2]
end
end Go.Proofs.YtamlbkalopefgaaR
set_option maxRecDepth 100000
namespace Go.Proofs.YtamlbkalopefgaaR
open Go.AM
end Go.Proofs.YtamlbkalopefgaaR
set_option maxRecDepth 100000
namespace Go.Proofs.YtamlbkalopefgaaR
open Go.AM
theorem ext_of {A H:Heap} (h1:A.length≤H.length) (h2:∀ id,id < A.length→H[id]?=A[id]?):Ext A H:=by
 refine ⟨H.drop A.length,?_⟩
 apply List.ext_getElem?
 intro i
 by_cases hi:i < A.length
 ·rw [List.getElem?_append_left hi,h2 i hi]
 ·rw [List.getElem?_append_right (by omega),List.getElem?_drop,show A.length+(i - A.length)=i by omega]
theorem RdProg.rows {H:Heap} {v:V} {fs:List FunD} (h:RdProg H v fs):∃ R:List (List V),RdW 3 H v R∧(∀ r∈R,r.length=3)∧R.flatten.all V.one=true∧R.length=fs.length∧∀ (i:Nat) (x:FunD),fs[i]?=some x→∃ r:List V,R[i]?=some r∧RdFun H r x:=by
 obtain ⟨R,h1,h2,h3,h4⟩:=h
 have key:∀ r∈R,∃ x,RdFun H r x:=fun r hr=>by
  obtain ⟨i,hi⟩:=List.mem_iff_getElem?.1 hr
  have hl:=(List.getElem?_eq_some_iff.1 hi).1
  obtain ⟨r',r1,r2⟩:=h4 i _ (some_getD (show i < fs.length by omega) fun0)
  rw [hi] at r1
  cases r1
  exact ⟨_,r2⟩
 refine ⟨R,h1,fun r hr=>?_,?_,h2,h4⟩
 ·obtain ⟨x,hx⟩:=key r hr
  exact hx.len
 ·rw [List.all_eq_true]
  intro v hv
  obtain ⟨r,hr,hvr⟩:=List.mem_flatten.1 hv
  obtain ⟨x,pv,bv,rfl,p1,p2,p3,p4⟩:=key r hr
  rcases List.mem_cons.1 hvr with rfl | hvr
  ·rfl
  rcases List.mem_cons.1 hvr with rfl | hvr
  ·exact p1.one
  rcases List.mem_cons.1 hvr with rfl | hvr
  ·exact p4.one
  ·cases hvr
section
variable {CT:Nat→Option CFun}
structure LawT (CT:Nat→Option CFun):Prop where
 R:RulT CT
 first:CT k_f12=some (.code s_f12)
 check:CT k_f11=some (.code s_f11)
 long:CT k_f20=some (.code s_f20)
 heavy:CT k_f10=some (.code s_f10)
 checks:CT k_f9=some (.code s_f9)
theorem resP_val (o:Option Pt):resP o=.tup [.agg [Iz ((o.getD (0,0,0)).1:Nat),Iz ((o.getD (0,0,0)).2.1:Nat),Iz ((o.getD (0,0,0)).2.2:Nat)],.s (.bool o.isSome)]:=by
 cases o with
 | none=>rfl
 | some t=>obtain ⟨i,b,k⟩:=t;rfl
end
end Go.Proofs.YtamlbkalopefgaaR
namespace Go.AM
open Go.RowKit
inductive Ty where
 | int (k:IntKind) | bool | str
 | sl (e:Ty)
 | st (fs:List Ty)
 deriving Inhabited
mutual
def Ty.width:Ty→Nat
 | .int _=>1
 | .bool=>1
 | .str=>1
 | .sl _=>1
 | .st fs=>widths fs
def widths:List Ty→Nat
 | []=>0
 | f :: fs=>f.width+widths fs
end
mutual
def tyOk (P:Program):Nat→Ty→TypeId→Bool
 | 0,_,_=>false
 | n+1,ty,t=>match ty,P.underlying t with
   | .int k,some (.int k')=>k == k'
   | .bool,some .bool=>true
   | .str,some .string=>true
   | .sl e,some (.slice e')=>tyOk P n e e' && P.cellsOf e' == e.width && decide (0 < e.width)
   | .st fs,some (.struct gs)=>P.cellsOf t == widths fs && tysOk P n 0 fs gs.toList
   | _,_=>false
def tysOk (P:Program):Nat→Nat→List Ty→List Field→Bool
 | 0,_,_,_=>false
 | n+1,off,fs,gs=>match fs,gs with
   | [],[]=>true
   | f :: fs,g :: gs=>g.offset == off && P.cellsOf g.type == f.width && tyOk P n f g.type && tysOk P n (off+f.width) fs gs
   | _,_=>false
end
mutual
def IsV:Ty→List V→Prop
 | .int k,cs=>∃ n,cs=[.s (.int k n)]∧k.min≤n∧n≤k.max
 | .bool,cs=>∃ b,cs=[.s (.bool b)]
 | .str,cs=>∃ b,cs=[.s (.string b)]∧b.size≤maxLen
 | .sl e,cs=>cs=[nilS]∨∃ es:List (List V),cs=[.psl es e.width]∧es.length≤maxLen∧∀ x∈es,IsV e x
 | .st fs,cs=>IsVs fs cs
def IsVs:List Ty→List V→Prop
 | [],cs=>cs=[]
 | f :: fs,cs=>∃ a b,cs=a ++ b∧IsV f a∧IsVs fs b
end
mutual
theorem IsV.len:∀ (t:Ty) {cs:List V},IsV t cs→cs.length=t.width
 | .int _,cs,h=>by obtain ⟨n,rfl,_⟩:=h;rfl
 | .bool,cs,h=>by obtain ⟨n,rfl⟩:=h;rfl
 | .str,cs,h=>by obtain ⟨n,rfl,_⟩:=h;rfl
 | .sl e,cs,h=>by rcases h with rfl | ⟨es,rfl,_⟩ <;> rfl
 | .st fs,cs,h=>IsVs.len fs h
theorem IsVs.len:∀ (fs:List Ty) {cs:List V},IsVs fs cs→cs.length=widths fs
 | [],cs,h=>by cases h;rfl
 | f :: fs,cs,h=>by
   obtain ⟨a,b,rfl,h1,h2⟩:=h
   rw [List.length_append,IsV.len f h1,IsVs.len fs h2];rfl
end
abbrev PRs (w:World) (vs:List V) (cs:List Value):Prop:=vs.length=cs.length∧∀ (i:Nat) (a:V) (b:Value),vs[i]?=some a→cs[i]?=some b→PR (fun _=>False) w a b
theorem PRs.app {w:World} {a b:List V} {c d:List Value} (h:PRs w a c) (k:PRs w b d):PRs w (a ++ b) (c ++ d):=by
 refine ⟨by simp [h.1,k.1],fun i x y hx hy=>?_⟩
 by_cases hi:i < a.length
 ·rw [List.getElem?_append_left hi] at hx
  rw [List.getElem?_append_left (by rw [← h.1];exact hi)] at hy
  exact h.2 i x y hx hy
 ·rw [List.getElem?_append_right (by omega)] at hx
  rw [List.getElem?_append_right (by rw [← h.1];omega),← h.1] at hy
  exact k.2 _ x y hx hy
theorem PRs.one {w:World} {a:V} {b:Value} (h:PR (fun _=>False) w a b):PRs w [a] [b]:=⟨rfl,fun i x y hx hy=>by
 cases i with
 | zero=>simp at hx hy;rw [← hx,← hy];exact h
 | succ i=>simp at hx⟩
theorem PRs.vrs {w:World} {vs:List V} {cs:List Value} (h:PRs w vs cs):VRs (fun _ _=>none) (fun _=>False) w vs cs:=⟨h.1,fun i a b ha hb=>(h.2 i a b ha hb).vr⟩
theorem mapM_fwd {α β:Type} {f:α→Option β} {l:List α} {us:List β} (h:l.mapM f=some us):us.length=l.length∧∀ (i:Nat) (v:α),l[i]?=some v→∃ u,us[i]?=some u∧f v=some u:=by
 obtain ⟨h1,h2⟩:=mapM_get2 h
 refine ⟨h1,fun i v hv=>?_⟩
 have hi:i < us.length:=by rw [h1];exact (List.getElem?_eq_some_iff.1 hv).1
 exact ⟨us[i],List.getElem?_eq_getElem hi,h2 i v _ hv (List.getElem?_eq_getElem hi)⟩
section
variable {H:Type} {enc:TypeId × Value→H} {P:Program} {w:World} {base:Nat} {sp:Nat→Bool} {held:Bool}
theorem add_block (a:Addr) (j:Nat):(a.add j).block=a.block:=by unfold Addr.add;split <;> rfl
theorem add_off {a:Addr} (h:a.spot=none) (j:Nat):(a.add j).off=a.off+j:=by
 unfold Addr.add
 split
 ·rename_i e;subst e;rfl
 ·rfl
theorem cells_row {a:Addr} {n:Nat} {cs:List Value} (h:w.cells? base a n=some cs) (hn:0 < n):∃ arr e fr,w.heap[a.block]?=some (.cells arr e fr)∧a.spot=none∧cs.length=n∧a.off+n≤arr.size∧∀ j,j < n→cs[j]?=arr[a.off+j]?:=by
 unfold World.cells? at h
 split at h
 ·obtain ⟨h1,h2⟩:=mapM_fwd h
  simp only [List.length_range] at h1
  have key:∀ j,j < n→∃ u,cs[j]?=some u∧w.cell? (a.add j)=some u:=fun j hj=>h2 j j (by simp [hj])
  obtain ⟨u0,_,hc0⟩:=key 0 hn
  unfold World.cell? at hc0
  split at hc0
  ·rename_i c e fr hh
   have hbl:∀ j,(a.add j).block=a.block:=fun j=>add_block a j
   rw [hbl] at hh
   split at hc0
   ·cases hc0
   ·rename_i hsp
    have hsp:a.spot=none:=by
     cases hs:a.spot with
     | none=>rfl
     | some x=>exact absurd (by show (a.add 0).spot.isSome=true;simp [Addr.add,hs]) hsp
    have all:∀ j,j < n→cs[j]?=c[a.off+j]?:=by
     intro j hj
     obtain ⟨u,hu,hc⟩:=key j hj
     unfold World.cell? at hc
     rw [hbl,hh] at hc
     simp only [] at hc
     split at hc
     ·cases hc
     ·rw [hu]
      have:(a.add j).off=a.off+j:=add_off hsp j
      rw [← this];exact hc.symm
    refine ⟨c,e,fr,hh,hsp,h1,?_,all⟩
    have hl:=all (n - 1) (by omega)
    have:cs[n - 1]?=some cs[n - 1]:=List.getElem?_eq_getElem (by omega)
    rw [this] at hl
    have:=(Array.getElem?_eq_some_iff.1 hl.symm).1
    omega
  ·cases hc0
 ·cases h
theorem tyOk_int {n:Nat} {k:IntKind} {t:TypeId} (h:tyOk P n (.int k) t=true):P.underlying t=some (.int k):=by
 cases n with
 | zero=>simp [tyOk] at h
 | succ n=>
   simp only [tyOk] at h
   split at h <;> simp_all
theorem tyOk_bool {n:Nat} {t:TypeId} (h:tyOk P n .bool t=true):P.underlying t=some .bool:=by
 cases n with
 | zero=>simp [tyOk] at h
 | succ n=>
   simp only [tyOk] at h
   split at h <;> simp_all
theorem tyOk_str {n:Nat} {t:TypeId} (h:tyOk P n .str t=true):P.underlying t=some .string:=by
 cases n with
 | zero=>simp [tyOk] at h
 | succ n=>
   simp only [tyOk] at h
   split at h <;> simp_all
theorem tyOk_sl {n:Nat} {e:Ty} {t:TypeId} (h:tyOk P n (.sl e) t=true):∃ m e',P.underlying t=some (.slice e')∧tyOk P m e e'=true∧P.cellsOf e'=e.width∧0 < e.width:=by
 cases n with
 | zero=>simp [tyOk] at h
 | succ n=>
   simp only [tyOk] at h
   split at h <;> simp_all
   exact ⟨n,h.1.1⟩
theorem tyOk_st {n:Nat} {fs:List Ty} {t:TypeId} (h:tyOk P n (.st fs) t=true):∃ m gs,P.underlying t=some (.struct gs)∧P.cellsOf t=widths fs∧tysOk P m 0 fs gs.toList=true:=by
 cases n with
 | zero=>simp [tyOk] at h
 | succ n=>
   simp only [tyOk] at h
   split at h <;> simp_all
   exact ⟨n,h.2⟩
theorem read_ty:∀ (fuel n:Nat) (ty:Ty) (t:TypeId) (cs:List Value) (x:DataW H × List MemPlace),tyOk P n ty t=true→DataW.trod enc P w base sp held fuel t cs=some x→∃ vs,IsV ty vs∧PRs w vs cs:=by
 intro fuel
 induction fuel with
 | zero=>intro n ty t cs x _ h;simp [DataW.trod] at h
 | succ fuel ih=>
   intro n ty t cs x ht h
   cases ty with
   | int k=>
     obtain ⟨m,rfl,_,hw⟩:=DataW.trod_int (tyOk_int ht) h
     simp only [Lit.wf,Bool.and_eq_true,decide_eq_true_eq] at hw
     exact ⟨[.s (.int k m)],⟨m,rfl,hw.1,hw.2⟩,PRs.one (.s _)⟩
   | bool=>
     obtain ⟨b,rfl,_⟩:=DataW.trod_bool (tyOk_bool ht) h
     exact ⟨[.s (.bool b)],⟨b,rfl⟩,PRs.one (.s _)⟩
   | str=>
     obtain ⟨b,rfl,_,hb⟩:=DataW.trod_string (tyOk_str ht) h
     exact ⟨[.s (.string b)],⟨b,rfl,hb⟩,PRs.one (.s _)⟩
   | sl e=>
     obtain ⟨m,e',hu,he,hw,h0⟩:=tyOk_sl ht
     rcases DataW.trod_slice hu h with ⟨rfl,_⟩ | ⟨a,len,cap,elems,rest,n2,hn,rfl,_,hb,hlc,hcm,hel,hall,_⟩
     ·exact ⟨[nilS],.inl rfl,PRs.one (.s _)⟩
     ·have hn2:n2=fuel:=by omega
      subst hn2
      rw [hw] at hall
      by_cases hl:len=0
      ·subst hl
       exact ⟨[.psl [] e.width],.inr ⟨[],rfl,Nat.zero_le _,fun x hx=>by cases hx⟩,PRs.one (.psl0 _ _ _)⟩
      ·
       have one:∀ i,i < len→∃ cs vs,w.cells? base (a.add (i * e.width)) e.width=some cs∧IsV e vs∧PRs w vs cs:=by
        intro i hi
        have hh:=hall i hi
        have:elems[i]?=some elems[i]:=List.getElem?_eq_getElem (by omega)
        rw [this,Option.bind_eq_some_iff] at hh
        obtain ⟨cs,h1,h2⟩:=hh
        obtain ⟨vs,h3,h4⟩:=ih m e e' cs _ he h2
        exact ⟨cs,vs,h1,h3,h4⟩
       obtain ⟨c0,_,hc0,_,_⟩:=one 0 (by omega)
       rw [Nat.zero_mul] at hc0
       have ha0:a.add 0=a:=by simp [Addr.add]
       rw [ha0] at hc0
       obtain ⟨arr,el,fr,hB,hsp,_,_,_⟩:=cells_row hc0 h0
       have pos:∀ i,i < len→∃ vs,IsV e vs∧a.off+i * e.width+e.width≤arr.size∧∀ (j:Nat) (x:V) (y:Value),vs[j]?=some x→arr[a.off+i * e.width+j]?=some y→PR (fun _=>False) w x y:=by
        intro i hi
        obtain ⟨cs,vs,h1,h2,h3⟩:=one i hi
        obtain ⟨arr',el',fr',hB',_,hcl,hsz,hcj⟩:=cells_row h1 h0
        rw [add_block,hB] at hB'
        cases hB'
        rw [add_off hsp] at hsz hcj
        refine ⟨vs,h2,hsz,fun j x y hx hy=>?_⟩
        have hj:j < e.width:=by rw [← h2.len];exact (List.getElem?_eq_some_iff.1 hx).1
        exact h3.2 j x y hx (by rw [hcj j hj];exact hy)
       obtain ⟨es,he1,he2⟩:∃ es:List (List V),es.length=len∧∀ i vs,es[i]?=some vs→IsV e vs∧a.off+i * e.width+e.width≤arr.size∧∀ (j:Nat) (x:V) (y:Value),vs[j]?=some x→arr[a.off+i * e.width+j]?=some y→PR (fun _=>False) w x y:=by
        have:∀ k,k≤len→∃ es:List (List V),es.length=k∧∀ i vs,es[i]?=some vs→IsV e vs∧a.off+i * e.width+e.width≤arr.size∧∀ (j:Nat) (x:V) (y:Value),vs[j]?=some x→arr[a.off+i * e.width+j]?=some y→PR (fun _=>False) w x y:=by
         intro k
         induction k with
         | zero=>intro _;exact ⟨[],rfl,fun i vs h=>by simp at h⟩
         | succ k ihk=>
           intro hk
           obtain ⟨es,h1,h2⟩:=ihk (by omega)
           obtain ⟨vs,h3⟩:=pos k (by omega)
           refine ⟨es ++ [vs],by simp [h1],fun i us hi=>?_⟩
           by_cases c:i < es.length
           ·rw [List.getElem?_append_left c] at hi;exact h2 i us hi
           ·rw [List.getElem?_append_right (by omega)] at hi
            have:i - es.length=0:=by
             have:=(List.getElem?_eq_some_iff.1 hi).1
             simp at this;omega
            rw [this] at hi
            simp at hi
            have hik:i=k:=by omega
            subst hik;subst hi
            exact h3
        exact this len (Nat.le_refl _)
       refine ⟨[.psl es e.width],.inr ⟨es,rfl,by omega,fun x hx=>?_⟩,PRs.one ?_⟩
       ·obtain ⟨i,hi⟩:=List.mem_iff_getElem?.1 hx
        exact (he2 i x hi).1
       ·have hslice:Value.slice (some a) len cap=.slice (some ⟨a.block,a.off,none⟩) es.length cap:=by
         rw [he1]
         congr 2
         cases a;simp at hsp;subst hsp;rfl
        rw [hslice]
        refine .psl es e.width a.block a.off cap arr el fr hB (fun h=>h) (by omega) (fun i vs hi=>(he2 i vs hi).1.len) ?_ (fun i vs j x y hi hx hy=>(he2 i vs hi).2.2 j x y hx hy)
        have hlast:=(he2 (len - 1) es[len - 1] (List.getElem?_eq_getElem (by omega))).2.1
        rw [he1]
        have:len * e.width=(len - 1) * e.width+e.width:=by
         obtain ⟨k,rfl⟩:∃ k,len=k+1:=⟨len - 1,by omega⟩
         rw [Nat.add_sub_cancel,Nat.add_mul,Nat.one_mul]
        omega
   | st fs=>
     obtain ⟨m,gs,hu,hw,hts⟩:=tyOk_st ht
     obtain ⟨xs,n2,hn,_,hcl,hxl,hall⟩:=DataW.trod_struct hu h
     have hn2:n2=fuel:=by omega
     subst hn2
     have key:∀ (fs:List Ty) (m off:Nat) (gl:List Field),tysOk P m off fs gl=true→(∀ g∈gl,∃ y,DataW.trod enc P w base sp held n2 g.type ((cs.drop g.offset).take (P.cellsOf g.type))=some y)→off+widths fs=cs.length→∃ vs,IsVs fs vs∧PRs w vs (cs.drop off):=by
      intro fs
      induction fs with
      | nil=>
        intro m off gl _ _ ho
        refine ⟨[],rfl,?_⟩
        rw [List.drop_eq_nil_of_le (by simp [widths] at ho;omega)]
        exact ⟨rfl,fun i a b h=>by simp at h⟩
      | cons f fs ihf=>
        intro m off gl htk hg ho
        cases m with
        | zero=>simp [tysOk] at htk
        | succ m=>
          cases gl with
          | nil=>simp [tysOk] at htk
          | cons g gl=>
            simp only [tysOk,Bool.and_eq_true,beq_iff_eq] at htk
            obtain ⟨⟨⟨h1,h2⟩,h3⟩,h4⟩:=htk
            obtain ⟨y,hy⟩:=hg g List.mem_cons_self
            obtain ⟨va,ha1,ha2⟩:=ih m f g.type _ y h3 hy
            obtain ⟨vb,hb1,hb2⟩:=ihf m (off+f.width) gl h4 (fun g hg'=>hg g (List.mem_cons_of_mem _ hg')) (by simp only [widths] at ho;omega)
            refine ⟨va ++ vb,⟨va,vb,rfl,ha1,hb1⟩,?_⟩
            rw [h1,h2] at ha2
            have:cs.drop off=(cs.drop off).take f.width ++ cs.drop (off+f.width):=by
             rw [← List.drop_drop,List.take_append_drop]
            rw [this]
            exact ha2.app hb2
     obtain ⟨vs,h1,h2⟩:=key fs m 0 gs.toList hts (fun g hg=>by
      obtain ⟨i,hi⟩:=List.mem_iff_getElem?.1 hg
      have hi':gs[i]?=some g:=by simpa using hi
      have h3:=hall i g hi'
      have hlt:=(Array.getElem?_eq_some_iff.1 hi').1
      exact ⟨xs[i]'(by omega),by rw [h3];exact List.getElem?_eq_getElem (by omega)⟩) (by omega)
     exact ⟨vs,h1,by simpa using h2⟩
def argV:Ty→List V→V
 | .st _,vs=>.agg vs
 | _,[v]=>v
 | _,_=>.unk
theorem read_arg {n:Nat} {ty:Ty} {t:TypeId} {v:Value} {d:DataW H} {ps:List MemPlace} (ht:tyOk P n ty t=true) (hf:(match ty with | .st _=>∃ vs,v=.agg vs | _=>v.cells.toList=[v])) (h:DataW.Trod enc P w base sp held t v d ps):
 ∃ vs,IsV ty vs∧VR (fun _ _=>none) (fun _=>False) w (argV ty vs) v:=by
 obtain ⟨fuel,h⟩:=h
 obtain ⟨vs,h1,h2⟩:=read_ty fuel n ty t _ _ ht h
 refine ⟨vs,h1,?_⟩
 have one:vs.length=1→v.cells.toList=[v]→∃ x,vs=[x]∧VR (fun _ _=>none) (fun _=>False) w x v:=by
  intro hl hc
  match vs,hl with
  | [x],_=>
    rw [hc] at h2
    exact ⟨x,rfl,(h2.2 0 x v rfl rfl).vr⟩
 cases ty with
 | st fs=>
   obtain ⟨us,rfl⟩:=hf
   exact vr_agg_mk (vs:=us.toList) h2.vrs
 | _=>
   obtain ⟨x,rfl,hx⟩:=one h1.len hf
   exact hx
end
end Go.AM
set_option maxRecDepth 100000
namespace Go.Proofs.YtamlbkalopefgaaR
open Go.AM
def tInstr:Ty:=.st [.int .u8,.str,.str,.str,.int .i64,.str,.sl .str,.sl .str]
def tBlock:Ty:=.st [.str,.sl tInstr]
def tFunc:Ty:=.st [.str,.sl .str,.sl tBlock]
def tProg:Ty:=.st [.sl tFunc]
theorem strs_of {v:List V} (h:IsV (.sl .str) v):∃ u,v=[u]∧∃ l:List ByteArray,(∀ H,Rd H u (l.map Sb))∧Wide1 u∧l.length < 2 ^ 63:=by
 rcases h with rfl | ⟨es,rfl,hl,he⟩
 ·exact ⟨nilS,rfl,[],fun H=>Rd.nil H,trivial,by decide⟩
 ·have:∀ es:List (List V),(∀ x∈es,IsV .str x)→∃ l:List ByteArray,es=(l.map Sb).map fun x=>[x]:=by
   intro es
   induction es with
   | nil=>intro _;exact ⟨[],rfl⟩
   | cons e es ih=>
     intro h
     obtain ⟨b,rfl,_⟩:=h e List.mem_cons_self
     obtain ⟨l,rfl⟩:=ih fun x hx=>h x (List.mem_cons_of_mem _ hx)
     exact ⟨b :: l,rfl⟩
  obtain ⟨l,rfl⟩:=this es he
  refine ⟨_,rfl,l,fun H=>Rd.psl H _,?_,?_⟩
  ·intro e he
   rw [List.mem_map] at he
   obtain ⟨x,_,rfl⟩:=he
   rfl
  ·simp only [List.length_map,maxLen] at hl
   omega
theorem ins_of {v:List V} (h:IsV tInstr v):v.length=8∧∃ x:InsD,∀ H,RdIns H v x:=by
 have hlen:=IsV.len _ h
 refine ⟨hlen,?_⟩
 obtain ⟨_,_,rfl,⟨o,rfl,_⟩,_,_,rfl,⟨d,rfl,_⟩,_,_,rfl,⟨a,rfl,_⟩,_,_,rfl,⟨b,rfl,_⟩,_,_,rfl,⟨n,rfl,_⟩,_,_,rfl,⟨f,rfl,_⟩,_,_,rfl,h1,_,_,rfl,h2,rfl⟩:=h
 obtain ⟨av,rfl,l,q1,q2,q3⟩:=strs_of h1
 obtain ⟨lv,rfl,ll,r1,r2,r3⟩:=strs_of h2
 exact ⟨⟨o,d,a,b,n,f,l,ll⟩,fun H=>⟨av,lv,rfl,q1 H,q2,r1 H,r2,q3,r3⟩⟩
theorem list_of {α:Type} {w:Nat} {t:Ty} {P:Heap→List V→α→Prop} (hw:∀ {v:List V},IsV t v→v.length=w∧∃ x:α,∀ H,P H v x) {v:List V} (h:IsV (.sl t) v) (hsz:t.width=w):∃ u,v=[u]∧∃ l:List α,∀ H,RdL w P H u l:=by
 rcases h with rfl | ⟨es,rfl,hl,he⟩
 ·exact ⟨_,rfl,[],fun H=>⟨[],RdW.nil w H,rfl,Nat.two_pow_pos 63,fun i x hx=>by simp at hx⟩⟩
 ·have:∀ es:List (List V),(∀ x∈es,IsV t x)→∃ l:List α,l.length=es.length∧∀ (i:Nat) (x:α),l[i]?=some x→∃ r:List V,es[i]?=some r∧∀ H,P H r x:=by
   intro es
   induction es with
   | nil=>intro _;exact ⟨[],rfl,fun i b hb=>by simp at hb⟩
   | cons e es ih=>
     intro h
     obtain ⟨l,k1,k2⟩:=ih fun x hx=>h x (List.mem_cons_of_mem _ hx)
     obtain ⟨_,b,b1⟩:=hw (h e List.mem_cons_self)
     refine ⟨b :: l,by simp [k1],fun i c hc=>?_⟩
     cases i with
     | zero=>rw [List.getElem?_cons_zero] at hc;obtain rfl:=Option.some.inj hc;exact ⟨e,rfl,b1⟩
     | succ i=>rw [List.getElem?_cons_succ] at hc;obtain ⟨r,r1,r2⟩:=k2 i c hc;exact ⟨r,by rw [List.getElem?_cons_succ];exact r1,r2⟩
  obtain ⟨l,k1,k2⟩:=this es he
  refine ⟨_,rfl,l,fun H=>⟨es,?_,k1.symm,?_,fun i b hb=>by obtain ⟨r,r1,r2⟩:=k2 i b hb;exact ⟨r,r1,r2 H⟩⟩⟩
  ·rw [hsz]
   exact RdW.psl H fun r hr=>(hw (he r hr)).1
  ·simp only [maxLen] at hl
   omega
theorem blk_of {v:List V} (h:IsV tBlock v):v.length=2∧∃ b:BlkD,∀ H,RdBlk H v b:=by
 have hlen:=IsV.len _ h
 refine ⟨hlen,?_⟩
 obtain ⟨_,_,rfl,⟨lab,rfl,_⟩,_,_,rfl,h2,rfl⟩:=h
 obtain ⟨cv,rfl,l,q1⟩:=list_of (P:=RdIns) ins_of h2 rfl
 exact ⟨⟨lab,l⟩,fun H=>⟨cv,rfl,q1 H⟩⟩
theorem fun_of {v:List V} (h:IsV tFunc v):v.length=3∧∃ f:FunD,∀ H,RdFun H v f:=by
 have hlen:=IsV.len _ h
 refine ⟨hlen,?_⟩
 obtain ⟨_,_,rfl,⟨nm,rfl,_⟩,_,_,rfl,h1,_,_,rfl,h2,rfl⟩:=h
 obtain ⟨pv,rfl,ps,p1,p2,p3⟩:=strs_of h1
 obtain ⟨bv,rfl,l,q1⟩:=list_of (P:=RdBlk) blk_of h2 rfl
 exact ⟨⟨nm,ps,l⟩,fun H=>⟨pv,bv,rfl,p1 H,p2,p3,q1 H⟩⟩
theorem prog_of {v:List V} (h:IsV tProg v):∃ u,V.agg v=u∧∃ (fv:V) (fs:List FunD),u=.agg [fv]∧∀ H,RdProg H fv fs:=by
 obtain ⟨_,_,rfl,h2,rfl⟩:=h
 obtain ⟨fv,rfl,l,q1⟩:=list_of (P:=RdFun) fun_of h2 rfl
 exact ⟨_,rfl,fv,l,rfl,q1⟩
end Go.Proofs.YtamlbkalopefgaaR
set_option maxRecDepth 100000
namespace Go.Proofs.YtamlbkalopefgaaR
open Go.ChangeShapes Go.WideShapes Go.ChangeAt Go.RowKit Go.AM
theorem mixed:Try.prog.follows .mixedOrders=true:=by kernel_rfl
end Go.Proofs.YtamlbkalopefgaaR
set_option maxRecDepth 100000
namespace Go.Proofs.YtamlbkalopefgaaR
open Go.AM
def cntF (fs:List FunD) (s:ByteArray):Nat:=fs.countP fun f=>eqB f.name s
def cntB (bs:List BlkD) (s:ByteArray):Nat:=bs.countP fun b=>eqB b.label s
def dfI (l:List InsD) (s:ByteArray):Nat:=l.countP fun x=>eqB x.d s
def dfB:List BlkD→ByteArray→Nat
 | [],_=>0
 | b :: bs,s=>dfI b.code s+dfB bs s
def dfs (f:FunD) (s:ByteArray):Nat:=f.ps.countP (fun y=>eqB y s)+dfB f.blocks s
def parsL (s:ByteArray):List FunD→Int→Int
 | [],n=>n
 | f :: fs,n=>parsL s fs (if eqB f.name s=true then (f.ps.length:Int) else n)
def usedD (f:FunD) (s:ByteArray):Bool:=(emptyB s || nullB s) || decide (dfs f s=1)
structure GoodI (fs:List FunD) (f:FunD) (x:InsD):Prop where
 df:emptyB x.d=true∨dfs f x.d=1
 ua:usedD f x.a=true
 ub:usedD f x.b=true
 ux:∀ s∈x.xs,usedD f s=true∧emptyB s=false
 ll:∀ l∈x.ls,cntB f.blocks l=1
 fn:(x.op == 10 || x.op == 4)=true→cntF fs x.f=1
 ar:(x.op == 10)=true→parsL x.f fs (-1)=(x.xs.length:Int)
structure GoodF (fs:List FunD) (f:FunD):Prop where
 nm:eqB f.name mainB=true→f.ps.length=0
 is:isName f.name=true
 c1:cntF fs f.name=1
 nb:f.blocks.length≠0
 nc:∀ b∈f.blocks,b.code.length≠0
 lb:∀ b∈f.blocks,cntB f.blocks b.label=1
 en:∀ b∈f.blocks,∀ (k:Nat) x,b.code[k]?=some x→(endsO x.op == ((k:Int) == (b.code.length:Int) - 1))=true
 ins:∀ b∈f.blocks,∀ x∈b.code,GoodI fs f x
 pd:∀ s∈f.ps,dfs f s=1
structure Good (fs:List FunD):Prop where
 fu:∀ f∈fs,GoodF fs f
 mn:cntF fs mainB=1
theorem eqB_iff {a b:ByteArray}:eqB a b=true↔a=b:=by
 unfold eqB
 rw [beq_iff_eq]
 constructor
 ·intro h
  cases a;cases b
  congr 1
  exact Array.toList_inj.1 h
 ·intro h;rw [h]
theorem emptyB_iff {a:ByteArray}:emptyB a=true↔a=emptyBA:=by
 rw [← eqB_iff];rfl
theorem ite_none {c:Prop} [Decidable c] {t:Pt} {r:Option Pt} (h:(if c then some t else r)=none):¬ c∧r=none:=by
 split at h
 ·cases h
 ·exact ⟨by assumption,h⟩
theorem isName_ne {s:ByteArray} (h:isName s=true):emptyB s=false:=by
 cases e:emptyB s with
 | false=>rfl
 | true=>
   obtain rfl:=emptyB_iff.1 e
   exact absurd h (by decide)
end Go.Proofs.YtamlbkalopefgaaR
set_option maxRecDepth 100000
namespace Go.Proofs.YtamlbkalopefgaaR
open Go.AM
def vPre:ByteArray:=⟨#[118]⟩
def vB (s:ByteArray):ByteArray:=if (emptyB s || nullB s)=true then s else vPre ++ s
def renI (x:InsD):InsD:=⟨x.op,vB x.d,vB x.a,vB x.b,x.k,x.f,x.xs.map vB,x.ls⟩
def renK (b:BlkD):BlkD:=⟨b.label,b.code.map renI⟩
def renF (f:FunD):FunD:=⟨f.name,f.ps.map vB,f.blocks.map renK⟩
structure Slim (fs:List FunD):Prop where
 ps:∀ f∈fs,∀ s∈f.ps,s.size≤60
 d:∀ f∈fs,∀ b∈f.blocks,∀ x∈b.code,x.d.size≤60
 a:∀ f∈fs,∀ b∈f.blocks,∀ x∈b.code,x.a.size≤60
 b:∀ f∈fs,∀ b∈f.blocks,∀ x∈b.code,x.b.size≤60
 xs:∀ f∈fs,∀ b∈f.blocks,∀ x∈b.code,∀ s∈x.xs,s.size≤60
theorem pre_list (s:ByteArray):(vPre ++ s).data.toList=118 :: s.data.toList:=by simp [vPre,ByteArray.data_append]
theorem vB_pre {s:ByteArray} (h:¬ (emptyB s || nullB s)=true):vB s=vPre ++ s:=if_neg h
theorem vB_same {s:ByteArray} (h:(emptyB s || nullB s)=true):vB s=s:=if_pos h
theorem pre_empty (s:ByteArray):emptyB (vPre ++ s)=false:=by unfold emptyB;rw [pre_list];rfl
theorem pre_null (s:ByteArray):nullB (vPre ++ s)=false:=by
 unfold nullB
 rw [pre_list,beq_eq_false_iff_ne]
 intro h
 have:=(List.cons.inj h).1
 exact absurd this (by decide)
theorem vB_empty (s:ByteArray):emptyB (vB s)=emptyB s:=by
 by_cases h:(emptyB s || nullB s)=true
 ·rw [vB_same h]
 ·rw [vB_pre h,pre_empty]
  rw [Bool.or_eq_true,not_or] at h
  exact (Bool.eq_false_iff.2 h.1).symm
theorem vB_null (s:ByteArray):nullB (vB s)=nullB s:=by
 by_cases h:(emptyB s || nullB s)=true
 ·rw [vB_same h]
 ·rw [vB_pre h,pre_null]
  rw [Bool.or_eq_true,not_or] at h
  exact (Bool.eq_false_iff.2 h.2).symm
theorem vB_inj {s t:ByteArray} (h:vB s=vB t):s=t:=by
 have he:emptyB s=emptyB t:=by rw [← vB_empty s,h,vB_empty]
 have hn:nullB s=nullB t:=by rw [← vB_null s,h,vB_null]
 by_cases hs:(emptyB s || nullB s)=true
 ·have ht:(emptyB t || nullB t)=true:=by rw [← he,← hn];exact hs
  rwa [vB_same hs,vB_same ht] at h
 ·have ht:¬ (emptyB t || nullB t)=true:=by rw [← he,← hn];exact hs
  rw [vB_pre hs,vB_pre ht] at h
  have:=congrArg (fun b:ByteArray=>b.data.toList) h
  simp only [pre_list] at this
  exact eqB_iff.1 (beq_iff_eq.2 (List.cons.inj this).2)
theorem vB_dec (s t:ByteArray):decide (vB s=vB t)=decide (s=t):=by
 rw [Bool.eq_iff_iff,decide_eq_true_iff,decide_eq_true_iff]
 exact ⟨vB_inj,fun h=>by rw [h]⟩
theorem badAt_mono {i:Nat} {c:UInt8} (h:badAt i c=false):badAt (i+1) c=false:=by
 unfold badAt at h ⊢
 cases hl:letter c.toNat with
 | true=>rfl
 | false=>
   rw [hl,Bool.not_false,Bool.true_and,Bool.or_eq_false_iff] at h
   rw [h.2,Bool.or_false,Bool.not_false,Bool.true_and,beq_eq_false_iff_ne]
   omega
theorem okFrom_mono:∀ (l:List UInt8) (i:Nat),okFrom i l=true→okFrom (i+1) l=true:=by
 intro l
 induction l with
 | nil=>intro i _;rfl
 | cons c l ih=>
   intro i h
   rw [okFrom,Bool.and_eq_true,Bool.not_eq_true'] at h
   rw [okFrom,badAt_mono h.1,ih _ h.2]
   rfl
theorem isName_pre {s:ByteArray} (h:isName s=true) (hs:s.size≤60):isName (vPre ++ s)=true:=by
 unfold isName at h ⊢
 rw [Bool.and_eq_true] at h
 have h1:((vPre ++ s).data.toList == [])=false:=pre_empty s
 have h2:((vPre ++ s).data.toList == [110,117,108,108])=false:=pre_null s
 have h3:decide (((vPre ++ s).size:Int) > 64)=false:=by
  have e:(vPre ++ s).size=s.size+1:=by
   show (vPre ++ s).data.toList.length=s.data.toList.length+1
   rw [pre_list];rfl
  rw [e,decide_eq_false_iff_not]
  omega
 have h4:okFrom 0 (vPre ++ s).data.toList=true:=by
  rw [pre_list,okFrom,okFrom_mono _ _ h.2]
  decide
 rw [h1,h2,h3,h4]
 rfl
theorem badS_v {op:Bool} {s:ByteArray} (hs:s.size≤60) (h:badS op s=false):badS op (vB s)=false:=by
 unfold badS at h ⊢
 by_cases hc:(emptyB s || nullB s)=true
 ·rw [vB_same hc];exact h
 ·rw [vB_pre hc,pre_empty,pre_null]
  rw [Bool.or_eq_true,not_or] at hc
  rw [Bool.eq_false_iff.2 hc.1,Bool.eq_false_iff.2 hc.2] at h
  cases hn:isName s with
  | true=>rw [isName_pre hn hs];rfl
  | false=>rw [hn,Bool.and_false] at h;cases h
theorem srch_map {α β γ:Type} {f:Nat→β→Option γ} (g:α→β):∀ {l:List α} {k:Nat},srch f (l.map g) k=srch (fun i x=>f i (g x)) l k:=by
 intro l
 induction l with
 | nil=>intro k;rfl
 | cons a l ih=>intro k;rw [List.map_cons,srch,srch,ih]
theorem namedI_ren (s:ByteArray) (fs:List FunD):namedI s (fs.map renF)=namedI s fs:=by
 unfold namedI idxP
 rw [List.findIdx?_map]
 rfl
theorem getD_ren (fs:List FunD) (i:Nat):(fs.map renF).getD i fun0=renF (fs.getD i fun0):=by
 rw [List.getD,List.getD,List.getElem?_map]
 cases fs[i]? <;> rfl
theorem getD_renK (bs:List BlkD) (i:Nat):(bs.map renK).getD i blk0=renK (bs.getD i blk0):=by
 rw [List.getD,List.getD,List.getElem?_map]
 cases bs[i]? <;> rfl
theorem len_ren (f:FunD):(renF f).ps.length=f.ps.length:=List.length_map ..
theorem cI_ren (bs:List BlkD):cI (bs.map renK)=cI bs:=by
 unfold cI
 rw [List.map_map]
 congr 1
 exact List.map_congr_left fun b _=>List.length_map ..
theorem cF_ren (fs:List FunD):cF (fs.map renF)=cF fs:=by
 unfold cF
 rw [List.map_map]
 congr 1
 exact List.map_congr_left fun f _=>cI_ren f.blocks
theorem giF_ren {G G':Nat→Nat→Nat→Nat→InsD→Bool} {fs:List FunD} {i:Nat} {f:FunD} (h:∀ n b k x,G n i b k (renI x)=G' n i b k x):giF G (fs.map renF) i (renF f)=giF G' fs i f:=by
 unfold giF
 rw [← List.map_take,cF_ren]
 show srch _ (f.blocks.map renK) 0=_
 rw [srch_map]
 refine srch_congr fun b x _=>?_
 unfold giB
 show srch (giI G (cF (fs.take i)+cI ((f.blocks.map renK).take (0+b))) i (0+b)) (x.code.map renI) 0=_
 rw [← List.map_take,cI_ren,srch_map]
 refine srch_congr fun k y _=>?_
 unfold giI
 rw [h]
theorem seenS_ren (l:List ByteArray) (s:ByteArray):seenS (l.map vB) (vB s)=seenS l s:=by
 unfold seenS
 rw [List.any_map]
 congr 1
 funext y
 exact vB_dec y s
theorem seenD_ren (l:List InsD) (s:ByteArray):seenD (l.map renI) (vB s)=seenD l s:=by
 unfold seenD
 rw [List.any_map]
 congr 1
 funext y
 exact vB_dec y.d s
theorem seenB_ren (l:List BlkD) (s:ByteArray):seenB (l.map renK) (vB s)=seenB l s:=by
 unfold seenB
 rw [List.any_map]
 congr 1
 funext y
 exact seenD_ren y.code s
theorem tvB_ren {S S':ByteArray→Bool} (hS:∀ s,S' (vB s)=S s) (bs:List BlkD) (i b:Nat) (x:BlkD):tvB S' (bs.map renK) i b (renK x)=tvB S bs i b x:=by
 unfold tvB
 show srch (tvI (fun s=>S' s || seenB ((bs.map renK).take b) s) (x.code.map renI) i b) (x.code.map renI) 0=_
 rw [srch_map]
 refine srch_congr fun k y _=>?_
 unfold tvI
 show (if (!emptyB (vB y.d) && ((S' (vB y.d) || seenB ((bs.map renK).take b) (vB y.d)) || seenD ((x.code.map renI).take (0+k)) (vB y.d)))=true then _ else _)=_
 rw [← List.map_take,← List.map_take,hS,seenB_ren,seenD_ren,vB_empty]
 rfl
theorem tvF_ren (i:Nat) (f:FunD):tvF i (renF f)=tvF i f:=by
 unfold tvF
 have e1:srch (tvP (renF f).ps i) (renF f).ps 0=srch (tvP f.ps i) f.ps 0:=by
  show srch (tvP (f.ps.map vB) i) (f.ps.map vB) 0=_
  rw [srch_map]
  refine srch_congr fun k y _=>?_
  unfold tvP
  rw [← List.map_take,seenS_ren]
 have e2:srch (tvB (seenS (renF f).ps) (renF f).blocks i) (renF f).blocks 0=srch (tvB (seenS f.ps) f.blocks i) f.blocks 0:=by
  show srch (tvB (seenS (f.ps.map vB)) (f.blocks.map renK) i) (f.blocks.map renK) 0=_
  rw [srch_map]
  exact srch_congr fun b x _=>tvB_ren (seenS_ren f.ps) f.blocks i _ x
 rw [e1,e2]
theorem vB_lit {s t:ByteArray} (ht:vB t=t):decide (vB s=t)=decide (s=t):=by
 rw [← vB_dec s t,ht]
theorem nvS_ren (f:FunD) (s:ByteArray):nvS (renF f) (vB s)=nvS f s:=by
 unfold nvS
 show ((((false || decide (vB s=emptyBA)) || decide (vB s=nullBA)) || seenS (f.ps.map vB) (vB s)) || seenB (f.blocks.map renK) (vB s))=_
 rw [seenS_ren,seenB_ren,vB_lit (t:=emptyBA) (if_pos (by decide)),vB_lit (t:=nullBA) (if_pos (by decide))]
theorem nvF_ren (i:Nat) (f:FunD):nvF i (renF f)=nvF i f:=by
 unfold nvF
 show srch (nvB (nvS (renF f)) i) (f.blocks.map renK) 0=_
 rw [srch_map]
 refine srch_congr fun b x _=>?_
 unfold nvB
 show srch (nvI (nvS (renF f)) i (0+b)) (x.code.map renI) 0=_
 rw [srch_map]
 refine srch_congr fun k y _=>?_
 unfold nvI
 have e:(((renI y).a :: (renI y).b :: (renI y).xs).any fun s=>!nvS (renF f) s)=((y.a :: y.b :: y.xs).any fun s=>!nvS f s):=by
  show ((y.a :: y.b :: y.xs).map vB).any _=_
  rw [List.any_map]
  congr 1
  funext s
  show (!nvS (renF f) (vB s))=_
  rw [nvS_ren]
 rw [e]
theorem biG_ren (x:InsD):biG (renI x)=biG x:=by
 have e1:((vB x.d).data.toList == [])=(x.d.data.toList == []):=vB_empty x.d
 have e2:((vB x.a).data.toList == [])=(x.a.data.toList == []):=vB_empty x.a
 have e3:((vB x.b).data.toList == [])=(x.b.data.toList == []):=vB_empty x.b
 unfold biG bi1 bi2 bi3 renI
 simp only [e1,e2,e3,List.length_map]
theorem mpF_ren (i:Nat) (f:FunD):mpF i (renF f)=mpF i f:=by
 unfold mpF
 rw [len_ren]
 have e:srch (mpB i) (renF f).blocks 0=srch (mpB i) f.blocks 0:=by
  show srch (mpB i) (f.blocks.map renK) 0=_
  rw [srch_map]
  refine srch_congr fun b x _=>?_
  unfold mpB
  show srch (mpI i (0+b)) (x.code.map renI) 0=_
  rw [srch_map]
  refine srch_congr fun k y _=>?_
  unfold mpI renI
  simp only [List.length_map]
 rw [e]
theorem beF_ren (i:Nat) (f:FunD):beF i (renF f)=beF i f:=by
 unfold beF
 show srch (beB i) (f.blocks.map renK) 0=_
 rw [srch_map]
 refine srch_congr fun b x _=>?_
 unfold beB
 show (if (x.code.map renI).length=0 then _ else srch (beI i (0+b) (x.code.map renI).length) (x.code.map renI) 0)=_
 rw [srch_map,List.length_map]
 rfl
theorem tlF_ren (i:Nat) (f:FunD):tlF i (renF f)=tlF i f:=by
 unfold tlF
 show srch (tlB (f.blocks.map renK) i) (f.blocks.map renK) 0=_
 rw [srch_map]
 refine srch_congr fun b x _=>?_
 unfold tlB seenL
 rw [← List.map_take,List.any_map]
 rfl
theorem hasL_ren (bs:List BlkD) (l:ByteArray):hasL (bs.map renK) l=hasL bs l:=by
 unfold hasL
 rw [List.any_map]
 rfl
theorem nlG_ren (fs:List FunD) (i:Nat) (x:InsD):nlG (fs.map renF) i (renI x)=nlG fs i x:=by
 unfold nlG
 rw [getD_ren]
 show (x.ls.any fun l=>!hasL ((fs.getD i fun0).blocks.map renK) l)=_
 simp only [hasL_ren]
theorem bpG_ren (fs:List FunD) (i b k:Nat) (x:InsD):bpG (fs.map renF) i b k (renI x)=bpG fs i b k x:=by
 unfold bpG
 rw [getD_ren]
 show (x.op == 6 && ((b:Int) == 0 || ((((fs.getD i fun0).blocks.map renK).getD b blk0).code.take k).any fun z=>z.op != 6))=_
 rw [getD_renK]
 show (x.op == 6 && ((b:Int) == 0 || ((((fs.getD i fun0).blocks.getD b blk0).code.map renI).take k).any fun z=>z.op != 6))=_
 rw [← List.map_take,List.any_map]
 rfl
theorem twG_ren (fs:List FunD) (i:Nat) (f:FunD):twG (fs.map renF) i (renF f)=twG fs i f:=by
 unfold twG
 rw [← List.map_take,List.any_map]
 rfl
theorem arG_ren (fs:List FunD) (x:InsD):arG (fs.map renF) (renI x)=arG fs x:=by
 unfold arG
 show ((x.op == 10 && decide (namedI x.f (fs.map renF) ≥ 0)) && (((((fs.map renF).getD (namedI x.f (fs.map renF)).toNat fun0).ps.length:Int)) != ((x.xs.map vB).length:Int)))=_
 rw [namedI_ren,getD_ren,len_ren,List.length_map]
theorem nfG_ren (fs:List FunD) (x:InsD):nfG (fs.map renF) (renI x)=nfG fs x:=by
 unfold nfG
 show ((x.op == 10 || x.op == 4) && decide (namedI x.f (fs.map renF) < 0))=_
 rw [namedI_ren]
theorem and_bad {c:Bool} {op:Bool} {s:ByteArray} (hs:s.size≤60) (h:(c && badS op s)=false):(c && badS op (vB s))=false:=by
 cases c with
 | false=>rfl
 | true=>rw [Bool.true_and] at h ⊢;exact badS_v hs h
theorem bnB_ren {s:ShD} {x:InsD} (h1:x.d.size≤60) (h2:x.a.size≤60) (h3:x.b.size≤60) (h4:∀ y∈x.xs,y.size≤60) (h:bnB (bnA s x) s x=false):bnB (bnA s (renI x)) s (renI x)=false:=by
 unfold bnB bnA at h ⊢
 simp only [Bool.or_eq_false_iff] at h
 obtain ⟨⟨⟨⟨⟨d,f⟩,a⟩,b⟩,xs⟩,ls⟩:=h
 have d':(s.d && badS false (renI x).d)=false:=and_bad h1 d
 have a':(s.a && badS true (renI x).a)=false:=and_bad h2 a
 have b':(s.b && badS true (renI x).b)=false:=and_bad h3 b
 have f':(s.f && badS false (renI x).f)=false:=f
 have l':(s.ls && ((renI x).ls.any (badS false) || hasE (renI x).ls))=false:=ls
 have x':(s.xs && ((renI x).xs.any (badS true) || hasE (renI x).xs))=false:=by
  cases hx:s.xs with
  | false=>rfl
  | true=>
    rw [hx,Bool.true_and,Bool.or_eq_false_iff] at xs
    rw [Bool.true_and,Bool.or_eq_false_iff]
    constructor
    ·show (x.xs.map vB).any (badS true)=false
     rw [List.any_map,List.any_eq_false]
     intro y hy
     have:=List.any_eq_false.1 xs.1 y hy
     show ¬ badS true (vB y)=true
     rw [badS_v (h4 y hy) (Bool.eq_false_iff.2 this)]
     decide
    ·have e:=xs.2
     unfold hasE at e ⊢
     show (x.xs.map vB).any _=false
     rw [List.any_map,List.any_eq_false]
     intro y hy hc
     have:=List.any_eq_false.1 e y hy
     have e1:([] == (vB y).data.toList)=true:=hc
     have e2:([] == y.data.toList)=false:=Bool.eq_false_iff.2 this
     have e3:=vB_empty y
     unfold emptyB at e3
     rw [beq_iff_eq] at e1
     rw [← e1] at e3
     rw [beq_eq_false_iff_ne] at e2
     exact e2 (beq_iff_eq.1 e3.symm).symm
 rw [d',f',a',b',x',l']
 rfl
theorem bnF_ren {fs:List FunD} (hs:Slim fs) (h:srch bnF fs 0=none):srch bnF (fs.map renF) 0=none:=by
 rw [srch_map,srch_none]
 intro i f hf
 have hm:=List.mem_of_getElem? hf
 have h1:=ite_none (srch_none.1 h i f hf)
 unfold bnF
 rw [if_neg,show (renF f).blocks=f.blocks.map renK from rfl,srch_map,srch_none]
 ·intro b x hx
  have hbm:=List.mem_of_getElem? hx
  have h2:=ite_none (srch_none.1 h1.2 b x hx)
  unfold bnBk
  rw [if_neg (show ¬ (!isName (renK x).label)=true from h2.1),show (renK x).code=x.code.map renI from rfl,srch_map,srch_none]
  intro k y hy
  have hym:=List.mem_of_getElem? hy
  have h3:=(ite_none (srch_none.1 h2.2 k y hy)).1
  unfold bnI
  rw [if_neg]
  rw [show (shp (renI y).op)=shp y.op from rfl,bnB_ren (hs.d f hm x hbm y hym) (hs.a f hm x hbm y hym) (hs.b f hm x hbm y hym) (hs.xs f hm x hbm y hym) (Bool.eq_false_iff.2 h3)]
  decide
 ·intro hc
  refine h1.1 ?_
  rw [Bool.or_eq_true] at hc ⊢
  rcases hc with hc | hc
  ·exact .inl hc
  ·obtain ⟨y,hy,hy2⟩:=List.any_eq_true.1 hc
   obtain ⟨z,hz,rfl⟩:=List.mem_map.1 (show y∈f.ps.map vB from hy)
   refine .inr (List.any_eq_true.2 ⟨z,hz,?_⟩)
   cases hzn:isName z with
   | false=>rfl
   | true=>
     have he:=isName_ne hzn
     by_cases hc2:(emptyB z || nullB z)=true
     ·rw [vB_same hc2,hzn] at hy2;cases hy2
     ·rw [vB_pre hc2,isName_pre hzn (hs.ps f hm z hz)] at hy2;cases hy2
theorem first_ren {fs:List FunD} (hs:Slim fs) (h2:firstN fs 2=none) (n:Nat):firstN (fs.map renF) n=firstN fs n:=by
 by_cases e1:n=1
 ·subst e1
  show mfO (fs.map renF)=mfO fs
  unfold mfO
  rw [List.length_map]
 by_cases e4:n=4
 ·subst e4
  show nmO (fs.map renF)=nmO fs
  unfold nmO
  rw [namedI_ren,getD_ren,len_ren]
 by_cases e2:n=2
 ·subst e2
  exact (bnF_ren hs h2).trans h2.symm
 rw [firstN_eq _ e1 e4,firstN_eq _ e1 e4,srch_map]
 refine srch_congr fun i f hf=>?_
 rw [Nat.zero_add]
 unfold rulF
 split
 ·exact absurd rfl e2
 ·unfold fuS
  rw [twG_ren]
 ·exact mpF_ren i f
 ·unfold fuS mbG
  show (if ((((f.blocks.map renK).length:Int) == 0 || decide (((f.blocks.map renK).length:Int) > 64))=true) then _ else _)=_
  rw [List.length_map]
 ·exact tlF_ren i f
 ·exact giF_ren fun _ _ _ _=>rfl
 ·exact giF_ren fun _ _ _ x=>biG_ren x
 ·exact beF_ren i f
 ·exact giF_ren fun _ b k x=>bpG_ren fs i b k x
 ·exact giF_ren fun _ _ _ x=>nlG_ren fs i x
 ·exact giF_ren fun _ _ _ x=>nfG_ren fs x
 ·exact giF_ren fun _ _ _ x=>arG_ren fs x
 ·exact tvF_ren i f
 ·exact nvF_ren i f
 ·rfl
end Go.Proofs.YtamlbkalopefgaaR
set_option maxRecDepth 100000
namespace Go.Proofs.YtamlbkalopefgaaR
open Go.AM
theorem trim_box {L q g id g' n w:Nat} {H:Heap} {c:List V} (hc:getC H q g=some c) (hq:q < L) (hv:V.sl id g' 0 n w∈c) (hid:L≤id) (fr:List V):trim L fr H=H:=by
 rcases trim_cells L fr H with e | ⟨_,_,h⟩
 ·exact e
 ·have:=h q g c hq hc _ hv
  simp only [idsUnder,decide_eq_true_eq] at this
  omega
theorem OwnN.of {m:Nat} {C H:Heap} {v:V} {l:List V} (h:OwnN m C v l) (hk:∀ id,m≤id→id < C.length→H[id]?=C[id]?):OwnN m H v l:=by
 rcases h with h | ⟨id,g,c,rfl,h2,h3,h4,h5⟩
 ·exact .inl h
 ·refine .inr ⟨id,g,c,rfl,?_,h3,h4,h5⟩
  unfold getC at h2 ⊢
  rw [hk id h5 (getC_lt h2)]
  exact h2
theorem AccW.append2 {m w:Nat} {H:Heap} {v:V} {R:List (List V)} (h:AccW m w H v R) {base bytes:Nat} (hb:base≤m) (hm:m≤H.length) {S:List (List V)} (hS:∀ r∈S,r.length=w) (h0:S≠[]) {x:V} (hx:elems H w x=some (S.length,S.flatten)) (ho:S.flatten.all V.one=true) (hs:(R.length+S.length) * bytes≤2 ^ 47):
 ∃ id g n H',appendV H base w bytes v x=some (.sl id g 0 n w,H')∧AccW m w H' (.sl id g 0 n w) (R ++ S)∧m≤id∧H.length≤H'.length∧(∀ i,i < H.length→(∀ g n,v≠.sl i g 0 n w)→H'[i]?=H[i]?)∧((∃ g n,v=.sl id g 0 n w)∨R=[]∧H.length≤id):=by
 obtain ⟨v',H',a1,a2,a3,a4⟩:=h.append hb hm hS h0 hx ho hs
 have hv:∃ id g n,v'=.sl id g 0 n w∧m≤id:=by
  have a2':=a2
  obtain ⟨_,⟨e,_⟩ | ⟨id,g,e,_,k⟩⟩:=a2'
  ·exact absurd (List.append_eq_nil_iff.1 e).2 h0
  ·exact ⟨id,g,_,e,k⟩
 obtain ⟨id,g,n,rfl,k⟩:=hv
 refine ⟨id,g,n,H',a1,a2,k,a3,a4,?_⟩
 have hh:=h
 obtain ⟨_,⟨rfl,rfl⟩ | ⟨id',g',rfl,hc,_⟩⟩:=hh
 ·right
  refine ⟨rfl,?_⟩
  have hn:¬ S.length=0:=fun e=>h0 (List.eq_nil_of_length_eq_zero e)
  have hs':S.length * bytes≤2 ^ 47:=by simpa using hs
  simp only [appendV,hx,ho,if_true,nilS,hn,if_false,hs'] at a1
  obtain ⟨e1,_⟩:=Prod.mk.inj (Option.some.inj a1)
  cases e1
  exact Nat.le_refl _
 ·left
  have hlt:=getC_lt hc
  have hbi:base≤id':=by omega
  have hl:=flat_len R h.1
  have hn:¬ S.length=0:=fun e=>h0 (List.eq_nil_of_length_eq_zero e)
  have h2:0+R.length * w≤R.flatten.length:=by omega
  simp only [appendV,hx,ho,if_true,true_and,hbi,hc,h2,hn,if_false,hs,List.drop_zero] at a1
  obtain ⟨e1,_⟩:=Prod.mk.inj (Option.some.inj a1)
  cases e1
  exact ⟨_,_,rfl⟩
structure Grow {α:Type} (A C0:Heap) (q w:Nat) (P:Heap→List V→α→Prop) (xs:List α) (C:Heap) (v:V):Prop where
 ext:Ext A C
 len:C0.length≤C.length
 old:∀ id,id < C0.length→id≠q→C[id]?=C0[id]?
 rows:∃ R,AccW C0.length w C v R∧R.length=xs.length∧∀ (i:Nat) (x:α),xs[i]?=some x→∃ r:List V,R[i]?=some r∧∀ H',Ext A H'→(∀ id,C0.length≤id→id < C.length→(∀ g n,v≠.sl id g 0 n w)→H'[id]?=C[id]?)→P H' r x
theorem Grow.start {α:Type} {A C0:Heap} (h:Ext A C0) (q w:Nat) (P:Heap→List V→α→Prop):Grow A C0 q w P [] C0 nilS:=⟨h,Nat.le_refl _,fun _ _ _=>rfl,[],AccW.start _ _ _,rfl,fun i x hx=>by simp at hx⟩
theorem Grow.done {α:Type} {A C0:Heap} {q w:Nat} {P:Heap→List V→α→Prop} {xs:List α} {C:Heap} {v:V} (h:Grow A C0 q w P xs C v) (hn:xs.length < 2 ^ 63):∀ H',Ext A H'→(∀ id,C0.length≤id→id < C.length→H'[id]?=C[id]?)→RdL w P H' v xs:=by
 intro H' hA hk
 obtain ⟨R,h1,h2,h3⟩:=h.rows
 have hv:AccW C0.length w H' v R:=h1.keep fun id g n e=>by
  obtain ⟨_,⟨_,rfl⟩ | ⟨id',g',rfl,hc,hm⟩⟩:=h1
  ·cases e
  ·cases e
   exact hk _ hm (getC_lt hc)
 refine ⟨R,hv.rd,h2,hn,fun i x hx=>?_⟩
 obtain ⟨r,r1,r2⟩:=h3 i x hx
 exact ⟨r,r1,r2 H' hA fun id i1 i2 _=>hk id i1 i2⟩
theorem Grow.step {α:Type} {A C0:Heap} {q w:Nat} {P:Heap→List V→α→Prop} {xs:List α} {C:Heap} {v:V} (h:Grow A C0 q w P xs C v) {base bytes:Nat} (hb:base≤C0.length) {C1:Heap} (e1:Ext C C1) {r:List V} {x:α} (hr:r.length=w) (ho:r.all V.one=true)
 (hP:∀ H',Ext A H'→(∀ id,C.length≤id→id < C1.length→H'[id]?=C1[id]?)→P H' r x) (hs:(xs.length+1) * bytes≤2 ^ 47) (hq1:A.length≤q) (hq2:q < C0.length):
 ∃ id g n C3,appendV (C1 ++ [.cells 0 r]) base w bytes v (.sl C1.length 0 0 1 w)=some (.sl id g 0 n w,C3)∧C3[q]?=C1[q]?∧C0.length≤id∧∀ ob,Grow A C0 q w P (xs ++ [x]) (C3.set q ob) (.sl id g 0 n w):=by
 obtain ⟨R,h1,h2,h3⟩:=h.rows
 have hle:=e1.le
 have hlen:=h.len
 obtain ⟨H,hH⟩:∃ H,C1 ++ [Ob.cells 0 r]=H:=⟨_,rfl⟩
 have lH:H.length=C1.length+1:=by rw [← hH];simp
 have eH:Ext C H:=e1.trans (hH ▸ Ext.app _ _)
 have hC:∀ i,i < C.length→H[i]?=C[i]?:=fun i hi=>by
  obtain ⟨G,rfl⟩:=eH
  exact List.getElem?_append_left hi
 have hC1:∀ i,i < C1.length→H[i]?=C1[i]?:=fun i hi=>by
  rw [← hH]
  exact List.getElem?_append_left hi
 have hacc:AccW C0.length w H v R:=h1.keep fun id g n e=>hC id (h1.lt id g n e)
 have hel:elems H w (.sl C1.length 0 0 1 w)=some ([r].length,[r].flatten):=(RdW.sl (R:=[r]) (by rw [← hH];simpa using getC_new C1 0 r) (fun y hy=>by rw [List.mem_singleton.1 hy];exact hr)).el
 obtain ⟨id,g,n,C3,a1,a2,a3,a4,a5,a6⟩:=AccW.append2 hacc hb (by omega) (S:=[r]) (fun y hy=>by rw [List.mem_singleton.1 hy];exact hr) (by simp) hel (by simpa using ho) (by rw [h2];exact hs)
 have hvid:∀ i g n,v=.sl i g 0 n w→C0.length≤i:=fun i g n e=>by
  obtain ⟨_,⟨_,rfl⟩ | ⟨id',g',rfl,hc,hm⟩⟩:=h1
  ·cases e
  ·cases e;exact hm
 have hold:∀ i,i < C0.length→C3[i]?=C[i]?:=fun i hi=>by
  rw [a5 i (by omega) (fun g n e=>by have:=hvid i g n e;omega),hC i (by omega)]
 refine ⟨id,g,n,C3,hH ▸ a1,?_,a3,fun ob=>⟨?_,?_,fun i hi hne=>?_,R ++ [r],?_,by simp [h2],fun i y hy=>?_⟩⟩
 ·rw [hold q hq2]
  obtain ⟨G,rfl⟩:=e1
  exact (List.getElem?_append_left (by omega)).symm
 ·have:Ext A C3:=ext_of (by have:=h.ext.le;omega) fun i hi=>by
   rw [hold i (by omega)]
   obtain ⟨G,hG⟩:=h.ext
   rw [hG]
   exact List.getElem?_append_left hi
  exact this.set hq1 ob
 ·rw [List.length_set];omega
 ·rw [List.getElem?_set_ne (Ne.symm hne),hold i hi]
  exact h.old i hi hne
 ·refine a2.keep fun i g' n' e=>?_
  cases e
  rw [List.getElem?_set_ne (by omega)]
 ·by_cases hi:i < xs.length
  ·rw [List.getElem?_append_left hi] at hy
   obtain ⟨r0,r1,r2⟩:=h3 i y hy
   refine ⟨r0,by rw [List.getElem?_append_left (by omega)];exact r1,fun H' hA hk=>r2 H' hA fun j j1 j2 j3=>?_⟩
   rw [hk j j1 (by rw [List.length_set];omega) (fun g' n' e=>by
    cases e
    rcases a6 with ⟨g2,n2,e⟩ | ⟨e,_⟩
    ·exact j3 g2 n2 e
    ·rw [e] at h2;simp at h2;omega),List.getElem?_set_ne (by omega),a5 j (by omega) j3,hC j j2]
  ·have hil:i=xs.length:=by
    have:=(List.getElem?_eq_some_iff.1 hy).1
    simp at this
    omega
   subst hil
   rw [List.getElem?_append_right (Nat.le_refl _),Nat.sub_self] at hy
   cases hy
   refine ⟨r,by rw [List.getElem?_append_right (by omega),h2,Nat.sub_self];rfl,fun H' hA hk=>hP H' hA fun j j1 j2=>?_⟩
   have hvj:∀ g' n',v≠.sl j g' 0 n' w:=fun g' n' e=>by
    have:=h1.lt j g' n' e
    omega
   rw [hk j (by omega) (by rw [List.length_set];omega) (fun g' n' e=>by
    cases e
    rcases a6 with ⟨g2,n2,e⟩ | ⟨_,e⟩
    ·exact hvj g2 n2 e
    ·omega),List.getElem?_set_ne (by omega),a5 j (by omega) hvj,hC1 j j2]
end Go.Proofs.YtamlbkalopefgaaR
