/- Texts of the proof: NamB2, NamB3, NamQ1, NamI1, NamI2, NmS7, NamM1, NamJ1, NmS5, NamK1, AmR, NamArg, NamX. -/
import Derived.Test.YtamlbkalopefgaaRP0
import Derived.Test.YtamlbkalopefgaaRP1
import Derived.Test.YtamlbkalopefgaaRP2
import Derived.Test.YtamlbkalopefgaaRP3
import Derived.Test.YtamlbkalopefgaaRP4
import Derived.Test.YtamlbkalopefgaaRP5
import Derived.DataReads
import Derived.ChangeOld
import Derived.ChangeArms
import Derived.ProofKit
import Derived.LaidMore
import Derived.Stop.Joined
import Derived.Test.YtamlbkalopefgaaRRows
set_option linter.all false
set_option maxRecDepth 100000
namespace Go.Proofs.YtamlbkalopefgaaR
open Go.AM
def mpI (i b:Nat) (k:Nat) (x:InsD):Option Pt:=if (x.op == 10 || x.op == 11) && decide (x.xs.length > 8) then some (i,b,k) else none
def mpB (i:Nat) (b:Nat) (bl:BlkD):Option Pt:=srch (mpI i b) bl.code 0
def mpF (i:Nat) (f:FunD):Option Pt:=if f.ps.length > 8 then some (i,0,0) else srch (mpB i) f.blocks 0
section
variable {CT:Nat→Option CFun}
theorem mp_l0 (hC:CT k_f46=some (.code s_f46)) (base:Nat) {A A1:Heap} (h1:Ext A A1) (hb:base≤A.length) (hg:getC A1 A.length 0=some [Iz 0,Iz 0,Iz 0]) {v14 v28 cv:V} {l:List InsD} (hv:RdL 8 RdIns A cv l) (hn:l.length < 2 ^ 20) {i b:Nat} {n15 n16 n29 n30:Int} (hx:∀ x∈l,x.xs.length < 2 ^ 20) {L:Nat} (hL:A1.length≤L) (hA1:A.length < A1.length):
 ∀ C,Ext A1 C→(srch (mpI i b) l 0=none∧∃ C',itW (evC (callW CT) itW base s_f26_l0) [] L (frOf 60 [(2,.ref A.length 0 0),(4,Iz i),(6,Iz b),(14,v14),(15,Iz n15),(16,Iz n16),(28,v28),(29,Iz n29),(30,Iz n30),(36,cv),(37,Iz l.length),(38,Iz 0)]) C=some (.ext 4,frOf 60 [(2,.ref A.length 0 0),(4,Iz i),(6,Iz b),(14,v14),(15,Iz n15),(16,Iz n16),(28,v28),(29,Iz n29),(30,Iz n30),(36,cv),(37,Iz l.length),(38,Iz l.length),(39,bl false)],C')∧Ext A1 C')∨∃ t,srch (mpI i b) l 0=some t∧Found A 60 A.length t (itW (evC (callW CT) itW base s_f26_l0) [] L (frOf 60 [(2,.ref A.length 0 0),(4,Iz i),(6,Iz b),(14,v14),(15,Iz n15),(16,Iz n16),(28,v28),(29,Iz n29),(30,Iz n30),(36,cv),(37,Iz l.length),(38,Iz 0)]) C):=by
 intro C0 hC0
 rcases it_srch l ins0 (mpI i b) (fun _ C=>Ext A1 C) (fun k C=>itW (evC (callW CT) itW base s_f26_l0) [] L (frOf 60 [(2,.ref A.length 0 0),(4,Iz i),(6,Iz b),(14,v14),(15,Iz n15),(16,Iz n16),(28,v28),(29,Iz n29),(30,Iz n30),(36,cv),(37,Iz l.length),(38,Iz k)]) C) (Found A 60 A.length) (by
  intro k C hk hE
  have hlt':((k:Int) < (l.length:Int)):=by omega
  have hwk:=w64 (n:=k) (by omega)
  have hle:=hE.le
  have hkx:=some_getD hk ins0
  obtain ⟨x,hxe⟩:∃ x,l.getD k ins0=x:=⟨_,rfl⟩
  rw [hxe] at hkx ⊢
  have hmem:=List.mem_of_getElem? hkx
  obtain ⟨a,r,a1,hr,a2,_⟩:=hv.at2 hkx
  have hEA:=h1.trans hE
  have ld:=a2 C hEA
  have hbC:base≤C.length:=by omega
  have hgg:∀ c,getC (C ++ [Ob.cells 0 c]) C.length 0=some c:=fun c=>getC_new C 0 c
  have hss:∀ c d,(C ++ [c]).set C.length d=C ++ [d]:=fun c d=>set_snoc C c d
  have eC:∀ c,Ext C (C ++ [Ob.cells 0 c]):=fun c=>Ext.app _ _
  have g2:∀ D,Ext A1 D→getC D A.length 0=some [Iz 0,Iz 0,Iz 0]:=fun D h=>getC_ext hg h
  obtain ⟨av,lv,rfl,q1,q2,q3,q4,_⟩:=hr
  have hxl:=Sb_len (q1.ext (hEA.trans (eC (insC x av lv))))
  have hav:=q1.one
  have hlv:=q3.one
  have hxx:=hx x hmem
  have hcal:=fun D=>calls_fun hC base D x.op
  unfold mpI
  cases hop:(x.op == 10 || x.op == 11) with
  | false=>
    rw [hop] at hcal
    refine .inl ⟨by rw [Bool.false_and,if_neg Bool.false_ne_true],trim L (frOf 60 [(2,.ref A.length 0 0),(4,Iz i),(6,Iz b),(14,v14),(15,Iz n15),(16,Iz n16),(28,v28),(29,Iz n29),(30,Iz n30),(36,cv),(37,Iz l.length),(38,Iz (k+1:Nat))]) (C ++ [Ob.cells 0 (insC x av lv)]),?_,(hE.trans (eC _)).trim (by omega) _⟩
    simp only [insC] at ld hxl ⊢
    rw [itW_step]
    simp only [Iz,bl,a_f26,s_f26_l0_b,s_f26_l1_b,s_f26_l2_b,aa,bl,i64,reduceIte,reduceCtorEq,Nat.reduceEqDiff,Nat.reduceLT,Nat.reduceLeDiff,Nat.reduceBEq,Nat.reduceAdd,fillA,splice,Nat.reduceMul,amY,op_eqP,hlt',a1,ld,hbC,hgg,hss,hav,hlv,Bool.and_self,hcal,hwk]
  | true=>
    rw [hop] at hcal
    by_cases h8:(x.xs.length:Int) > 8
    ·refine .inr ⟨(i,b,k),by rw [Bool.true_and,decide_eq_true (by omega),if_pos rfl],trim L (frOf 60 [(2,.ref A.length 0 0),(3,bl true)]) ((C ++ [Ob.cells 0 (insC x av lv)]).set A.length (.cells 0 [Iz i,Iz b,Iz k])),?_,?_,?_⟩
     ·have hgc:=g2 (C ++ [Ob.cells 0 (insC x av lv)]) (hE.trans (eC _))
      simp only [insC] at ld hxl hgc ⊢
      rw [itW_step]
      simp only [Iz] at hgc
      simp only [Iz,bl,a_f26,s_f26_l0_b,s_f26_l1_b,s_f26_l2_b,aa,bl,i64,reduceIte,reduceCtorEq,Nat.reduceEqDiff,Nat.reduceLT,Nat.reduceLeDiff,Nat.reduceBEq,Nat.reduceAdd,fillA,splice,Nat.reduceMul,amY,op_eqP,hlt',a1,ld,hbC,hgg,hss,hav,hlv,Bool.and_self,hcal,hxl,h8,hgc,hb]
     ·exact ((hEA.trans (eC _)).set (Nat.le_refl _) _).trim (by omega) _
     ·exact trim_get (getC_put (g2 _ (hE.trans (eC _)))) (by omega)
    ·refine .inl ⟨by rw [Bool.true_and,decide_eq_false (by omega),if_neg Bool.false_ne_true],trim L (frOf 60 [(2,.ref A.length 0 0),(4,Iz i),(6,Iz b),(14,v14),(15,Iz n15),(16,Iz n16),(28,v28),(29,Iz n29),(30,Iz n30),(36,cv),(37,Iz l.length),(38,Iz (k+1:Nat))]) (C ++ [Ob.cells 0 (insC x av lv)]),?_,(hE.trans (eC _)).trim (by omega) _⟩
     simp only [insC] at ld hxl ⊢
     rw [itW_step]
     simp only [Iz,bl,a_f26,s_f26_l0_b,s_f26_l1_b,s_f26_l2_b,aa,bl,i64,reduceIte,reduceCtorEq,Nat.reduceEqDiff,Nat.reduceLT,Nat.reduceLeDiff,Nat.reduceBEq,Nat.reduceAdd,fillA,splice,Nat.reduceMul,amY,op_eqP,hlt',a1,ld,hbC,hgg,hss,hav,hlv,Bool.and_self,hcal,hxl,h8,hwk]) C0 hC0 with ⟨e1,C,e2,e3⟩ | e
 ·refine .inl ⟨e1,trim L (frOf 60 [(2,.ref A.length 0 0),(4,Iz i),(6,Iz b),(14,v14),(15,Iz n15),(16,Iz n16),(28,v28),(29,Iz n29),(30,Iz n30),(36,cv),(37,Iz l.length),(38,Iz l.length),(39,bl false)]) C,?_,e3.trim (by omega) _⟩
  rw [cast0] at e2
  refine e2.trans ?_
  rw [itW_step]
  simp only [Iz,bl,a_f26,s_f26_l0_b,s_f26_l1_b,s_f26_l2_b,aa,bl,i64,reduceIte,reduceCtorEq,Nat.reduceEqDiff,Nat.reduceLT,Nat.reduceLeDiff,Nat.reduceBEq,Nat.reduceAdd,fillA,splice,Nat.reduceMul,amY,op_eqP,Int.lt_irrefl]
 ·rw [cast0] at e
  exact .inr e
theorem mp_l1 (hC:CT k_f46=some (.code s_f46)) (base:Nat) {A A1:Heap} (h1:Ext A A1) (hb:base≤A.length) (hg:getC A1 A.length 0=some [Iz 0,Iz 0,Iz 0]) {v14 bv:V} {i:Nat} {n15 n16:Int} {l:List BlkD} (hv:RdL 2 RdBlk A bv l) (hn:l.length < 2 ^ 20) (hnc:∀ b∈l,b.code.length < 2 ^ 20) (hx:∀ b∈l,∀ x∈b.code,x.xs.length < 2 ^ 20) {L:Nat} (hL:A1.length≤L) (hA1:A.length < A1.length):
 ∀ C,Ext A1 C→(srch (mpB i) l 0=none∧∃ C',itW (evC (callW CT) itW base s_f26_l1) [] L (frOf 60 [(2,.ref A.length 0 0),(4,Iz i),(14,v14),(15,Iz n15),(16,Iz n16),(28,bv),(29,Iz l.length),(30,Iz 0)]) C=some (.ext 2,frOf 60 [(2,.ref A.length 0 0),(4,Iz i),(14,v14),(15,Iz n15),(16,Iz n16),(28,bv),(29,Iz l.length),(30,Iz l.length),(31,bl false)],C')∧Ext A1 C')∨∃ t,srch (mpB i) l 0=some t∧Found A 60 A.length t (itW (evC (callW CT) itW base s_f26_l1) [] L (frOf 60 [(2,.ref A.length 0 0),(4,Iz i),(14,v14),(15,Iz n15),(16,Iz n16),(28,bv),(29,Iz l.length),(30,Iz 0)]) C):=by
 intro C0 hC0
 rcases it_srch l blk0 (mpB i) (fun _ C=>Ext A1 C) (fun k C=>itW (evC (callW CT) itW base s_f26_l1) [] L (frOf 60 [(2,.ref A.length 0 0),(4,Iz i),(14,v14),(15,Iz n15),(16,Iz n16),(28,bv),(29,Iz l.length),(30,Iz k)]) C) (Found A 60 A.length) (by
  intro k C hk hE
  have hlt':((k:Int) < (l.length:Int)):=by omega
  have hwk:=w64 (n:=k) (by omega)
  have hle:=hE.le
  have hkx:=some_getD hk blk0
  obtain ⟨x,hxe⟩:∃ x,l.getD k blk0=x:=⟨_,rfl⟩
  rw [hxe] at hkx ⊢
  have hmem:=List.mem_of_getElem? hkx
  obtain ⟨a,r,a1,hr,a2,_⟩:=hv.at2 hkx
  have hEA:=h1.trans hE
  have ld:=a2 C hEA
  have hbC:base≤C.length:=by omega
  have hgg:∀ c,getC (C ++ [Ob.cells 0 c]) C.length 0=some c:=fun c=>getC_new C 0 c
  have hss:∀ c d,(C ++ [c]).set C.length d=C ++ [d]:=fun c d=>set_snoc C c d
  have eC:∀ c,Ext C (C ++ [Ob.cells 0 c]):=fun c=>Ext.app _ _
  have g2:∀ D,Ext A1 D→getC D A.length 0=some [Iz 0,Iz 0,Iz 0]:=fun D h=>getC_ext hg h
  obtain ⟨cv,rfl,hcv⟩:=hr
  have hcl:=(rdI_ext hcv (hEA.trans (eC [Sb x.label,cv]))).len
  have hco:=hcv.one
  have hin:=mp_l0 (CT:=CT) (v14:=v14) (v28:=bv) (i:=i) (b:=k) (n15:=n15) (n16:=n16) (n29:=l.length) (n30:=k) hC base h1 hb hg hcv (hnc x hmem) (hx x hmem) (L:=(C ++ [Ob.cells 0 [Sb x.label,cv]]).length) (by rw [len_snoc];omega) hA1 (C ++ [Ob.cells 0 [Sb x.label,cv]]) (hE.trans (eC _))
  have hl2:(C ++ [Ob.cells 0 [Sb x.label,cv]]).length=C.length+1:=by simp
  rw [hl2] at hin
  rcases hin with ⟨z1,C2,z2,z3⟩ | ⟨t,z1,D,z2,z3,z4⟩
  ·refine .inl ⟨z1,trim L (frOf 60 [(2,.ref A.length 0 0),(4,Iz i),(14,v14),(15,Iz n15),(16,Iz n16),(28,bv),(29,Iz l.length),(30,Iz (k+1:Nat))]) C2,?_,z3.trim (by omega) _⟩
   rw [itW_step]
   simp only [Iz,bl] at z2
   simp only [Iz,bl,a_f26,s_f26_l0_b,s_f26_l1_b,s_f26_l2_b,aa,bl,i64,reduceIte,reduceCtorEq,Nat.reduceEqDiff,Nat.reduceLT,Nat.reduceLeDiff,Nat.reduceBEq,Nat.reduceAdd,fillA,splice,Nat.reduceMul,amY,op_eqP,hlt',a1,ld,hbC,hgg,hss,hco,Bool.and_self,hcl,hl2,z2,hwk]
  ·refine .inr ⟨t,z1,trim L (frOf 60 [(2,.ref A.length 0 0),(3,bl true)]) D,?_,z3.trim (by omega) _,trim_get z4 (by omega)⟩
   rw [itW_step]
   simp only [Iz,bl] at z2
   simp only [Iz,bl,a_f26,s_f26_l0_b,s_f26_l1_b,s_f26_l2_b,aa,bl,i64,reduceIte,reduceCtorEq,Nat.reduceEqDiff,Nat.reduceLT,Nat.reduceLeDiff,Nat.reduceBEq,Nat.reduceAdd,fillA,splice,Nat.reduceMul,amY,op_eqP,hlt',a1,ld,hbC,hgg,hss,hco,Bool.and_self,hcl,hl2,z2]) C0 hC0 with ⟨e1,C,e2,e3⟩ | e
 ·refine .inl ⟨e1,trim L (frOf 60 [(2,.ref A.length 0 0),(4,Iz i),(14,v14),(15,Iz n15),(16,Iz n16),(28,bv),(29,Iz l.length),(30,Iz l.length),(31,bl false)]) C,?_,e3.trim (by omega) _⟩
  rw [cast0] at e2
  refine e2.trans ?_
  rw [itW_step]
  simp only [Iz,bl,a_f26,s_f26_l0_b,s_f26_l1_b,s_f26_l2_b,aa,bl,i64,reduceIte,reduceCtorEq,Nat.reduceEqDiff,Nat.reduceLT,Nat.reduceLeDiff,Nat.reduceBEq,Nat.reduceAdd,fillA,splice,Nat.reduceMul,amY,op_eqP,Int.lt_irrefl]
 ·rw [cast0] at e
  exact .inr e
theorem mp_l2 (hC:CT k_f46=some (.code s_f46)) (base:Nat) {A A1:Heap} (h1:Ext A A1) (hb:base≤A.length) (hg:getC A1 A.length 0=some [Iz 0,Iz 0,Iz 0]) {fv:V} {l:List FunD} (hv:RdL 3 RdFun A fv l) (hn:l.length < 2 ^ 20) (hnb:∀ f∈l,f.blocks.length < 2 ^ 20) (hnc:∀ f∈l,∀ b∈f.blocks,b.code.length < 2 ^ 20) (hx:∀ f∈l,∀ b∈f.blocks,∀ x∈b.code,x.xs.length < 2 ^ 20) {L:Nat} (hL:A1.length≤L) (hA1:A.length < A1.length):
 ∀ C,Ext A1 C→(srch (mpF) l 0=none∧∃ C',itW (evC (callW CT) itW base s_f26_l2) [] L (frOf 60 [(2,.ref A.length 0 0),(14,fv),(15,Iz l.length),(16,Iz 0)]) C=some (.ext 0,frOf 60 [(2,.ref A.length 0 0),(14,fv),(15,Iz l.length),(16,Iz l.length),(17,bl false)],C')∧Ext A1 C')∨∃ t,srch (mpF) l 0=some t∧Found A 60 A.length t (itW (evC (callW CT) itW base s_f26_l2) [] L (frOf 60 [(2,.ref A.length 0 0),(14,fv),(15,Iz l.length),(16,Iz 0)]) C):=by
 intro C0 hC0
 rcases it_srch l fun0 (mpF) (fun _ C=>Ext A1 C) (fun k C=>itW (evC (callW CT) itW base s_f26_l2) [] L (frOf 60 [(2,.ref A.length 0 0),(14,fv),(15,Iz l.length),(16,Iz k)]) C) (Found A 60 A.length) (by
  intro k C hk hE
  have hlt':((k:Int) < (l.length:Int)):=by omega
  have hwk:=w64 (n:=k) (by omega)
  have hle:=hE.le
  have hkx:=some_getD hk fun0
  obtain ⟨x,hxe⟩:∃ x,l.getD k fun0=x:=⟨_,rfl⟩
  rw [hxe] at hkx ⊢
  have hmem:=List.mem_of_getElem? hkx
  obtain ⟨a,r,a1,hr,a2,_⟩:=hv.at2 hkx
  have hEA:=h1.trans hE
  have ld:=a2 C hEA
  have hbC:base≤C.length:=by omega
  have hgg:∀ c,getC (C ++ [Ob.cells 0 c]) C.length 0=some c:=fun c=>getC_new C 0 c
  have hss:∀ c d,(C ++ [c]).set C.length d=C ++ [d]:=fun c d=>set_snoc C c d
  have eC:∀ c,Ext C (C ++ [Ob.cells 0 c]):=fun c=>Ext.app _ _
  have g2:∀ D,Ext A1 D→getC D A.length 0=some [Iz 0,Iz 0,Iz 0]:=fun D h=>getC_ext hg h
  obtain ⟨pv,bv,rfl,q1,q2,q3,hbv⟩:=hr
  have hpl:=Sb_len (q1.ext (hEA.trans (eC [Sb x.name,pv,bv])))
  have hpo:=q1.one
  have hbo:=hbv.one
  have hbl:=(rdB_ext hbv (hEA.trans (eC [Sb x.name,pv,bv]))).len
  have hl2:(C ++ [Ob.cells 0 [Sb x.name,pv,bv]]).length=C.length+1:=by simp
  unfold mpF
  by_cases h8:(x.ps.length:Int) > 8
  ·refine .inr ⟨(k,0,0),if_pos (by omega),trim L (frOf 60 [(2,.ref A.length 0 0),(3,bl true)]) ((C ++ [Ob.cells 0 [Sb x.name,pv,bv]]).set A.length (.cells 0 [Iz k,Iz 0,Iz 0])),?_,?_,?_⟩
   ·have hgc:=g2 (C ++ [Ob.cells 0 [Sb x.name,pv,bv]]) (hE.trans (eC _))
    rw [itW_step]
    simp only [Iz] at hgc
    simp only [Iz,bl,a_f26,s_f26_l0_b,s_f26_l1_b,s_f26_l2_b,aa,bl,i64,reduceIte,reduceCtorEq,Nat.reduceEqDiff,Nat.reduceLT,Nat.reduceLeDiff,Nat.reduceBEq,Nat.reduceAdd,fillA,splice,Nat.reduceMul,amY,op_eqP,hlt',a1,ld,hbC,hgg,hss,hpo,hbo,Bool.and_self,hpl,h8,hgc,hb]
   ·exact ((hEA.trans (eC _)).set (Nat.le_refl _) _).trim (by omega) _
   ·exact trim_get (getC_put (g2 _ (hE.trans (eC _)))) (by omega)
  ·rw [if_neg (show ¬ x.ps.length > 8 by omega)]
   have hin:=mp_l1 (CT:=CT) (v14:=fv) (i:=k) (n15:=l.length) (n16:=k) hC base h1 hb hg hbv (hnb x hmem) (hnc x hmem) (hx x hmem) (L:=(C ++ [Ob.cells 0 [Sb x.name,pv,bv]]).length) (by rw [len_snoc];omega) hA1 (C ++ [Ob.cells 0 [Sb x.name,pv,bv]]) (hE.trans (eC _))
   rw [hl2] at hin
   rcases hin with ⟨z1,C2,z2,z3⟩ | ⟨t,z1,D,z2,z3,z4⟩
   ·refine .inl ⟨z1,trim L (frOf 60 [(2,.ref A.length 0 0),(14,fv),(15,Iz l.length),(16,Iz (k+1:Nat))]) C2,?_,z3.trim (by omega) _⟩
    rw [itW_step]
    simp only [Iz,bl] at z2
    simp only [Iz,bl,a_f26,s_f26_l0_b,s_f26_l1_b,s_f26_l2_b,aa,bl,i64,reduceIte,reduceCtorEq,Nat.reduceEqDiff,Nat.reduceLT,Nat.reduceLeDiff,Nat.reduceBEq,Nat.reduceAdd,fillA,splice,Nat.reduceMul,amY,op_eqP,hlt',a1,ld,hbC,hgg,hss,hpo,hbo,Bool.and_self,hpl,h8,hbl,hl2,z2,hwk]
   ·refine .inr ⟨t,z1,trim L (frOf 60 [(2,.ref A.length 0 0),(3,bl true)]) D,?_,z3.trim (by omega) _,trim_get z4 (by omega)⟩
    rw [itW_step]
    simp only [Iz,bl] at z2
    simp only [Iz,bl,a_f26,s_f26_l0_b,s_f26_l1_b,s_f26_l2_b,aa,bl,i64,reduceIte,reduceCtorEq,Nat.reduceEqDiff,Nat.reduceLT,Nat.reduceLeDiff,Nat.reduceBEq,Nat.reduceAdd,fillA,splice,Nat.reduceMul,amY,op_eqP,hlt',a1,ld,hbC,hgg,hss,hpo,hbo,Bool.and_self,hpl,h8,hbl,hl2,z2]) C0 hC0 with ⟨e1,C,e2,e3⟩ | e
 ·refine .inl ⟨e1,trim L (frOf 60 [(2,.ref A.length 0 0),(14,fv),(15,Iz l.length),(16,Iz l.length),(17,bl false)]) C,?_,e3.trim (by omega) _⟩
  rw [cast0] at e2
  refine e2.trans ?_
  rw [itW_step]
  simp only [Iz,bl,a_f26,s_f26_l0_b,s_f26_l1_b,s_f26_l2_b,aa,bl,i64,reduceIte,reduceCtorEq,Nat.reduceEqDiff,Nat.reduceLT,Nat.reduceLeDiff,Nat.reduceBEq,Nat.reduceAdd,fillA,splice,Nat.reduceMul,amY,op_eqP,Int.lt_irrefl]
 ·rw [cast0] at e
  exact .inr e
theorem manyParams_fun (hT:CT k_f26=some (.code s_f26)) (hC:CT k_f46=some (.code s_f46)) (base:Nat) {A:Heap} (hb:base≤A.length) {w sm:Nat} {fv:V} {fs:List FunD} (hc:NC A w sm fv fs):
 ∃ H',callW CT (.fn k_f26 [] []) [.ref w 0 0] base A=some (resP (srch mpF fs 0),H')∧Ext A H':=by
 have e1:Ext A (A ++ [Ob.cells 0 [Iz 0,Iz 0,Iz 0]]):=Ext.app _ _
 have x1:=hc.load e1
 have hl:=(hc.rd.ext e1).len
 have g1:getC (A ++ [Ob.cells 0 [Iz 0,Iz 0,Iz 0]]) A.length 0=some [Iz 0,Iz 0,Iz 0]:=getC_new A 0 _
 have hl1:(A ++ [Ob.cells 0 [Iz 0,Iz 0,Iz 0]]).length=A.length+1:=by simp
 rcases mp_l2 (CT:=CT) hC base e1 hb g1 hc.rd hc.sml.n hc.sml.nb hc.sml.nc hc.sml.xs (L:=A.length+1) (by omega) (by omega) (A ++ [Ob.cells 0 [Iz 0,Iz 0,Iz 0]]) (Ext.refl _) with ⟨q1,C,q2,q3⟩ | ⟨⟨i,b,k⟩,q1,D,q2,q3,q4⟩
 ·have g2:=getC_ext g1 q3
  have g3:=getC_put (c':=[Iz 0,Iz 0,Iz 0]) g2
  refine ⟨C.set A.length (.cells 0 [Iz 0,Iz 0,Iz 0]),callW_fnA (c:=s_f26) (k:=1) hT rfl (by decide) s_f26_first ?_,(e1.trans q3).set (Nat.le_refl _) _⟩
  rw [q1]
  have xR:loadV (C.set A.length (.cells 0 [Iz 0,Iz 0,Iz 0])) true 3 (.ref A.length 0 0)=some (.agg [Iz 0,Iz 0,Iz 0]):=by
   show xLoad _ true 3 _=_
   rw [xo_ref,g3];rfl
  simp only [Iz,bl] at x1 hl hl1 q2 g2 xR
  simp only [Iz,s_f26,a_f26,s_f26_l0_b,s_f26_l1_b,s_f26_l2_b,aa,bl,i64,reduceIte,reduceCtorEq,Nat.reduceEqDiff,Nat.reduceLT,Nat.reduceLeDiff,Nat.reduceBEq,Nat.reduceAdd,fillA,splice,Nat.reduceMul,amY,op_eqP,x1,hl,hl1,q2,g2,hb]
  rw [xR]
  rfl
 ·refine ⟨D,callW_fnA (c:=s_f26) (k:=1) hT rfl (by decide) s_f26_first ?_,q3⟩
  rw [q1]
  have xR:loadV D true 3 (.ref A.length 0 0)=some (.agg [Iz i,Iz b,Iz k]):=by
   show xLoad _ true 3 _=_
   rw [xo_ref,q4];rfl
  simp only [Iz,bl] at x1 hl hl1 q2 xR
  simp only [Iz,s_f26,a_f26,s_f26_l0_b,s_f26_l1_b,s_f26_l2_b,aa,bl,i64,reduceIte,reduceCtorEq,Nat.reduceEqDiff,Nat.reduceLT,Nat.reduceLeDiff,Nat.reduceBEq,Nat.reduceAdd,fillA,splice,Nat.reduceMul,amY,op_eqP,x1,hl,hl1,q2]
  rw [xR]
  rfl
end
end Go.Proofs.YtamlbkalopefgaaR
set_option maxRecDepth 100000
namespace Go.Proofs.YtamlbkalopefgaaR
open Go.AM
def endsO (o:Int):Bool:=o == 12 || o == 13 || o == 14
def beI (i b n:Nat) (k:Nat) (x:InsD):Option Pt:=if (endsO x.op == ((k:Int) == (n:Int) - 1)) != true then some (i,b,k) else none
def beB (i:Nat) (b:Nat) (bl:BlkD):Option Pt:=if bl.code.length=0 then some (i,b,0) else srch (beI i b bl.code.length) bl.code 0
def beF (i:Nat) (f:FunD):Option Pt:=srch (beB i) f.blocks 0
section
variable {CT:Nat→Option CFun}
theorem be_l0 (hC:CT k_f51=some (.code s_f51)) (base:Nat) {A A1:Heap} (h1:Ext A A1) (hb:base≤A.length) (hg:getC A1 A.length 0=some [Iz 0,Iz 0,Iz 0]) {v14 v28 cv:V} {i b p7:Nat} {n15 n16 n29 n30:Int} {l:List InsD} (hv:RdL 8 RdIns A cv l) (hn:l.length < 2 ^ 20) (h7:∀ C,Ext A1 C→xLoad C false 1 (.ref p7 0 1)=some cv) {L:Nat} (hL:A1.length≤L) (hA1:A.length < A1.length):
 ∀ C,Ext A1 C→(srch (beI i b l.length) l 0=none∧∃ C',itW (evC (callW CT) itW base s_f31_l0) [] L (frOf 62 [(2,.ref A.length 0 0),(4,Iz i),(6,Iz b),(7,.ref p7 0 0),(14,v14),(15,Iz n15),(16,Iz n16),(22,v28),(23,Iz n29),(24,Iz n30),(37,cv),(38,Iz l.length),(39,Iz 0)]) C=some (.ext 4,frOf 62 [(2,.ref A.length 0 0),(4,Iz i),(6,Iz b),(7,.ref p7 0 0),(14,v14),(15,Iz n15),(16,Iz n16),(22,v28),(23,Iz n29),(24,Iz n30),(37,cv),(38,Iz l.length),(39,Iz l.length),(40,bl false)],C')∧Ext A1 C')∨∃ t,srch (beI i b l.length) l 0=some t∧Found A 62 A.length t (itW (evC (callW CT) itW base s_f31_l0) [] L (frOf 62 [(2,.ref A.length 0 0),(4,Iz i),(6,Iz b),(7,.ref p7 0 0),(14,v14),(15,Iz n15),(16,Iz n16),(22,v28),(23,Iz n29),(24,Iz n30),(37,cv),(38,Iz l.length),(39,Iz 0)]) C):=by
 intro C0 hC0
 rcases it_srch l ins0 (beI i b l.length) (fun _ C=>Ext A1 C) (fun k C=>itW (evC (callW CT) itW base s_f31_l0) [] L (frOf 62 [(2,.ref A.length 0 0),(4,Iz i),(6,Iz b),(7,.ref p7 0 0),(14,v14),(15,Iz n15),(16,Iz n16),(22,v28),(23,Iz n29),(24,Iz n30),(37,cv),(38,Iz l.length),(39,Iz k)]) C) (Found A 62 A.length) (by
  intro k C hk hE
  have hlt':((k:Int) < (l.length:Int)):=by omega
  have hwk:=w64 (n:=k) (by omega)
  have hle:=hE.le
  have hkx:=some_getD hk ins0
  obtain ⟨x,hxe⟩:∃ x,l.getD k ins0=x:=⟨_,rfl⟩
  rw [hxe] at hkx ⊢
  have hmem:=List.mem_of_getElem? hkx
  obtain ⟨a,r,a1,hr,a2,_⟩:=hv.at2 hkx
  have hEA:=h1.trans hE
  have ld:=a2 C hEA
  have hbC:base≤C.length:=by omega
  have hgg:∀ c,getC (C ++ [Ob.cells 0 c]) C.length 0=some c:=fun c=>getC_new C 0 c
  have hss:∀ c d,(C ++ [c]).set C.length d=C ++ [d]:=fun c d=>set_snoc C c d
  have eC:∀ c,Ext C (C ++ [Ob.cells 0 c]):=fun c=>Ext.app _ _
  have g2:∀ D,Ext A1 D→getC D A.length 0=some [Iz 0,Iz 0,Iz 0]:=fun D h=>getC_ext hg h
  obtain ⟨av,lv,rfl,q1,q2,q3,q4,_⟩:=hr
  have hxl:=Sb_len (q1.ext (hEA.trans (eC (insC x av lv))))
  have hav:=q1.one
  have hlv:=q3.one
  have hcal:∀ D bs,callW CT (.fn k_f51 [] []) [.s (.int .u8 x.op)] bs D=some (.s (.bool (endsO x.op)),D):=fun D bs=>ends_fun hC bs D x.op
  have h7l:=h7 (C ++ [Ob.cells 0 (insC x av lv)]) (hE.trans (eC _))
  have h7n:=(rdI_ext hv (hEA.trans (eC (insC x av lv)))).len
  have hwm:IntKind.i64.wrap ((l.length:Int) - 1)=(l.length:Int) - 1:=by rw [IntKind.wrap_i64];omega
  unfold beI
  cases hop:((endsO x.op == ((k:Int) == (l.length:Int) - 1)) != true) with
  | false=>
    refine .inl ⟨by rw [if_neg Bool.false_ne_true],trim L (frOf 62 [(2,.ref A.length 0 0),(4,Iz i),(6,Iz b),(7,.ref p7 0 0),(14,v14),(15,Iz n15),(16,Iz n16),(22,v28),(23,Iz n29),(24,Iz n30),(37,cv),(38,Iz l.length),(39,Iz (k+1:Nat))]) (C ++ [Ob.cells 0 (insC x av lv)]),?_,(hE.trans (eC _)).trim (by omega) _⟩
    simp only [insC] at ld hxl h7l h7n ⊢
    rw [itW_step]
    simp only [Iz,bl,a_f31,s_f31_l0_b,s_f31_l1_b,s_f31_l2_b,aa,bl,i64,reduceIte,reduceCtorEq,Nat.reduceEqDiff,Nat.reduceLT,Nat.reduceLeDiff,Nat.reduceBEq,Nat.reduceAdd,fillA,splice,Nat.reduceMul,amY,op_eqP,hlt',a1,ld,hbC,hgg,hss,hav,hlv,Bool.and_self,hcal,h7l,h7n,hwm,hop,hwk]
  | true=>
    refine .inr ⟨(i,b,k),by rw [if_pos rfl],trim L (frOf 62 [(2,.ref A.length 0 0),(3,bl true)]) ((C ++ [Ob.cells 0 (insC x av lv)]).set A.length (.cells 0 [Iz i,Iz b,Iz k])),?_,?_,?_⟩
    ·have hgc:=g2 (C ++ [Ob.cells 0 (insC x av lv)]) (hE.trans (eC _))
     simp only [insC] at ld hxl hgc h7l h7n ⊢
     rw [itW_step]
     simp only [Iz] at hgc
     simp only [Iz,bl,a_f31,s_f31_l0_b,s_f31_l1_b,s_f31_l2_b,aa,bl,i64,reduceIte,reduceCtorEq,Nat.reduceEqDiff,Nat.reduceLT,Nat.reduceLeDiff,Nat.reduceBEq,Nat.reduceAdd,fillA,splice,Nat.reduceMul,amY,op_eqP,hlt',a1,ld,hbC,hgg,hss,hav,hlv,Bool.and_self,hcal,h7l,h7n,hwm,hop,hgc,hb]
    ·exact ((hEA.trans (eC _)).set (Nat.le_refl _) _).trim (by omega) _
    ·exact trim_get (getC_put (g2 _ (hE.trans (eC _)))) (by omega)) C0 hC0 with ⟨e1,C,e2,e3⟩ | e
 ·refine .inl ⟨e1,trim L (frOf 62 [(2,.ref A.length 0 0),(4,Iz i),(6,Iz b),(7,.ref p7 0 0),(14,v14),(15,Iz n15),(16,Iz n16),(22,v28),(23,Iz n29),(24,Iz n30),(37,cv),(38,Iz l.length),(39,Iz l.length),(40,bl false)]) C,?_,e3.trim (by omega) _⟩
  rw [cast0] at e2
  refine e2.trans ?_
  rw [itW_step]
  simp only [Iz,bl,a_f31,s_f31_l0_b,s_f31_l1_b,s_f31_l2_b,aa,bl,i64,reduceIte,reduceCtorEq,Nat.reduceEqDiff,Nat.reduceLT,Nat.reduceLeDiff,Nat.reduceBEq,Nat.reduceAdd,fillA,splice,Nat.reduceMul,amY,op_eqP,Int.lt_irrefl]
 ·rw [cast0] at e
  exact .inr e
theorem be_l1 (hC:CT k_f51=some (.code s_f51)) (base:Nat) {A A1:Heap} (h1:Ext A A1) (hb:base≤A.length) (hg:getC A1 A.length 0=some [Iz 0,Iz 0,Iz 0]) {v14 bv:V} {i:Nat} {n15 n16:Int} {l:List BlkD} (hv:RdL 2 RdBlk A bv l) (hn:l.length < 2 ^ 20) (hnc:∀ b∈l,b.code.length < 2 ^ 20) {L:Nat} (hL:A1.length≤L) (hA1:A.length < A1.length):
 ∀ C,Ext A1 C→(srch (beB i) l 0=none∧∃ C',itW (evC (callW CT) itW base s_f31_l1) [] L (frOf 62 [(2,.ref A.length 0 0),(4,Iz i),(14,v14),(15,Iz n15),(16,Iz n16),(22,bv),(23,Iz l.length),(24,Iz 0)]) C=some (.ext 2,frOf 62 [(2,.ref A.length 0 0),(4,Iz i),(14,v14),(15,Iz n15),(16,Iz n16),(22,bv),(23,Iz l.length),(24,Iz l.length),(25,bl false)],C')∧Ext A1 C')∨∃ t,srch (beB i) l 0=some t∧Found A 62 A.length t (itW (evC (callW CT) itW base s_f31_l1) [] L (frOf 62 [(2,.ref A.length 0 0),(4,Iz i),(14,v14),(15,Iz n15),(16,Iz n16),(22,bv),(23,Iz l.length),(24,Iz 0)]) C):=by
 intro C0 hC0
 rcases it_srch l blk0 (beB i) (fun _ C=>Ext A1 C) (fun k C=>itW (evC (callW CT) itW base s_f31_l1) [] L (frOf 62 [(2,.ref A.length 0 0),(4,Iz i),(14,v14),(15,Iz n15),(16,Iz n16),(22,bv),(23,Iz l.length),(24,Iz k)]) C) (Found A 62 A.length) (by
  intro k C hk hE
  have hlt':((k:Int) < (l.length:Int)):=by omega
  have hwk:=w64 (n:=k) (by omega)
  have hle:=hE.le
  have hkx:=some_getD hk blk0
  obtain ⟨x,hxe⟩:∃ x,l.getD k blk0=x:=⟨_,rfl⟩
  rw [hxe] at hkx ⊢
  have hmem:=List.mem_of_getElem? hkx
  obtain ⟨a,r,a1,hr,a2,_⟩:=hv.at2 hkx
  have hEA:=h1.trans hE
  have ld:=a2 C hEA
  have hbC:base≤C.length:=by omega
  have hgg:∀ c,getC (C ++ [Ob.cells 0 c]) C.length 0=some c:=fun c=>getC_new C 0 c
  have hss:∀ c d,(C ++ [c]).set C.length d=C ++ [d]:=fun c d=>set_snoc C c d
  have eC:∀ c,Ext C (C ++ [Ob.cells 0 c]):=fun c=>Ext.app _ _
  have g2:∀ D,Ext A1 D→getC D A.length 0=some [Iz 0,Iz 0,Iz 0]:=fun D h=>getC_ext hg h
  obtain ⟨cv,rfl,hcv⟩:=hr
  have hcl:=(rdI_ext hcv (hEA.trans (eC [Sb x.label,cv]))).len
  have hco:=hcv.one
  have hl2:(C ++ [Ob.cells 0 [Sb x.label,cv]]).length=C.length+1:=by simp
  unfold beB
  by_cases h0:x.code.length=0
  ·have e0:((x.code.length:Int) == 0)=true:=by rw [h0];rfl
   refine .inr ⟨(i,k,0),if_pos h0,trim L (frOf 62 [(2,.ref A.length 0 0),(3,bl true)]) ((C ++ [Ob.cells 0 [Sb x.label,cv]]).set A.length (.cells 0 [Iz i,Iz k,Iz 0])),?_,?_,?_⟩
   ·have hgc:=g2 (C ++ [Ob.cells 0 [Sb x.label,cv]]) (hE.trans (eC _))
    rw [itW_step]
    simp only [Iz] at hgc
    simp only [Iz,bl,a_f31,s_f31_l0_b,s_f31_l1_b,s_f31_l2_b,aa,bl,i64,reduceIte,reduceCtorEq,Nat.reduceEqDiff,Nat.reduceLT,Nat.reduceLeDiff,Nat.reduceBEq,Nat.reduceAdd,fillA,splice,Nat.reduceMul,amY,op_eqP,hlt',a1,ld,hbC,hgg,hss,hco,Bool.and_self,hcl,e0,hgc,hb]
   ·exact ((hEA.trans (eC _)).set (Nat.le_refl _) _).trim (by omega) _
   ·exact trim_get (getC_put (g2 _ (hE.trans (eC _)))) (by omega)
  ·have e0:((x.code.length:Int) == 0)=false:=by rw [beq_eq_false_iff_ne];omega
   rw [if_neg h0]
   have hin:=be_l0 (CT:=CT) (v14:=v14) (v28:=bv) (i:=i) (b:=k) (p7:=C.length) (n15:=n15) (n16:=n16) (n29:=l.length) (n30:=k) hC base (A:=A) (A1:=C ++ [Ob.cells 0 [Sb x.label,cv]]) (hEA.trans (eC _)) hb (g2 _ (hE.trans (eC _))) hcv (hnc x hmem) (fun D hD=>by rw [xo_ref,getC_ext (hgg _) hD];rfl) (L:=(C ++ [Ob.cells 0 [Sb x.label,cv]]).length) (Nat.le_refl _) (by rw [len_snoc];omega) (C ++ [Ob.cells 0 [Sb x.label,cv]]) (Ext.refl _)
   rw [hl2] at hin
   rcases hin with ⟨z1,C2,z2,z3⟩ | ⟨t,z1,D,z2,z3,z4⟩
   ·refine .inl ⟨z1,trim L (frOf 62 [(2,.ref A.length 0 0),(4,Iz i),(14,v14),(15,Iz n15),(16,Iz n16),(22,bv),(23,Iz l.length),(24,Iz (k+1:Nat))]) C2,?_,((hE.trans (eC _)).trans z3).trim (by omega) _⟩
    rw [itW_step]
    simp only [Iz,bl] at z2
    simp only [Iz,bl,a_f31,s_f31_l0_b,s_f31_l1_b,s_f31_l2_b,aa,bl,i64,reduceIte,reduceCtorEq,Nat.reduceEqDiff,Nat.reduceLT,Nat.reduceLeDiff,Nat.reduceBEq,Nat.reduceAdd,fillA,splice,Nat.reduceMul,amY,op_eqP,hlt',a1,ld,hbC,hgg,hss,hco,Bool.and_self,hcl,e0,hl2,z2,hwk]
   ·refine .inr ⟨t,z1,trim L (frOf 62 [(2,.ref A.length 0 0),(3,bl true)]) D,?_,z3.trim (by omega) _,trim_get z4 (by omega)⟩
    rw [itW_step]
    simp only [Iz,bl] at z2
    simp only [Iz,bl,a_f31,s_f31_l0_b,s_f31_l1_b,s_f31_l2_b,aa,bl,i64,reduceIte,reduceCtorEq,Nat.reduceEqDiff,Nat.reduceLT,Nat.reduceLeDiff,Nat.reduceBEq,Nat.reduceAdd,fillA,splice,Nat.reduceMul,amY,op_eqP,hlt',a1,ld,hbC,hgg,hss,hco,Bool.and_self,hcl,e0,hl2,z2]) C0 hC0 with ⟨e1,C,e2,e3⟩ | e
 ·refine .inl ⟨e1,trim L (frOf 62 [(2,.ref A.length 0 0),(4,Iz i),(14,v14),(15,Iz n15),(16,Iz n16),(22,bv),(23,Iz l.length),(24,Iz l.length),(25,bl false)]) C,?_,e3.trim (by omega) _⟩
  rw [cast0] at e2
  refine e2.trans ?_
  rw [itW_step]
  simp only [Iz,bl,a_f31,s_f31_l0_b,s_f31_l1_b,s_f31_l2_b,aa,bl,i64,reduceIte,reduceCtorEq,Nat.reduceEqDiff,Nat.reduceLT,Nat.reduceLeDiff,Nat.reduceBEq,Nat.reduceAdd,fillA,splice,Nat.reduceMul,amY,op_eqP,Int.lt_irrefl]
 ·rw [cast0] at e
  exact .inr e
theorem be_l2 (hC:CT k_f51=some (.code s_f51)) (base:Nat) {A A1:Heap} (h1:Ext A A1) (hb:base≤A.length) (hg:getC A1 A.length 0=some [Iz 0,Iz 0,Iz 0]) {fv:V} {l:List FunD} (hv:RdL 3 RdFun A fv l) (hn:l.length < 2 ^ 20) (hnb:∀ f∈l,f.blocks.length < 2 ^ 20) (hnc:∀ f∈l,∀ b∈f.blocks,b.code.length < 2 ^ 20) {L:Nat} (hL:A1.length≤L) (hA1:A.length < A1.length):
 ∀ C,Ext A1 C→(srch (beF) l 0=none∧∃ C',itW (evC (callW CT) itW base s_f31_l2) [] L (frOf 62 [(2,.ref A.length 0 0),(14,fv),(15,Iz l.length),(16,Iz 0)]) C=some (.ext 0,frOf 62 [(2,.ref A.length 0 0),(14,fv),(15,Iz l.length),(16,Iz l.length),(17,bl false)],C')∧Ext A1 C')∨∃ t,srch (beF) l 0=some t∧Found A 62 A.length t (itW (evC (callW CT) itW base s_f31_l2) [] L (frOf 62 [(2,.ref A.length 0 0),(14,fv),(15,Iz l.length),(16,Iz 0)]) C):=by
 intro C0 hC0
 rcases it_srch l fun0 (beF) (fun _ C=>Ext A1 C) (fun k C=>itW (evC (callW CT) itW base s_f31_l2) [] L (frOf 62 [(2,.ref A.length 0 0),(14,fv),(15,Iz l.length),(16,Iz k)]) C) (Found A 62 A.length) (by
  intro k C hk hE
  have hlt':((k:Int) < (l.length:Int)):=by omega
  have hwk:=w64 (n:=k) (by omega)
  have hle:=hE.le
  have hkx:=some_getD hk fun0
  obtain ⟨x,hxe⟩:∃ x,l.getD k fun0=x:=⟨_,rfl⟩
  rw [hxe] at hkx ⊢
  have hmem:=List.mem_of_getElem? hkx
  obtain ⟨a,r,a1,hr,a2,_⟩:=hv.at2 hkx
  have hEA:=h1.trans hE
  have ld:=a2 C hEA
  have hbC:base≤C.length:=by omega
  have hgg:∀ c,getC (C ++ [Ob.cells 0 c]) C.length 0=some c:=fun c=>getC_new C 0 c
  have hss:∀ c d,(C ++ [c]).set C.length d=C ++ [d]:=fun c d=>set_snoc C c d
  have eC:∀ c,Ext C (C ++ [Ob.cells 0 c]):=fun c=>Ext.app _ _
  have g2:∀ D,Ext A1 D→getC D A.length 0=some [Iz 0,Iz 0,Iz 0]:=fun D h=>getC_ext hg h
  obtain ⟨pv,bv,rfl,q1,q2,q3,hbv⟩:=hr
  have hpl:=Sb_len (q1.ext (hEA.trans (eC [Sb x.name,pv,bv])))
  have hpo:=q1.one
  have hbo:=hbv.one
  have hbl:=(rdB_ext hbv (hEA.trans (eC [Sb x.name,pv,bv]))).len
  have hl2:(C ++ [Ob.cells 0 [Sb x.name,pv,bv]]).length=C.length+1:=by simp
  unfold beF
  have hin:=be_l1 (CT:=CT) (v14:=fv) (i:=k) (n15:=l.length) (n16:=k) hC base h1 hb hg hbv (hnb x hmem) (hnc x hmem) (L:=(C ++ [Ob.cells 0 [Sb x.name,pv,bv]]).length) (by rw [len_snoc];omega) hA1 (C ++ [Ob.cells 0 [Sb x.name,pv,bv]]) (hE.trans (eC _))
  rw [hl2] at hin
  rcases hin with ⟨z1,C2,z2,z3⟩ | ⟨t,z1,D,z2,z3,z4⟩
  ·refine .inl ⟨z1,trim L (frOf 62 [(2,.ref A.length 0 0),(14,fv),(15,Iz l.length),(16,Iz (k+1:Nat))]) C2,?_,z3.trim (by omega) _⟩
   rw [itW_step]
   simp only [Iz,bl] at z2
   simp only [Iz,bl,a_f31,s_f31_l0_b,s_f31_l1_b,s_f31_l2_b,aa,bl,i64,reduceIte,reduceCtorEq,Nat.reduceEqDiff,Nat.reduceLT,Nat.reduceLeDiff,Nat.reduceBEq,Nat.reduceAdd,fillA,splice,Nat.reduceMul,amY,op_eqP,hlt',a1,ld,hbC,hgg,hss,hpo,hbo,Bool.and_self,hpl,hbl,hl2,z2,hwk]
  ·refine .inr ⟨t,z1,trim L (frOf 62 [(2,.ref A.length 0 0),(3,bl true)]) D,?_,z3.trim (by omega) _,trim_get z4 (by omega)⟩
   rw [itW_step]
   simp only [Iz,bl] at z2
   simp only [Iz,bl,a_f31,s_f31_l0_b,s_f31_l1_b,s_f31_l2_b,aa,bl,i64,reduceIte,reduceCtorEq,Nat.reduceEqDiff,Nat.reduceLT,Nat.reduceLeDiff,Nat.reduceBEq,Nat.reduceAdd,fillA,splice,Nat.reduceMul,amY,op_eqP,hlt',a1,ld,hbC,hgg,hss,hpo,hbo,Bool.and_self,hpl,hbl,hl2,z2]) C0 hC0 with ⟨e1,C,e2,e3⟩ | e
 ·refine .inl ⟨e1,trim L (frOf 62 [(2,.ref A.length 0 0),(14,fv),(15,Iz l.length),(16,Iz l.length),(17,bl false)]) C,?_,e3.trim (by omega) _⟩
  rw [cast0] at e2
  refine e2.trans ?_
  rw [itW_step]
  simp only [Iz,bl,a_f31,s_f31_l0_b,s_f31_l1_b,s_f31_l2_b,aa,bl,i64,reduceIte,reduceCtorEq,Nat.reduceEqDiff,Nat.reduceLT,Nat.reduceLeDiff,Nat.reduceBEq,Nat.reduceAdd,fillA,splice,Nat.reduceMul,amY,op_eqP,Int.lt_irrefl]
 ·rw [cast0] at e
  exact .inr e
theorem badEnd_fun (hT:CT k_f31=some (.code s_f31)) (hC:CT k_f51=some (.code s_f51)) (base:Nat) {A:Heap} (hb:base≤A.length) {w sm:Nat} {fv:V} {fs:List FunD} (hc:NC A w sm fv fs):
 ∃ H',callW CT (.fn k_f31 [] []) [.ref w 0 0] base A=some (resP (srch beF fs 0),H')∧Ext A H':=by
 have e1:Ext A (A ++ [Ob.cells 0 [Iz 0,Iz 0,Iz 0]]):=Ext.app _ _
 have x1:=hc.load e1
 have hl:=(hc.rd.ext e1).len
 have g1:getC (A ++ [Ob.cells 0 [Iz 0,Iz 0,Iz 0]]) A.length 0=some [Iz 0,Iz 0,Iz 0]:=getC_new A 0 _
 have hl1:(A ++ [Ob.cells 0 [Iz 0,Iz 0,Iz 0]]).length=A.length+1:=by simp
 rcases be_l2 (CT:=CT) hC base e1 hb g1 hc.rd hc.sml.n hc.sml.nb hc.sml.nc (L:=A.length+1) (by omega) (by omega) (A ++ [Ob.cells 0 [Iz 0,Iz 0,Iz 0]]) (Ext.refl _) with ⟨q1,C,q2,q3⟩ | ⟨⟨i,b,k⟩,q1,D,q2,q3,q4⟩
 ·have g2:=getC_ext g1 q3
  have g3:=getC_put (c':=[Iz 0,Iz 0,Iz 0]) g2
  refine ⟨C.set A.length (.cells 0 [Iz 0,Iz 0,Iz 0]),callW_fnA (c:=s_f31) (k:=1) hT rfl (by decide) s_f31_first ?_,(e1.trans q3).set (Nat.le_refl _) _⟩
  rw [q1]
  have xR:loadV (C.set A.length (.cells 0 [Iz 0,Iz 0,Iz 0])) true 3 (.ref A.length 0 0)=some (.agg [Iz 0,Iz 0,Iz 0]):=by
   show xLoad _ true 3 _=_
   rw [xo_ref,g3];rfl
  simp only [Iz,bl] at x1 hl hl1 q2 g2 xR
  simp only [Iz,s_f31,a_f31,s_f31_l0_b,s_f31_l1_b,s_f31_l2_b,aa,bl,i64,reduceIte,reduceCtorEq,Nat.reduceEqDiff,Nat.reduceLT,Nat.reduceLeDiff,Nat.reduceBEq,Nat.reduceAdd,fillA,splice,Nat.reduceMul,amY,op_eqP,x1,hl,hl1,q2,g2,hb]
  rw [xR]
  rfl
 ·refine ⟨D,callW_fnA (c:=s_f31) (k:=1) hT rfl (by decide) s_f31_first ?_,q3⟩
  rw [q1]
  have xR:loadV D true 3 (.ref A.length 0 0)=some (.agg [Iz i,Iz b,Iz k]):=by
   show xLoad _ true 3 _=_
   rw [xo_ref,q4];rfl
  simp only [Iz,bl] at x1 hl hl1 q2 xR
  simp only [Iz,s_f31,a_f31,s_f31_l0_b,s_f31_l1_b,s_f31_l2_b,aa,bl,i64,reduceIte,reduceCtorEq,Nat.reduceEqDiff,Nat.reduceLT,Nat.reduceLeDiff,Nat.reduceBEq,Nat.reduceAdd,fillA,splice,Nat.reduceMul,amY,op_eqP,x1,hl,hl1,q2]
  rw [xR]
  rfl
end
end Go.Proofs.YtamlbkalopefgaaR
set_option maxRecDepth 100000
namespace Go.Proofs.YtamlbkalopefgaaR
open Go.AM
def rulF (fs:List FunD):Nat→Nat→FunD→Option Pt
 | 2=>bnF
 | 3=>fuS (twG fs)
 | 5=>mpF
 | 6=>fuS fun _=>mbG
 | 7=>tlF
 | 8=>giF (fun n _ _ _ _=>mcG n) fs
 | 9=>giF (fun _=>fun _ _ _ x=>biG x) fs
 | 10=>beF
 | 11=>giF (fun _=>fun i b k x=>bpG fs i b k x) fs
 | 12=>giF (fun _=>fun i _ _ x=>nlG fs i x) fs
 | 13=>giF (fun _=>fun _ _ _ x=>nfG fs x) fs
 | 14=>giF (fun _=>fun _ _ _ x=>arG fs x) fs
 | 15=>tvF
 | 16=>nvF
 | _=>fun _ _=>none
def firstN (fs:List FunD):Nat→Option Pt
 | 1=>mfO fs
 | 4=>nmO fs
 | n=>srch (rulF fs n) fs 0
theorem srch_nil' {α β:Type} (f:Nat→α→Option β) (h:∀ i x,f i x=none):∀ (l:List α) (k:Nat),srch f l k=none:=by
 intro l
 induction l with
 | nil=>intro k;rfl
 | cons a l ih=>intro k;rw [srch,h];exact ih (k+1)
theorem firstN_over (fs:List FunD) {n:Nat} (h:n=0∨16 < n):firstN fs n=none:=by
 have e:∀ n,rulF fs (n+17)=fun _ _=>none:=fun n=>rfl
 rcases h with rfl | h
 ·exact srch_nil' _ (fun _ _=>rfl) _ _
 ·obtain ⟨m,rfl⟩:∃ m,n=m+17:=⟨n - 17,by omega⟩
  show srch (rulF fs (m+17)) fs 0=none
  exact srch_nil' _ (fun _ _=>by rw [e]) _ _
theorem srch_congr {α β:Type} {f g:Nat→α→Option β}:∀ {l:List α} {k:Nat},(∀ i x,l[i]?=some x→f (k+i) x=g (k+i) x)→srch f l k=srch g l k:=by
 intro l
 induction l with
 | nil=>intro k _;rfl
 | cons a l ih=>
   intro k h
   have h0:=h 0 a rfl
   rw [Nat.add_zero] at h0
   rw [srch,srch,h0,ih (k:=k+1) fun i x hx=>by
    have:=h (i+1) x (by rw [List.getElem?_cons_succ];exact hx)
    rwa [show k+(i+1)=k+1+i by omega] at this]
theorem srch_app {α β:Type} {f:Nat→α→Option β}:∀ {l m:List α} {k:Nat},srch f (l ++ m) k=match srch f l k with | some b=>some b | none=>srch f m (k+l.length):=by
 intro l
 induction l with
 | nil=>intro m k;rfl
 | cons a l ih=>
   intro m k
   rw [List.cons_append,srch,srch]
   cases f k a with
   | some b=>rfl
   | none=>
     simp only
     rw [ih,List.length_cons,show k+1+l.length=k+(l.length+1) by omega]
theorem srch_pt {α:Type} {f:Nat→α→Option Pt} (hf:∀ i x t,f i x=some t→t.1=i) {l:List α} {k:Nat} {t:Pt} (h:srch f l k=some t):k≤t.1∧t.1 < k+l.length:=by
 obtain ⟨i,x,h1,h2,_⟩:=srch_some.1 h
 have:=(List.getElem?_eq_some_iff.1 h1).1
 rw [hf _ _ _ h2]
 omega
theorem srch_all {α:Type} {f:Nat→α→Option Pt} {P:Pt→Prop} (hf:∀ i x t,f i x=some t→P t) {l:List α} {k:Nat} {t:Pt} (h:srch f l k=some t):P t:=by
 obtain ⟨i,x,_,h2,_⟩:=srch_some.1 h
 exact hf _ _ _ h2
theorem ite_pt {c:Prop} [Decidable c] {a b:Option Pt} {t:Pt} {P:Pt→Prop} (h:(if c then a else b)=some t) (ha:a=some t→P t) (hb:b=some t→P t):P t:=by
 split at h
 ·exact ha h
 ·exact hb h
theorem giF_pt (G:Nat→Nat→Nat→Nat→InsD→Bool) (fs:List FunD) (i:Nat) (f:FunD) (t:Pt) (h:giF G fs i f=some t):t.1=i:=by
 refine srch_all (P:=fun t=>t.1=i) (fun b x t h=>?_) h
 refine srch_all (P:=fun t=>t.1=i) (fun k x t h=>?_) h
 exact ite_pt (P:=fun t=>t.1=i) h (fun e=>by cases e;rfl) fun e=>by cases e
theorem rulF_pt (fs:List FunD) (n i:Nat) (f:FunD) (t:Pt) (h:rulF fs n i f=some t):t.1=i:=by
 unfold rulF at h
 have FU:∀ {P:Nat→FunD→Bool},fuS P i f=some t→t.1=i:=fun h=>ite_pt (P:=fun t=>t.1=i) h (fun e=>by cases e;rfl) fun e=>by cases e
 split at h
 ·refine ite_pt (P:=fun t=>t.1=i) h (fun e=>by cases e;rfl) fun h=>?_
  refine srch_all (P:=fun t=>t.1=i) (fun b x t h=>?_) h
  refine ite_pt (P:=fun t=>t.1=i) h (fun e=>by cases e;rfl) fun h=>?_
  refine srch_all (P:=fun t=>t.1=i) (fun k x t h=>?_) h
  exact ite_pt (P:=fun t=>t.1=i) h (fun e=>by cases e;rfl) fun e=>by cases e
 ·exact FU h
 ·refine ite_pt (P:=fun t=>t.1=i) h (fun e=>by cases e;rfl) fun h=>?_
  refine srch_all (P:=fun t=>t.1=i) (fun b x t h=>?_) h
  refine srch_all (P:=fun t=>t.1=i) (fun k x t h=>?_) h
  exact ite_pt (P:=fun t=>t.1=i) h (fun e=>by cases e;rfl) fun e=>by cases e
 ·exact FU h
 ·refine srch_all (P:=fun t=>t.1=i) (fun b x t h=>?_) h
  exact ite_pt (P:=fun t=>t.1=i) h (fun e=>by cases e;rfl) fun e=>by cases e
 ·exact giF_pt _ _ _ _ _ h
 ·exact giF_pt _ _ _ _ _ h
 ·refine srch_all (P:=fun t=>t.1=i) (fun b x t h=>?_) h
  refine ite_pt (P:=fun t=>t.1=i) h (fun e=>by cases e;rfl) fun h=>?_
  refine srch_all (P:=fun t=>t.1=i) (fun k x t h=>?_) h
  exact ite_pt (P:=fun t=>t.1=i) h (fun e=>by cases e;rfl) fun e=>by cases e
 ·exact giF_pt _ _ _ _ _ h
 ·exact giF_pt _ _ _ _ _ h
 ·exact giF_pt _ _ _ _ _ h
 ·exact giF_pt _ _ _ _ _ h
 ·unfold tvF at h
  split at h
  ·rename_i t' e
   cases h
   refine srch_all (P:=fun t=>t.1=i) (fun k x t h=>?_) e
   exact ite_pt (P:=fun t=>t.1=i) h (fun e=>by cases e;rfl) fun e=>by cases e
  ·refine srch_all (P:=fun t=>t.1=i) (fun b x t h=>?_) h
   refine srch_all (P:=fun t=>t.1=i) (fun k x t h=>?_) h
   exact ite_pt (P:=fun t=>t.1=i) h (fun e=>by cases e;rfl) fun e=>by cases e
 ·refine srch_all (P:=fun t=>t.1=i) (fun b x t h=>?_) h
  refine srch_all (P:=fun t=>t.1=i) (fun k x t h=>?_) h
  exact ite_pt (P:=fun t=>t.1=i) h (fun e=>by cases e;rfl) fun e=>by cases e
 ·cases h
theorem take_more {α:Type} (l m:List α) {i:Nat} (h:i < l.length):(l ++ m).take i=l.take i:=by
 rw [List.take_append,show i - l.length=0 by omega,List.take_zero,List.append_nil]
theorem getD_more {α:Type} (l m:List α) {i:Nat} (d:α) (h:i < l.length):(l ++ m).getD i d=l.getD i d:=by
 rw [List.getD,List.getD,List.getElem?_append_left h]
theorem giF_congr {G G':Nat→Nat→Nat→Nat→InsD→Bool} {fs:List FunD} {i:Nat} {f:FunD} (h:∀ n b k x,G n i b k x=G' n i b k x):giF G fs i f=giF G' fs i f:=by
 refine srch_congr fun b x _=>srch_congr fun k y _=>?_
 unfold giI
 rw [h]
theorem giF_more (G:Nat→Nat→Nat→Nat→InsD→Bool) (fs more:List FunD) {i:Nat} (f:FunD) (h:i < fs.length):giF G (fs ++ more) i f=giF G fs i f:=by
 unfold giF
 rw [take_more fs more h]
theorem rulF_more {fs more:List FunD} {n:Nat} (h13:n≠13) (h14:n≠14) {i:Nat} {f:FunD} (hi:i < fs.length):rulF (fs ++ more) n i f=rulF fs n i f:=by
 unfold rulF
 split
 ·rfl
 ·unfold fuS twG
  rw [take_more fs more hi]
 ·rfl
 ·rfl
 ·rfl
 ·exact giF_more _ _ _ _ hi
 ·exact giF_more _ _ _ _ hi
 ·rfl
 ·rw [giF_more _ _ _ _ hi]
  exact giF_congr fun n b k x=>by unfold bpG;rw [getD_more fs more _ hi]
 ·rw [giF_more _ _ _ _ hi]
  exact giF_congr fun n b k x=>by unfold nlG;rw [getD_more fs more _ hi]
 ·exact absurd rfl h13
 ·exact absurd rfl h14
 ·rfl
 ·rfl
 ·rfl
theorem firstN_eq (fs:List FunD) {n:Nat} (h1:n≠1) (h4:n≠4):firstN fs n=srch (rulF fs n) fs 0:=by
 unfold firstN
 split
 ·exact absurd rfl h1
 ·exact absurd rfl h4
 ·rfl
theorem first_more (fs more:List FunD) {n:Nat} (h1:n≠1) (h4:n≠4) (h13:n≠13) (h14:n≠14):(∀ t,firstN fs n=some t→firstN (fs ++ more) n=some t)∧(firstN fs n=none→∀ t,firstN (fs ++ more) n=some t→fs.length≤t.1):=by
 rw [firstN_eq _ h1 h4,firstN_eq _ h1 h4,srch_app]
 have e:srch (rulF (fs ++ more) n) fs 0=srch (rulF fs n) fs 0:=srch_congr fun i x hx=>by
  rw [Nat.zero_add]
  exact rulF_more h13 h14 (List.getElem?_eq_some_iff.1 hx).1
 rw [e]
 constructor
 ·intro t h
  rw [h]
 ·intro h t ht
  rw [h] at ht
  have:=srch_pt (rulF_pt (fs ++ more) n) ht
  omega
end Go.Proofs.YtamlbkalopefgaaR
set_option maxRecDepth 100000
namespace Go.Proofs.YtamlbkalopefgaaR
open Go.AM
theorem callW_fst {CP:Nat→Option CFun} {k:Nat} {a:V} {args:List V} {base:Nat} {H:Heap} {r:V × Heap} (h:callW CP (.fn k [] []) (a :: args) base H=some r):callW CP (.fn k [a] []) args base H=some r:=by
 obtain ⟨n,hn⟩:=callW_ex h
 refine callW_of (n:=n) ?_
 rw [← hn]
 cases n <;> rfl
structure RulT (CT:Nat→Option CFun):Prop where
 F:FindT CT
 B:BadT CT
 N:ConT CT
 manyFuncs:CT k_f22=some (.code s_f22)
 badName:CT k_f23=some (.code s_f23)
 twiceFunc:CT k_f24=some (.code s_f24)
 noMain:CT k_f25=some (.code s_f25)
 manyParams:CT k_f26=some (.code s_f26)
 manyBlocks:CT k_f27=some (.code s_f27)
 twiceLabel:CT k_f28=some (.code s_f28)
 manyCode:CT k_f29=some (.code s_f29)
 badInstr:CT k_f30=some (.code s_f30)
 badEnd:CT k_f31=some (.code s_f31)
 badPhi:CT k_f32=some (.code s_f32)
 noLabel:CT k_f33=some (.code s_f33)
 noFunc:CT k_f34=some (.code s_f34)
 arity:CT k_f35=some (.code s_f35)
 twiceVar:CT k_f36=some (.code s_f36)
 noVar:CT k_f37=some (.code s_f37)
 named_1:CT k_f66=some (.code s_f66)
 named:CT k_f45=some (.code s_f45)
 noFunc_1:CT k_f59=some (.code s_f59)
 arity_1:CT k_f60=some (.code s_f60)
 noLabel_1_1_1:CT k_f58=some (.code s_f58)
 noLabel_1_1:CT k_f56=some (.code s_f56)
 noLabel_1:CT k_f55=some (.code s_f55)
 badPhi_1_1:CT k_f54=some (.code s_f54)
 badPhi_1:CT k_f52=some (.code s_f52)
 badInstr_1:CT k_f50=some (.code s_f50)
 manyCode_1:CT k_f49=some (.code s_f49)
 funcs:CT k_f43=some (.code s_f43)
 manyBlocks_1:CT k_f47=some (.code s_f47)
 twiceFunc_1:CT k_f44=some (.code s_f44)
 noVar_1:CT k_f61=some (.code s_f61)
 badName_1:CT k_f40=some (.code s_f40)
 calls:CT k_f46=some (.code s_f46)
 ends:CT k_f51=some (.code s_f51)
 shapes:CT k_f21=some (.code s_f21)
 IndexFunc_api_Func_api_Func:CT k_f65=some (.code s_f65)
 ContainsFunc_api_Block_api_Block:CT k_f57=some (.code s_f57)
 IndexFunc_api_Block_api_Block:CT k_f69=some (.code s_f69)
 ContainsFunc_string_string:CT k_f39=some (.code s_f39)
 IndexFunc_string_string:CT k_f62=some (.code s_f62)
 ContainsFunc_api_Instr_api_Instr:CT k_f53=some (.code s_f53)
 IndexFunc_api_Instr_api_Instr:CT k_f68=some (.code s_f68)
def fnT (w:Nat):List (Int × V):=[(1,.fn 22 [.ref w 0 0] []),(2,.fn 23 [.ref w 0 0] []),(3,.fn 24 [.ref w 0 0] []),(4,.fn 25 [.ref w 0 0] []),(5,.fn 26 [.ref w 0 0] []),(6,.fn 27 [.ref w 0 0] []),(7,.fn 28 [.ref w 0 0] []),(8,.fn 29 [.ref w 0 0] []),(9,.fn 30 [.ref w 0 0] []),(10,.fn 31 [.ref w 0 0] []),(11,.fn 32 [.ref w 0 0] []),(12,.fn 33 [.ref w 0 0] []),(13,.fn 34 [.ref w 0 0] []),(14,.fn 35 [.ref w 0 0] []),(15,.fn 36 [.ref w 0 0] []),(16,.fn 37 [.ref w 0 0] [])]
section
variable {CT:Nat→Option CFun}
theorem rule_fun (h:RulT CT) (base:Nat) {A:Heap} (hb:base≤A.length) {w sm:Nat} {fv:V} {fs:List FunD} (hc:NC A w sm fv fs) {r:Nat} (h1:1≤r) (h2:r≤16):
 ∃ k H',lookI (fnT w) r=some (.fn k [.ref w 0 0] [])∧callW CT (.fn k [.ref w 0 0] []) [] base A=some (resP (firstN fs r),H')∧Ext A H':=by
 have hr:r=1∨r=2∨r=3∨r=4∨r=5∨r=6∨r=7∨r=8∨r=9∨r=10∨r=11∨r=12∨r=13∨r=14∨r=15∨r=16:=by omega
 rcases hr with rfl | rfl | rfl | rfl | rfl | rfl | rfl | rfl | rfl | rfl | rfl | rfl | rfl | rfl | rfl | rfl
 ·obtain ⟨H',e1,e2⟩:=manyFuncs_fun h.manyFuncs base hb hc
  exact ⟨_,H',rfl,callW_fst e1,e2⟩
 ·obtain ⟨H',e1,e2⟩:=badName_fun h.badName h.badName_1 h.B h.N base hb hc
  exact ⟨_,H',rfl,callW_fst e1,e2⟩
 ·obtain ⟨H',e1,e2⟩:=twiceFunc_fun h.funcs h.twiceFunc_1 h.twiceFunc base hb hc
  exact ⟨_,H',rfl,callW_fst e1,e2⟩
 ·obtain ⟨H',e1,e2⟩:=noMain_fun h.named_1 h.named h.IndexFunc_api_Func_api_Func h.noMain base hb hc
  exact ⟨_,H',rfl,callW_fst e1,e2⟩
 ·obtain ⟨H',e1,e2⟩:=manyParams_fun h.manyParams h.calls base hb hc
  exact ⟨_,H',rfl,callW_fst e1,e2⟩
 ·obtain ⟨H',e1,e2⟩:=manyBlocks_fun h.funcs h.manyBlocks_1 h.manyBlocks base hb hc
  exact ⟨_,H',rfl,callW_fst e1,e2⟩
 ·obtain ⟨H',e1,e2⟩:=twiceLabel_fun h.twiceLabel base hb hc
  exact ⟨_,H',rfl,callW_fst e1,e2⟩
 ·obtain ⟨H',e1,e2⟩:=manyCode_fun h.F h.manyCode_1 h.manyCode base hb hc
  exact ⟨_,H',rfl,callW_fst e1,e2⟩
 ·obtain ⟨H',e1,e2⟩:=badInstr_fun h.F h.calls h.badInstr_1 h.badInstr base hb hc
  exact ⟨_,H',rfl,callW_fst e1,e2⟩
 ·obtain ⟨H',e1,e2⟩:=badEnd_fun h.badEnd h.ends base hb hc
  exact ⟨_,H',rfl,callW_fst e1,e2⟩
 ·obtain ⟨H',e1,e2⟩:=badPhi_fun h.F h.badPhi_1_1 h.ContainsFunc_api_Instr_api_Instr h.IndexFunc_api_Instr_api_Instr h.badPhi_1 h.badPhi base hb hc
  exact ⟨_,H',rfl,callW_fst e1,e2⟩
 ·obtain ⟨H',e1,e2⟩:=noLabel_fun h.F h.noLabel_1_1_1 h.noLabel_1_1 h.ContainsFunc_api_Block_api_Block h.IndexFunc_api_Block_api_Block h.ContainsFunc_string_string h.IndexFunc_string_string h.noLabel_1 h.noLabel base hb hc
  exact ⟨_,H',rfl,callW_fst e1,e2⟩
 ·obtain ⟨H',e1,e2⟩:=noFunc_fun h.F h.named_1 h.named h.IndexFunc_api_Func_api_Func h.noFunc_1 h.noFunc base hb hc
  exact ⟨_,H',rfl,callW_fst e1,e2⟩
 ·obtain ⟨H',e1,e2⟩:=arity_fun h.F h.named_1 h.named h.IndexFunc_api_Func_api_Func h.arity_1 h.arity base hb hc
  exact ⟨_,H',rfl,callW_fst e1,e2⟩
 ·obtain ⟨H',e1,e2⟩:=twiceVar_fun h.twiceVar base hb hc
  exact ⟨_,H',rfl,callW_fst e1,e2⟩
 ·obtain ⟨H',e1,e2⟩:=noVar_fun h.noVar h.noVar_1 h.ContainsFunc_string_string h.IndexFunc_string_string base hb hc
  exact ⟨_,H',rfl,callW_fst e1,e2⟩
theorem fnT_none (w:Nat) {r:Nat} (h:r=0∨16 < r):lookI (fnT w) r=none:=by
 have e:∀ m:Nat,1≤m→m≤16→¬ ((r:Int)=(m:Int)):=fun m h1 h2=>by omega
 have e1:¬ ((r:Int)=1):=e 1 (by decide) (by decide)
 have e2:¬ ((r:Int)=2):=e 2 (by decide) (by decide)
 have e3:¬ ((r:Int)=3):=e 3 (by decide) (by decide)
 have e4:¬ ((r:Int)=4):=e 4 (by decide) (by decide)
 have e5:¬ ((r:Int)=5):=e 5 (by decide) (by decide)
 have e6:¬ ((r:Int)=6):=e 6 (by decide) (by decide)
 have e7:¬ ((r:Int)=7):=e 7 (by decide) (by decide)
 have e8:¬ ((r:Int)=8):=e 8 (by decide) (by decide)
 have e9:¬ ((r:Int)=9):=e 9 (by decide) (by decide)
 have e10:¬ ((r:Int)=10):=e 10 (by decide) (by decide)
 have e11:¬ ((r:Int)=11):=e 11 (by decide) (by decide)
 have e12:¬ ((r:Int)=12):=e 12 (by decide) (by decide)
 have e13:¬ ((r:Int)=13):=e 13 (by decide) (by decide)
 have e14:¬ ((r:Int)=14):=e 14 (by decide) (by decide)
 have e15:¬ ((r:Int)=15):=e 15 (by decide) (by decide)
 have e16:¬ ((r:Int)=16):=e 16 (by decide) (by decide)
 simp only [lookI,fnT,List.findIdx?_cons,List.findIdx?_nil,e1,e2,e3,e4,e5,e6,e7,e8,e9,e10,e11,e12,e13,e14,e15,e16,decide_false,Bool.false_eq_true,if_false,Option.map_none]
theorem first_fun (h:RulT CT) (hT:CT k_f12=some (.code s_f12)) (base:Nat) {A:Heap} (hb:base≤A.length) {fv:V} {fs:List FunD} (hr:RdProg A fv fs) (hs:Small fs) (r:Nat):
 ∃ H',callW CT (.fn k_f12 [] []) [.agg [fv],.s (.int .u8 r)] base A=some (resP (firstN fs r),H')∧Ext A H':=by
 have hfo:=hr.one
 obtain ⟨A1,hA1⟩:∃ A1,A ++ [Ob.cells 0 [fv]]=A1:=⟨_,rfl⟩
 have l1:A1.length=A.length+1:=by rw [← hA1,len_snoc]
 obtain ⟨A2,hA2⟩:∃ A2,A1 ++ [Ob.cells 0 [Iz 0,Iz 0,Iz 0]]=A2:=⟨_,rfl⟩
 have l2:A2.length=A.length+2:=by rw [← hA2,len_snoc,l1]
 obtain ⟨A3,hA3⟩:∃ A3,A2 ++ [Ob.map (esI .u8 shT)]=A3:=⟨_,rfl⟩
 have l3:A3.length=A.length+3:=by rw [← hA3,len_snoc,l2]
 obtain ⟨A4,hA4⟩:∃ A4,A3 ++ [Ob.cells 0 [fv,.mp (A.length+2)]]=A4:=⟨_,rfl⟩
 have l4:A4.length=A.length+4:=by rw [← hA4,len_snoc,l3]
 have e1:Ext A A1:=hA1 ▸ Ext.app _ _
 have e2:Ext A1 A2:=hA2 ▸ Ext.app _ _
 have e3:Ext A2 A3:=hA3 ▸ Ext.app _ _
 have e4:Ext A3 A4:=hA4 ▸ Ext.app _ _
 obtain ⟨w,hw⟩:∃ w,A.length+3=w:=⟨_,rfl⟩
 obtain ⟨A5,hA5⟩:∃ A5,A4 ++ [Ob.map (esI .u8 (fnT w))]=A5:=⟨_,rfl⟩
 have l5:A5.length=A.length+5:=by rw [← hA5,len_snoc,l4]
 have e5:Ext A4 A5:=hA5 ▸ Ext.app _ _
 have x1:getC A1 A.length 0=some [fv]:=hA1 ▸ getC_new A 0 _
 have x2:getC A2 (A.length+1) 0=some [Iz 0,Iz 0,Iz 0]:=by rw [← l1,← hA2];exact getC_new A1 0 _
 have x2p:=getC_load (getC_ext x1 e2)
 have ld1:xLoad A2 true 1 (.ref A.length 0 0)=some (.agg [fv]):=by rw [xo_ref,getC_ext x1 e2];rfl
 have hsh:=shapes_fun h.shapes A2.length A2 (Nat.le_refl _)
 rw [hA3,l2] at hsh
 have hc:NC A5 w (A.length+2) fv fs:=by
  refine ⟨?_,hr.ext (e1.trans (e2.trans (e3.trans (e4.trans e5)))),hs,?_⟩
  ·rw [← hw,← l3]
   exact getC_ext (by rw [← hA4];exact getC_new A3 0 _) e5
  ·refine Ext.at' (e4.trans e5) ?_
   rw [← hA3,← l2]
   simp
 have hA5':A5[A.length+4]?=some (.map (esI .u8 (fnT w))):=by rw [← hA5,← l4];simp
 have hmg:=get_I .u8 hA5' (.s .nilFunc) false (r:Int)
 rw [if_neg Bool.false_ne_true] at hmg
 have hb4:base≤A4.length:=by omega
 have e0:(Ob.map []:Ob)=.map (esI .u8 []):=rfl
 have u1:=upd_I hb4 .u8 ((fnT w).take 0) 1 (.fn 22 [.ref w 0 0] []) (by rfl)
 have u2:=upd_I hb4 .u8 ((fnT w).take 1) 2 (.fn 23 [.ref w 0 0] []) (by rfl)
 have u3:=upd_I hb4 .u8 ((fnT w).take 2) 3 (.fn 24 [.ref w 0 0] []) (by rfl)
 have u4:=upd_I hb4 .u8 ((fnT w).take 3) 4 (.fn 25 [.ref w 0 0] []) (by rfl)
 have u5:=upd_I hb4 .u8 ((fnT w).take 4) 5 (.fn 26 [.ref w 0 0] []) (by rfl)
 have u6:=upd_I hb4 .u8 ((fnT w).take 5) 6 (.fn 27 [.ref w 0 0] []) (by rfl)
 have u7:=upd_I hb4 .u8 ((fnT w).take 6) 7 (.fn 28 [.ref w 0 0] []) (by rfl)
 have u8:=upd_I hb4 .u8 ((fnT w).take 7) 8 (.fn 29 [.ref w 0 0] []) (by rfl)
 have u9:=upd_I hb4 .u8 ((fnT w).take 8) 9 (.fn 30 [.ref w 0 0] []) (by rfl)
 have u10:=upd_I hb4 .u8 ((fnT w).take 9) 10 (.fn 31 [.ref w 0 0] []) (by rfl)
 have u11:=upd_I hb4 .u8 ((fnT w).take 10) 11 (.fn 32 [.ref w 0 0] []) (by rfl)
 have u12:=upd_I hb4 .u8 ((fnT w).take 11) 12 (.fn 33 [.ref w 0 0] []) (by rfl)
 have u13:=upd_I hb4 .u8 ((fnT w).take 12) 13 (.fn 34 [.ref w 0 0] []) (by rfl)
 have u14:=upd_I hb4 .u8 ((fnT w).take 13) 14 (.fn 35 [.ref w 0 0] []) (by rfl)
 have u15:=upd_I hb4 .u8 ((fnT w).take 14) 15 (.fn 36 [.ref w 0 0] []) (by rfl)
 have u16:=upd_I hb4 .u8 ((fnT w).take 15) 16 (.fn 37 [.ref w 0 0] []) (by rfl)
 rw [show (fnT w).take 15 ++ [(16,.fn 37 [.ref w 0 0] [])]=fnT w from rfl,hA5] at u16
 simp only [fnT,List.take_succ_cons,List.take_zero,List.cons_append,List.nil_append,l4] at u1
 simp only [fnT,List.take_succ_cons,List.take_zero,List.cons_append,List.nil_append,l4] at u2
 simp only [fnT,List.take_succ_cons,List.take_zero,List.cons_append,List.nil_append,l4] at u3
 simp only [fnT,List.take_succ_cons,List.take_zero,List.cons_append,List.nil_append,l4] at u4
 simp only [fnT,List.take_succ_cons,List.take_zero,List.cons_append,List.nil_append,l4] at u5
 simp only [fnT,List.take_succ_cons,List.take_zero,List.cons_append,List.nil_append,l4] at u6
 simp only [fnT,List.take_succ_cons,List.take_zero,List.cons_append,List.nil_append,l4] at u7
 simp only [fnT,List.take_succ_cons,List.take_zero,List.cons_append,List.nil_append,l4] at u8
 simp only [fnT,List.take_succ_cons,List.take_zero,List.cons_append,List.nil_append,l4] at u9
 simp only [fnT,List.take_succ_cons,List.take_zero,List.cons_append,List.nil_append,l4] at u10
 simp only [fnT,List.take_succ_cons,List.take_zero,List.cons_append,List.nil_append,l4] at u11
 simp only [fnT,List.take_succ_cons,List.take_zero,List.cons_append,List.nil_append,l4] at u12
 simp only [fnT,List.take_succ_cons,List.take_zero,List.cons_append,List.nil_append,l4] at u13
 simp only [fnT,List.take_succ_cons,List.take_zero,List.cons_append,List.nil_append,l4] at u14
 simp only [fnT,List.take_succ_cons,List.take_zero,List.cons_append,List.nil_append,l4] at u15
 simp only [fnT,List.take_succ_cons,List.take_zero,l4] at u16
 have x5:=getC_ext x2 (e3.trans (e4.trans e5))
 have hb1:base≤A.length+1:=by omega
 have hb4':base≤A.length+4:=by omega
 have ee:Ext A A5:=e1.trans (e2.trans (e3.trans (e4.trans e5)))
 have ea:Ext A A1:=e1
 simp only [Iz] at hA2 x5
 by_cases h16:1≤r∧r≤16
 ·obtain ⟨k,H1,k1,k2,k3⟩:=rule_fun h base (A:=A5) (by omega) hc h16.1 h16.2
  rw [k1,Option.getD_some] at hmg
  have g2:=getC_ext x5 k3
  cases ho:firstN fs r with
  | none=>
    rw [ho] at k2
    have g3:=getC_put (c':=[Iz 0,Iz 0,Iz 0]) g2
    have xR:loadV (H1.set (A.length+1) (.cells 0 [Iz 0,Iz 0,Iz 0])) true 3 (.ref (A.length+1) 0 0)=some (.agg [Iz 0,Iz 0,Iz 0]):=by
     show xLoad _ true 3 _=_
     rw [xo_ref,g3];rfl
    refine ⟨H1.set (A.length+1) (.cells 0 [Iz 0,Iz 0,Iz 0]),callW_fnA (c:=s_f12) (k:=2) hT rfl (by decide) s_f12_first ?_,(ee.trans k3).set (Nat.le_succ _) _⟩
    simp only [resP,Iz,bl] at k2 g2 xR
    simp only [Iz,s_f12,a_f12,aa,bl,i64,reduceIte,reduceCtorEq,Nat.reduceEqDiff,Nat.reduceLT,Nat.reduceLeDiff,Nat.reduceBEq,Nat.reduceAdd,fillA,splice,Nat.reduceMul,amY,op_eqP,op_mapNew,op_mapUpd,xsub_mkFn,hfo,Bool.and_self,hA1,l1,hA2,l2,ld1,hsh,l3,hA4,l4,hw,hb4',hb4,e0,u1,u2,u3,u4,u5,u6,u7,u8,u9,u10,u11,u12,u13,u14,u15,u16,hmg,k2,g2,hb1]
    rw [xR]
    rfl
  | some t=>
    obtain ⟨i,b,q⟩:=t
    rw [ho] at k2
    have g3:=getC_put (c':=[Iz i,Iz b,Iz q]) g2
    have xR:loadV (H1.set (A.length+1) (.cells 0 [Iz i,Iz b,Iz q])) true 3 (.ref (A.length+1) 0 0)=some (.agg [Iz i,Iz b,Iz q]):=by
     show xLoad _ true 3 _=_
     rw [xo_ref,g3];rfl
    refine ⟨H1.set (A.length+1) (.cells 0 [Iz i,Iz b,Iz q]),callW_fnA (c:=s_f12) (k:=2) hT rfl (by decide) s_f12_first ?_,(ee.trans k3).set (Nat.le_succ _) _⟩
    simp only [resP,Iz,bl] at k2 g2 xR
    simp only [Iz,s_f12,a_f12,aa,bl,i64,reduceIte,reduceCtorEq,Nat.reduceEqDiff,Nat.reduceLT,Nat.reduceLeDiff,Nat.reduceBEq,Nat.reduceAdd,fillA,splice,Nat.reduceMul,amY,op_eqP,op_mapNew,op_mapUpd,xsub_mkFn,hfo,Bool.and_self,hA1,l1,hA2,l2,ld1,hsh,l3,hA4,l4,hw,hb4',hb4,e0,u1,u2,u3,u4,u5,u6,u7,u8,u9,u10,u11,u12,u13,u14,u15,u16,hmg,k2,g2,hb1]
    rw [xR]
    rfl
 ·have hov:r=0∨16 < r:=by omega
  rw [fnT_none w hov,Option.getD_none] at hmg
  rw [firstN_over fs hov]
  have g3:=getC_put (c':=[Iz 0,Iz 0,Iz 0]) x5
  have xR:loadV (A5.set (A.length+1) (.cells 0 [Iz 0,Iz 0,Iz 0])) true 3 (.ref (A.length+1) 0 0)=some (.agg [Iz 0,Iz 0,Iz 0]):=by
   show xLoad _ true 3 _=_
   rw [xo_ref,g3];rfl
  refine ⟨A5.set (A.length+1) (.cells 0 [Iz 0,Iz 0,Iz 0]),callW_fnA (c:=s_f12) (k:=2) hT rfl (by decide) s_f12_first ?_,ee.set (Nat.le_succ _) _⟩
  simp only [Iz] at xR
  simp only [Iz,s_f12,a_f12,aa,bl,i64,reduceIte,reduceCtorEq,Nat.reduceEqDiff,Nat.reduceLT,Nat.reduceLeDiff,Nat.reduceBEq,Nat.reduceAdd,fillA,splice,Nat.reduceMul,amY,op_eqP,op_mapNew,op_mapUpd,xsub_mkFn,hfo,Bool.and_self,hA1,l1,hA2,l2,ld1,hsh,l3,hA4,l4,hw,hb4',hb4,e0,u1,u2,u3,u4,u5,u6,u7,u8,u9,u10,u11,u12,u13,u14,u15,u16,hmg,x5,hb1]
  rw [xR]
  rfl
end
end Go.Proofs.YtamlbkalopefgaaR
set_option maxRecDepth 100000
namespace Go.Proofs.YtamlbkalopefgaaR
open Go.AM
def Checks (fs:List FunD) (r:Nat) (t:Pt):Prop:=(r=0∧t=(0,0,0)∧∀ n,firstN fs n=none)∨(1≤r∧r≤16∧firstN fs r=some t∧∀ n,n < r→firstN fs n=none)
theorem Checks.same {fs gs:List FunD} {r q:Nat} {t u:Pt} (h1:Checks fs r t) (h2:Checks gs q u) (h:∀ n,firstN gs n=firstN fs n):q=r∧u=t:=by
 rcases h1 with ⟨rfl,rfl,a⟩ | ⟨a1,a2,a3,a4⟩
 ·rcases h2 with ⟨rfl,rfl,_⟩ | ⟨b1,b2,b3,b4⟩
  ·exact ⟨rfl,rfl⟩
  ·rw [h,a] at b3;cases b3
 ·rcases h2 with ⟨rfl,rfl,b⟩ | ⟨b1,b2,b3,b4⟩
  ·have:=b r
   rw [h,a3] at this;cases this
  ·by_cases e1:q < r
   ·have:=a4 q e1
    rw [h] at b3
    rw [this] at b3;cases b3
   ·by_cases e2:r < q
    ·have:=b4 r e2
     rw [h,a3] at this;cases this
    ·obtain rfl:q=r:=by omega
     rw [h,a3] at b3
     exact ⟨rfl,(Option.some.inj b3).symm⟩
def wrV (r:Nat) (t:Pt):V:=.agg [.s (.int .u8 r),Iz t.1,Iz t.2.1,Iz t.2.2]
section
variable {CT:Nat→Option CFun}
theorem check_fun (h:RulT CT) (hF:CT k_f12=some (.code s_f12)) (hT:CT k_f11=some (.code s_f11)) (base:Nat) {A:Heap} (hb:base≤A.length) {fv:V} {fs:List FunD} (hr:RdProg A fv fs) (hs:Small fs):
 ∃ r t H',callW CT (.fn k_f11 [] []) [.agg [fv]] base A=some (wrV r t,H')∧Ext A H'∧Checks fs r t:=by
 have hfo:=hr.one
 obtain ⟨A1,hA1⟩:∃ A1,A ++ [Ob.cells 0 [fv]]=A1:=⟨_,rfl⟩
 have l1:A1.length=A.length+1:=by rw [← hA1,len_snoc]
 obtain ⟨A2,hA2⟩:∃ A2,A1 ++ [Ob.cells 0 [.s (.int .u8 0),Iz 0,Iz 0,Iz 0]]=A2:=⟨_,rfl⟩
 have l2:A2.length=A.length+2:=by rw [← hA2,len_snoc,l1]
 have e1:Ext A A1:=hA1 ▸ Ext.app _ _
 have e2:Ext A1 A2:=hA2 ▸ Ext.app _ _
 have x1:getC A1 A.length 0=some [fv]:=hA1 ▸ getC_new A 0 _
 have x2:getC A2 (A.length+1) 0=some [.s (.int .u8 0),Iz 0,Iz 0,Iz 0]:=by rw [← l1,← hA2];exact getC_new A1 0 _
 have hwr:∀ i:Nat,i < 16→IntKind.u8.wrap ((i:Int)+1+1)=((i+1:Nat):Int)+1:=fun i hi=>by
  rw [show ((i:Int)+1+1)=((i+2:Nat):Int) by omega]
  have:i+2 < 256:=by omega
  have e2:(2:Int) ^ IntKind.u8.bits=256:=by decide
  simp only [IntKind.wrap,e2]
  have e3:((i+2:Nat):Int) % 256=((i+2:Nat):Int):=by omega
  rw [e3]
  simp only [IntKind.signed,Bool.false_and,Bool.false_eq_true,if_false]
  omega
 have step:∀ i C,i < 16→Ext A2 C→∃ D,Ext A2 D∧(firstN fs (i+1)=none→itW (evC (callW CT) itW base s_f11_l0) [] A2.length (frOf 21 [(1,.ref A.length 0 0),(2,.ref (A.length+1) 0 0),(3,.s (.int .u8 ((i:Int)+1)))]) C=itW (evC (callW CT) itW base s_f11_l0) [] A2.length (frOf 21 [(1,.ref A.length 0 0),(2,.ref (A.length+1) 0 0),(3,.s (.int .u8 (((i+1:Nat):Int)+1)))]) (trim A2.length (frOf 21 [(1,.ref A.length 0 0),(2,.ref (A.length+1) 0 0),(3,.s (.int .u8 (((i+1:Nat):Int)+1)))]) D))∧(∀ t,firstN fs (i+1)=some t→itW (evC (callW CT) itW base s_f11_l0) [] A2.length (frOf 21 [(1,.ref A.length 0 0),(2,.ref (A.length+1) 0 0),(3,.s (.int .u8 ((i:Int)+1)))]) C=some (.ret,frOf 21 [(2,.ref (A.length+1) 0 0)],trim A2.length (frOf 21 [(2,.ref (A.length+1) 0 0)]) (D.set (A.length+1) (.cells 0 [.s (.int .u8 ((i:Int)+1)),Iz t.1,Iz t.2.1,Iz t.2.2])))):=by
  intro i C hi hE
  have hbC:base≤C.length:=by have:=hE.le;omega
  have ld1:xLoad C true 1 (.ref A.length 0 0)=some (.agg [fv]):=by rw [xo_ref,getC_ext x1 (e2.trans hE)];rfl
  obtain ⟨D1,c1,d1⟩:=first_fun h hF base hbC (hr.ext (e1.trans (e2.trans hE))) hs (i+1)
  have hle:(((i:Int)+1)≤16):=by omega
  have hbD:base≤D1.length:=by have:=d1.le;omega
  have hgg:∀ c,getC (D1 ++ [Ob.cells 0 c]) D1.length 0=some c:=fun c=>getC_new D1 0 c
  have hss:∀ c d,(D1 ++ [c]).set D1.length d=D1 ++ [d]:=fun c d=>set_snoc D1 c d
  have hw:=hwr i hi
  have hci:((i+1:Nat):Int)=(i:Int)+1:=by omega
  have hb1:base≤A.length+1:=by omega
  cases ho:firstN fs (i+1) with
  | none=>
    rw [ho,hci] at c1
    refine ⟨D1 ++ [Ob.cells 0 [Iz 0,Iz 0,Iz 0]],hE.trans (d1.trans (Ext.app _ _)),fun _=>?_,fun t e=>(by cases e)⟩
    rw [itW_step]
    simp only [resP,Iz,bl] at c1
    simp only [Iz,bl,a_f11,s_f11_l0_b,aa,bl,i64,reduceIte,reduceCtorEq,Nat.reduceEqDiff,Nat.reduceLT,Nat.reduceLeDiff,Nat.reduceBEq,Nat.reduceAdd,fillA,splice,Nat.reduceMul,amY,op_eqP,hle,ld1,c1,hbD,hgg,hss,hw]
  | some t=>
    obtain ⟨a,b,q⟩:=t
    rw [ho,hci] at c1
    have x2':=getC_ext x2 (hE.trans (d1.trans (Ext.app D1 [Ob.cells 0 [Iz a,Iz b,Iz q]])))
    refine ⟨D1 ++ [Ob.cells 0 [Iz a,Iz b,Iz q]],hE.trans (d1.trans (Ext.app _ _)),fun e=>(by cases e),fun t e=>?_⟩
    cases e
    rw [itW_step]
    simp only [resP,Iz,bl] at c1 x2'
    simp only [Iz,bl,a_f11,s_f11_l0_b,aa,bl,i64,reduceIte,reduceCtorEq,Nat.reduceEqDiff,Nat.reduceLT,Nat.reduceLeDiff,Nat.reduceBEq,Nat.reduceAdd,fillA,splice,Nat.reduceMul,amY,op_eqP,hle,ld1,c1,hbD,hgg,hss,x2',hb1]
 have hz:firstN fs 0=none:=firstN_over fs (.inl rfl)
 rcases it_findR 16 (fun i=>(firstN fs (i+1)).isSome) (fun C=>Ext A2 C) (fun i C=>itW (evC (callW CT) itW base s_f11_l0) [] A2.length (frOf 21 [(1,.ref A.length 0 0),(2,.ref (A.length+1) 0 0),(3,.s (.int .u8 ((i:Int)+1)))]) C) (fun i C hi hp hE=>by
  obtain ⟨D,q1,q2,_⟩:=step i C hi hE
  exact ⟨_,q2 (by cases e:firstN fs (i+1) with | none=>rfl | some t=>simp [e] at hp),q1.trim (Nat.le_refl _) _⟩) A2 (Ext.refl A2) with ⟨h1,C,h2,h3⟩ | ⟨i,C,hi,h1,h2,h3,h4⟩
 ·have hall:∀ n,firstN fs n=none:=fun n=>by
   by_cases hn:n=0∨16 < n
   ·exact firstN_over fs hn
   ·obtain ⟨m,rfl⟩:∃ m,n=m+1:=⟨n - 1,by omega⟩
    have:=h1 m (by omega)
    cases e:firstN fs (m+1) with
    | none=>rfl
    | some t=>simp [e] at this
  have x2':=getC_ext x2 h3
  have hend:itW (evC (callW CT) itW base s_f11_l0) [] A2.length (frOf 21 [(1,.ref A.length 0 0),(2,.ref (A.length+1) 0 0),(3,.s (.int .u8 (((16:Nat):Int)+1)))]) C=some (.ext 0,frOf 21 [(1,.ref A.length 0 0),(2,.ref (A.length+1) 0 0),(3,.s (.int .u8 (((16:Nat):Int)+1))),(7,bl false)],trim A2.length (frOf 21 [(1,.ref A.length 0 0),(2,.ref (A.length+1) 0 0),(3,.s (.int .u8 (((16:Nat):Int)+1))),(7,bl false)]) C):=by
   have hle:¬ ((((16:Nat):Int)+1)≤16):=by decide
   rw [itW_step]
   simp only [Iz,bl,a_f11,s_f11_l0_b,aa,bl,i64,reduceIte,reduceCtorEq,Nat.reduceEqDiff,Nat.reduceLT,Nat.reduceLeDiff,Nat.reduceBEq,Nat.reduceAdd,fillA,splice,Nat.reduceMul,amY,op_eqP,hle]
  have h5:=h2.trans hend
  obtain ⟨D,hD⟩:∃ D,trim A2.length (frOf 21 [(1,.ref A.length 0 0),(2,.ref (A.length+1) 0 0),(3,.s (.int .u8 (((16:Nat):Int)+1))),(7,bl false)]) C=D:=⟨_,rfl⟩
  have hDE:Ext A2 D:=hD ▸ h3.trim (Nat.le_refl _) _
  rw [hD] at h5
  have xD:=getC_ext x2 hDE
  have g3:=getC_put (c':=[.s (.int .u8 0),Iz 0,Iz 0,Iz 0]) xD
  have xR:loadV (D.set (A.length+1) (.cells 0 [.s (.int .u8 0),Iz 0,Iz 0,Iz 0])) true 4 (.ref (A.length+1) 0 0)=some (.agg [.s (.int .u8 0),Iz 0,Iz 0,Iz 0]):=by
   show xLoad _ true 4 _=_
   rw [xo_ref,g3];rfl
  refine ⟨0,(0,0,0),D.set (A.length+1) (.cells 0 [.s (.int .u8 0),Iz 0,Iz 0,Iz 0]),callW_fnA (c:=s_f11) (k:=1) hT rfl (by decide) s_f11_first ?_,((e1.trans e2).trans hDE).set (Nat.le_succ _) _,.inl ⟨rfl,rfl,hall⟩⟩
  have hb1:base≤A.length+1:=by omega
  simp only [Iz,bl,l2,cast0,Int.zero_add] at h5 xD xR hA2
  simp only [Iz,wrV,s_f11,a_f11,s_f11_l0_b,aa,bl,i64,reduceIte,reduceCtorEq,Nat.reduceEqDiff,Nat.reduceLT,Nat.reduceLeDiff,Nat.reduceBEq,Nat.reduceAdd,fillA,splice,Nat.reduceMul,amY,op_eqP,hfo,Bool.and_self,hA1,l1,hA2,l2,h5,xD,hb1]
  rw [xR]
  rfl
 ·obtain ⟨D,q1,_,q3⟩:=step i C hi h4
  cases ho:firstN fs (i+1) with
  | none=>simp [ho] at h1
  | some t=>
    have h5:=h3.trans (q3 t ho)
    obtain ⟨a,b,q⟩:=t
    obtain ⟨E,hE⟩:∃ E,trim A2.length (frOf 21 [(2,.ref (A.length+1) 0 0)]) (D.set (A.length+1) (.cells 0 [.s (.int .u8 ((i:Int)+1)),Iz a,Iz b,Iz q]))=E:=⟨_,rfl⟩
    rw [hE] at h5
    have xD:getC E (A.length+1) 0=some [.s (.int .u8 ((i:Int)+1)),Iz a,Iz b,Iz q]:=hE ▸ trim_get (getC_put (getC_ext x2 q1)) (by omega)
    have xR:loadV E true 4 (.ref (A.length+1) 0 0)=some (.agg [.s (.int .u8 ((i:Int)+1)),Iz a,Iz b,Iz q]):=by
     show xLoad _ true 4 _=_
     rw [xo_ref,xD];rfl
    have hEE:Ext A E:=hE ▸ (((e1.trans e2).trans q1).set (Nat.le_succ _) _).trim (by omega) _
    refine ⟨i+1,(a,b,q),E,callW_fnA (c:=s_f11) (k:=1) hT rfl (by decide) s_f11_first ?_,hEE,.inr ⟨by omega,by omega,ho,fun n hn=>?_⟩⟩
    ·have hci:((i+1:Nat):Int)=(i:Int)+1:=by omega
     simp only [Iz,bl,l2,cast0,Int.zero_add] at h5 xR hA2
     simp only [Iz,wrV,hci,s_f11,a_f11,s_f11_l0_b,aa,bl,i64,reduceIte,reduceCtorEq,Nat.reduceEqDiff,Nat.reduceLT,Nat.reduceLeDiff,Nat.reduceBEq,Nat.reduceAdd,fillA,splice,Nat.reduceMul,amY,op_eqP,hfo,Bool.and_self,hA1,l1,hA2,l2,h5]
     rw [xR]
     rfl
    ·by_cases e0:n=0
     ·subst e0;exact hz
     ·obtain ⟨m,rfl⟩:∃ m,n=m+1:=⟨n - 1,by omega⟩
      have:=h2 m (by omega)
      cases e:firstN fs (m+1) with
      | none=>rfl
      | some t=>simp [e] at this
end
end Go.Proofs.YtamlbkalopefgaaR
set_option maxRecDepth 100000
namespace Go.Proofs.YtamlbkalopefgaaR
open Go.AM
def K9_0:List Nat:=[0,1,2,3,4,5,6,7,8,9,10,11,12,13,14,15,16,17,18,19,20,21,22]
theorem s_f9_r0_kT:killV K9_0 (startV 23 [] 0)=[]:=by kernel_rfl
def R9_0:List AOper:=[
 ⟨some 0,.move (.c (.s (.bool false))),none⟩]
def T9_0:=hT R9_0 K9_0 [] 1 [] [] [.cc (.s (.bool false))]
def R9_1t8:List AOper:=[⟨none,.store 1 (.t 1) (.t 10),none⟩]
def R9_1p7:List AOper:=[⟨some 1,.alloc [(.s (.slice none 0 0))],none⟩]
def R9_1t7:List AOper:=R9_1p7 ++ R9_1t8
def R9_1p6:List AOper:=[⟨some 10,.build [(.s (.slice none 0 0))] [(0,1)] [(0,(.t 9))],none⟩]
def R9_1t6:List AOper:=R9_1p6 ++ R9_1t7
def R9_1p5:List AOper:=[⟨some 9,.buildSl 3 1 [(.s (.string ⟨#[]⟩)),(.s (.slice none 0 0)),(.s (.slice none 0 0))] [(0,(.t 8))],none⟩]
def R9_1t5:List AOper:=R9_1p5 ++ R9_1t6
def R9_1p4:List AOper:=[⟨some 8,.build [(.s (.string ⟨#[]⟩)),(.s (.slice none 0 0)),(.s (.slice none 0 0))] [(0,1),(1,1),(2,1)] [(0,(.c (.s (.string ⟨#[109,97,105,110]⟩)))),(2,(.t 7))],none⟩]
def R9_1t4:List AOper:=R9_1p4 ++ R9_1t5
def R9_1p3:List AOper:=[⟨some 7,.buildSl 2 1 [(.s (.string ⟨#[]⟩)),(.s (.slice none 0 0))] [(0,(.t 6))],none⟩]
def R9_1t3:List AOper:=R9_1p3 ++ R9_1t4
def R9_1p2:List AOper:=[⟨some 6,.build [(.s (.string ⟨#[]⟩)),(.s (.slice none 0 0))] [(0,1),(1,1)] [(0,(.c (.s (.string ⟨#[108]⟩)))),(1,(.t 5))],none⟩]
def R9_1t2:List AOper:=R9_1p2 ++ R9_1t3
def R9_1p1:List AOper:=[⟨some 5,.buildSl 8 3 [(.s (.int .u8 0)),(.s (.string ⟨#[]⟩)),(.s (.string ⟨#[]⟩)),(.s (.string ⟨#[]⟩)),(.s (.int .i64 0)),(.s (.string ⟨#[]⟩)),(.s (.slice none 0 0)),(.s (.slice none 0 0)),(.s (.int .u8 0)),(.s (.string ⟨#[]⟩)),(.s (.string ⟨#[]⟩)),(.s (.string ⟨#[]⟩)),(.s (.int .i64 0)),(.s (.string ⟨#[]⟩)),(.s (.slice none 0 0)),(.s (.slice none 0 0)),(.s (.int .u8 0)),(.s (.string ⟨#[]⟩)),(.s (.string ⟨#[]⟩)),(.s (.string ⟨#[]⟩)),(.s (.int .i64 0)),(.s (.string ⟨#[]⟩)),(.s (.slice none 0 0)),(.s (.slice none 0 0))] [(0,(.t 2)),(1,(.t 3)),(2,(.t 4))],none⟩]
def R9_1t1:List AOper:=R9_1p1 ++ R9_1t2
def R9_1p0:List AOper:=[⟨some 2,.build [(.s (.int .u8 0)),(.s (.string ⟨#[]⟩)),(.s (.string ⟨#[]⟩)),(.s (.string ⟨#[]⟩)),(.s (.int .i64 0)),(.s (.string ⟨#[]⟩)),(.s (.slice none 0 0)),(.s (.slice none 0 0))] [(0,1),(1,1),(2,1),(3,1),(4,1),(5,1),(6,1),(7,1)] [(0,(.c (.s (.int .u8 3)))),(1,(.c (.s (.string ⟨#[97]⟩))))],none⟩,⟨some 3,.build [(.s (.int .u8 0)),(.s (.string ⟨#[]⟩)),(.s (.string ⟨#[]⟩)),(.s (.string ⟨#[]⟩)),(.s (.int .i64 0)),(.s (.string ⟨#[]⟩)),(.s (.slice none 0 0)),(.s (.slice none 0 0))] [(0,1),(1,1),(2,1),(3,1),(4,1),(5,1),(6,1),(7,1)] [(0,(.c (.s (.int .u8 5)))),(1,(.c (.s (.string ⟨#[98]⟩)))),(2,(.c (.s (.string ⟨#[99]⟩))))],none⟩,⟨some 4,.build [(.s (.int .u8 0)),(.s (.string ⟨#[]⟩)),(.s (.string ⟨#[]⟩)),(.s (.string ⟨#[]⟩)),(.s (.int .i64 0)),(.s (.string ⟨#[]⟩)),(.s (.slice none 0 0)),(.s (.slice none 0 0))] [(0,1),(1,1),(2,1),(3,1),(4,1),(5,1),(6,1),(7,1)] [(0,(.c (.s (.int .u8 14))))],none⟩]
def R9_1:List AOper:=R9_1p0 ++ R9_1t1
def T9_1p0:=hT R9_1p0 [] [2,3,4] 5 [] [(2,(.op (.build [(.s (.int .u8 0)),(.s (.string ⟨#[]⟩)),(.s (.string ⟨#[]⟩)),(.s (.string ⟨#[]⟩)),(.s (.int .i64 0)),(.s (.string ⟨#[]⟩)),(.s (.slice none 0 0)),(.s (.slice none 0 0))] [(0,1),(1,1),(2,1),(3,1),(4,1),(5,1),(6,1),(7,1)] [(0,(.c (.s (.int .u8 3)))),(1,(.c (.s (.string ⟨#[97]⟩))))]) [(.c (.s (.int .u8 3))),(.c (.s (.string ⟨#[97]⟩)))])),(3,(.op (.build [(.s (.int .u8 0)),(.s (.string ⟨#[]⟩)),(.s (.string ⟨#[]⟩)),(.s (.string ⟨#[]⟩)),(.s (.int .i64 0)),(.s (.string ⟨#[]⟩)),(.s (.slice none 0 0)),(.s (.slice none 0 0))] [(0,1),(1,1),(2,1),(3,1),(4,1),(5,1),(6,1),(7,1)] [(0,(.c (.s (.int .u8 5)))),(1,(.c (.s (.string ⟨#[98]⟩)))),(2,(.c (.s (.string ⟨#[99]⟩))))]) [(.c (.s (.int .u8 5))),(.c (.s (.string ⟨#[98]⟩))),(.c (.s (.string ⟨#[99]⟩)))])),(4,(.op (.build [(.s (.int .u8 0)),(.s (.string ⟨#[]⟩)),(.s (.string ⟨#[]⟩)),(.s (.string ⟨#[]⟩)),(.s (.int .i64 0)),(.s (.string ⟨#[]⟩)),(.s (.slice none 0 0)),(.s (.slice none 0 0))] [(0,1),(1,1),(2,1),(3,1),(4,1),(5,1),(6,1),(7,1)] [(0,(.c (.s (.int .u8 14))))]) [(.c (.s (.int .u8 14)))]))] [.sub 0 [] [],.sub 1 [] [],.sub 2 [] []]
def X9_1:=hS R9_1 R9_1p0 R9_1t1 [] [2,3,4] [2,3,4,5,6,7,8,9,10]
def X9_1t1:=hO R9_1t1 R9_1p1 R9_1t2 [2,3,4] [2,3,4,5,6,7,8,9,10] [⟨some 5,.buildSl 8 3 [(.s (.int .u8 0)),(.s (.string ⟨#[]⟩)),(.s (.string ⟨#[]⟩)),(.s (.string ⟨#[]⟩)),(.s (.int .i64 0)),(.s (.string ⟨#[]⟩)),(.s (.slice none 0 0)),(.s (.slice none 0 0)),(.s (.int .u8 0)),(.s (.string ⟨#[]⟩)),(.s (.string ⟨#[]⟩)),(.s (.string ⟨#[]⟩)),(.s (.int .i64 0)),(.s (.string ⟨#[]⟩)),(.s (.slice none 0 0)),(.s (.slice none 0 0)),(.s (.int .u8 0)),(.s (.string ⟨#[]⟩)),(.s (.string ⟨#[]⟩)),(.s (.string ⟨#[]⟩)),(.s (.int .i64 0)),(.s (.string ⟨#[]⟩)),(.s (.slice none 0 0)),(.s (.slice none 0 0))] [(0,(.t 2)),(1,(.t 3)),(2,(.t 4))],none⟩]
def T9_1p2:=hT R9_1p2 [5] [6] 7 [] [(6,(.op (.build [(.s (.string ⟨#[]⟩)),(.s (.slice none 0 0))] [(0,1),(1,1)] [(0,(.c (.s (.string ⟨#[108]⟩)))),(1,(.t 1))]) [(.c (.s (.string ⟨#[108]⟩))),(.t 5)]))] [.sub 0 [] []]
def X9_1t2:=hS R9_1t2 R9_1p2 R9_1t3 [5] [6] [2,3,4,5,6,7,8,9,10]
def X9_1t3:=hO R9_1t3 R9_1p3 R9_1t4 [6] [2,3,4,5,6,7,8,9,10] [⟨some 7,.buildSl 2 1 [(.s (.string ⟨#[]⟩)),(.s (.slice none 0 0))] [(0,(.t 6))],none⟩]
def T9_1p4:=hT R9_1p4 [7] [8] 9 [] [(8,(.op (.build [(.s (.string ⟨#[]⟩)),(.s (.slice none 0 0)),(.s (.slice none 0 0))] [(0,1),(1,1),(2,1)] [(0,(.c (.s (.string ⟨#[109,97,105,110]⟩)))),(2,(.t 1))]) [(.c (.s (.string ⟨#[109,97,105,110]⟩))),(.t 7)]))] [.sub 0 [] []]
def X9_1t4:=hS R9_1t4 R9_1p4 R9_1t5 [7] [8] [2,3,4,5,6,7,8,9,10]
def X9_1t5:=hO R9_1t5 R9_1p5 R9_1t6 [8] [2,3,4,5,6,7,8,9,10] [⟨some 9,.buildSl 3 1 [(.s (.string ⟨#[]⟩)),(.s (.slice none 0 0)),(.s (.slice none 0 0))] [(0,(.t 8))],none⟩]
def T9_1p6:=hT R9_1p6 [9] [10] 11 [] [(10,(.op (.build [(.s (.slice none 0 0))] [(0,1)] [(0,(.t 0))]) [(.t 9)]))] [.sub 0 [] []]
def X9_1t6:=hS R9_1t6 R9_1p6 R9_1t7 [9] [10] [2,3,4,5,6,7,8,9,10]
def X9_1t7:=hO R9_1t7 R9_1p7 R9_1t8 [] [2,3,4,5,6,7,8,9,10] [⟨some 1,.alloc [(.s (.slice none 0 0))],none⟩]
def X9_1t8:=hX R9_1t8 [2,3,4,5,6,7,8,9,10] [⟨none,.store 1 (.t 1) (.t 10),none⟩]
def R9_2t6:List AOper:=[⟨some 21,.un .not (.t 20),some (19,true)⟩,⟨some 22,.pick (.t 19) (.t 21) (.c (.s (.bool false))),none⟩,⟨some 0,.move (.t 22),none⟩]
def R9_2p5:List AOper:=[⟨some 20,.call (.c (.fn 7 [] [])) [(.c (.s (.string ⟨#[110,117,108,108]⟩)))],some (19,true)⟩]
def R9_2t5:List AOper:=R9_2p5 ++ R9_2t6
def R9_2p4:List AOper:=[⟨some 18,.pick (.t 16) (.t 17) (.c (.s (.bool false))),none⟩,⟨some 19,.move (.t 18),none⟩]
def R9_2t4:List AOper:=R9_2p4 ++ R9_2t5
def R9_2p3:List AOper:=[⟨some 17,.call (.c (.fn 7 [] [])) [(.c (.s (.string ⟨#[97,46,49]⟩)))],some (16,true)⟩]
def R9_2t3:List AOper:=R9_2p3 ++ R9_2t4
def R9_2p2:List AOper:=[⟨some 13,.build [(.s (.int .i64 0)),(.s (.int .i64 0)),(.s (.int .i64 0))] [(0,1),(1,1),(2,1)] [(2,(.c (.s (.int .i64 1))))],none⟩,⟨some 14,.build [(.s (.int .u8 0)),(.s (.int .i64 0)),(.s (.int .i64 0)),(.s (.int .i64 0))] [(0,1),(1,3)] [(0,(.c (.s (.int .u8 16)))),(1,(.t 13))],none⟩,⟨some 15,.eqAgg false [(.int .u8),(.int .i64),(.int .i64),(.int .i64)] (.t 12) (.t 14),none⟩,⟨some 16,.move (.t 15),none⟩]
def R9_2t2:List AOper:=R9_2p2 ++ R9_2t3
def R9_2p1:List AOper:=[⟨some 12,.call (.c (.fn 11 [] [])) [(.t 11)],none⟩]
def R9_2t1:List AOper:=R9_2p1 ++ R9_2t2
def R9_2p0:List AOper:=[⟨some 11,.load true 1 (.t 1),none⟩]
def R9_2:List AOper:=R9_2p0 ++ R9_2t1
def T9_2p0:=hT R9_2p0 [1] [11] 12 [] [(11,(.op (.load true 1 (.t 0)) [(.t 1)]))] [.sub 0 [] []]
def X9_2:=hS R9_2 R9_2p0 R9_2t1 [1] [11] [1,11,12,13,14,15,16,17,18,19,20,21,22]
def X9_2t1:=hO R9_2t1 R9_2p1 R9_2t2 [11] [1,11,12,13,14,15,16,17,18,19,20,21,22] [⟨some 12,.call (.c (.fn 11 [] [])) [(.t 11)],none⟩]
def T9_2p2:=hT R9_2p2 [12,13,14,15] [16] 17 [] [(16,(.op (.eqAgg false [(.int .u8),(.int .i64),(.int .i64),(.int .i64)] (.t 0) (.t 1)) [(.t 12),(.op (.build [(.s (.int .u8 0)),(.s (.int .i64 0)),(.s (.int .i64 0)),(.s (.int .i64 0))] [(0,1),(1,3)] [(0,(.c (.s (.int .u8 16)))),(1,(.t 1))]) [(.c (.s (.int .u8 16))),(.op (.build [(.s (.int .i64 0)),(.s (.int .i64 0)),(.s (.int .i64 0))] [(0,1),(1,1),(2,1)] [(2,(.c (.s (.int .i64 1))))]) [(.c (.s (.int .i64 1)))])])]))] [.sub 0 [1,1] [],.sub 0 [1] [],.sub 0 [] [],.sub 0 [] []]
def X9_2t2:=hS R9_2t2 R9_2p2 R9_2t3 [12,13,14,15] [16] [1,11,12,13,14,15,16,17,18,19,20,21,22]
def X9_2t3:=hO R9_2t3 R9_2p3 R9_2t4 [] [1,11,12,13,14,15,16,17,18,19,20,21,22] [⟨some 17,.call (.c (.fn 7 [] [])) [(.c (.s (.string ⟨#[97,46,49]⟩)))],some (16,true)⟩]
def T9_2p4:=hT R9_2p4 [16,17,18] [19] 20 [] [(19,(.pick (.t 16) (.t 17) (.c (.s (.bool false)))))] [.sub 0 [] [],.sub 0 [] []]
def X9_2t4:=hS R9_2t4 R9_2p4 R9_2t5 [16,17,18] [19] [1,11,12,13,14,15,16,17,18,19,20,21,22]
def X9_2t5:=hO R9_2t5 R9_2p5 R9_2t6 [] [1,11,12,13,14,15,16,17,18,19,20,21,22] [⟨some 20,.call (.c (.fn 7 [] [])) [(.c (.s (.string ⟨#[110,117,108,108]⟩)))],some (19,true)⟩]
def T9_2t6:=hT R9_2t6 [1,11,12,13,14,15,16,17,18,19,20,21,22] [0] 23 [] [(0,(.pick (.t 19) (.op (.un .not (.t 0)) [(.t 20)]) (.c (.s (.bool false)))))] [.sub 0 [1] [19],.sub 0 [] [],.sub 0 [] []]
def X9_2t6:=hL R9_2t6 [1,11,12,13,14,15,16,17,18,19,20,21,22] [0]
def s_f9:ACFun:={ ntmps:=23,results:=[(.tmp 0)],body:=
 (.seq (.regionE R9_0 K9_0 [])
 (.seq (.region R9_1 [] [2,3,4,5,6,7,8,9,10])
 (.seq (.region R9_2 [] [1,11,12,13,14,15,16,17,18,19,20,21,22])
 .ret))) }
def a_f9:=ai @T9_0 (ai @s_f9_r0_kT (ai @T9_1p0 (ai @X9_1 (ai @X9_1t1 (ai @T9_1p2 (ai @X9_1t2 (ai @X9_1t3 (ai @T9_1p4 (ai @X9_1t4 (ai @X9_1t5 (ai @T9_1p6 (ai @X9_1t6 (ai @X9_1t7 (ai @X9_1t8 (ai @T9_2p0 (ai @X9_2 (ai @X9_2t1 (ai @T9_2p2 (ai @X9_2t2 (ai @X9_2t3 (ai @T9_2p4 (ai @X9_2t4 (ai @X9_2t5 (ai @T9_2t6 (@X9_2t6)))))))))))))))))))))))))
theorem NA7_9:compK Try.prog PX0 9=some (false,s_f9.ntmps,s_f9.results,s_f9.body.bare):=by kernel_rfl
end Go.Proofs.YtamlbkalopefgaaR
set_option maxRecDepth 100000
namespace Go.Proofs.YtamlbkalopefgaaR
open Go.AM
def chA:ByteArray:=⟨#[97]⟩
def chB:ByteArray:=⟨#[98]⟩
def chC:ByteArray:=⟨#[99]⟩
def chI:List InsD:=[⟨3,chA,emptyBA,emptyBA,0,emptyBA,[],[]⟩,⟨5,chB,chC,emptyBA,0,emptyBA,[],[]⟩,⟨14,emptyBA,emptyBA,emptyBA,0,emptyBA,[],[]⟩]
def chF:List FunD:=[⟨mainB,[],[⟨⟨#[108]⟩,chI⟩]⟩]
theorem chF_first:firstN chF 16=some (0,0,1)∧∀ n,n < 16→firstN chF n=none:=by
 refine ⟨by rfl,fun n hn=>?_⟩
 have h:∀ n:Fin 16,firstN chF n=none:=by decide
 exact h ⟨n,hn⟩
theorem chF_small:Small chF:=by
 refine ⟨by decide,fun f hf=>?_,fun f hf=>?_,fun f hf b hb=>?_,fun f hf b hb x hx=>?_,fun f hf b hb x hx=>?_⟩ <;> (obtain rfl:=List.mem_singleton.1 hf)
 ·decide
 ·decide
 ·obtain rfl:=List.mem_singleton.1 hb;decide
 ·obtain rfl:=List.mem_singleton.1 hb
  have:∀ x∈chI,x.xs.length < 2 ^ 20:=by decide
  exact this x hx
 ·obtain rfl:=List.mem_singleton.1 hb
  have:∀ x∈chI,x.ls.length < 2 ^ 20:=by decide
  exact this x hx
def chC3:List V:=insC ⟨3,chA,emptyBA,emptyBA,0,emptyBA,[],[]⟩ nilS nilS ++ (insC ⟨5,chB,chC,emptyBA,0,emptyBA,[],[]⟩ nilS nilS ++ insC ⟨14,emptyBA,emptyBA,emptyBA,0,emptyBA,[],[]⟩ nilS nilS)
section
variable {CT:Nat→Option CFun}
theorem checks_fun (h:RulT CT) (hF:CT k_f12=some (.code s_f12)) (hC:CT k_f11=some (.code s_f11)) (hT:CT k_f9=some (.code s_f9)) (base:Nat) {A:Heap} (hb:base≤A.length):
 ∃ H',callW CT (.fn k_f9 [] []) [] base A=some (.s (.bool true),H')∧Ext A H':=by
 obtain ⟨A1,hA1⟩:∃ A1,A ++ [Ob.cells 0 chC3]=A1:=⟨_,rfl⟩
 have l1:A1.length=A.length+1:=by rw [← hA1,len_snoc]
 obtain ⟨A2,hA2⟩:∃ A2,A1 ++ [Ob.cells 0 [Sb ⟨#[108]⟩,.sl A.length 0 0 3 8]]=A2:=⟨_,rfl⟩
 have l2:A2.length=A.length+2:=by rw [← hA2,len_snoc,l1]
 obtain ⟨A3,hA3⟩:∃ A3,A2 ++ [Ob.cells 0 [Sb mainB,nilS,.sl (A.length+1) 0 0 1 2]]=A3:=⟨_,rfl⟩
 have l3:A3.length=A.length+3:=by rw [← hA3,len_snoc,l2]
 obtain ⟨A4,hA4⟩:∃ A4,A3 ++ [Ob.cells 0 [.sl (A.length+2) 0 0 1 3]]=A4:=⟨_,rfl⟩
 have e1:Ext A A1:=hA1 ▸ Ext.app _ _
 have e2:Ext A1 A2:=hA2 ▸ Ext.app _ _
 have e3:Ext A2 A3:=hA3 ▸ Ext.app _ _
 have e4:Ext A3 A4:=hA4 ▸ Ext.app _ _
 have g1:getC A4 A.length 0=some chC3:=getC_ext (hA1 ▸ getC_new A 0 _) (e2.trans (e3.trans e4))
 have g2:getC A4 (A.length+1) 0=some [Sb ⟨#[108]⟩,.sl A.length 0 0 3 8]:=getC_ext (by rw [← l1,← hA2];exact getC_new A1 0 _) (e3.trans e4)
 have g3:getC A4 (A.length+2) 0=some [Sb mainB,nilS,.sl (A.length+1) 0 0 1 2]:=getC_ext (by rw [← l2,← hA3];exact getC_new A2 0 _) e4
 have g4:getC A4 (A.length+3) 0=some [.sl (A.length+2) 0 0 1 3]:=by rw [← l3,← hA4];exact getC_new A3 0 _
 have hI:RdL 8 RdIns A4 (.sl A.length 0 0 3 8) chI:=by
  refine ⟨chI.map fun x=>insC x nilS nilS,RdW.sl (R:=chI.map fun x=>insC x nilS nilS) (by rw [g1];rfl) (fun r hr=>by obtain ⟨x,_,rfl⟩:=List.mem_map.1 hr;rfl),rfl,by decide,fun i x hx=>⟨insC x nilS nilS,by rw [List.getElem?_map,hx];rfl,nilS,nilS,rfl,?_,trivial,?_,trivial,?_⟩⟩
  ·have:∀ x∈chI,x.xs=[]:=by decide
   rw [this x (List.mem_of_getElem? hx)]
   exact Rd.nil A4
  ·have:∀ x∈chI,x.ls=[]:=by decide
   rw [this x (List.mem_of_getElem? hx)]
   exact Rd.nil A4
  ·have:∀ x∈chI,x.xs.length < 2 ^ 63∧x.ls.length < 2 ^ 63:=by decide
   exact this x (List.mem_of_getElem? hx)
 have hB:RdL 2 RdBlk A4 (.sl (A.length+1) 0 0 1 2) [⟨⟨#[108]⟩,chI⟩]:=
  ⟨[[Sb ⟨#[108]⟩,.sl A.length 0 0 3 8]],RdW.sl (R:=[[Sb ⟨#[108]⟩,.sl A.length 0 0 3 8]]) (by rw [g2];rfl) (fun r hr=>by rw [List.mem_singleton.1 hr];rfl),rfl,by decide,fun i x hx=>by
   cases i with
   | zero=>cases hx;exact ⟨_,rfl,_,rfl,hI⟩
   | succ i=>simp at hx⟩
 have hP:RdProg A4 (.sl (A.length+2) 0 0 1 3) chF:=
  ⟨[[Sb mainB,nilS,.sl (A.length+1) 0 0 1 2]],RdW.sl (R:=[[Sb mainB,nilS,.sl (A.length+1) 0 0 1 2]]) (by rw [g3];rfl) (fun r hr=>by rw [List.mem_singleton.1 hr];rfl),rfl,by decide,fun i x hx=>by
   cases i with
   | zero=>cases hx;exact ⟨_,rfl,_,_,rfl,Rd.nil A4,trivial,by decide,hB⟩
   | succ i=>exact absurd hx (by simp [chF])⟩
 obtain ⟨r,t,H1,c1,d1,w1⟩:=check_fun h hF hC base (A:=A4) (by have:=(e1.trans (e2.trans (e3.trans e4))).le;omega) hP chF_small
 have hrt:r=16∧t=(0,0,1):=by
  rcases w1 with ⟨_,_,a⟩ | ⟨a1,a2,a3,a4⟩
  ·have:=chF_first.1
   rw [a 16] at this
   cases this
  ·have h16:¬ r < 16:=fun hlt=>by rw [chF_first.2 r hlt] at a3;cases a3
   obtain rfl:r=16:=by omega
   rw [chF_first.1] at a3
   exact ⟨rfl,(Option.some.inj a3).symm⟩
 obtain ⟨rfl,rfl⟩:=hrt
 have i1:=is_fun CT h.B.is' ⟨#[97,46,49]⟩ base H1
 have i2:=is_fun CT h.B.is' ⟨#[110,117,108,108]⟩ base H1
 rw [show isName ⟨#[97,46,49]⟩=true from by decide] at i1
 rw [show isName ⟨#[110,117,108,108]⟩=false from by decide] at i2
 have hl4:getC (A3 ++ [Ob.cells 0 [nilS]]) (A.length+3) 0=some [nilS]:=by rw [← l3];exact getC_new A3 0 _
 have hs4:∀ d,(A3 ++ [Ob.cells 0 [nilS]]).set (A.length+3) d=A3 ++ [d]:=fun d=>by rw [← l3];exact set_snoc A3 _ d
 have hb3:base≤A.length+3:=by omega
 have ld:xLoad A4 true 1 (.ref (A.length+3) 0 0)=some (.agg [.sl (A.length+2) 0 0 1 3]):=by rw [xo_ref,g4];rfl
 have hq:eqLeaves [Leaf.int .u8,Leaf.int .i64,Leaf.int .i64,Leaf.int .i64] [V.s (.int .u8 16),V.s (.int .i64 0),V.s (.int .i64 0),V.s (.int .i64 1)] [V.s (.int .u8 16),V.s (.int .i64 0),V.s (.int .i64 0),V.s (.int .i64 1)]=some true:=by decide
 refine ⟨H1,callW_fn (c:=s_f9) hT (by simp [s_f9]) ?_,(e1.trans (e2.trans (e3.trans e4))).trans d1⟩
 have z16:((16:Nat):Int)=16:=rfl
 have z0:((0:Nat):Int)=0:=rfl
 have z1:((1:Nat):Int)=1:=rfl
 simp only [wrV,bl,Iz,z16,z0,z1] at c1 i1 i2
 simp only [chC3,insC,Sb,Iz,nilS,chA,chB,chC,emptyBA,mainB,List.cons_append,List.nil_append] at hA1 hA2 hA3 hA4 hl4 hs4
 simp only [Iz,Sb,bl,nilS,s_f9,a_f9,aa,bl,i64,reduceIte,reduceCtorEq,Nat.reduceEqDiff,Nat.reduceLT,Nat.reduceLeDiff,Nat.reduceBEq,Nat.reduceAdd,fillA,splice,Nat.reduceMul,amY,op_eqP,hA1,l1,hA2,l2,hA3,l3,hl4,hs4,hb3,hA4,ld,c1,hq,i1,i2]
end
end Go.Proofs.YtamlbkalopefgaaR
set_option maxRecDepth 100000
namespace Go.Proofs.YtamlbkalopefgaaR
open Go.AM
theorem it_scan {S T:Type} (n:Nat) (P:Nat→S→Prop) (Q:Nat→Prop) (X:Nat→S→T) (R:T→Prop) (step:∀ i s,i < n→P i s→(Q i∧∃ s',X i s=X (i+1) s'∧P (i+1) s')∨R (X i s)):∀ s,P 0 s→((∀ i,i < n→Q i)∧∃ s',X 0 s=X n s'∧P n s')∨R (X 0 s):=by
 have key:∀ d i s,i+d=n→P i s→(∀ j,j < i→Q j)→((∀ j,j < n→Q j)∧∃ s',X i s=X n s'∧P n s')∨R (X i s):=by
  intro d
  induction d with
  | zero=>
    intro i s hi hp hq
    obtain rfl:i=n:=by omega
    exact .inl ⟨hq,s,rfl,hp⟩
  | succ d ih=>
    intro i s hi hp hq
    rcases step i s (by omega) hp with ⟨h1,s1,h2,h3⟩ | h
    ·rw [h2]
     exact ih (i+1) s1 (by omega) h3 fun j hj=>by
      by_cases e:j=i
      ·rw [e];exact h1
      ·exact hq j (by omega)
    ·exact .inr h
 exact fun s hp=>key n 0 s (by omega) hp fun j hj=>absurd hj (Nat.not_lt_zero _)
def bigS (s:ByteArray):Bool:=decide ((s.size:Int) > 200)
def InsL (x:InsD):Prop:=x.d.size≤200∧x.a.size≤200∧x.b.size≤200∧x.f.size≤200∧x.xs.length≤20∧x.ls.length≤20∧(∀ s∈x.xs,s.size≤200)∧∀ s∈x.ls,s.size≤200
def BlkL (b:BlkD):Prop:=b.label.size≤200∧b.code.length≤200∧∀ x∈b.code,InsL x
def FunL (f:FunD):Prop:=f.name.size≤200∧f.ps.length≤20∧(∀ s∈f.ps,s.size≤200)∧f.blocks.length≤70∧∀ b∈f.blocks,BlkL b
structure Light (fs:List FunD):Prop where
 n:fs.length≤70
 f:∀ f∈fs,FunL f
 c:cF fs≤200
theorem Light.small {fs:List FunD} (h:Light fs):Small fs:=by
 refine ⟨by have:=h.n;omega,fun f hf=>?_,fun f hf=>?_,fun f hf b hb=>?_,fun f hf b hb x hx=>?_,fun f hf b hb x hx=>?_⟩
 ·have:=(h.f f hf).2.1;omega
 ·have:=(h.f f hf).2.2.2.1;omega
 ·have:=((h.f f hf).2.2.2.2 b hb).2.1;omega
 ·have:=(((h.f f hf).2.2.2.2 b hb).2.2 x hx).2.2.2.2.1;omega
 ·have:=(((h.f f hf).2.2.2.2 b hb).2.2 x hx).2.2.2.2.2.1;omega
theorem all_getD {α:Type} {l:List α} {d:α} {P:α→Prop} (h:∀ i,i < l.length→P (l.getD i d)):∀ x∈l,P x:=by
 intro x hx
 obtain ⟨i,hi⟩:=List.mem_iff_getElem?.1 hx
 have:=h i (List.getElem?_eq_some_iff.1 hi).1
 rwa [getD_some hi] at this
theorem bigS_no {l:List ByteArray} (h:l.any bigS=false):∀ s∈l,s.size≤200:=by
 intro s hs
 have:=List.any_eq_false.1 h s hs
 unfold bigS at this
 rw [decide_eq_true_iff] at this
 omega
section
variable {CT:Nat→Option CFun}
theorem long_fun (hT:CT k_f20=some (.code s_f20)) (base:Nat) (A:Heap) {v:V} {l:List ByteArray} (hv:Rd A v (l.map Sb)) (hw:Wide1 v) (hl:l.length < 2 ^ 63):
 callW CT (.fn k_f20 [] []) [v] base A=some (bl (l.any bigS),A):=by
 have hlen:=Sb_len hv
 have step:∀ i,i < l.length→bigS (l.getD i ⟨#[]⟩)=false→itW (evC (callW CT) itW base s_f20_l0) [] A.length (frOf 16 [(0,v),(3,Iz i)]) A=itW (evC (callW CT) itW base s_f20_l0) [] A.length (frOf 16 [(0,v),(3,Iz (i+1:Nat))]) A:=by
  intro i hi hp
  have hlt':((i:Int) < (l.length:Int)):=by omega
  have hwk:IntKind.i64.wrap ((i:Int)+1)=((i+1:Nat):Int):=by rw [IntKind.wrap_i64];omega
  obtain ⟨a,a1,a2⟩:=Sb_at hv hw hi
  unfold bigS at hp
  rw [itW_step]
  simp only [Iz,Sb,a_f20,s_f20_l0_b,aa,bl,i64,reduceIte,reduceCtorEq,Nat.reduceEqDiff,Nat.reduceLT,Nat.reduceLeDiff,Nat.reduceBEq,Nat.reduceAdd,fillA,splice,Nat.reduceMul,amY,op_eqP,hlen,hlt',a1,a2,hp,hwk,trim_same rfl]
 refine callW_fn (c:=s_f20) hT (by simp [s_f20]) ?_
 rcases it_find l.length (fun i=>bigS (l.getD i ⟨#[]⟩)) (fun i=>itW (evC (callW CT) itW base s_f20_l0) [] A.length (frOf 16 [(0,v),(3,Iz i)]) A) step with ⟨h1,h2⟩ | ⟨i,hi,h1,h2,h3⟩
 ·have hall:l.any bigS=false:=by
   rw [List.any_eq_false]
   intro x hx
   have:=all_getD (P:=fun s=>bigS s=false) h1 x hx
   rw [this];decide
  rw [hall]
  have hend:itW (evC (callW CT) itW base s_f20_l0) [] A.length (frOf 16 [(0,v),(3,Iz l.length)]) A=some (.ext 0,frOf 16 [(0,v),(3,Iz l.length),(7,bl false)],A):=by
   rw [itW_step]
   simp only [Iz,Sb,bl,a_f20,s_f20_l0_b,aa,bl,i64,reduceIte,reduceCtorEq,Nat.reduceEqDiff,Nat.reduceLT,Nat.reduceLeDiff,Nat.reduceBEq,Nat.reduceAdd,fillA,splice,Nat.reduceMul,amY,op_eqP,hlen,Int.lt_irrefl,trim_same rfl]
  have h4:=h2.trans hend
  simp only [Iz,Sb,bl,cast0] at h4
  simp only [Iz,Sb,s_f20,a_f20,s_f20_l0_b,aa,bl,i64,reduceIte,reduceCtorEq,Nat.reduceEqDiff,Nat.reduceLT,Nat.reduceLeDiff,Nat.reduceBEq,Nat.reduceAdd,fillA,splice,Nat.reduceMul,amY,op_eqP,h4]
 ·have hany:l.any bigS=true:=List.any_eq_true.2 ⟨_,List.mem_of_getElem? (some_getD hi ⟨#[]⟩),h1⟩
  rw [hany]
  have hlt':((i:Int) < (l.length:Int)):=by omega
  obtain ⟨a,a1,a2⟩:=Sb_at hv hw hi
  have hend:itW (evC (callW CT) itW base s_f20_l0) [] A.length (frOf 16 [(0,v),(3,Iz i)]) A=some (.ret,frOf 16 [(2,bl true)],A):=by
   unfold bigS at h1
   rw [itW_step]
   simp only [Iz,Sb,bl,a_f20,s_f20_l0_b,aa,bl,i64,reduceIte,reduceCtorEq,Nat.reduceEqDiff,Nat.reduceLT,Nat.reduceLeDiff,Nat.reduceBEq,Nat.reduceAdd,fillA,splice,Nat.reduceMul,amY,op_eqP,hlen,hlt',a1,a2,h1,trim_same rfl]
  have h4:=h3.trans hend
  simp only [Iz,Sb,bl,cast0] at h4
  simp only [Iz,Sb,s_f20,a_f20,s_f20_l0_b,aa,bl,i64,reduceIte,reduceCtorEq,Nat.reduceEqDiff,Nat.reduceLT,Nat.reduceLeDiff,Nat.reduceBEq,Nat.reduceAdd,fillA,splice,Nat.reduceMul,amY,op_eqP,h4]
def Hv (A:Heap) (r:Option (Ex × List V × Heap)):Prop:=∃ D,r=some (.ret,frOf 133 [(2,bl true)],D)∧Ext A D
theorem hv_l0 (hL:CT k_f20=some (.code s_f20)) (base:Nat) {A A1:Heap} (h1:Ext A A1) (hb:base≤A1.length) {p q i b:Nat} {n3:Int} {cv:V} {l:List InsD} (hv:RdL 8 RdIns A cv l) (hn:l.length < 2 ^ 62) {L:Nat} (hL1:A1.length≤L):
 ∀ C,Ext A1 C→((∀ x∈l,InsL x)∧∃ C',itW (evC (callW CT) itW base s_f10_l0) [] L (frOf 133 [(1,.ref p 0 0),(3,Iz n3),(4,Iz i),(5,.ref q 0 0),(6,Iz b),(7,cv),(8,Iz 0)]) C=some (.ext 4,frOf 133 [(1,.ref p 0 0),(3,Iz n3),(4,Iz i),(5,.ref q 0 0),(6,Iz b),(7,cv),(8,Iz l.length),(82,bl false)],C')∧Ext A1 C')∨Hv A1 (itW (evC (callW CT) itW base s_f10_l0) [] L (frOf 133 [(1,.ref p 0 0),(3,Iz n3),(4,Iz i),(5,.ref q 0 0),(6,Iz b),(7,cv),(8,Iz 0)]) C):=by
 intro C0 hC0
 rcases it_scan l.length (fun _ C=>Ext A1 C) (fun k=>InsL (l.getD k ins0)) (fun k C=>itW (evC (callW CT) itW base s_f10_l0) [] L (frOf 133 [(1,.ref p 0 0),(3,Iz n3),(4,Iz i),(5,.ref q 0 0),(6,Iz b),(7,cv),(8,Iz k)]) C) (Hv A1) (by
  intro k C hk hE
  have hlt':((k:Int) < (l.length:Int)):=by omega
  have hwk:=w64 (n:=k) (by omega)
  have hkx:=some_getD hk ins0
  obtain ⟨x,hxe⟩:∃ x,l.getD k ins0=x:=⟨_,rfl⟩
  rw [hxe] at hkx ⊢
  obtain ⟨a,r,a1,hr,a2,_⟩:=hv.at2 hkx
  have hEA:=h1.trans hE
  have ld:=a2 C hEA
  have hbC:base≤C.length:=by have:=hE.le;omega
  have hcl:=(rdI_ext hv hEA).len
  obtain ⟨av,lv,rfl,q1,q2,q3,q4,q5,q6⟩:=hr
  have hav:=q1.one
  have hlv:=q3.one
  obtain ⟨D,hD⟩:∃ D,C ++ [Ob.cells 0 (insC x av lv)]=D:=⟨_,rfl⟩
  have eD:Ext C D:=hD ▸ Ext.app _ _
  have hgg:getC D C.length 0=some (insC x av lv):=hD ▸ getC_new C 0 _
  have hgg':∀ c,getC (C ++ [Ob.cells 0 c]) C.length 0=some c:=fun c=>getC_new C 0 c
  have hss:∀ c d,(C ++ [c]).set C.length d=C ++ [d]:=fun c d=>set_snoc C c d
  have hxl:=Sb_len (q1.ext (hEA.trans eD))
  have hll:=Sb_len (q3.ext (hEA.trans eD))
  have hca:=long_fun hL base D (q1.ext (hEA.trans eD)) q2 q5
  have hcb:=long_fun hL base D (q3.ext (hEA.trans eD)) q4 q6
  have eE:Ext A1 D:=hE.trans eD
  simp only [insC,Iz,bl] at ld hD hgg hca hcb
  cases g1:(((((decide ((x.d.size:Int) > 200) || decide ((x.a.size:Int) > 200)) || decide ((x.b.size:Int) > 200)) || decide ((x.f.size:Int) > 200)) || decide ((x.xs.length:Int) > 20)) || decide ((x.ls.length:Int) > 20)) with
  | true=>
    refine .inr ⟨trim L (frOf 133 [(2,bl true)]) D,?_,eE.trim hL1 _⟩
    rw [itW_step]
    simp only [insC,Iz,bl,a_f10,s_f10_l0_b,s_f10_l1_b,s_f10_l2_b,aa,bl,i64,reduceIte,reduceCtorEq,Nat.reduceEqDiff,Nat.reduceLT,Nat.reduceLeDiff,Nat.reduceBEq,Nat.reduceAdd,fillA,splice,Nat.reduceMul,amY,op_eqP,hcl,hlt',a1,ld,hbC,hD,hgg,hgg',hss,hav,hlv,Bool.and_self,hxl,hll,g1]
  | false=>
    cases g2:x.xs.any bigS with
    | true=>
      rw [g2] at hca
      refine .inr ⟨trim L (frOf 133 [(2,bl true)]) D,?_,eE.trim hL1 _⟩
      rw [itW_step]
      simp only [insC,Iz,bl,a_f10,s_f10_l0_b,s_f10_l1_b,s_f10_l2_b,aa,bl,i64,reduceIte,reduceCtorEq,Nat.reduceEqDiff,Nat.reduceLT,Nat.reduceLeDiff,Nat.reduceBEq,Nat.reduceAdd,fillA,splice,Nat.reduceMul,amY,op_eqP,hcl,hlt',a1,ld,hbC,hD,hgg,hgg',hss,hav,hlv,Bool.and_self,hxl,hll,g1,hca]
    | false=>
      rw [g2] at hca
      cases g3:x.ls.any bigS with
      | true=>
        rw [g3] at hcb
        refine .inr ⟨trim L (frOf 133 [(2,bl true)]) D,?_,eE.trim hL1 _⟩
        rw [itW_step]
        simp only [insC,Iz,bl,a_f10,s_f10_l0_b,s_f10_l1_b,s_f10_l2_b,aa,bl,i64,reduceIte,reduceCtorEq,Nat.reduceEqDiff,Nat.reduceLT,Nat.reduceLeDiff,Nat.reduceBEq,Nat.reduceAdd,fillA,splice,Nat.reduceMul,amY,op_eqP,hcl,hlt',a1,ld,hbC,hD,hgg,hgg',hss,hav,hlv,Bool.and_self,hxl,hll,g1,hca,hcb]
      | false=>
        rw [g3] at hcb
        refine .inl ⟨?_,trim L (frOf 133 [(1,.ref p 0 0),(3,Iz n3),(4,Iz i),(5,.ref q 0 0),(6,Iz b),(7,cv),(8,Iz (k+1:Nat))]) D,?_,eE.trim hL1 _⟩
        ·simp only [Bool.or_eq_false_iff,decide_eq_false_iff_not] at g1
         obtain ⟨⟨⟨⟨⟨w1,w2⟩,w3⟩,w4⟩,w5⟩,w6⟩:=g1
         exact ⟨by omega,by omega,by omega,by omega,by omega,by omega,bigS_no g2,bigS_no g3⟩
        ·rw [itW_step]
         simp only [insC,Iz,bl,a_f10,s_f10_l0_b,s_f10_l1_b,s_f10_l2_b,aa,bl,i64,reduceIte,reduceCtorEq,Nat.reduceEqDiff,Nat.reduceLT,Nat.reduceLeDiff,Nat.reduceBEq,Nat.reduceAdd,fillA,splice,Nat.reduceMul,amY,op_eqP,hcl,hlt',a1,ld,hbC,hD,hgg,hgg',hss,hav,hlv,Bool.and_self,hxl,hll,g1,hca,hcb,hwk]) C0 hC0 with ⟨e1,C,e2,e3⟩ | e
 ·refine .inl ⟨all_getD e1,trim L (frOf 133 [(1,.ref p 0 0),(3,Iz n3),(4,Iz i),(5,.ref q 0 0),(6,Iz b),(7,cv),(8,Iz l.length),(82,bl false)]) C,?_,e3.trim hL1 _⟩
  rw [cast0] at e2
  refine e2.trans ?_
  have hcl:=(rdI_ext hv (h1.trans e3)).len
  rw [itW_step]
  simp only [Iz,bl,a_f10,s_f10_l0_b,s_f10_l1_b,s_f10_l2_b,aa,bl,i64,reduceIte,reduceCtorEq,Nat.reduceEqDiff,Nat.reduceLT,Nat.reduceLeDiff,Nat.reduceBEq,Nat.reduceAdd,fillA,splice,Nat.reduceMul,amY,op_eqP,hcl,Int.lt_irrefl]
 ·rw [cast0] at e
  exact .inr e
theorem hv_l1 (hL:CT k_f20=some (.code s_f20)) (base:Nat) {A A1:Heap} (h1:Ext A A1) (hb:base≤A1.length) {p q i:Nat} {nm:ByteArray} {pv bv:V} (hq:getC A1 q 0=some [Sb nm,pv,bv]) {l:List BlkD} (hv:RdL 2 RdBlk A bv l) (hn:l.length < 2 ^ 20) {L:Nat} (hL1:A1.length≤L) {n0:Nat} (hn0:n0≤200):
 ∀ C,Ext A1 C→(((∀ x∈l,BlkL x)∧n0+cI l≤200)∧∃ C',itW (evC (callW CT) itW base s_f10_l1) [] L (frOf 133 [(1,.ref p 0 0),(3,Iz n0),(4,Iz i),(5,.ref q 0 0),(6,Iz 0)]) C=some (.ext 2,frOf 133 [(1,.ref p 0 0),(3,Iz (n0+cI l:Nat)),(4,Iz i),(5,.ref q 0 0),(6,Iz l.length),(51,bl false)],C')∧Ext A1 C')∨Hv A1 (itW (evC (callW CT) itW base s_f10_l1) [] L (frOf 133 [(1,.ref p 0 0),(3,Iz n0),(4,Iz i),(5,.ref q 0 0),(6,Iz 0)]) C):=by
 intro C0 hC0
 rcases it_scan l.length (fun k (s:Heap)=>Ext A1 s∧n0+cI (l.take k)≤200) (fun k=>BlkL (l.getD k blk0)) (fun k (s:Heap)=>itW (evC (callW CT) itW base s_f10_l1) [] L (frOf 133 [(1,.ref p 0 0),(3,Iz (n0+cI (l.take k):Nat)),(4,Iz i),(5,.ref q 0 0),(6,Iz k)]) s) (Hv A1) (by
  intro k C hk ⟨hE,hsum⟩
  have hlt':((k:Int) < (l.length:Int)):=by omega
  have hwk:=w64 (n:=k) (by omega)
  have hkx:=some_getD hk blk0
  obtain ⟨x,hxe⟩:∃ x,l.getD k blk0=x:=⟨_,rfl⟩
  rw [hxe] at hkx ⊢
  have hct:=cI_take hkx
  obtain ⟨m,hm⟩:∃ m,n0+cI (l.take k)=m:=⟨_,rfl⟩
  have hm2:n0+cI (l.take (k+1))=m+x.code.length:=by omega
  rw [hm] at hsum
  rw [hm,hm2]
  obtain ⟨a,r,a1,hr,_,a3⟩:=hv.at2 hkx
  have hEA:=h1.trans hE
  have hbC:base≤C.length:=by have:=hE.le;omega
  have hgq:=getC_ext hq hE
  have hbl:=(rdB_ext hv hEA).len
  obtain ⟨cv,rfl,hcv⟩:=hr
  obtain ⟨b0,b1,b2⟩:=a3 0 _ rfl
  obtain ⟨c0,c1,c2⟩:=a3 1 _ rfl
  have b2':=b2 C hEA
  have c2':=c2 C hEA
  have hcl:=(rdI_ext hcv hEA).len
  have hw2:IntKind.i64.wrap (200 - (m:Int))=200 - (m:Int):=by rw [IntKind.wrap_i64];omega
  simp only [Iz,Sb] at hgq b2'
  cases g1:(decide ((x.code.length:Int) > 200 - (m:Int)) || decide ((x.label.size:Int) > 200)) with
  | true=>
    refine .inr ⟨trim L (frOf 133 [(2,bl true)]) C,?_,hE.trim hL1 _⟩
    rw [itW_step]
    simp only [Iz,bl,a_f10,s_f10_l0_b,s_f10_l1_b,s_f10_l2_b,aa,bl,i64,reduceIte,reduceCtorEq,Nat.reduceEqDiff,Nat.reduceLT,Nat.reduceLeDiff,Nat.reduceBEq,Nat.reduceAdd,fillA,splice,Nat.reduceMul,amY,op_eqP,hgq,hbl,hlt',a1,b1,b2',c1,c2',hcl,hw2,g1]
  | false=>
    simp only [Bool.or_eq_false_iff,decide_eq_false_iff_not] at g1
    have g1':(decide ((x.code.length:Int) > 200 - (m:Int)) || decide ((x.label.size:Int) > 200))=false:=by simp only [Bool.or_eq_false_iff,decide_eq_false_iff_not];exact g1
    have hw3:IntKind.i64.wrap ((m:Int)+(x.code.length:Int))=((m+x.code.length:Nat):Int):=by rw [IntKind.wrap_i64];omega
    rcases hv_l0 hL base hEA hbC (p:=p) (q:=q) (i:=i) (b:=k) (n3:=(m+x.code.length:Nat)) hcv (by omega) (Nat.le_refl C.length) C (Ext.refl C) with ⟨z1,D,z2,z3⟩ | ⟨D,z2,z3⟩
    ·refine .inl ⟨⟨by omega,by omega,z1⟩,trim L (frOf 133 [(1,.ref p 0 0),(3,Iz (m+x.code.length:Nat)),(4,Iz i),(5,.ref q 0 0),(6,Iz (k+1:Nat))]) D,?_,(hE.trans z3).trim hL1 _,by omega⟩
     rw [itW_step]
     simp only [Iz,bl] at z2
     simp only [Iz,bl,a_f10,s_f10_l0_b,s_f10_l1_b,s_f10_l2_b,aa,bl,i64,reduceIte,reduceCtorEq,Nat.reduceEqDiff,Nat.reduceLT,Nat.reduceLeDiff,Nat.reduceBEq,Nat.reduceAdd,fillA,splice,Nat.reduceMul,amY,op_eqP,hgq,hbl,hlt',a1,b1,b2',c1,c2',hcl,hw2,hw3,g1',z2,hwk]
    ·refine .inr ⟨trim L (frOf 133 [(2,bl true)]) D,?_,(hE.trans z3).trim hL1 _⟩
     rw [itW_step]
     simp only [Iz,bl] at z2
     simp only [Iz,bl,a_f10,s_f10_l0_b,s_f10_l1_b,s_f10_l2_b,aa,bl,i64,reduceIte,reduceCtorEq,Nat.reduceEqDiff,Nat.reduceLT,Nat.reduceLeDiff,Nat.reduceBEq,Nat.reduceAdd,fillA,splice,Nat.reduceMul,amY,op_eqP,hgq,hbl,hlt',a1,b1,b2',c1,c2',hcl,hw2,hw3,g1',z2]) C0 ⟨hC0,by rw [List.take_zero];exact hn0⟩ with ⟨e1,C,e2,e3,e4⟩ | e
 ·rw [List.take_length] at e2 e4
  refine .inl ⟨⟨all_getD e1,e4⟩,trim L (frOf 133 [(1,.ref p 0 0),(3,Iz (n0+cI l:Nat)),(4,Iz i),(5,.ref q 0 0),(6,Iz l.length),(51,bl false)]) C,?_,e3.trim hL1 _⟩
  rw [cast0,List.take_zero,show n0+cI []=n0 from rfl] at e2
  refine e2.trans ?_
  have hcl:=(rdB_ext hv (h1.trans e3)).len
  have hgq:=getC_ext hq e3
  rw [itW_step]
  simp only [Iz,bl,Sb] at hgq
  simp only [Iz,bl,a_f10,s_f10_l0_b,s_f10_l1_b,s_f10_l2_b,aa,bl,i64,reduceIte,reduceCtorEq,Nat.reduceEqDiff,Nat.reduceLT,Nat.reduceLeDiff,Nat.reduceBEq,Nat.reduceAdd,fillA,splice,Nat.reduceMul,amY,op_eqP,hgq,hcl,Int.lt_irrefl]
 ·rw [cast0,List.take_zero,show n0+cI []=n0 from rfl] at e
  exact .inr e
theorem hv_l2 (hL:CT k_f20=some (.code s_f20)) (base:Nat) {A A1:Heap} (h1:Ext A A1) (hb:base≤A1.length) {p:Nat} {fv:V} (hp:getC A1 p 0=some [fv]) {l:List FunD} (hv:RdL 3 RdFun A fv l) (hn:l.length≤70) {L:Nat} (hL1:A1.length≤L):
 ∀ C,Ext A1 C→(((∀ x∈l,FunL x)∧cF l≤200)∧∃ C',itW (evC (callW CT) itW base s_f10_l2) [] L (frOf 133 [(1,.ref p 0 0),(3,Iz 0),(4,Iz 0)]) C=some (.ext 0,frOf 133 [(1,.ref p 0 0),(3,Iz (cF l:Nat)),(4,Iz l.length),(18,bl false)],C')∧Ext A1 C')∨Hv A1 (itW (evC (callW CT) itW base s_f10_l2) [] L (frOf 133 [(1,.ref p 0 0),(3,Iz 0),(4,Iz 0)]) C):=by
 intro C0 hC0
 rcases it_scan l.length (fun k (s:Heap)=>Ext A1 s∧cF (l.take k)≤200) (fun k=>FunL (l.getD k fun0)) (fun k (s:Heap)=>itW (evC (callW CT) itW base s_f10_l2) [] L (frOf 133 [(1,.ref p 0 0),(3,Iz (cF (l.take k):Nat)),(4,Iz k)]) s) (Hv A1) (by
  intro k C hk ⟨hE,hsum⟩
  have hlt':((k:Int) < (l.length:Int)):=by omega
  have hwk:=w64 (n:=k) (by omega)
  have hkx:=some_getD hk fun0
  obtain ⟨x,hxe⟩:∃ x,l.getD k fun0=x:=⟨_,rfl⟩
  rw [hxe] at hkx ⊢
  have hct:=cF_take hkx
  obtain ⟨m,hm⟩:∃ m,cF (l.take k)=m:=⟨_,rfl⟩
  have hm2:cF (l.take (k+1))=m+cI x.blocks:=by omega
  rw [hm] at hsum
  rw [hm,hm2]
  obtain ⟨a,r,a1,hr,a2,_⟩:=hv.at2 hkx
  have hEA:=h1.trans hE
  have ld:=a2 C hEA
  have hbC:base≤C.length:=by have:=hE.le;omega
  have hgp:=getC_ext hp hE
  have hfl:=(RdProg.ext hv hEA).len
  obtain ⟨pv,bv,rfl,q1,q2,q3,hbv⟩:=hr
  have hpo:=q1.one
  have hbo:=hbv.one
  obtain ⟨D,hD⟩:∃ D,C ++ [Ob.cells 0 [Sb x.name,pv,bv]]=D:=⟨_,rfl⟩
  have eD:Ext C D:=hD ▸ Ext.app _ _
  have hlD:D.length=C.length+1:=by rw [← hD,len_snoc]
  have hgg:getC D C.length 0=some [Sb x.name,pv,bv]:=hD ▸ getC_new C 0 _
  have hgg':∀ c,getC (C ++ [Ob.cells 0 c]) C.length 0=some c:=fun c=>getC_new C 0 c
  have hss:∀ c d,(C ++ [c]).set C.length d=C ++ [d]:=fun c d=>set_snoc C c d
  have hpl:=Sb_len (q1.ext (hEA.trans eD))
  have hbl:=(rdB_ext hbv (hEA.trans eD)).len
  have hca:=long_fun hL base D (q1.ext (hEA.trans eD)) q2 q3
  have eE:Ext A1 D:=hE.trans eD
  simp only [Iz,bl,Sb] at ld hD hgg hca hgp
  cases g1:((decide ((x.name.size:Int) > 200) || decide ((x.ps.length:Int) > 20)) || decide ((x.blocks.length:Int) > 70)) with
  | true=>
    refine .inr ⟨trim L (frOf 133 [(2,bl true)]) D,?_,eE.trim hL1 _⟩
    rw [itW_step]
    simp only [Iz,bl,a_f10,s_f10_l0_b,s_f10_l1_b,s_f10_l2_b,aa,bl,i64,reduceIte,reduceCtorEq,Nat.reduceEqDiff,Nat.reduceLT,Nat.reduceLeDiff,Nat.reduceBEq,Nat.reduceAdd,fillA,splice,Nat.reduceMul,amY,op_eqP,hgp,hfl,hlt',a1,ld,hbC,hD,hgg,hgg',hss,hpo,hbo,Bool.and_self,hpl,hbl,g1]
  | false=>
    simp only [Bool.or_eq_false_iff,decide_eq_false_iff_not] at g1
    have g1':((decide ((x.name.size:Int) > 200) || decide ((x.ps.length:Int) > 20)) || decide ((x.blocks.length:Int) > 70))=false:=by simp only [Bool.or_eq_false_iff,decide_eq_false_iff_not];exact g1
    cases g2:x.ps.any bigS with
    | true=>
      rw [g2] at hca
      refine .inr ⟨trim L (frOf 133 [(2,bl true)]) D,?_,eE.trim hL1 _⟩
      rw [itW_step]
      simp only [Iz,bl,a_f10,s_f10_l0_b,s_f10_l1_b,s_f10_l2_b,aa,bl,i64,reduceIte,reduceCtorEq,Nat.reduceEqDiff,Nat.reduceLT,Nat.reduceLeDiff,Nat.reduceBEq,Nat.reduceAdd,fillA,splice,Nat.reduceMul,amY,op_eqP,hgp,hfl,hlt',a1,ld,hbC,hD,hgg,hgg',hss,hpo,hbo,Bool.and_self,hpl,hbl,g1',hca]
    | false=>
      rw [g2] at hca
      rcases hv_l1 hL base (hEA.trans eD) (by omega) (p:=p) (q:=C.length) (i:=k) (hD ▸ getC_new C 0 _) hbv (by omega) (Nat.le_refl D.length) hsum D (Ext.refl D) with ⟨⟨z0,z1⟩,E,z2,z3⟩ | ⟨E,z2,z3⟩
      ·refine .inl ⟨⟨by omega,by omega,bigS_no g2,by omega,z0⟩,trim L (frOf 133 [(1,.ref p 0 0),(3,Iz (m+cI x.blocks:Nat)),(4,Iz (k+1:Nat))]) E,?_,(eE.trans z3).trim hL1 _,by omega⟩
       rw [itW_step]
       simp only [Iz,bl,hlD] at z2
       simp only [Iz,bl,a_f10,s_f10_l0_b,s_f10_l1_b,s_f10_l2_b,aa,bl,i64,reduceIte,reduceCtorEq,Nat.reduceEqDiff,Nat.reduceLT,Nat.reduceLeDiff,Nat.reduceBEq,Nat.reduceAdd,fillA,splice,Nat.reduceMul,amY,op_eqP,hgp,hfl,hlt',a1,ld,hbC,hD,hlD,hgg,hgg',hss,hpo,hbo,Bool.and_self,hpl,hbl,g1',hca,z2,hwk]
      ·refine .inr ⟨trim L (frOf 133 [(2,bl true)]) E,?_,(eE.trans z3).trim hL1 _⟩
       rw [itW_step]
       simp only [Iz,bl,hlD] at z2
       simp only [Iz,bl,a_f10,s_f10_l0_b,s_f10_l1_b,s_f10_l2_b,aa,bl,i64,reduceIte,reduceCtorEq,Nat.reduceEqDiff,Nat.reduceLT,Nat.reduceLeDiff,Nat.reduceBEq,Nat.reduceAdd,fillA,splice,Nat.reduceMul,amY,op_eqP,hgp,hfl,hlt',a1,ld,hbC,hD,hlD,hgg,hgg',hss,hpo,hbo,Bool.and_self,hpl,hbl,g1',hca,z2]) C0 ⟨hC0,by rw [List.take_zero];exact Nat.zero_le _⟩ with ⟨e1,C,e2,e3,e4⟩ | e
 ·rw [List.take_length] at e2 e4
  refine .inl ⟨⟨all_getD e1,e4⟩,trim L (frOf 133 [(1,.ref p 0 0),(3,Iz (cF l:Nat)),(4,Iz l.length),(18,bl false)]) C,?_,e3.trim hL1 _⟩
  rw [List.take_zero,show cF []=0 from rfl,cast0] at e2
  refine e2.trans ?_
  have hcl:=(RdProg.ext hv (h1.trans e3)).len
  have hgp:=getC_ext hp e3
  rw [itW_step]
  simp only [Iz,bl,a_f10,s_f10_l0_b,s_f10_l1_b,s_f10_l2_b,aa,bl,i64,reduceIte,reduceCtorEq,Nat.reduceEqDiff,Nat.reduceLT,Nat.reduceLeDiff,Nat.reduceBEq,Nat.reduceAdd,fillA,splice,Nat.reduceMul,amY,op_eqP,hgp,hcl,Int.lt_irrefl]
 ·rw [List.take_zero,show cF []=0 from rfl,cast0] at e
  exact .inr e
theorem heavy_fun (hL:CT k_f20=some (.code s_f20)) (hT:CT k_f10=some (.code s_f10)) (base:Nat) {A:Heap} (hb:base≤A.length) {fv:V} {fs:List FunD} (hr:RdProg A fv fs):
 ∃ b H',callW CT (.fn k_f10 [] []) [.agg [fv]] base A=some (.s (.bool b),H')∧Ext A H'∧(b=false→Light fs):=by
 have hfo:=hr.one
 obtain ⟨A1,hA1⟩:∃ A1,A ++ [Ob.cells 0 [fv]]=A1:=⟨_,rfl⟩
 have l1:A1.length=A.length+1:=by rw [← hA1,len_snoc]
 have e1:Ext A A1:=hA1 ▸ Ext.app _ _
 have x1:getC A1 A.length 0=some [fv]:=hA1 ▸ getC_new A 0 _
 have hfl:=(hr.ext e1).len
 by_cases h70:(fs.length:Int) > 70
 ·refine ⟨true,A1,callW_fnA (c:=s_f10) (k:=1) hT rfl (by decide) s_f10_first ?_,e1,fun e=>by cases e⟩
  simp only [Iz,bl,s_f10,a_f10,s_f10_l0_b,s_f10_l1_b,s_f10_l2_b,aa,bl,i64,reduceIte,reduceCtorEq,Nat.reduceEqDiff,Nat.reduceLT,Nat.reduceLeDiff,Nat.reduceBEq,Nat.reduceAdd,fillA,splice,Nat.reduceMul,amY,op_eqP,hfo,Bool.and_self,hA1,x1,hfl,h70]
 ·rcases hv_l2 hL base e1 (by omega) (p:=A.length) x1 hr (by omega) (Nat.le_refl A1.length) A1 (Ext.refl A1) with ⟨⟨z0,z1⟩,E,z2,z3⟩ | ⟨E,z2,z3⟩
  ·refine ⟨false,E,callW_fnA (c:=s_f10) (k:=1) hT rfl (by decide) s_f10_first ?_,e1.trans z3,fun _=>⟨by omega,z0,z1⟩⟩
   simp only [Iz,bl,l1] at z2
   simp only [Iz,bl,s_f10,a_f10,s_f10_l0_b,s_f10_l1_b,s_f10_l2_b,aa,bl,i64,reduceIte,reduceCtorEq,Nat.reduceEqDiff,Nat.reduceLT,Nat.reduceLeDiff,Nat.reduceBEq,Nat.reduceAdd,fillA,splice,Nat.reduceMul,amY,op_eqP,hfo,Bool.and_self,hA1,l1,x1,hfl,h70,z2]
  ·refine ⟨true,E,callW_fnA (c:=s_f10) (k:=1) hT rfl (by decide) s_f10_first ?_,e1.trans z3,fun e=>by cases e⟩
   simp only [Iz,bl,l1] at z2
   simp only [Iz,bl,s_f10,a_f10,s_f10_l0_b,s_f10_l1_b,s_f10_l2_b,aa,bl,i64,reduceIte,reduceCtorEq,Nat.reduceEqDiff,Nat.reduceLT,Nat.reduceLeDiff,Nat.reduceBEq,Nat.reduceAdd,fillA,splice,Nat.reduceMul,amY,op_eqP,hfo,Bool.and_self,hA1,l1,x1,hfl,h70,z2]
end
end Go.Proofs.YtamlbkalopefgaaR
set_option maxRecDepth 100000
namespace Go.Proofs.YtamlbkalopefgaaR
open Go.AM
abbrev k_f5:Nat:=5
def K5_0:List Nat:=[0,1,5,6,7,8,9,10,11,12,13,14,15,16,17,18,19,20,21,22,23,24,25,26,27,28,29,30,31,32,33,34,35,36,37,38,39,40,41,42,43,44,45,46,47,48,49,50,51,52,53,54,55,56,57,58,59,60,61,62,63,64,65,66,67,68,69,70,71,72,73,74,75,76,77,78,79,80]
theorem A5_0_0:K5_0.contains 0=true:=by kernel_rfl
theorem A5_0_1:K5_0.contains 1=true:=by kernel_rfl
def A5_0_2:=hK K5_0 2
def A5_0_3:=hK K5_0 3
def A5_0_4:=hK K5_0 4
theorem A5_0_6:K5_0.contains 6=true:=by kernel_rfl
def R5_0t2:List AOper:=[⟨some 6,.move (.c (.s (.bool false))),none⟩]
def R5_0p1:List AOper:=[⟨some 4,.box (.t 1),none⟩]
def R5_0t1:List AOper:=R5_0p1 ++ R5_0t2
def R5_0p0:List AOper:=[⟨some 3,.box (.t 0),none⟩]
def R5_0:List AOper:=R5_0p0 ++ R5_0t1
def K5_0p0:List Nat:=[0,4,5,6,7,8,9,10,11,12,13,14,15,16,17,18,19,20,21,22,23,24,25,26,27,28,29,30,31,32,33,34,35,36,37,38,39,40,41,42,43,44,45,46,47,48,49,50,51,52,53,54,55,56,57,58,59,60,61,62,63,64,65,66,67,68,69,70,71,72,73,74,75,76,77,78,79,80]
theorem A5_0p0_0:K5_0p0.contains 0=true:=by kernel_rfl
def A5_0p0_1:=hK K5_0p0 1
def A5_0p0_2:=hK K5_0p0 2
def A5_0p0_3:=hK K5_0p0 3
theorem A5_0p0_4:K5_0p0.contains 4=true:=by kernel_rfl
theorem A5_0p0_6:K5_0p0.contains 6=true:=by kernel_rfl
theorem X5_0 (call:CallF) (it:IterF) (base:Nat) (f:List V) (H:Heap):evC call it base (.region R5_0 [] K5_0) f H=thenC call it base (.region R5_0t1 [] K5_0) (opsC [] R5_0p0 K5_0p0 (evOps call base [⟨some 3,.box (.t 0),none⟩] f H)):=(row_op call it base R5_0p0 R5_0t1 (kc:=K5_0p0) (by kernel_rfl) f H).trans (by rw [row_ops];rfl)
def X5_0t1:=hO R5_0t1 R5_0p1 R5_0t2 [1] K5_0 [⟨some 4,.box (.t 1),none⟩]
def T5_0t2:=hT R5_0t2 K5_0 [] 7 [] [] [.cc (.s (.bool false))]
def X5_0t2:=hL R5_0t2 K5_0 []
def R5_1t5:List AOper:=[⟨some 18,.pick (.t 15) (.c (.s (.bool true))) (.t 17),none⟩,⟨some 19,.move (.t 18),none⟩,⟨some 20,.fieldAddr 0 (.t 3),some (19,false)⟩,⟨some 21,.load false 1 (.t 20),some (19,false)⟩,⟨some 22,.lenS .s (.t 21),some (19,false)⟩,⟨some 23,.fieldAddr 0 (.t 4),some (19,false)⟩,⟨some 24,.load false 1 (.t 23),some (19,false)⟩,⟨some 25,.lenS .s (.t 24),some (19,false)⟩,⟨some 26,.bin .add (.t 22) (.t 25),some (19,false)⟩,⟨some 27,.bin .gtr (.t 26) (.c (.s (.int .i64 64))),some (19,false)⟩,⟨some 28,.pick (.t 19) (.c (.s (.bool true))) (.t 27),none⟩]
def R5_1p4:List AOper:=[⟨some 17,.call (.c (.fn 10 [] [])) [(.t 16)],some (15,false)⟩]
def R5_1t4:List AOper:=R5_1p4 ++ R5_1t5
def R5_1p3:List AOper:=[⟨some 16,.load true 1 (.t 4),some (15,false)⟩]
def R5_1t3:List AOper:=R5_1p3 ++ R5_1t4
def R5_1p2:List AOper:=[⟨some 15,.move (.t 14),none⟩]
def R5_1t2:List AOper:=R5_1p2 ++ R5_1t3
def R5_1p1:List AOper:=[⟨some 14,.call (.c (.fn 10 [] [])) [(.t 13)],none⟩]
def R5_1t1:List AOper:=R5_1p1 ++ R5_1t2
def R5_1p0:List AOper:=[⟨some 13,.load true 1 (.t 3),none⟩]
def R5_1:List AOper:=R5_1p0 ++ R5_1t1
def T5_1p0:=hT R5_1p0 [] [13] 14 [] [(13,(.op (.load true 1 (.t 0)) [(.t 3)]))] [.sub 0 [] []]
def X5_1:=hS R5_1 R5_1p0 R5_1t1 [] [13] [13,14,15,16,17,18,19,20,21,22,23,24,25,26,27]
def X5_1t1:=hO R5_1t1 R5_1p1 R5_1t2 [13] [13,14,15,16,17,18,19,20,21,22,23,24,25,26,27] [⟨some 14,.call (.c (.fn 10 [] [])) [(.t 13)],none⟩]
def T5_1p2:=hT R5_1p2 [14] [15] 16 [] [(15,(.t 14))] [.tt 14]
def X5_1t2:=hS R5_1t2 R5_1p2 R5_1t3 [14] [15] [13,14,15,16,17,18,19,20,21,22,23,24,25,26,27]
def X5_1t3:=hO R5_1t3 R5_1p3 R5_1t4 [] [13,14,15,16,17,18,19,20,21,22,23,24,25,26,27] [⟨some 16,.load true 1 (.t 4),some (15,false)⟩]
def X5_1t4:=hO R5_1t4 R5_1p4 R5_1t5 [16] [13,14,15,16,17,18,19,20,21,22,23,24,25,26,27] [⟨some 17,.call (.c (.fn 10 [] [])) [(.t 16)],some (15,false)⟩]
def T5_1t5:=hT R5_1t5 [13,14,15,16,17,18,19,20,21,22,23,24,25,26,27] [28] 29 [] [(28,(.pick (.pick (.t 15) (.c (.s (.bool true))) (.t 17)) (.c (.s (.bool true))) (.op (.bin .gtr (.t 0) (.c (.s (.int .i64 64)))) [(.op (.bin .add (.t 0) (.t 1)) [(.op (.lenS .s (.t 0)) [(.op (.load false 1 (.t 0)) [(.op (.fieldAddr 0 (.t 0)) [(.t 3)])])]),(.op (.lenS .s (.t 0)) [(.op (.load false 1 (.t 0)) [(.op (.fieldAddr 0 (.t 0)) [(.t 4)])])])]),(.c (.s (.int .i64 64)))])))] [.sub 0 [0] [],.sub 0 [0] [],.sub 0 [2,0,0,0,0] [19],.sub 0 [2,0,0,0] [19],.sub 0 [2,0,0] [19],.sub 0 [2,0,1,0,0] [19],.sub 0 [2,0,1,0] [19],.sub 0 [2,0,1] [19],.sub 0 [2,0] [19],.sub 0 [2] [19],.sub 0 [] []]
def X5_1t5:=hL R5_1t5 [13,14,15,16,17,18,19,20,21,22,23,24,25,26,27] [28]
def R5_2:List AOper:=[
 ⟨some 6,.move (.c (.s (.bool true))),none⟩]
def T5_2:=hT R5_2 [2,3,4,28] [6] 7 [] [(6,(.c (.s (.bool true))))] [.cc (.s (.bool true))]
def R5_3:List AOper:=[
 ⟨some 29,.move (.t 2),none⟩,
 ⟨some 7,.move (.t 29),none⟩]
def T5_3:=hT R5_3 [2,28,29] [7] 30 [] [(7,(.t 2))] [.tt 2,.tt 2]
def R5_4:List AOper:=[
 ⟨some 30,.move (.t 7),none⟩]
def T5_4:=hT R5_4 [] [30] 31 [] [(30,(.t 7))] [.tt 7]
def R5_5:List AOper:=[
 ⟨some 32,.bin .eql (.t 30) (.c (.s (.int .u8 1))),none⟩,
 ⟨some 31,.move (.t 32),none⟩]
def T5_5:=hT R5_5 [32] [31] 33 [] [(31,(.op (.bin .eql (.t 0) (.c (.s (.int .u8 1)))) [(.t 30),(.c (.s (.int .u8 1)))]))] [.sub 0 [] [],.sub 0 [] []]
def R5_6:List AOper:=[
 ⟨some 33,.bin .eql (.t 30) (.c (.s (.int .u8 4))),none⟩,
 ⟨some 31,.move (.t 33),none⟩]
def T5_6:=hT R5_6 [33] [31] 34 [] [(31,(.op (.bin .eql (.t 0) (.c (.s (.int .u8 4)))) [(.t 30),(.c (.s (.int .u8 4)))]))] [.sub 0 [] [],.sub 0 [] []]
def R5_7:List AOper:=[
 ⟨some 34,.bin .eql (.t 30) (.c (.s (.int .u8 13))),none⟩,
 ⟨some 31,.move (.t 34),none⟩]
def T5_7:=hT R5_7 [34] [31] 35 [] [(31,(.op (.bin .eql (.t 0) (.c (.s (.int .u8 13)))) [(.t 30),(.c (.s (.int .u8 13)))]))] [.sub 0 [] [],.sub 0 [] []]
def R5_8:List AOper:=[
 ⟨some 35,.bin .eql (.t 30) (.c (.s (.int .u8 14))),none⟩,
 ⟨some 31,.move (.t 35),none⟩]
def T5_8:=hT R5_8 [30,35] [31] 36 [] [(31,(.op (.bin .eql (.t 0) (.c (.s (.int .u8 14)))) [(.t 30),(.c (.s (.int .u8 14)))]))] [.sub 0 [] [],.sub 0 [] []]
def R5_9t1:List AOper:=[⟨some 6,.move (.t 36),none⟩]
def R5_9p0:List AOper:=[⟨some 36,.call (.c (.fn 9 [] [])) [],none⟩]
def R5_9:List AOper:=R5_9p0 ++ R5_9t1
def X5_9:=hO R5_9 R5_9p0 R5_9t1 [3,4,7,30,31] [3,4,7,30,31,36] [⟨some 36,.call (.c (.fn 9 [] [])) [],none⟩]
def T5_9t1:=hT R5_9t1 [3,4,7,30,31,36] [6] 7 [] [(6,(.t 36))] [.tt 36]
def X5_9t1:=hL R5_9t1 [3,4,7,30,31,36] [6]
def R5_10:List AOper:=[
 ⟨some 8,.move (.c (.s (.slice none 0 0))),none⟩]
def T5_10:=hT R5_10 [30,31] [8] 9 [] [(8,(.c (.s (.slice none 0 0))))] [.cc (.s (.slice none 0 0))]
def R5_11t2:List AOper:=[⟨some 8,.move (.t 40),none⟩]
def R5_11p1:List AOper:=[⟨some 40,.append 3 64 (.t 37) (.t 39),none⟩]
def R5_11t1:List AOper:=R5_11p1 ++ R5_11t2
def R5_11p0:List AOper:=[⟨some 37,.move (.t 8),none⟩,⟨some 38,.fieldAddr 0 (.t 3),none⟩,⟨some 39,.load false 1 (.t 38),none⟩]
def R5_11:List AOper:=R5_11p0 ++ R5_11t1
def T5_11p0:=hT R5_11p0 [8,38] [37,39] 40 [] [(37,(.t 8)),(39,(.op (.load false 1 (.t 0)) [(.op (.fieldAddr 0 (.t 0)) [(.t 3)])]))] [.tt 8,.sub 1 [0] [],.sub 1 [] []]
def X5_11:=hS R5_11 R5_11p0 R5_11t1 [8,38] [37,39] [37,38,39,40]
def X5_11t1:=hO R5_11t1 R5_11p1 R5_11t2 [37,39] [37,38,39,40] [⟨some 40,.append 3 64 (.t 37) (.t 39),none⟩]
def T5_11t2:=hT R5_11t2 [37,38,39,40] [8] 9 [] [(8,(.t 40))] [.tt 40]
def X5_11t2:=hL R5_11t2 [37,38,39,40] [8]
def R5_12t2:List AOper:=[⟨some 8,.move (.t 44),none⟩]
def R5_12p1:List AOper:=[⟨some 44,.append 3 64 (.t 41) (.t 43),none⟩]
def R5_12t1:List AOper:=R5_12p1 ++ R5_12t2
def R5_12p0:List AOper:=[⟨some 41,.move (.t 8),none⟩,⟨some 42,.fieldAddr 0 (.t 4),none⟩,⟨some 43,.load false 1 (.t 42),none⟩]
def R5_12:List AOper:=R5_12p0 ++ R5_12t1
def T5_12p0:=hT R5_12p0 [4,8,42] [41,43] 44 [] [(41,(.t 8)),(43,(.op (.load false 1 (.t 0)) [(.op (.fieldAddr 0 (.t 0)) [(.t 4)])]))] [.tt 8,.sub 1 [0] [],.sub 1 [] []]
def X5_12:=hS R5_12 R5_12p0 R5_12t1 [4,8,42] [41,43] [4,41,42,43,44]
def X5_12t1:=hO R5_12t1 R5_12p1 R5_12t2 [41,43] [4,41,42,43,44] [⟨some 44,.append 3 64 (.t 41) (.t 43),none⟩]
def T5_12t2:=hT R5_12t2 [4,41,42,43,44] [8] 9 [] [(8,(.t 44))] [.tt 44]
def X5_12t2:=hL R5_12t2 [4,41,42,43,44] [8]
def R5_13t5:List AOper:=[⟨some 10,.move (.t 50),none⟩]
def R5_13p4:List AOper:=[⟨none,.store 3 (.t 9) (.t 49),none⟩]
def R5_13t4:List AOper:=R5_13p4 ++ R5_13t5
def R5_13p3:List AOper:=[⟨some 9,.alloc [(.s (.int .i64 0)),(.s (.int .i64 0)),(.s (.int .i64 0))],none⟩]
def R5_13t3:List AOper:=R5_13p3 ++ R5_13t4
def R5_13p2:List AOper:=[⟨some 45,.move (.t 48),none⟩,⟨some 49,.extract (.t 45) 0,none⟩,⟨some 50,.extract (.t 45) 1,none⟩]
def R5_13t2:List AOper:=R5_13p2 ++ R5_13t3
def R5_13p1:List AOper:=[⟨some 48,.call (.c (.fn 12 [] [])) [(.t 46),(.t 47)],none⟩]
def R5_13t1:List AOper:=R5_13p1 ++ R5_13t2
def R5_13p0:List AOper:=[⟨some 46,.load true 1 (.t 3),none⟩,⟨some 47,.move (.t 7),none⟩]
def R5_13:List AOper:=R5_13p0 ++ R5_13t1
def T5_13p0:=hT R5_13p0 [] [46,47] 48 [] [(46,(.op (.load true 1 (.t 0)) [(.t 3)])),(47,(.t 7))] [.sub 0 [] [],.tt 7]
def X5_13:=hS R5_13 R5_13p0 R5_13t1 [] [46,47] [45,46,47,48,49,50]
def X5_13t1:=hO R5_13t1 R5_13p1 R5_13t2 [46,47] [45,46,47,48,49,50] [⟨some 48,.call (.c (.fn 12 [] [])) [(.t 46),(.t 47)],none⟩]
def T5_13p2:=hT R5_13p2 [45,48] [49,50] 51 [] [(49,(.op (.extract (.t 0) 0) [(.t 48)])),(50,(.op (.extract (.t 0) 1) [(.t 48)]))] [.tt 48,.sub 0 [] [],.sub 1 [] []]
def X5_13t2:=hS R5_13t2 R5_13p2 R5_13t3 [45,48] [49,50] [45,46,47,48,49,50]
def X5_13t3:=hO R5_13t3 R5_13p3 R5_13t4 [] [45,46,47,48,49,50] [⟨some 9,.alloc [(.s (.int .i64 0)),(.s (.int .i64 0)),(.s (.int .i64 0))],none⟩]
def X5_13t4:=hO R5_13t4 R5_13p4 R5_13t5 [49] [45,46,47,48,49,50] [⟨none,.store 3 (.t 9) (.t 49),none⟩]
def T5_13t5:=hT R5_13t5 [45,46,47,48,49,50] [10] 11 [] [(10,(.t 50))] [.tt 50]
def X5_13t5:=hL R5_13t5 [45,46,47,48,49,50] [10]
def R5_14t5:List AOper:=[⟨some 12,.move (.t 57),none⟩]
def R5_14p4:List AOper:=[⟨none,.store 3 (.t 11) (.t 56),none⟩]
def R5_14t4:List AOper:=R5_14p4 ++ R5_14t5
def R5_14p3:List AOper:=[⟨some 11,.alloc [(.s (.int .i64 0)),(.s (.int .i64 0)),(.s (.int .i64 0))],none⟩]
def R5_14t3:List AOper:=R5_14p3 ++ R5_14t4
def R5_14p2:List AOper:=[⟨some 51,.move (.t 55),none⟩,⟨some 56,.extract (.t 51) 0,none⟩,⟨some 57,.extract (.t 51) 1,none⟩]
def R5_14t2:List AOper:=R5_14p2 ++ R5_14t3
def R5_14p1:List AOper:=[⟨some 55,.call (.c (.fn 12 [] [])) [(.t 53),(.t 54)],none⟩]
def R5_14t1:List AOper:=R5_14p1 ++ R5_14t2
def R5_14p0:List AOper:=[⟨some 52,.move (.t 8),none⟩,⟨some 53,.build [(.s (.slice none 0 0))] [(0,1)] [(0,(.t 52))],none⟩,⟨some 54,.move (.t 7),none⟩]
def R5_14:List AOper:=R5_14p0 ++ R5_14t1
def T5_14p0:=hT R5_14p0 [7,8,52] [53,54] 55 [] [(53,(.op (.build [(.s (.slice none 0 0))] [(0,1)] [(0,(.t 0))]) [(.t 8)])),(54,(.t 7))] [.tt 8,.sub 0 [] [],.tt 7]
def X5_14:=hS R5_14 R5_14p0 R5_14t1 [7,8,52] [53,54] [7,8,51,52,53,54,55,56,57]
def X5_14t1:=hO R5_14t1 R5_14p1 R5_14t2 [53,54] [7,8,51,52,53,54,55,56,57] [⟨some 55,.call (.c (.fn 12 [] [])) [(.t 53),(.t 54)],none⟩]
def T5_14p2:=hT R5_14p2 [51,55] [56,57] 58 [] [(56,(.op (.extract (.t 0) 0) [(.t 55)])),(57,(.op (.extract (.t 0) 1) [(.t 55)]))] [.tt 55,.sub 0 [] [],.sub 1 [] []]
def X5_14t2:=hS R5_14t2 R5_14p2 R5_14t3 [51,55] [56,57] [7,8,51,52,53,54,55,56,57]
def X5_14t3:=hO R5_14t3 R5_14p3 R5_14t4 [] [7,8,51,52,53,54,55,56,57] [⟨some 11,.alloc [(.s (.int .i64 0)),(.s (.int .i64 0)),(.s (.int .i64 0))],none⟩]
def X5_14t4:=hO R5_14t4 R5_14p4 R5_14t5 [56] [7,8,51,52,53,54,55,56,57] [⟨none,.store 3 (.t 11) (.t 56),none⟩]
def T5_14t5:=hT R5_14t5 [7,8,51,52,53,54,55,56,57] [12] 13 [] [(12,(.t 57))] [.tt 57]
def X5_14t5:=hL R5_14t5 [7,8,51,52,53,54,55,56,57] [12]
def R5_15:List AOper:=[
 ⟨some 58,.move (.t 10),none⟩]
def T5_15:=hT R5_15 [10] [58] 59 [] [(58,(.t 10))] [.tt 10]
def R5_16t2:List AOper:=[⟨some 67,.pick (.t 65) (.t 66) (.c (.s (.bool false))),none⟩,⟨some 6,.move (.t 67),none⟩]
def R5_16p1:List AOper:=[⟨some 66,.call (.c (.fn 9 [] [])) [],some (65,true)⟩]
def R5_16t1:List AOper:=R5_16p1 ++ R5_16t2
def R5_16p0:List AOper:=[⟨some 59,.move (.t 12),none⟩,⟨some 60,.move (.t 59),none⟩,⟨some 61,.load true 3 (.t 9),some (60,true)⟩,⟨some 62,.load true 3 (.t 11),some (60,true)⟩,⟨some 63,.eqAgg false [(.int .i64),(.int .i64),(.int .i64)] (.t 61) (.t 62),some (60,true)⟩,⟨some 64,.pick (.t 60) (.t 63) (.c (.s (.bool false))),none⟩,⟨some 65,.move (.t 64),none⟩]
def R5_16:List AOper:=R5_16p0 ++ R5_16t1
def T5_16p0:=hT R5_16p0 [3,9,11,12,58,59,60,61,62,63,64] [65] 66 [] [(65,(.pick (.t 12) (.op (.eqAgg false [(.int .i64),(.int .i64),(.int .i64)] (.t 0) (.t 1)) [(.op (.load true 3 (.t 0)) [(.t 9)]),(.op (.load true 3 (.t 0)) [(.t 11)])]) (.c (.s (.bool false)))))] [.tt 12,.tt 12,.sub 0 [1,0] [60],.sub 0 [1,1] [60],.sub 0 [1] [60],.sub 0 [] [],.sub 0 [] []]
def X5_16:=hS R5_16 R5_16p0 R5_16t1 [3,9,11,12,58,59,60,61,62,63,64] [65] [3,9,11,12,58,59,60,61,62,63,64,65,66,67]
def X5_16t1:=hO R5_16t1 R5_16p1 R5_16t2 [] [3,9,11,12,58,59,60,61,62,63,64,65,66,67] [⟨some 66,.call (.c (.fn 9 [] [])) [],some (65,true)⟩]
def T5_16t2:=hT R5_16t2 [3,9,11,12,58,59,60,61,62,63,64,65,66,67] [6] 68 [] [(6,(.pick (.t 65) (.t 66) (.c (.s (.bool false)))))] [.sub 0 [] [],.sub 0 [] []]
def X5_16t2:=hL R5_16t2 [3,9,11,12,58,59,60,61,62,63,64,65,66,67] [6]
def R5_17t2:List AOper:=[⟨some 80,.pick (.t 78) (.t 79) (.c (.s (.bool false))),none⟩,⟨some 6,.move (.t 80),none⟩]
def R5_17p1:List AOper:=[⟨some 79,.call (.c (.fn 9 [] [])) [],some (78,true)⟩]
def R5_17t1:List AOper:=R5_17p1 ++ R5_17t2
def R5_17p0:List AOper:=[⟨some 68,.move (.t 12),none⟩,⟨some 69,.un .not (.t 68),none⟩,⟨some 70,.move (.t 69),none⟩,⟨some 71,.fieldAddr 0 (.t 11),some (70,false)⟩,⟨some 72,.load false 1 (.t 71),some (70,false)⟩,⟨some 73,.fieldAddr 0 (.t 3),some (70,false)⟩,⟨some 74,.load false 1 (.t 73),some (70,false)⟩,⟨some 75,.lenS .s (.t 74),some (70,false)⟩,⟨some 76,.bin .geq (.t 72) (.t 75),some (70,false)⟩,⟨some 77,.pick (.t 70) (.c (.s (.bool true))) (.t 76),none⟩,⟨some 78,.move (.t 77),none⟩]
def R5_17:List AOper:=R5_17p0 ++ R5_17t1
def T5_17p0:=hT R5_17p0 [3,9,11,12,58,68,69,70,71,72,73,74,75,76,77] [78] 79 [] [(78,(.pick (.op (.un .not (.t 0)) [(.t 12)]) (.c (.s (.bool true))) (.op (.bin .geq (.t 0) (.t 1)) [(.op (.load false 1 (.t 0)) [(.op (.fieldAddr 0 (.t 0)) [(.t 11)])]),(.op (.lenS .s (.t 0)) [(.op (.load false 1 (.t 0)) [(.op (.fieldAddr 0 (.t 0)) [(.t 3)])])])])))] [.tt 12,.sub 0 [0] [],.sub 0 [0] [],.sub 0 [2,0,0] [70],.sub 0 [2,0] [70],.sub 0 [2,1,0,0] [70],.sub 0 [2,1,0] [70],.sub 0 [2,1] [70],.sub 0 [2] [70],.sub 0 [] [],.sub 0 [] []]
def X5_17:=hS R5_17 R5_17p0 R5_17t1 [3,9,11,12,58,68,69,70,71,72,73,74,75,76,77] [78] [3,9,11,12,58,68,69,70,71,72,73,74,75,76,77,78,79,80]
def X5_17t1:=hO R5_17t1 R5_17p1 R5_17t2 [] [3,9,11,12,58,68,69,70,71,72,73,74,75,76,77,78,79,80] [⟨some 79,.call (.c (.fn 9 [] [])) [],some (78,true)⟩]
def T5_17t2:=hT R5_17t2 [3,9,11,12,58,68,69,70,71,72,73,74,75,76,77,78,79,80] [6] 81 [] [(6,(.pick (.t 78) (.t 79) (.c (.s (.bool false)))))] [.sub 0 [] [],.sub 0 [] []]
def X5_17t2:=hL R5_17t2 [3,9,11,12,58,68,69,70,71,72,73,74,75,76,77,78,79,80] [6]
def s_f5:ACFun:={ ntmps:=81,results:=[(.tmp 6)],body:=
 (.seq (.region R5_0 [] K5_0)
 (.seq (.seq (.region R5_1 [] [13,14,15,16,17,18,19,20,21,22,23,24,25,26,27])
 (.cond (.t 28)
 (.seq (.regionE R5_2 [2,3,4,28] [6])
 .ret)
 .skip))
 (.seq (.regionE R5_3 [2,28,29] [7])
 (.seq (.seq (.regionE R5_4 [] [30])
 (.block 0
 (.seq (.seq (.regionE R5_5 [32] [31])
 (.cond (.t 31)
 .skip
 (.seq (.regionE R5_6 [33] [31])
 (.cond (.t 31)
 .skip
 (.seq (.regionE R5_7 [34] [31])
 (.cond (.t 31)
 .skip
 (.regionE R5_8 [30,35] [31])))))))
 (.cond (.t 31)
 (.seq (.region R5_9 [] [3,4,7,30,31,36])
 .ret)
 .skip))))
 (.seq (.regionE R5_10 [30,31] [8])
 (.seq (.region R5_11 [] [37,38,39,40])
 (.seq (.region R5_12 [] [4,41,42,43,44])
 (.seq (.region R5_13 [] [45,46,47,48,49,50])
 (.seq (.region R5_14 [] [7,8,51,52,53,54,55,56,57])
 (.seq (.seq (.regionE R5_15 [10] [58])
 (.cond (.t 58)
 (.seq (.region R5_16 [] [3,9,11,12,58,59,60,61,62,63,64,65,66,67])
 .ret)
 .skip))
 (.seq (.region R5_17 [] [3,9,11,12,58,68,69,70,71,72,73,74,75,76,77,78,79,80])
 .ret))))))))))) }
theorem s_f5_first:firstOk (List.range' 3 (s_f5.ntmps - 3)) s_f5.body=true:=by kernel_rfl
def a_f5:=ai @A5_0p0_0 (ai @A5_0p0_1 (ai @A5_0p0_2 (ai @A5_0p0_3 (ai @A5_0p0_4 (ai @A5_0p0_6 (ai @X5_0 (ai @X5_0t1 (ai @T5_0t2 (ai @X5_0t2 (ai @A5_0_0 (ai @A5_0_1 (ai @A5_0_2 (ai @A5_0_3 (ai @A5_0_4 (ai @A5_0_6 (ai @T5_1p0 (ai @X5_1 (ai @X5_1t1 (ai @T5_1p2 (ai @X5_1t2 (ai @X5_1t3 (ai @X5_1t4 (ai @T5_1t5 (ai @X5_1t5 (ai @T5_2 (ai @T5_3 (ai @T5_4 (ai @T5_5 (ai @T5_6 (ai @T5_7 (ai @T5_8 (ai @X5_9 (ai @T5_9t1 (ai @X5_9t1 (ai @T5_10 (ai @T5_11p0 (ai @X5_11 (ai @X5_11t1 (ai @T5_11t2 (ai @X5_11t2 (ai @T5_12p0 (ai @X5_12 (ai @X5_12t1 (ai @T5_12t2 (ai @X5_12t2 (ai @T5_13p0 (ai @X5_13 (ai @X5_13t1 (ai @T5_13p2 (ai @X5_13t2 (ai @X5_13t3 (ai @X5_13t4 (ai @T5_13t5 (ai @X5_13t5 (ai @T5_14p0 (ai @X5_14 (ai @X5_14t1 (ai @T5_14p2 (ai @X5_14t2 (ai @X5_14t3 (ai @X5_14t4 (ai @T5_14t5 (ai @X5_14t5 (ai @T5_15 (ai @T5_16p0 (ai @X5_16 (ai @X5_16t1 (ai @T5_16t2 (ai @X5_16t2 (ai @T5_17p0 (ai @X5_17 (ai @X5_17t1 (ai @T5_17t2 (@X5_17t2))))))))))))))))))))))))))))))))))))))))))))))))))))))))))))))))))))))))))
theorem NA5_5:compK Try.prog PX0 5=some (false,s_f5.ntmps,s_f5.results,s_f5.body.bare):=by kernel_rfl
end Go.Proofs.YtamlbkalopefgaaR
set_option maxRecDepth 100000
namespace Go.Proofs.YtamlbkalopefgaaR
open Go.AM
theorem ext_of {A H:Heap} (h1:A.length≤H.length) (h2:∀ id,id < A.length→H[id]?=A[id]?):Ext A H:=by
 refine ⟨H.drop A.length,?_⟩
 apply List.ext_getElem?
 intro i
 by_cases hi:i < A.length
 ·rw [List.getElem?_append_left hi,h2 i hi]
 ·rw [List.getElem?_append_right (by omega),List.getElem?_drop,show A.length+(i - A.length)=i by omega]
theorem RdProg.rows {H:Heap} {v:V} {fs:List FunD} (h:RdProg H v fs):∃ R:List (List V),RdW 3 H v R∧(∀ r∈R,r.length=3)∧R.flatten.all V.one=true∧R.length=fs.length∧∀ (i:Nat) (x:FunD),fs[i]?=some x→∃ r:List V,R[i]?=some r∧RdFun H r x:=by
 obtain ⟨R,h1,h2,h3,h4⟩:=h
 have key:∀ r∈R,∃ x,RdFun H r x:=fun r hr=>by
  obtain ⟨i,hi⟩:=List.mem_iff_getElem?.1 hr
  have hl:=(List.getElem?_eq_some_iff.1 hi).1
  obtain ⟨r',r1,r2⟩:=h4 i _ (some_getD (show i < fs.length by omega) fun0)
  rw [hi] at r1
  cases r1
  exact ⟨_,r2⟩
 refine ⟨R,h1,fun r hr=>?_,?_,h2,h4⟩
 ·obtain ⟨x,hx⟩:=key r hr
  exact hx.len
 ·rw [List.all_eq_true]
  intro v hv
  obtain ⟨r,hr,hvr⟩:=List.mem_flatten.1 hv
  obtain ⟨x,pv,bv,rfl,p1,p2,p3,p4⟩:=key r hr
  rcases List.mem_cons.1 hvr with rfl | hvr
  ·rfl
  rcases List.mem_cons.1 hvr with rfl | hvr
  ·exact p1.one
  rcases List.mem_cons.1 hvr with rfl | hvr
  ·exact p4.one
  ·cases hvr
section
variable {CT:Nat→Option CFun}
structure LawT (CT:Nat→Option CFun):Prop where
 R:RulT CT
 first:CT k_f12=some (.code s_f12)
 check:CT k_f11=some (.code s_f11)
 long:CT k_f20=some (.code s_f20)
 heavy:CT k_f10=some (.code s_f10)
 checks:CT k_f9=some (.code s_f9)
theorem resP_val (o:Option Pt):resP o=.tup [.agg [Iz ((o.getD (0,0,0)).1:Nat),Iz ((o.getD (0,0,0)).2.1:Nat),Iz ((o.getD (0,0,0)).2.2:Nat)],.s (.bool o.isSome)]:=by
 cases o with
 | none=>rfl
 | some t=>obtain ⟨i,b,k⟩:=t;rfl
theorem order_law (h:LawT CT) (hT:CT k_f5=some (.code s_f5)) (base:Nat) {A:Heap} (hb:base≤A.length) {fv mv:V} {fs more:List FunD} (hr:RdProg A fv fs) (hm:RdProg A mv more) (k:Nat) (hk:k < 256):
 ∃ H',callW CT (.fn k_f5 [] []) [.agg [fv],.agg [mv],.s (.int .u8 k)] base A=some (bl true,H'):=by
 have hfo:=hr.one
 have hmo:=hm.one
 obtain ⟨A1,hA1⟩:∃ A1,A ++ [Ob.cells 0 [fv]]=A1:=⟨_,rfl⟩
 have l1:A1.length=A.length+1:=by rw [← hA1,len_snoc]
 obtain ⟨A2,hA2⟩:∃ A2,A1 ++ [Ob.cells 0 [mv]]=A2:=⟨_,rfl⟩
 have l2:A2.length=A.length+2:=by rw [← hA2,len_snoc,l1]
 have e1:Ext A A1:=hA1 ▸ Ext.app _ _
 have e2:Ext A1 A2:=hA2 ▸ Ext.app _ _
 have x1:getC A2 A.length 0=some [fv]:=getC_ext (hA1 ▸ getC_new A 0 _) e2
 have x2:getC A2 (A.length+1) 0=some [mv]:=by rw [← l1,← hA2];exact getC_new A1 0 _
 have ld1:∀ D,Ext A2 D→xLoad D true 1 (.ref A.length 0 0)=some (.agg [fv]):=fun D hD=>by rw [xo_ref,getC_ext x1 hD];rfl
 have ld2:∀ D,Ext A2 D→xLoad D true 1 (.ref (A.length+1) 0 0)=some (.agg [mv]):=fun D hD=>by rw [xo_ref,getC_ext x2 hD];rfl
 have le2:=ld1 A2 (Ext.refl _)
 obtain ⟨b1,B1,c1,d1,w1⟩:=heavy_fun h.long h.heavy base (by omega) (hr.ext (e1.trans e2))
 obtain ⟨b2,B2,c2,d2,w2⟩:=heavy_fun h.long h.heavy base (A:=B1) (by have:=d1.le;omega) (hm.ext (e1.trans (e2.trans d1)))
 have le3:=ld2 B1 d1
 have hcc:=fun (H:Heap) (hbH:base≤H.length)=>checks_fun h.R h.first h.check h.checks base hbH
 have run:=fun {H':Heap} (hh:_)=>callW_fnA (CP:=CT) (c:=s_f5) (k:=3) (f:=k_f5) (fst:=[]) (cap:=[]) (args:=[.agg [fv],.agg [mv],.s (.int .u8 k)]) (base:=base) (H:=A) (r:=(bl true,H')) hT rfl (by decide) s_f5_first hh
 cases b1 with
 | true=>
   refine ⟨_,run (H':=B1) ?_⟩
   simp only [Iz,bl,s_f5,a_f5,aa,bl,i64,reduceIte,reduceCtorEq,Nat.reduceEqDiff,Nat.reduceLT,Nat.reduceLeDiff,Nat.reduceBEq,Nat.reduceAdd,fillA,splice,Nat.reduceMul,amY,op_eqP,hfo,hmo,Bool.and_self,hA1,l1,hA2,le2,c1]
 | false=>
   have lf:=w1 rfl
   cases b2 with
   | true=>
     refine ⟨_,run (H':=B2) ?_⟩
     simp only [Iz,bl,s_f5,a_f5,aa,bl,i64,reduceIte,reduceCtorEq,Nat.reduceEqDiff,Nat.reduceLT,Nat.reduceLeDiff,Nat.reduceBEq,Nat.reduceAdd,fillA,splice,Nat.reduceMul,amY,op_eqP,hfo,hmo,Bool.and_self,hA1,l1,hA2,le2,c1,le3,c2]
   | false=>
     have lm:=w2 rfl
     have d12:=d1.trans d2
     have x1':=getC_ext x1 d12
     have x2':=getC_ext x2 d12
     have eAB:Ext A B2:=e1.trans (e2.trans d12)
     have hl1:=(hr.ext eAB).len
     have hl2:=(hm.ext eAB).len
     have n1:=lf.n
     have n2:=lm.n
     have hws:IntKind.i64.wrap ((fs.length:Int)+(more.length:Int))=((fs.length+more.length:Nat):Int):=by rw [IntKind.wrap_i64];omega
     by_cases h64:((fs.length+more.length:Nat):Int) > 64
     ·refine ⟨_,run (H':=B2) ?_⟩
      simp only [Iz,bl,s_f5,a_f5,aa,bl,i64,reduceIte,reduceCtorEq,Nat.reduceEqDiff,Nat.reduceLT,Nat.reduceLeDiff,Nat.reduceBEq,Nat.reduceAdd,fillA,splice,Nat.reduceMul,amY,op_eqP,hfo,hmo,Bool.and_self,hA1,l1,hA2,le2,c1,le3,c2,x1',x2',hl1,hl2,hws,h64]
     ·by_cases hk1:k=1∨k=4∨k=13∨k=14
      ·obtain ⟨B3,hc2,_⟩:=hcc B2 (by have:=eAB.le;omega)
       refine ⟨_,run (H':=B3) ?_⟩
       rcases hk1 with rfl | rfl | rfl | rfl
       ·have q1:(((1:Nat):Int) == 1)=true:=rfl
        simp only [Iz,bl,s_f5,a_f5,aa,bl,i64,reduceIte,reduceCtorEq,Nat.reduceEqDiff,Nat.reduceLT,Nat.reduceLeDiff,Nat.reduceBEq,Nat.reduceAdd,fillA,splice,Nat.reduceMul,amY,op_eqP,hfo,hmo,Bool.and_self,hA1,l1,hA2,le2,c1,le3,c2,x1',x2',hl1,hl2,hws,h64,q1,hc2]
       ·have q1:(((4:Nat):Int) == 1)=false:=rfl
        have q4:(((4:Nat):Int) == 4)=true:=rfl
        simp only [Iz,bl,s_f5,a_f5,aa,bl,i64,reduceIte,reduceCtorEq,Nat.reduceEqDiff,Nat.reduceLT,Nat.reduceLeDiff,Nat.reduceBEq,Nat.reduceAdd,fillA,splice,Nat.reduceMul,amY,op_eqP,hfo,hmo,Bool.and_self,hA1,l1,hA2,le2,c1,le3,c2,x1',x2',hl1,hl2,hws,h64,q1,q4,hc2]
       ·have q1:(((13:Nat):Int) == 1)=false:=rfl
        have q4:(((13:Nat):Int) == 4)=false:=rfl
        have q13:(((13:Nat):Int) == 13)=true:=rfl
        simp only [Iz,bl,s_f5,a_f5,aa,bl,i64,reduceIte,reduceCtorEq,Nat.reduceEqDiff,Nat.reduceLT,Nat.reduceLeDiff,Nat.reduceBEq,Nat.reduceAdd,fillA,splice,Nat.reduceMul,amY,op_eqP,hfo,hmo,Bool.and_self,hA1,l1,hA2,le2,c1,le3,c2,x1',x2',hl1,hl2,hws,h64,q1,q4,q13,hc2]
       ·have q1:(((14:Nat):Int) == 1)=false:=rfl
        have q4:(((14:Nat):Int) == 4)=false:=rfl
        have q13:(((14:Nat):Int) == 13)=false:=rfl
        have q14:(((14:Nat):Int) == 14)=true:=rfl
        simp only [Iz,bl,s_f5,a_f5,aa,bl,i64,reduceIte,reduceCtorEq,Nat.reduceEqDiff,Nat.reduceLT,Nat.reduceLeDiff,Nat.reduceBEq,Nat.reduceAdd,fillA,splice,Nat.reduceMul,amY,op_eqP,hfo,hmo,Bool.and_self,hA1,l1,hA2,le2,c1,le3,c2,x1',x2',hl1,hl2,hws,h64,q1,q4,q13,q14,hc2]
      ·rw [not_or,not_or,not_or] at hk1
       obtain ⟨k1,k4,k13,k14⟩:=hk1
       have q1:((k:Int) == 1)=false:=by rw [beq_eq_false_iff_ne];omega
       have q4:((k:Int) == 4)=false:=by rw [beq_eq_false_iff_ne];omega
       have q13:((k:Int) == 13)=false:=by rw [beq_eq_false_iff_ne];omega
       have q14:((k:Int) == 14)=false:=by rw [beq_eq_false_iff_ne];omega
       obtain ⟨f1,f2⟩:=first_more fs more k1 k4 k13 k14
       have hbB:base≤B2.length:=by have:=eAB.le;omega
       obtain ⟨R,r1,r2,r3,r4,r5⟩:=(hr.ext eAB).rows
       obtain ⟨u1,C1,a1,W1,g1,t1⟩:=(AccW.start B2.length 3 B2).append0 (base:=base) (bytes:=64) hbB (Nat.le_refl _) r2 r1.el r3 (by simp only [List.length_nil];omega)
       have eB1:Ext B2 C1:=ext_of g1 fun id hid=>t1 id hid fun g n=>by simp [nilS]
       obtain ⟨S,s1,s2,s3,s4,s5⟩:=(hm.ext eAB).rows
       obtain ⟨u2,C2,a2,W2,g2,t2⟩:=W1.append0 (base:=base) (bytes:=64) hbB g1 s2 (s1.ext2 eB1).el s3 (by simp only [List.nil_append];omega)
       have eB2:Ext B2 C2:=ext_of (by omega) fun id hid=>by
        rw [t2 id (by omega) (fun g n e=>by
         obtain ⟨_,⟨_,hv⟩ | ⟨id',g',hv,_,hm'⟩⟩:=W1
         ·rw [hv] at e;simp [nilS] at e
         ·rw [hv] at e
          cases e
          omega),t1 id hid fun g n=>by simp [nilS]]
       rw [List.nil_append] at W2
       have eA2:Ext A C2:=eAB.trans eB2
       have hsm:Small fs:=lf.small
       have hsb:Small (fs ++ more):=by
        have s1:=lf.small
        have s2:=lm.small
        refine ⟨by rw [List.length_append];omega,fun f hf=>?_,fun f hf=>?_,fun f hf=>?_,fun f hf=>?_,fun f hf=>?_⟩
        ·exact (List.mem_append.1 hf).elim (s1.ps f) (s2.ps f)
        ·exact (List.mem_append.1 hf).elim (s1.nb f) (s2.nb f)
        ·exact (List.mem_append.1 hf).elim (s1.nc f) (s2.nc f)
        ·exact (List.mem_append.1 hf).elim (s1.xs f) (s2.xs f)
        ·exact (List.mem_append.1 hf).elim (s1.ls f) (s2.ls f)
       have hrb:RdProg C2 u2 (fs ++ more):=by
        refine ⟨R ++ S,W2.rd,by rw [List.length_append,List.length_append,r4,s4],by rw [List.length_append];omega,fun i x hx=>?_⟩
        by_cases hi:i < fs.length
        ·rw [List.getElem?_append_left hi] at hx
         obtain ⟨r,y1,y2⟩:=r5 i x hx
         exact ⟨r,by rw [List.getElem?_append_left (by omega)];exact y1,y2.ext eB2⟩
        ·rw [List.getElem?_append_right (by omega)] at hx
         obtain ⟨r,y1,y2⟩:=s5 _ x hx
         exact ⟨r,by rw [List.getElem?_append_right (by omega),r4];exact y1,y2.ext eB2⟩
       have hb2:base≤C2.length:=by omega
       have x2c:=getC_ext x2' eB1
       have hrC:=hr.ext eA2
       have lp:=ld1 C2 (d12.trans eB2)
       obtain ⟨G1,p1,p2⟩:=first_fun h.R h.first base hb2 hrC hsm k
       rw [resP_val] at p1
       obtain ⟨tA,htA⟩:∃ t,(firstN fs k).getD (0,0,0)=t:=⟨_,rfl⟩
       obtain ⟨iA,hiA⟩:∃ b,(firstN fs k).isSome=b:=⟨_,rfl⟩
       rw [htA,hiA] at p1
       obtain ⟨D1,hD1⟩:∃ D1,G1 ++ [Ob.cells 0 [Iz tA.1,Iz tA.2.1,Iz tA.2.2]]=D1:=⟨_,rfl⟩
       have eD1:Ext G1 D1:=hD1 ▸ Ext.app _ _
       have hbG:base≤G1.length:=by have:=p2.le;omega
       obtain ⟨G2,p3,p4⟩:=first_fun h.R h.first base (A:=D1) (by have:=eD1.le;omega) (hrb.ext (p2.trans eD1)) hsb k
       rw [resP_val] at p3
       obtain ⟨tB,htB⟩:∃ t,(firstN (fs ++ more) k).getD (0,0,0)=t:=⟨_,rfl⟩
       obtain ⟨iB,hiB⟩:∃ b,(firstN (fs ++ more) k).isSome=b:=⟨_,rfl⟩
       rw [htB,hiB] at p3
       obtain ⟨D2,hD2⟩:∃ D2,G2 ++ [Ob.cells 0 [Iz tB.1,Iz tB.2.1,Iz tB.2.2]]=D2:=⟨_,rfl⟩
       have eD2:Ext G2 D2:=hD2 ▸ Ext.app _ _
       have hbG2:base≤G2.length:=by have:=p4.le;have:=eD1.le;omega
       have hg1:∀ c,getC (G1 ++ [Ob.cells 0 c]) G1.length 0=some c:=fun c=>getC_new G1 0 c
       have hs1:∀ c d,(G1 ++ [c]).set G1.length d=G1 ++ [d]:=fun c d=>set_snoc G1 c d
       have hg2:∀ c,getC (G2 ++ [Ob.cells 0 c]) G2.length 0=some c:=fun c=>getC_new G2 0 c
       have hs2:∀ c d,(G2 ++ [c]).set G2.length d=G2 ++ [d]:=fun c d=>set_snoc G2 c d
       have v1:getC D2 G1.length 0=some [Iz tA.1,Iz tA.2.1,Iz tA.2.2]:=getC_ext (hD1 ▸ hg1 _) (p4.trans eD2)
       have v2:getC D2 G2.length 0=some [Iz tB.1,Iz tB.2.1,Iz tB.2.2]:=hD2 ▸ hg2 _
       have eBD:Ext B2 D2:=eB2.trans (p2.trans (eD1.trans (p4.trans eD2)))
       have x1d:=getC_ext x1' eBD
       have hld:=(hr.ext (eAB.trans eBD)).len
       obtain ⟨D3,hcD,_⟩:=hcc D2 (by have:=(eAB.trans eBD).le;omega)
       have hu2:u2.one=true:=W2.rd.one
       have hcell:u2.cells=[u2]:=by obtain ⟨_,⟨_,rfl⟩ | ⟨id,g,rfl,_,_⟩⟩:=W2 <;> rfl
       have hif:(if u2.cells.length=1∧u2.cells.all V.one=true then some (u2.cells ++ List.drop u2.cells.length [V.s (Value.slice none 0 0)]) else none)=some [u2]:=by rw [hcell];simp [hu2]
       refine ⟨_,run (H':=D3) ?_⟩
       simp only [Iz,nilS] at p1 hD1 p3 hD2 v1 v2 a1 a2
       cases ho:firstN fs k with
       | none=>
         rw [ho] at hiA
         obtain rfl:iA=false:=hiA.symm
         cases hq:firstN (fs ++ more) k with
         | none=>
           rw [hq] at hiB
           obtain rfl:iB=false:=hiB.symm
           simp only [Iz,bl,s_f5,a_f5,aa,bl,i64,reduceIte,reduceCtorEq,Nat.reduceEqDiff,Nat.reduceLT,Nat.reduceLeDiff,Nat.reduceBEq,Nat.reduceAdd,fillA,splice,Nat.reduceMul,amY,op_eqP,hfo,hmo,Bool.and_self,hA1,l1,hA2,le2,c1,le3,c2,x1',x2',hl1,hl2,hws,h64,q1,q4,q13,q14,a1,a2,x2c,lp,p1,hbG,hg1,hs1,hD1,hu2,hif,Option.map_some,p3,hbG2,hg2,hs2,hD2,hcD]
         | some t=>
           have hge:=f2 ho t hq
           rw [hq] at hiB htB
           obtain rfl:iB=true:=hiB.symm
           obtain rfl:t=tB:=htB
           have hge':decide ((t.1:Int) ≥ (fs.length:Int))=true:=decide_eq_true (by omega)
           simp only [Iz,bl,s_f5,a_f5,aa,bl,i64,reduceIte,reduceCtorEq,Nat.reduceEqDiff,Nat.reduceLT,Nat.reduceLeDiff,Nat.reduceBEq,Nat.reduceAdd,fillA,splice,Nat.reduceMul,amY,op_eqP,hfo,hmo,Bool.and_self,hA1,l1,hA2,le2,c1,le3,c2,x1',x2',hl1,hl2,hws,h64,q1,q4,q13,q14,a1,a2,x2c,lp,p1,hbG,hg1,hs1,hD1,hu2,hif,Option.map_some,p3,hbG2,hg2,hs2,hD2,hcD,x1d,hld,v2,hge']
       | some t=>
         have hsame:=f1 t ho
         rw [ho] at hiA htA
         rw [hsame] at hiB htB
         obtain rfl:iA=true:=hiA.symm
         obtain rfl:iB=true:=hiB.symm
         obtain rfl:t=tA:=htA
         obtain rfl:t=tB:=htB
         have heq:eqLeaves [Leaf.int .i64,Leaf.int .i64,Leaf.int .i64] [V.s (.int .i64 (t.1:Nat)),V.s (.int .i64 (t.2.1:Nat)),V.s (.int .i64 (t.2.2:Nat))] [V.s (.int .i64 (t.1:Nat)),V.s (.int .i64 (t.2.1:Nat)),V.s (.int .i64 (t.2.2:Nat))]=some true:=by simp [eqLeaves,eqLeaf]
         simp only [Iz,bl,s_f5,a_f5,aa,bl,i64,reduceIte,reduceCtorEq,Nat.reduceEqDiff,Nat.reduceLT,Nat.reduceLeDiff,Nat.reduceBEq,Nat.reduceAdd,fillA,splice,Nat.reduceMul,amY,op_eqP,hfo,hmo,Bool.and_self,hA1,l1,hA2,le2,c1,le3,c2,x1',x2',hl1,hl2,hws,h64,q1,q4,q13,q14,a1,a2,x2c,lp,p1,hbG,hg1,hs1,hD1,hu2,hif,Option.map_some,p3,hbG2,hg2,hs2,hD2,hcD,v1,v2,heq]
end
end Go.Proofs.YtamlbkalopefgaaR
namespace Go.AM
open Go.RowKit
inductive Ty where
 | int (k:IntKind) | bool | str
 | sl (e:Ty)
 | st (fs:List Ty)
 deriving Inhabited
mutual
def Ty.width:Ty→Nat
 | .int _=>1
 | .bool=>1
 | .str=>1
 | .sl _=>1
 | .st fs=>widths fs
def widths:List Ty→Nat
 | []=>0
 | f :: fs=>f.width+widths fs
end
mutual
def tyOk (P:Program):Nat→Ty→TypeId→Bool
 | 0,_,_=>false
 | n+1,ty,t=>match ty,P.underlying t with
   | .int k,some (.int k')=>k == k'
   | .bool,some .bool=>true
   | .str,some .string=>true
   | .sl e,some (.slice e')=>tyOk P n e e' && P.cellsOf e' == e.width && decide (0 < e.width)
   | .st fs,some (.struct gs)=>P.cellsOf t == widths fs && tysOk P n 0 fs gs.toList
   | _,_=>false
def tysOk (P:Program):Nat→Nat→List Ty→List Field→Bool
 | 0,_,_,_=>false
 | n+1,off,fs,gs=>match fs,gs with
   | [],[]=>true
   | f :: fs,g :: gs=>g.offset == off && P.cellsOf g.type == f.width && tyOk P n f g.type && tysOk P n (off+f.width) fs gs
   | _,_=>false
end
mutual
def IsV:Ty→List V→Prop
 | .int k,cs=>∃ n,cs=[.s (.int k n)]∧k.min≤n∧n≤k.max
 | .bool,cs=>∃ b,cs=[.s (.bool b)]
 | .str,cs=>∃ b,cs=[.s (.string b)]∧b.size≤maxLen
 | .sl e,cs=>cs=[nilS]∨∃ es:List (List V),cs=[.psl es e.width]∧es.length≤maxLen∧∀ x∈es,IsV e x
 | .st fs,cs=>IsVs fs cs
def IsVs:List Ty→List V→Prop
 | [],cs=>cs=[]
 | f :: fs,cs=>∃ a b,cs=a ++ b∧IsV f a∧IsVs fs b
end
mutual
theorem IsV.len:∀ (t:Ty) {cs:List V},IsV t cs→cs.length=t.width
 | .int _,cs,h=>by obtain ⟨n,rfl,_⟩:=h;rfl
 | .bool,cs,h=>by obtain ⟨n,rfl⟩:=h;rfl
 | .str,cs,h=>by obtain ⟨n,rfl,_⟩:=h;rfl
 | .sl e,cs,h=>by rcases h with rfl | ⟨es,rfl,_⟩ <;> rfl
 | .st fs,cs,h=>IsVs.len fs h
theorem IsVs.len:∀ (fs:List Ty) {cs:List V},IsVs fs cs→cs.length=widths fs
 | [],cs,h=>by cases h;rfl
 | f :: fs,cs,h=>by
   obtain ⟨a,b,rfl,h1,h2⟩:=h
   rw [List.length_append,IsV.len f h1,IsVs.len fs h2];rfl
end
abbrev PRs (w:World) (vs:List V) (cs:List Value):Prop:=vs.length=cs.length∧∀ (i:Nat) (a:V) (b:Value),vs[i]?=some a→cs[i]?=some b→PR (fun _=>False) w a b
theorem PRs.app {w:World} {a b:List V} {c d:List Value} (h:PRs w a c) (k:PRs w b d):PRs w (a ++ b) (c ++ d):=by
 refine ⟨by simp [h.1,k.1],fun i x y hx hy=>?_⟩
 by_cases hi:i < a.length
 ·rw [List.getElem?_append_left hi] at hx
  rw [List.getElem?_append_left (by rw [← h.1];exact hi)] at hy
  exact h.2 i x y hx hy
 ·rw [List.getElem?_append_right (by omega)] at hx
  rw [List.getElem?_append_right (by rw [← h.1];omega),← h.1] at hy
  exact k.2 _ x y hx hy
theorem PRs.one {w:World} {a:V} {b:Value} (h:PR (fun _=>False) w a b):PRs w [a] [b]:=⟨rfl,fun i x y hx hy=>by
 cases i with
 | zero=>simp at hx hy;rw [← hx,← hy];exact h
 | succ i=>simp at hx⟩
theorem PRs.vrs {w:World} {vs:List V} {cs:List Value} (h:PRs w vs cs):VRs (fun _ _=>none) (fun _=>False) w vs cs:=⟨h.1,fun i a b ha hb=>(h.2 i a b ha hb).vr⟩
theorem mapM_fwd {α β:Type} {f:α→Option β} {l:List α} {us:List β} (h:l.mapM f=some us):us.length=l.length∧∀ (i:Nat) (v:α),l[i]?=some v→∃ u,us[i]?=some u∧f v=some u:=by
 obtain ⟨h1,h2⟩:=mapM_get2 h
 refine ⟨h1,fun i v hv=>?_⟩
 have hi:i < us.length:=by rw [h1];exact (List.getElem?_eq_some_iff.1 hv).1
 exact ⟨us[i],List.getElem?_eq_getElem hi,h2 i v _ hv (List.getElem?_eq_getElem hi)⟩
section
variable {H:Type} {enc:TypeId × Value→H} {P:Program} {w:World} {base:Nat} {sp:Nat→Bool} {held:Bool}
theorem add_block (a:Addr) (j:Nat):(a.add j).block=a.block:=by unfold Addr.add;split <;> rfl
theorem add_off {a:Addr} (h:a.spot=none) (j:Nat):(a.add j).off=a.off+j:=by
 unfold Addr.add
 split
 ·rename_i e;subst e;rfl
 ·rfl
theorem cells_row {a:Addr} {n:Nat} {cs:List Value} (h:w.cells? base a n=some cs) (hn:0 < n):∃ arr e fr,w.heap[a.block]?=some (.cells arr e fr)∧a.spot=none∧cs.length=n∧a.off+n≤arr.size∧∀ j,j < n→cs[j]?=arr[a.off+j]?:=by
 unfold World.cells? at h
 split at h
 ·obtain ⟨h1,h2⟩:=mapM_fwd h
  simp only [List.length_range] at h1
  have key:∀ j,j < n→∃ u,cs[j]?=some u∧w.cell? (a.add j)=some u:=fun j hj=>h2 j j (by simp [hj])
  obtain ⟨u0,_,hc0⟩:=key 0 hn
  unfold World.cell? at hc0
  split at hc0
  ·rename_i c e fr hh
   have hbl:∀ j,(a.add j).block=a.block:=fun j=>add_block a j
   rw [hbl] at hh
   split at hc0
   ·cases hc0
   ·rename_i hsp
    have hsp:a.spot=none:=by
     cases hs:a.spot with
     | none=>rfl
     | some x=>exact absurd (by show (a.add 0).spot.isSome=true;simp [Addr.add,hs]) hsp
    have all:∀ j,j < n→cs[j]?=c[a.off+j]?:=by
     intro j hj
     obtain ⟨u,hu,hc⟩:=key j hj
     unfold World.cell? at hc
     rw [hbl,hh] at hc
     simp only [] at hc
     split at hc
     ·cases hc
     ·rw [hu]
      have:(a.add j).off=a.off+j:=add_off hsp j
      rw [← this];exact hc.symm
    refine ⟨c,e,fr,hh,hsp,h1,?_,all⟩
    have hl:=all (n - 1) (by omega)
    have:cs[n - 1]?=some cs[n - 1]:=List.getElem?_eq_getElem (by omega)
    rw [this] at hl
    have:=(Array.getElem?_eq_some_iff.1 hl.symm).1
    omega
  ·cases hc0
 ·cases h
theorem tyOk_int {n:Nat} {k:IntKind} {t:TypeId} (h:tyOk P n (.int k) t=true):P.underlying t=some (.int k):=by
 cases n with
 | zero=>simp [tyOk] at h
 | succ n=>
   simp only [tyOk] at h
   split at h <;> simp_all
theorem tyOk_bool {n:Nat} {t:TypeId} (h:tyOk P n .bool t=true):P.underlying t=some .bool:=by
 cases n with
 | zero=>simp [tyOk] at h
 | succ n=>
   simp only [tyOk] at h
   split at h <;> simp_all
theorem tyOk_str {n:Nat} {t:TypeId} (h:tyOk P n .str t=true):P.underlying t=some .string:=by
 cases n with
 | zero=>simp [tyOk] at h
 | succ n=>
   simp only [tyOk] at h
   split at h <;> simp_all
theorem tyOk_sl {n:Nat} {e:Ty} {t:TypeId} (h:tyOk P n (.sl e) t=true):∃ m e',P.underlying t=some (.slice e')∧tyOk P m e e'=true∧P.cellsOf e'=e.width∧0 < e.width:=by
 cases n with
 | zero=>simp [tyOk] at h
 | succ n=>
   simp only [tyOk] at h
   split at h <;> simp_all
   exact ⟨n,h.1.1⟩
theorem tyOk_st {n:Nat} {fs:List Ty} {t:TypeId} (h:tyOk P n (.st fs) t=true):∃ m gs,P.underlying t=some (.struct gs)∧P.cellsOf t=widths fs∧tysOk P m 0 fs gs.toList=true:=by
 cases n with
 | zero=>simp [tyOk] at h
 | succ n=>
   simp only [tyOk] at h
   split at h <;> simp_all
   exact ⟨n,h.2⟩
theorem read_ty:∀ (fuel n:Nat) (ty:Ty) (t:TypeId) (cs:List Value) (x:DataW H × List MemPlace),tyOk P n ty t=true→DataW.trod enc P w base sp held fuel t cs=some x→∃ vs,IsV ty vs∧PRs w vs cs:=by
 intro fuel
 induction fuel with
 | zero=>intro n ty t cs x _ h;simp [DataW.trod] at h
 | succ fuel ih=>
   intro n ty t cs x ht h
   cases ty with
   | int k=>
     obtain ⟨m,rfl,_,hw⟩:=DataW.trod_int (tyOk_int ht) h
     simp only [Lit.wf,Bool.and_eq_true,decide_eq_true_eq] at hw
     exact ⟨[.s (.int k m)],⟨m,rfl,hw.1,hw.2⟩,PRs.one (.s _)⟩
   | bool=>
     obtain ⟨b,rfl,_⟩:=DataW.trod_bool (tyOk_bool ht) h
     exact ⟨[.s (.bool b)],⟨b,rfl⟩,PRs.one (.s _)⟩
   | str=>
     obtain ⟨b,rfl,_,hb⟩:=DataW.trod_string (tyOk_str ht) h
     exact ⟨[.s (.string b)],⟨b,rfl,hb⟩,PRs.one (.s _)⟩
   | sl e=>
     obtain ⟨m,e',hu,he,hw,h0⟩:=tyOk_sl ht
     rcases DataW.trod_slice hu h with ⟨rfl,_⟩ | ⟨a,len,cap,elems,rest,n2,hn,rfl,_,hb,hlc,hcm,hel,hall,_⟩
     ·exact ⟨[nilS],.inl rfl,PRs.one (.s _)⟩
     ·have hn2:n2=fuel:=by omega
      subst hn2
      rw [hw] at hall
      by_cases hl:len=0
      ·subst hl
       exact ⟨[.psl [] e.width],.inr ⟨[],rfl,Nat.zero_le _,fun x hx=>by cases hx⟩,PRs.one (.psl0 _ _ _)⟩
      ·
       have one:∀ i,i < len→∃ cs vs,w.cells? base (a.add (i * e.width)) e.width=some cs∧IsV e vs∧PRs w vs cs:=by
        intro i hi
        have hh:=hall i hi
        have:elems[i]?=some elems[i]:=List.getElem?_eq_getElem (by omega)
        rw [this,Option.bind_eq_some_iff] at hh
        obtain ⟨cs,h1,h2⟩:=hh
        obtain ⟨vs,h3,h4⟩:=ih m e e' cs _ he h2
        exact ⟨cs,vs,h1,h3,h4⟩
       obtain ⟨c0,_,hc0,_,_⟩:=one 0 (by omega)
       rw [Nat.zero_mul] at hc0
       have ha0:a.add 0=a:=by simp [Addr.add]
       rw [ha0] at hc0
       obtain ⟨arr,el,fr,hB,hsp,_,_,_⟩:=cells_row hc0 h0
       have pos:∀ i,i < len→∃ vs,IsV e vs∧a.off+i * e.width+e.width≤arr.size∧∀ (j:Nat) (x:V) (y:Value),vs[j]?=some x→arr[a.off+i * e.width+j]?=some y→PR (fun _=>False) w x y:=by
        intro i hi
        obtain ⟨cs,vs,h1,h2,h3⟩:=one i hi
        obtain ⟨arr',el',fr',hB',_,hcl,hsz,hcj⟩:=cells_row h1 h0
        rw [add_block,hB] at hB'
        cases hB'
        rw [add_off hsp] at hsz hcj
        refine ⟨vs,h2,hsz,fun j x y hx hy=>?_⟩
        have hj:j < e.width:=by rw [← h2.len];exact (List.getElem?_eq_some_iff.1 hx).1
        exact h3.2 j x y hx (by rw [hcj j hj];exact hy)
       obtain ⟨es,he1,he2⟩:∃ es:List (List V),es.length=len∧∀ i vs,es[i]?=some vs→IsV e vs∧a.off+i * e.width+e.width≤arr.size∧∀ (j:Nat) (x:V) (y:Value),vs[j]?=some x→arr[a.off+i * e.width+j]?=some y→PR (fun _=>False) w x y:=by
        have:∀ k,k≤len→∃ es:List (List V),es.length=k∧∀ i vs,es[i]?=some vs→IsV e vs∧a.off+i * e.width+e.width≤arr.size∧∀ (j:Nat) (x:V) (y:Value),vs[j]?=some x→arr[a.off+i * e.width+j]?=some y→PR (fun _=>False) w x y:=by
         intro k
         induction k with
         | zero=>intro _;exact ⟨[],rfl,fun i vs h=>by simp at h⟩
         | succ k ihk=>
           intro hk
           obtain ⟨es,h1,h2⟩:=ihk (by omega)
           obtain ⟨vs,h3⟩:=pos k (by omega)
           refine ⟨es ++ [vs],by simp [h1],fun i us hi=>?_⟩
           by_cases c:i < es.length
           ·rw [List.getElem?_append_left c] at hi;exact h2 i us hi
           ·rw [List.getElem?_append_right (by omega)] at hi
            have:i - es.length=0:=by
             have:=(List.getElem?_eq_some_iff.1 hi).1
             simp at this;omega
            rw [this] at hi
            simp at hi
            have hik:i=k:=by omega
            subst hik;subst hi
            exact h3
        exact this len (Nat.le_refl _)
       refine ⟨[.psl es e.width],.inr ⟨es,rfl,by omega,fun x hx=>?_⟩,PRs.one ?_⟩
       ·obtain ⟨i,hi⟩:=List.mem_iff_getElem?.1 hx
        exact (he2 i x hi).1
       ·have hslice:Value.slice (some a) len cap=.slice (some ⟨a.block,a.off,none⟩) es.length cap:=by
         rw [he1]
         congr 2
         cases a;simp at hsp;subst hsp;rfl
        rw [hslice]
        refine .psl es e.width a.block a.off cap arr el fr hB (fun h=>h) (by omega) (fun i vs hi=>(he2 i vs hi).1.len) ?_ (fun i vs j x y hi hx hy=>(he2 i vs hi).2.2 j x y hx hy)
        have hlast:=(he2 (len - 1) es[len - 1] (List.getElem?_eq_getElem (by omega))).2.1
        rw [he1]
        have:len * e.width=(len - 1) * e.width+e.width:=by
         obtain ⟨k,rfl⟩:∃ k,len=k+1:=⟨len - 1,by omega⟩
         rw [Nat.add_sub_cancel,Nat.add_mul,Nat.one_mul]
        omega
   | st fs=>
     obtain ⟨m,gs,hu,hw,hts⟩:=tyOk_st ht
     obtain ⟨xs,n2,hn,_,hcl,hxl,hall⟩:=DataW.trod_struct hu h
     have hn2:n2=fuel:=by omega
     subst hn2
     have key:∀ (fs:List Ty) (m off:Nat) (gl:List Field),tysOk P m off fs gl=true→(∀ g∈gl,∃ y,DataW.trod enc P w base sp held n2 g.type ((cs.drop g.offset).take (P.cellsOf g.type))=some y)→off+widths fs=cs.length→∃ vs,IsVs fs vs∧PRs w vs (cs.drop off):=by
      intro fs
      induction fs with
      | nil=>
        intro m off gl _ _ ho
        refine ⟨[],rfl,?_⟩
        rw [List.drop_eq_nil_of_le (by simp [widths] at ho;omega)]
        exact ⟨rfl,fun i a b h=>by simp at h⟩
      | cons f fs ihf=>
        intro m off gl htk hg ho
        cases m with
        | zero=>simp [tysOk] at htk
        | succ m=>
          cases gl with
          | nil=>simp [tysOk] at htk
          | cons g gl=>
            simp only [tysOk,Bool.and_eq_true,beq_iff_eq] at htk
            obtain ⟨⟨⟨h1,h2⟩,h3⟩,h4⟩:=htk
            obtain ⟨y,hy⟩:=hg g List.mem_cons_self
            obtain ⟨va,ha1,ha2⟩:=ih m f g.type _ y h3 hy
            obtain ⟨vb,hb1,hb2⟩:=ihf m (off+f.width) gl h4 (fun g hg'=>hg g (List.mem_cons_of_mem _ hg')) (by simp only [widths] at ho;omega)
            refine ⟨va ++ vb,⟨va,vb,rfl,ha1,hb1⟩,?_⟩
            rw [h1,h2] at ha2
            have:cs.drop off=(cs.drop off).take f.width ++ cs.drop (off+f.width):=by
             rw [← List.drop_drop,List.take_append_drop]
            rw [this]
            exact ha2.app hb2
     obtain ⟨vs,h1,h2⟩:=key fs m 0 gs.toList hts (fun g hg=>by
      obtain ⟨i,hi⟩:=List.mem_iff_getElem?.1 hg
      have hi':gs[i]?=some g:=by simpa using hi
      have h3:=hall i g hi'
      have hlt:=(Array.getElem?_eq_some_iff.1 hi').1
      exact ⟨xs[i]'(by omega),by rw [h3];exact List.getElem?_eq_getElem (by omega)⟩) (by omega)
     exact ⟨vs,h1,by simpa using h2⟩
def argV:Ty→List V→V
 | .st _,vs=>.agg vs
 | _,[v]=>v
 | _,_=>.unk
theorem read_arg {n:Nat} {ty:Ty} {t:TypeId} {v:Value} {d:DataW H} {ps:List MemPlace} (ht:tyOk P n ty t=true) (hf:(match ty with | .st _=>∃ vs,v=.agg vs | _=>v.cells.toList=[v])) (h:DataW.Trod enc P w base sp held t v d ps):
 ∃ vs,IsV ty vs∧VR (fun _ _=>none) (fun _=>False) w (argV ty vs) v:=by
 obtain ⟨fuel,h⟩:=h
 obtain ⟨vs,h1,h2⟩:=read_ty fuel n ty t _ _ ht h
 refine ⟨vs,h1,?_⟩
 have one:vs.length=1→v.cells.toList=[v]→∃ x,vs=[x]∧VR (fun _ _=>none) (fun _=>False) w x v:=by
  intro hl hc
  match vs,hl with
  | [x],_=>
    rw [hc] at h2
    exact ⟨x,rfl,(h2.2 0 x v rfl rfl).vr⟩
 cases ty with
 | st fs=>
   obtain ⟨us,rfl⟩:=hf
   exact vr_agg_mk (vs:=us.toList) h2.vrs
 | _=>
   obtain ⟨x,rfl,hx⟩:=one h1.len hf
   exact hx
end
end Go.AM
set_option maxRecDepth 100000
namespace Go.Proofs.YtamlbkalopefgaaR
open Go.AM
def tInstr:Ty:=.st [.int .u8,.str,.str,.str,.int .i64,.str,.sl .str,.sl .str]
def tBlock:Ty:=.st [.str,.sl tInstr]
def tFunc:Ty:=.st [.str,.sl .str,.sl tBlock]
def tProg:Ty:=.st [.sl tFunc]
theorem strs_of {v:List V} (h:IsV (.sl .str) v):∃ u,v=[u]∧∃ l:List ByteArray,(∀ H,Rd H u (l.map Sb))∧Wide1 u∧l.length < 2 ^ 63:=by
 rcases h with rfl | ⟨es,rfl,hl,he⟩
 ·exact ⟨nilS,rfl,[],fun H=>Rd.nil H,trivial,by decide⟩
 ·have:∀ es:List (List V),(∀ x∈es,IsV .str x)→∃ l:List ByteArray,es=(l.map Sb).map fun x=>[x]:=by
   intro es
   induction es with
   | nil=>intro _;exact ⟨[],rfl⟩
   | cons e es ih=>
     intro h
     obtain ⟨b,rfl,_⟩:=h e List.mem_cons_self
     obtain ⟨l,rfl⟩:=ih fun x hx=>h x (List.mem_cons_of_mem _ hx)
     exact ⟨b :: l,rfl⟩
  obtain ⟨l,rfl⟩:=this es he
  refine ⟨_,rfl,l,fun H=>Rd.psl H _,?_,?_⟩
  ·intro e he
   rw [List.mem_map] at he
   obtain ⟨x,_,rfl⟩:=he
   rfl
  ·simp only [List.length_map,maxLen] at hl
   omega
theorem ins_of {v:List V} (h:IsV tInstr v):v.length=8∧∃ x:InsD,∀ H,RdIns H v x:=by
 have hlen:=IsV.len _ h
 refine ⟨hlen,?_⟩
 obtain ⟨_,_,rfl,⟨o,rfl,_⟩,_,_,rfl,⟨d,rfl,_⟩,_,_,rfl,⟨a,rfl,_⟩,_,_,rfl,⟨b,rfl,_⟩,_,_,rfl,⟨n,rfl,_⟩,_,_,rfl,⟨f,rfl,_⟩,_,_,rfl,h1,_,_,rfl,h2,rfl⟩:=h
 obtain ⟨av,rfl,l,q1,q2,q3⟩:=strs_of h1
 obtain ⟨lv,rfl,ll,r1,r2,r3⟩:=strs_of h2
 exact ⟨⟨o,d,a,b,n,f,l,ll⟩,fun H=>⟨av,lv,rfl,q1 H,q2,r1 H,r2,q3,r3⟩⟩
theorem list_of {α:Type} {w:Nat} {t:Ty} {P:Heap→List V→α→Prop} (hw:∀ {v:List V},IsV t v→v.length=w∧∃ x:α,∀ H,P H v x) {v:List V} (h:IsV (.sl t) v) (hsz:t.width=w):∃ u,v=[u]∧∃ l:List α,∀ H,RdL w P H u l:=by
 rcases h with rfl | ⟨es,rfl,hl,he⟩
 ·exact ⟨_,rfl,[],fun H=>⟨[],RdW.nil w H,rfl,Nat.two_pow_pos 63,fun i x hx=>by simp at hx⟩⟩
 ·have:∀ es:List (List V),(∀ x∈es,IsV t x)→∃ l:List α,l.length=es.length∧∀ (i:Nat) (x:α),l[i]?=some x→∃ r:List V,es[i]?=some r∧∀ H,P H r x:=by
   intro es
   induction es with
   | nil=>intro _;exact ⟨[],rfl,fun i b hb=>by simp at hb⟩
   | cons e es ih=>
     intro h
     obtain ⟨l,k1,k2⟩:=ih fun x hx=>h x (List.mem_cons_of_mem _ hx)
     obtain ⟨_,b,b1⟩:=hw (h e List.mem_cons_self)
     refine ⟨b :: l,by simp [k1],fun i c hc=>?_⟩
     cases i with
     | zero=>rw [List.getElem?_cons_zero] at hc;obtain rfl:=Option.some.inj hc;exact ⟨e,rfl,b1⟩
     | succ i=>rw [List.getElem?_cons_succ] at hc;obtain ⟨r,r1,r2⟩:=k2 i c hc;exact ⟨r,by rw [List.getElem?_cons_succ];exact r1,r2⟩
  obtain ⟨l,k1,k2⟩:=this es he
  refine ⟨_,rfl,l,fun H=>⟨es,?_,k1.symm,?_,fun i b hb=>by obtain ⟨r,r1,r2⟩:=k2 i b hb;exact ⟨r,r1,r2 H⟩⟩⟩
  ·rw [hsz]
   exact RdW.psl H fun r hr=>(hw (he r hr)).1
  ·simp only [maxLen] at hl
   omega
theorem blk_of {v:List V} (h:IsV tBlock v):v.length=2∧∃ b:BlkD,∀ H,RdBlk H v b:=by
 have hlen:=IsV.len _ h
 refine ⟨hlen,?_⟩
 obtain ⟨_,_,rfl,⟨lab,rfl,_⟩,_,_,rfl,h2,rfl⟩:=h
 obtain ⟨cv,rfl,l,q1⟩:=list_of (P:=RdIns) ins_of h2 rfl
 exact ⟨⟨lab,l⟩,fun H=>⟨cv,rfl,q1 H⟩⟩
theorem fun_of {v:List V} (h:IsV tFunc v):v.length=3∧∃ f:FunD,∀ H,RdFun H v f:=by
 have hlen:=IsV.len _ h
 refine ⟨hlen,?_⟩
 obtain ⟨_,_,rfl,⟨nm,rfl,_⟩,_,_,rfl,h1,_,_,rfl,h2,rfl⟩:=h
 obtain ⟨pv,rfl,ps,p1,p2,p3⟩:=strs_of h1
 obtain ⟨bv,rfl,l,q1⟩:=list_of (P:=RdBlk) blk_of h2 rfl
 exact ⟨⟨nm,ps,l⟩,fun H=>⟨pv,bv,rfl,p1 H,p2,p3,q1 H⟩⟩
theorem prog_of {v:List V} (h:IsV tProg v):∃ u,V.agg v=u∧∃ (fv:V) (fs:List FunD),u=.agg [fv]∧∀ H,RdProg H fv fs:=by
 obtain ⟨_,_,rfl,h2,rfl⟩:=h
 obtain ⟨fv,rfl,l,q1⟩:=list_of (P:=RdFun) fun_of h2 rfl
 exact ⟨_,rfl,fv,l,rfl,q1⟩
end Go.Proofs.YtamlbkalopefgaaR
set_option maxRecDepth 100000
namespace Go.Proofs.YtamlbkalopefgaaR
open Go.ChangeShapes Go.WideShapes Go.ChangeAt Go.RowKit Go.AM
theorem mixed:Try.prog.follows .mixedOrders=true:=by kernel_rfl
end Go.Proofs.YtamlbkalopefgaaR
