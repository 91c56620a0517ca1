/- Texts of the proof: NamH1, NamH2, NamH3, NamC1, NamE2, NamG1, NamG2, NamG3, NamG4, NamC2, NamD1, NamE4, NamE1, NamE3, NamD2, NamP3, NamD3, NamD4, NamD5. -/
import Derived.Test.YtamlbkalopefgaaRP0
import Derived.Test.YtamlbkalopefgaaRP1
import Derived.Test.YtamlbkalopefgaaRP2
import Derived.Test.YtamlbkalopefgaaRP3
import Derived.Test.YtamlbkalopefgaaRP4
set_option linter.all false
set_option maxRecDepth 100000
namespace Go.Proofs.YtamlbkalopefgaaR
open Go.AM
structure BadT (CT:Nat→Option CFun):Prop where
 is':CT k_f7=some (.code s_f7)
 bad1:CT k_f63=some (.code s_f63)
 bad:CT k_f41=some (.code s_f41)
 con:CT k_f39=some (.code s_f39)
 idx:CT k_f62=some (.code s_f62)
def bnA (s:ShD) (x:InsD):Bool:=(((s.d && badS false x.d) || (s.f && badS false x.f)) || (s.a && badS true x.a)) || (s.b && badS true x.b)
section
variable {CT:Nat→Option CFun}
theorem badOne (hT:BadT CT) (base:Nat) (D:Heap) (op:Bool) (s:ByteArray):∃ E,callW CT (.fn k_f41 [] []) [.s (.bool op),.sl D.length 0 0 1 1] base (D ++ [Ob.cells 0 [Sb s]])=some (bl (badS op s),E)∧Ext D E:=by
 have hr:Rd (D ++ [Ob.cells 0 [Sb s]]) (.sl D.length 0 0 1 1) ([s].map Sb):=Rd.sl (getC_new D 0 [Sb s]) (off:=0) (n:=1) (by simp)
 obtain ⟨E,h1,h2⟩:=bad_fun hT.is' hT.bad1 hT.bad hT.con hT.idx base (D ++ [Ob.cells 0 [Sb s]]) op hr trivial (by simp)
 refine ⟨E,?_,(Ext.app _ _).trans h2⟩
 rw [h1]
 simp [bl]
set_option maxHeartbeats 8000000 in
theorem bn_r15 (hT:BadT CT) (base:Nat) {D0:Heap} (hb:base≤D0.length) {p q:Nat} {x:InsD} {av lv:V} {s:ShD} (h9_0:getC D0 p 0=some (insC x av lv)) (h10_0:getC D0 q 0=some s.c) {v0 v2 v4 v6 v8 v16 v17 v18 v35 v36 v37 v50 v51 v52:V}:
 ∃ D',evC (callW CT) itW base (.region R23_15 [] [64,65,66,67,68,69,70,71,72,73,74,75,76,77,78,79,80,81,82,83,84,85,86,87,88,89,90,91,92,93,94,95,96,97,98,99,100,101]) (frOf 140 [(0,v0),(2,v2),(4,v4),(6,v6),(8,v8),(9,.ref p 0 0),(10,.ref q 0 0),(16,v16),(17,v17),(18,v18),(35,v35),(36,v36),(37,v37),(50,v50),(51,v51),(52,v52)]) D0=some (.nrm,frOf 140 [(0,v0),(2,v2),(4,v4),(6,v6),(8,v8),(9,.ref p 0 0),(10,.ref q 0 0),(11,bl (bnA s x)),(16,v16),(17,v17),(18,v18),(35,v35),(36,v36),(37,v37),(50,v50),(51,v51),(52,v52)],D')∧Ext D0 D':=by
 have e_0:Ext D0 D0:=Ext.refl _
 simp only [insC,ShD.c] at h9_0 h10_0
 cases s_d:s.d with
 | false=>
   cases s_f:s.f with
   | false=>
     cases s_a:s.a with
     | false=>
       cases s_b:s.b with
       | false=>
         refine ⟨D0,?_,e_0⟩
         simp only [bnA,Iz,Sb,a_f23,s_f23_l0_b,s_f23_l1_b,s_f23_l2_b,aa,bl,i64,reduceIte,reduceCtorEq,Nat.reduceEqDiff,Nat.reduceLT,Nat.reduceLeDiff,Nat.reduceBEq,Nat.reduceAdd,fillA,splice,Nat.reduceMul,amY,op_eqP,h9_0,h10_0,s_d,s_f,s_a,s_b]
       | true=>
         obtain ⟨D1,c_1,x_1⟩:=badOne hT base D0 true x.b
         have e_1:=e_0.trans x_1
         have h9_1:=getC_ext h9_0 x_1
         have h10_1:=getC_ext h10_0 x_1
         simp only [bl,Sb] at c_1
         cases b_b:badS true x.b with
         | true=>
           rw [b_b] at c_1
           refine ⟨D1,?_,e_1⟩
           simp only [bnA,Iz,Sb,a_f23,s_f23_l0_b,s_f23_l1_b,s_f23_l2_b,aa,bl,i64,reduceIte,reduceCtorEq,Nat.reduceEqDiff,Nat.reduceLT,Nat.reduceLeDiff,Nat.reduceBEq,Nat.reduceAdd,fillA,splice,Nat.reduceMul,amY,op_eqP,h9_0,h10_0,s_d,s_f,s_a,s_b,b_b,c_1,h9_1,h10_1]
         | false=>
           rw [b_b] at c_1
           refine ⟨D1,?_,e_1⟩
           simp only [bnA,Iz,Sb,a_f23,s_f23_l0_b,s_f23_l1_b,s_f23_l2_b,aa,bl,i64,reduceIte,reduceCtorEq,Nat.reduceEqDiff,Nat.reduceLT,Nat.reduceLeDiff,Nat.reduceBEq,Nat.reduceAdd,fillA,splice,Nat.reduceMul,amY,op_eqP,h9_0,h10_0,s_d,s_f,s_a,s_b,b_b,c_1,h9_1,h10_1]
     | true=>
       obtain ⟨D1,c_1,x_1⟩:=badOne hT base D0 true x.a
       have e_1:=e_0.trans x_1
       have h9_1:=getC_ext h9_0 x_1
       have h10_1:=getC_ext h10_0 x_1
       simp only [bl,Sb] at c_1
       cases b_a:badS true x.a with
       | true=>
         rw [b_a] at c_1
         refine ⟨D1,?_,e_1⟩
         simp only [bnA,Iz,Sb,a_f23,s_f23_l0_b,s_f23_l1_b,s_f23_l2_b,aa,bl,i64,reduceIte,reduceCtorEq,Nat.reduceEqDiff,Nat.reduceLT,Nat.reduceLeDiff,Nat.reduceBEq,Nat.reduceAdd,fillA,splice,Nat.reduceMul,amY,op_eqP,h9_0,h10_0,s_d,s_f,s_a,b_a,c_1,h9_1,h10_1]
       | false=>
         rw [b_a] at c_1
         cases s_b:s.b with
         | false=>
           refine ⟨D1,?_,e_1⟩
           simp only [bnA,Iz,Sb,a_f23,s_f23_l0_b,s_f23_l1_b,s_f23_l2_b,aa,bl,i64,reduceIte,reduceCtorEq,Nat.reduceEqDiff,Nat.reduceLT,Nat.reduceLeDiff,Nat.reduceBEq,Nat.reduceAdd,fillA,splice,Nat.reduceMul,amY,op_eqP,h9_0,h10_0,s_d,s_f,s_a,b_a,c_1,h9_1,h10_1,s_b]
         | true=>
           obtain ⟨D2,c_2,x_2⟩:=badOne hT base D1 true x.b
           have e_2:=e_1.trans x_2
           have h9_2:=getC_ext h9_1 x_2
           have h10_2:=getC_ext h10_1 x_2
           simp only [bl,Sb] at c_2
           cases b_b:badS true x.b with
           | true=>
             rw [b_b] at c_2
             refine ⟨D2,?_,e_2⟩
             simp only [bnA,Iz,Sb,a_f23,s_f23_l0_b,s_f23_l1_b,s_f23_l2_b,aa,bl,i64,reduceIte,reduceCtorEq,Nat.reduceEqDiff,Nat.reduceLT,Nat.reduceLeDiff,Nat.reduceBEq,Nat.reduceAdd,fillA,splice,Nat.reduceMul,amY,op_eqP,h9_0,h10_0,s_d,s_f,s_a,b_a,c_1,h9_1,h10_1,s_b,b_b,c_2,h9_2,h10_2]
           | false=>
             rw [b_b] at c_2
             refine ⟨D2,?_,e_2⟩
             simp only [bnA,Iz,Sb,a_f23,s_f23_l0_b,s_f23_l1_b,s_f23_l2_b,aa,bl,i64,reduceIte,reduceCtorEq,Nat.reduceEqDiff,Nat.reduceLT,Nat.reduceLeDiff,Nat.reduceBEq,Nat.reduceAdd,fillA,splice,Nat.reduceMul,amY,op_eqP,h9_0,h10_0,s_d,s_f,s_a,b_a,c_1,h9_1,h10_1,s_b,b_b,c_2,h9_2,h10_2]
   | true=>
     obtain ⟨D1,c_1,x_1⟩:=badOne hT base D0 false x.f
     have e_1:=e_0.trans x_1
     have h9_1:=getC_ext h9_0 x_1
     have h10_1:=getC_ext h10_0 x_1
     simp only [bl,Sb] at c_1
     cases b_f:badS false x.f with
     | true=>
       rw [b_f] at c_1
       refine ⟨D1,?_,e_1⟩
       simp only [bnA,Iz,Sb,a_f23,s_f23_l0_b,s_f23_l1_b,s_f23_l2_b,aa,bl,i64,reduceIte,reduceCtorEq,Nat.reduceEqDiff,Nat.reduceLT,Nat.reduceLeDiff,Nat.reduceBEq,Nat.reduceAdd,fillA,splice,Nat.reduceMul,amY,op_eqP,h9_0,h10_0,s_d,s_f,b_f,c_1,h9_1,h10_1]
     | false=>
       rw [b_f] at c_1
       cases s_a:s.a with
       | false=>
         cases s_b:s.b with
         | false=>
           refine ⟨D1,?_,e_1⟩
           simp only [bnA,Iz,Sb,a_f23,s_f23_l0_b,s_f23_l1_b,s_f23_l2_b,aa,bl,i64,reduceIte,reduceCtorEq,Nat.reduceEqDiff,Nat.reduceLT,Nat.reduceLeDiff,Nat.reduceBEq,Nat.reduceAdd,fillA,splice,Nat.reduceMul,amY,op_eqP,h9_0,h10_0,s_d,s_f,b_f,c_1,h9_1,h10_1,s_a,s_b]
         | true=>
           obtain ⟨D2,c_2,x_2⟩:=badOne hT base D1 true x.b
           have e_2:=e_1.trans x_2
           have h9_2:=getC_ext h9_1 x_2
           have h10_2:=getC_ext h10_1 x_2
           simp only [bl,Sb] at c_2
           cases b_b:badS true x.b with
           | true=>
             rw [b_b] at c_2
             refine ⟨D2,?_,e_2⟩
             simp only [bnA,Iz,Sb,a_f23,s_f23_l0_b,s_f23_l1_b,s_f23_l2_b,aa,bl,i64,reduceIte,reduceCtorEq,Nat.reduceEqDiff,Nat.reduceLT,Nat.reduceLeDiff,Nat.reduceBEq,Nat.reduceAdd,fillA,splice,Nat.reduceMul,amY,op_eqP,h9_0,h10_0,s_d,s_f,b_f,c_1,h9_1,h10_1,s_a,s_b,b_b,c_2,h9_2,h10_2]
           | false=>
             rw [b_b] at c_2
             refine ⟨D2,?_,e_2⟩
             simp only [bnA,Iz,Sb,a_f23,s_f23_l0_b,s_f23_l1_b,s_f23_l2_b,aa,bl,i64,reduceIte,reduceCtorEq,Nat.reduceEqDiff,Nat.reduceLT,Nat.reduceLeDiff,Nat.reduceBEq,Nat.reduceAdd,fillA,splice,Nat.reduceMul,amY,op_eqP,h9_0,h10_0,s_d,s_f,b_f,c_1,h9_1,h10_1,s_a,s_b,b_b,c_2,h9_2,h10_2]
       | true=>
         obtain ⟨D2,c_2,x_2⟩:=badOne hT base D1 true x.a
         have e_2:=e_1.trans x_2
         have h9_2:=getC_ext h9_1 x_2
         have h10_2:=getC_ext h10_1 x_2
         simp only [bl,Sb] at c_2
         cases b_a:badS true x.a with
         | true=>
           rw [b_a] at c_2
           refine ⟨D2,?_,e_2⟩
           simp only [bnA,Iz,Sb,a_f23,s_f23_l0_b,s_f23_l1_b,s_f23_l2_b,aa,bl,i64,reduceIte,reduceCtorEq,Nat.reduceEqDiff,Nat.reduceLT,Nat.reduceLeDiff,Nat.reduceBEq,Nat.reduceAdd,fillA,splice,Nat.reduceMul,amY,op_eqP,h9_0,h10_0,s_d,s_f,b_f,c_1,h9_1,h10_1,s_a,b_a,c_2,h9_2,h10_2]
         | false=>
           rw [b_a] at c_2
           cases s_b:s.b with
           | false=>
             refine ⟨D2,?_,e_2⟩
             simp only [bnA,Iz,Sb,a_f23,s_f23_l0_b,s_f23_l1_b,s_f23_l2_b,aa,bl,i64,reduceIte,reduceCtorEq,Nat.reduceEqDiff,Nat.reduceLT,Nat.reduceLeDiff,Nat.reduceBEq,Nat.reduceAdd,fillA,splice,Nat.reduceMul,amY,op_eqP,h9_0,h10_0,s_d,s_f,b_f,c_1,h9_1,h10_1,s_a,b_a,c_2,h9_2,h10_2,s_b]
           | true=>
             obtain ⟨D3,c_3,x_3⟩:=badOne hT base D2 true x.b
             have e_3:=e_2.trans x_3
             have h9_3:=getC_ext h9_2 x_3
             have h10_3:=getC_ext h10_2 x_3
             simp only [bl,Sb] at c_3
             cases b_b:badS true x.b with
             | true=>
               rw [b_b] at c_3
               refine ⟨D3,?_,e_3⟩
               simp only [bnA,Iz,Sb,a_f23,s_f23_l0_b,s_f23_l1_b,s_f23_l2_b,aa,bl,i64,reduceIte,reduceCtorEq,Nat.reduceEqDiff,Nat.reduceLT,Nat.reduceLeDiff,Nat.reduceBEq,Nat.reduceAdd,fillA,splice,Nat.reduceMul,amY,op_eqP,h9_0,h10_0,s_d,s_f,b_f,c_1,h9_1,h10_1,s_a,b_a,c_2,h9_2,h10_2,s_b,b_b,c_3,h9_3,h10_3]
             | false=>
               rw [b_b] at c_3
               refine ⟨D3,?_,e_3⟩
               simp only [bnA,Iz,Sb,a_f23,s_f23_l0_b,s_f23_l1_b,s_f23_l2_b,aa,bl,i64,reduceIte,reduceCtorEq,Nat.reduceEqDiff,Nat.reduceLT,Nat.reduceLeDiff,Nat.reduceBEq,Nat.reduceAdd,fillA,splice,Nat.reduceMul,amY,op_eqP,h9_0,h10_0,s_d,s_f,b_f,c_1,h9_1,h10_1,s_a,b_a,c_2,h9_2,h10_2,s_b,b_b,c_3,h9_3,h10_3]
 | true=>
   obtain ⟨D1,c_1,x_1⟩:=badOne hT base D0 false x.d
   have e_1:=e_0.trans x_1
   have h9_1:=getC_ext h9_0 x_1
   have h10_1:=getC_ext h10_0 x_1
   simp only [bl,Sb] at c_1
   cases b_d:badS false x.d with
   | true=>
     rw [b_d] at c_1
     refine ⟨D1,?_,e_1⟩
     simp only [bnA,Iz,Sb,a_f23,s_f23_l0_b,s_f23_l1_b,s_f23_l2_b,aa,bl,i64,reduceIte,reduceCtorEq,Nat.reduceEqDiff,Nat.reduceLT,Nat.reduceLeDiff,Nat.reduceBEq,Nat.reduceAdd,fillA,splice,Nat.reduceMul,amY,op_eqP,h9_0,h10_0,s_d,b_d,c_1,h9_1,h10_1]
   | false=>
     rw [b_d] at c_1
     cases s_f:s.f with
     | false=>
       cases s_a:s.a with
       | false=>
         cases s_b:s.b with
         | false=>
           refine ⟨D1,?_,e_1⟩
           simp only [bnA,Iz,Sb,a_f23,s_f23_l0_b,s_f23_l1_b,s_f23_l2_b,aa,bl,i64,reduceIte,reduceCtorEq,Nat.reduceEqDiff,Nat.reduceLT,Nat.reduceLeDiff,Nat.reduceBEq,Nat.reduceAdd,fillA,splice,Nat.reduceMul,amY,op_eqP,h9_0,h10_0,s_d,b_d,c_1,h9_1,h10_1,s_f,s_a,s_b]
         | true=>
           obtain ⟨D2,c_2,x_2⟩:=badOne hT base D1 true x.b
           have e_2:=e_1.trans x_2
           have h9_2:=getC_ext h9_1 x_2
           have h10_2:=getC_ext h10_1 x_2
           simp only [bl,Sb] at c_2
           cases b_b:badS true x.b with
           | true=>
             rw [b_b] at c_2
             refine ⟨D2,?_,e_2⟩
             simp only [bnA,Iz,Sb,a_f23,s_f23_l0_b,s_f23_l1_b,s_f23_l2_b,aa,bl,i64,reduceIte,reduceCtorEq,Nat.reduceEqDiff,Nat.reduceLT,Nat.reduceLeDiff,Nat.reduceBEq,Nat.reduceAdd,fillA,splice,Nat.reduceMul,amY,op_eqP,h9_0,h10_0,s_d,b_d,c_1,h9_1,h10_1,s_f,s_a,s_b,b_b,c_2,h9_2,h10_2]
           | false=>
             rw [b_b] at c_2
             refine ⟨D2,?_,e_2⟩
             simp only [bnA,Iz,Sb,a_f23,s_f23_l0_b,s_f23_l1_b,s_f23_l2_b,aa,bl,i64,reduceIte,reduceCtorEq,Nat.reduceEqDiff,Nat.reduceLT,Nat.reduceLeDiff,Nat.reduceBEq,Nat.reduceAdd,fillA,splice,Nat.reduceMul,amY,op_eqP,h9_0,h10_0,s_d,b_d,c_1,h9_1,h10_1,s_f,s_a,s_b,b_b,c_2,h9_2,h10_2]
       | true=>
         obtain ⟨D2,c_2,x_2⟩:=badOne hT base D1 true x.a
         have e_2:=e_1.trans x_2
         have h9_2:=getC_ext h9_1 x_2
         have h10_2:=getC_ext h10_1 x_2
         simp only [bl,Sb] at c_2
         cases b_a:badS true x.a with
         | true=>
           rw [b_a] at c_2
           refine ⟨D2,?_,e_2⟩
           simp only [bnA,Iz,Sb,a_f23,s_f23_l0_b,s_f23_l1_b,s_f23_l2_b,aa,bl,i64,reduceIte,reduceCtorEq,Nat.reduceEqDiff,Nat.reduceLT,Nat.reduceLeDiff,Nat.reduceBEq,Nat.reduceAdd,fillA,splice,Nat.reduceMul,amY,op_eqP,h9_0,h10_0,s_d,b_d,c_1,h9_1,h10_1,s_f,s_a,b_a,c_2,h9_2,h10_2]
         | false=>
           rw [b_a] at c_2
           cases s_b:s.b with
           | false=>
             refine ⟨D2,?_,e_2⟩
             simp only [bnA,Iz,Sb,a_f23,s_f23_l0_b,s_f23_l1_b,s_f23_l2_b,aa,bl,i64,reduceIte,reduceCtorEq,Nat.reduceEqDiff,Nat.reduceLT,Nat.reduceLeDiff,Nat.reduceBEq,Nat.reduceAdd,fillA,splice,Nat.reduceMul,amY,op_eqP,h9_0,h10_0,s_d,b_d,c_1,h9_1,h10_1,s_f,s_a,b_a,c_2,h9_2,h10_2,s_b]
           | true=>
             obtain ⟨D3,c_3,x_3⟩:=badOne hT base D2 true x.b
             have e_3:=e_2.trans x_3
             have h9_3:=getC_ext h9_2 x_3
             have h10_3:=getC_ext h10_2 x_3
             simp only [bl,Sb] at c_3
             cases b_b:badS true x.b with
             | true=>
               rw [b_b] at c_3
               refine ⟨D3,?_,e_3⟩
               simp only [bnA,Iz,Sb,a_f23,s_f23_l0_b,s_f23_l1_b,s_f23_l2_b,aa,bl,i64,reduceIte,reduceCtorEq,Nat.reduceEqDiff,Nat.reduceLT,Nat.reduceLeDiff,Nat.reduceBEq,Nat.reduceAdd,fillA,splice,Nat.reduceMul,amY,op_eqP,h9_0,h10_0,s_d,b_d,c_1,h9_1,h10_1,s_f,s_a,b_a,c_2,h9_2,h10_2,s_b,b_b,c_3,h9_3,h10_3]
             | false=>
               rw [b_b] at c_3
               refine ⟨D3,?_,e_3⟩
               simp only [bnA,Iz,Sb,a_f23,s_f23_l0_b,s_f23_l1_b,s_f23_l2_b,aa,bl,i64,reduceIte,reduceCtorEq,Nat.reduceEqDiff,Nat.reduceLT,Nat.reduceLeDiff,Nat.reduceBEq,Nat.reduceAdd,fillA,splice,Nat.reduceMul,amY,op_eqP,h9_0,h10_0,s_d,b_d,c_1,h9_1,h10_1,s_f,s_a,b_a,c_2,h9_2,h10_2,s_b,b_b,c_3,h9_3,h10_3]
     | true=>
       obtain ⟨D2,c_2,x_2⟩:=badOne hT base D1 false x.f
       have e_2:=e_1.trans x_2
       have h9_2:=getC_ext h9_1 x_2
       have h10_2:=getC_ext h10_1 x_2
       simp only [bl,Sb] at c_2
       cases b_f:badS false x.f with
       | true=>
         rw [b_f] at c_2
         refine ⟨D2,?_,e_2⟩
         simp only [bnA,Iz,Sb,a_f23,s_f23_l0_b,s_f23_l1_b,s_f23_l2_b,aa,bl,i64,reduceIte,reduceCtorEq,Nat.reduceEqDiff,Nat.reduceLT,Nat.reduceLeDiff,Nat.reduceBEq,Nat.reduceAdd,fillA,splice,Nat.reduceMul,amY,op_eqP,h9_0,h10_0,s_d,b_d,c_1,h9_1,h10_1,s_f,b_f,c_2,h9_2,h10_2]
       | false=>
         rw [b_f] at c_2
         cases s_a:s.a with
         | false=>
           cases s_b:s.b with
           | false=>
             refine ⟨D2,?_,e_2⟩
             simp only [bnA,Iz,Sb,a_f23,s_f23_l0_b,s_f23_l1_b,s_f23_l2_b,aa,bl,i64,reduceIte,reduceCtorEq,Nat.reduceEqDiff,Nat.reduceLT,Nat.reduceLeDiff,Nat.reduceBEq,Nat.reduceAdd,fillA,splice,Nat.reduceMul,amY,op_eqP,h9_0,h10_0,s_d,b_d,c_1,h9_1,h10_1,s_f,b_f,c_2,h9_2,h10_2,s_a,s_b]
           | true=>
             obtain ⟨D3,c_3,x_3⟩:=badOne hT base D2 true x.b
             have e_3:=e_2.trans x_3
             have h9_3:=getC_ext h9_2 x_3
             have h10_3:=getC_ext h10_2 x_3
             simp only [bl,Sb] at c_3
             cases b_b:badS true x.b with
             | true=>
               rw [b_b] at c_3
               refine ⟨D3,?_,e_3⟩
               simp only [bnA,Iz,Sb,a_f23,s_f23_l0_b,s_f23_l1_b,s_f23_l2_b,aa,bl,i64,reduceIte,reduceCtorEq,Nat.reduceEqDiff,Nat.reduceLT,Nat.reduceLeDiff,Nat.reduceBEq,Nat.reduceAdd,fillA,splice,Nat.reduceMul,amY,op_eqP,h9_0,h10_0,s_d,b_d,c_1,h9_1,h10_1,s_f,b_f,c_2,h9_2,h10_2,s_a,s_b,b_b,c_3,h9_3,h10_3]
             | false=>
               rw [b_b] at c_3
               refine ⟨D3,?_,e_3⟩
               simp only [bnA,Iz,Sb,a_f23,s_f23_l0_b,s_f23_l1_b,s_f23_l2_b,aa,bl,i64,reduceIte,reduceCtorEq,Nat.reduceEqDiff,Nat.reduceLT,Nat.reduceLeDiff,Nat.reduceBEq,Nat.reduceAdd,fillA,splice,Nat.reduceMul,amY,op_eqP,h9_0,h10_0,s_d,b_d,c_1,h9_1,h10_1,s_f,b_f,c_2,h9_2,h10_2,s_a,s_b,b_b,c_3,h9_3,h10_3]
         | true=>
           obtain ⟨D3,c_3,x_3⟩:=badOne hT base D2 true x.a
           have e_3:=e_2.trans x_3
           have h9_3:=getC_ext h9_2 x_3
           have h10_3:=getC_ext h10_2 x_3
           simp only [bl,Sb] at c_3
           cases b_a:badS true x.a with
           | true=>
             rw [b_a] at c_3
             refine ⟨D3,?_,e_3⟩
             simp only [bnA,Iz,Sb,a_f23,s_f23_l0_b,s_f23_l1_b,s_f23_l2_b,aa,bl,i64,reduceIte,reduceCtorEq,Nat.reduceEqDiff,Nat.reduceLT,Nat.reduceLeDiff,Nat.reduceBEq,Nat.reduceAdd,fillA,splice,Nat.reduceMul,amY,op_eqP,h9_0,h10_0,s_d,b_d,c_1,h9_1,h10_1,s_f,b_f,c_2,h9_2,h10_2,s_a,b_a,c_3,h9_3,h10_3]
           | false=>
             rw [b_a] at c_3
             cases s_b:s.b with
             | false=>
               refine ⟨D3,?_,e_3⟩
               simp only [bnA,Iz,Sb,a_f23,s_f23_l0_b,s_f23_l1_b,s_f23_l2_b,aa,bl,i64,reduceIte,reduceCtorEq,Nat.reduceEqDiff,Nat.reduceLT,Nat.reduceLeDiff,Nat.reduceBEq,Nat.reduceAdd,fillA,splice,Nat.reduceMul,amY,op_eqP,h9_0,h10_0,s_d,b_d,c_1,h9_1,h10_1,s_f,b_f,c_2,h9_2,h10_2,s_a,b_a,c_3,h9_3,h10_3,s_b]
             | true=>
               obtain ⟨D4,c_4,x_4⟩:=badOne hT base D3 true x.b
               have e_4:=e_3.trans x_4
               have h9_4:=getC_ext h9_3 x_4
               have h10_4:=getC_ext h10_3 x_4
               simp only [bl,Sb] at c_4
               cases b_b:badS true x.b with
               | true=>
                 rw [b_b] at c_4
                 refine ⟨D4,?_,e_4⟩
                 simp only [bnA,Iz,Sb,a_f23,s_f23_l0_b,s_f23_l1_b,s_f23_l2_b,aa,bl,i64,reduceIte,reduceCtorEq,Nat.reduceEqDiff,Nat.reduceLT,Nat.reduceLeDiff,Nat.reduceBEq,Nat.reduceAdd,fillA,splice,Nat.reduceMul,amY,op_eqP,h9_0,h10_0,s_d,b_d,c_1,h9_1,h10_1,s_f,b_f,c_2,h9_2,h10_2,s_a,b_a,c_3,h9_3,h10_3,s_b,b_b,c_4,h9_4,h10_4]
               | false=>
                 rw [b_b] at c_4
                 refine ⟨D4,?_,e_4⟩
                 simp only [bnA,Iz,Sb,a_f23,s_f23_l0_b,s_f23_l1_b,s_f23_l2_b,aa,bl,i64,reduceIte,reduceCtorEq,Nat.reduceEqDiff,Nat.reduceLT,Nat.reduceLeDiff,Nat.reduceBEq,Nat.reduceAdd,fillA,splice,Nat.reduceMul,amY,op_eqP,h9_0,h10_0,s_d,b_d,c_1,h9_1,h10_1,s_f,b_f,c_2,h9_2,h10_2,s_a,b_a,c_3,h9_3,h10_3,s_b,b_b,c_4,h9_4,h10_4]
end
end Go.Proofs.YtamlbkalopefgaaR
set_option maxRecDepth 100000
namespace Go.Proofs.YtamlbkalopefgaaR
open Go.AM
structure ConT (CT:Nat→Option CFun):Prop where
 con:CT k_f42=some (.code s_f42)
 idx:CT k_f64=some (.code s_f64)
def hasE (l:List ByteArray):Bool:=l.any fun y=>(⟨#[]⟩:ByteArray).data.toList == y.data.toList
def bnB (v:Bool) (s:ShD) (x:InsD):Bool:=(v || (s.xs && (x.xs.any (badS true) || hasE x.xs))) || (s.ls && (x.ls.any (badS false) || hasE x.ls))
section
variable {CT:Nat→Option CFun}
theorem taleR_nob (fr:List V) (H:Heap) (os:List (Nat × E)) (kill:List Nat):taleR fr H os kill false=none:=rfl
theorem segL_nob (H:Heap) (o:Option St):segL H none o=o:=rfl
theorem segC_nob (call:CallF) (it:IterF) (base:Nat) (b:List AOper) (kill:List Nat) (H:Heap) (o:Option St):segC call it base b kill H none o=o:=rfl
theorem reqB_nob (b r:Bool):reqB (some und) b r=false:=rfl
theorem bn_r16a (base:Nat) (H:Heap) {v0 v2 v4 v6 v8 v9 v10 v16 v17 v18 v35 v36 v37 v50 v51 v52:V}:origRow (callW CT) itW base R23_16t11 [9,10,102,103,104,105,106,107,108,109,110,111,112,113,114,115,116,117,118,119,120,121,122,123,124,125,126,127,128,129,130] (frOf 140 [(0,v0),(2,v2),(4,v4),(6,v6),(8,v8),(9,v9),(10,v10),(16,v16),(17,v17),(18,v18),(35,v35),(36,v36),(37,v37),(50,v50),(51,v51),(52,v52),(103,V.s (Value.bool true)),(106,und),(110,und),(113,und)]) H=some (.nrm,frOf 140 [(0,v0),(2,v2),(4,v4),(6,v6),(8,v8),(11,V.s (Value.bool true)),(16,v16),(17,v17),(18,v18),(35,v35),(36,v36),(37,v37),(50,v50),(51,v51),(52,v52)],H):=by
 simp only [origRow,R23_16t11,R23_16t12,R23_16t13,R23_16t14,R23_16t15,R23_16t16,R23_16t17,R23_16t18,R23_16t19,R23_16t20,R23_16t21,R23_16t22,R23_16p11,R23_16p12,R23_16p13,R23_16p14,R23_16p15,R23_16p16,R23_16p17,R23_16p18,R23_16p19,R23_16p20,R23_16p21,List.cons_append,List.nil_append,aa,bl,i64,reduceIte,reduceCtorEq,Nat.reduceEqDiff,Nat.reduceLT,Nat.reduceLeDiff,Nat.reduceBEq,Nat.reduceAdd,fillA,splice,Nat.reduceMul,amY,op_eqP,evC_ops,evOps_nil,evOps_cons,evOps_guard,opK_bool,wantV_bool,wantV_und,put_some,evOp_pick,pickR,op_move,op_un,ev_t,ev_c,resK_some]
theorem bn_r16b (base:Nat) (H:Heap) {v0 v2 v4 v6 v8 v16 v17 v18 v35 v36 v37 v50 v51 v52:V}:origRow (callW CT) itW base R23_16t22 [9,10,102,103,104,105,106,107,108,109,110,111,112,113,114,115,116,117,118,119,120,121,122,123,124,125,126,127,128,129,130] (frOf 140 [(0,v0),(2,v2),(4,v4),(6,v6),(8,v8),(16,v16),(17,v17),(18,v18),(35,v35),(36,v36),(37,v37),(50,v50),(51,v51),(52,v52),(117,V.s (Value.bool true)),(120,und),(124,und),(127,und)]) H=some (.nrm,frOf 140 [(0,v0),(2,v2),(4,v4),(6,v6),(8,v8),(11,V.s (Value.bool true)),(16,v16),(17,v17),(18,v18),(35,v35),(36,v36),(37,v37),(50,v50),(51,v51),(52,v52)],H):=by
 simp only [origRow,R23_16t22,List.cons_append,List.nil_append,aa,bl,i64,reduceIte,reduceCtorEq,Nat.reduceEqDiff,Nat.reduceLT,Nat.reduceLeDiff,Nat.reduceBEq,Nat.reduceAdd,fillA,splice,Nat.reduceMul,amY,op_eqP,evC_ops,evOps_nil,evOps_cons,evOps_guard,opK_bool,wantV_bool,wantV_und,put_some,evOp_pick,pickR,op_move,op_un,ev_t,ev_c,resK_some]
set_option maxHeartbeats 8000000 in
theorem bn_r16 (hT:BadT CT) (hN:ConT CT) (base:Nat) {D0:Heap} (hb:base≤D0.length) {p q:Nat} {x:InsD} {av lv:V} {s:ShD} {v:Bool} (h9_0:getC D0 p 0=some (insC x av lv)) (h10_0:getC D0 q 0=some s.c) (hxs:Rd D0 av (x.xs.map Sb)) (hwx:Wide1 av) (hls:Rd D0 lv (x.ls.map Sb)) (hwl:Wide1 lv) (hnx:x.xs.length < 2 ^ 20) (hnl:x.ls.length < 2 ^ 20) {v0 v2 v4 v6 v8 v16 v17 v18 v35 v36 v37 v50 v51 v52:V}:
 ∃ D',evC (callW CT) itW base (.region R23_16 [] [9,10,102,103,104,105,106,107,108,109,110,111,112,113,114,115,116,117,118,119,120,121,122,123,124,125,126,127,128,129,130]) (frOf 140 [(0,v0),(2,v2),(4,v4),(6,v6),(8,v8),(9,.ref p 0 0),(10,.ref q 0 0),(11,bl v),(16,v16),(17,v17),(18,v18),(35,v35),(36,v36),(37,v37),(50,v50),(51,v51),(52,v52)]) D0=some (.nrm,frOf 140 [(0,v0),(2,v2),(4,v4),(6,v6),(8,v8),(11,bl (bnB v s x)),(16,v16),(17,v17),(18,v18),(35,v35),(36,v36),(37,v37),(50,v50),(51,v51),(52,v52)],D')∧Ext D0 D':=by
 have e_0:Ext D0 D0:=Ext.refl _
 simp only [insC,ShD.c] at h9_0 h10_0
 cases v with
 | true=>
   refine ⟨D0,?_,e_0⟩
   simp only [bnB,Iz,Sb,a_f23,s_f23_l0_b,s_f23_l1_b,s_f23_l2_b,aa,bl,i64,reduceIte,reduceCtorEq,Nat.reduceEqDiff,Nat.reduceLT,Nat.reduceLeDiff,Nat.reduceBEq,Nat.reduceAdd,fillA,splice,Nat.reduceMul,amY,op_eqP,bn_r16a,bn_r16b,reqB_nob,taleR_nob,segL_nob,segC_nob,h9_0,h10_0]
 | false=>
   cases s_xs:s.xs with
   | false=>
     cases s_ls:s.ls with
     | false=>
       refine ⟨D0,?_,e_0⟩
       simp only [bnB,Iz,Sb,a_f23,s_f23_l0_b,s_f23_l1_b,s_f23_l2_b,aa,bl,i64,reduceIte,reduceCtorEq,Nat.reduceEqDiff,Nat.reduceLT,Nat.reduceLeDiff,Nat.reduceBEq,Nat.reduceAdd,fillA,splice,Nat.reduceMul,amY,op_eqP,bn_r16a,bn_r16b,reqB_nob,taleR_nob,segL_nob,segC_nob,h9_0,h10_0,s_xs,s_ls]
     | true=>
       obtain ⟨D1,c_1,x_1⟩:=bad_fun hT.is' hT.bad1 hT.bad hT.con hT.idx base D0 false (hls.ext e_0) hwl (l:=x.ls) (by omega)
       have e_1:=e_0.trans x_1
       have h9_1:=getC_ext h9_0 x_1
       have h10_1:=getC_ext h10_0 x_1
       have k_1:=containsS_fun hN.con hN.idx base D1 (⟨#[]⟩:ByteArray) (hls.ext e_1) hwl (l:=x.ls) (by omega)
       have f_1:callW CT (.fn k_f42 [] []) [lv,.s (.string ⟨#[]⟩)] base D1=some (.s (.bool (hasE x.ls)),D1):=k_1
       cases b_ls:x.ls.any (badS false) with
       | true=>
         rw [b_ls] at c_1
         refine ⟨D1,?_,e_1⟩
         simp only [bnB,Iz,Sb,a_f23,s_f23_l0_b,s_f23_l1_b,s_f23_l2_b,aa,bl,i64,reduceIte,reduceCtorEq,Nat.reduceEqDiff,Nat.reduceLT,Nat.reduceLeDiff,Nat.reduceBEq,Nat.reduceAdd,fillA,splice,Nat.reduceMul,amY,op_eqP,bn_r16a,bn_r16b,reqB_nob,taleR_nob,segL_nob,segC_nob,h9_0,h10_0,s_xs,s_ls,b_ls,c_1,h9_1,h10_1]
       | false=>
         rw [b_ls] at c_1
         cases g_ls:hasE x.ls with
         | true=>
           rw [g_ls] at f_1
           refine ⟨D1,?_,e_1⟩
           simp only [bnB,Iz,Sb,a_f23,s_f23_l0_b,s_f23_l1_b,s_f23_l2_b,aa,bl,i64,reduceIte,reduceCtorEq,Nat.reduceEqDiff,Nat.reduceLT,Nat.reduceLeDiff,Nat.reduceBEq,Nat.reduceAdd,fillA,splice,Nat.reduceMul,amY,op_eqP,bn_r16a,bn_r16b,reqB_nob,taleR_nob,segL_nob,segC_nob,h9_0,h10_0,s_xs,s_ls,b_ls,c_1,h9_1,h10_1,g_ls,f_1]
         | false=>
           rw [g_ls] at f_1
           refine ⟨D1,?_,e_1⟩
           simp only [bnB,Iz,Sb,a_f23,s_f23_l0_b,s_f23_l1_b,s_f23_l2_b,aa,bl,i64,reduceIte,reduceCtorEq,Nat.reduceEqDiff,Nat.reduceLT,Nat.reduceLeDiff,Nat.reduceBEq,Nat.reduceAdd,fillA,splice,Nat.reduceMul,amY,op_eqP,bn_r16a,bn_r16b,reqB_nob,taleR_nob,segL_nob,segC_nob,h9_0,h10_0,s_xs,s_ls,b_ls,c_1,h9_1,h10_1,g_ls,f_1]
   | true=>
     obtain ⟨D1,c_1,x_1⟩:=bad_fun hT.is' hT.bad1 hT.bad hT.con hT.idx base D0 true (hxs.ext e_0) hwx (l:=x.xs) (by omega)
     have e_1:=e_0.trans x_1
     have h9_1:=getC_ext h9_0 x_1
     have h10_1:=getC_ext h10_0 x_1
     have k_1:=containsS_fun hN.con hN.idx base D1 (⟨#[]⟩:ByteArray) (hxs.ext e_1) hwx (l:=x.xs) (by omega)
     have f_1:callW CT (.fn k_f42 [] []) [av,.s (.string ⟨#[]⟩)] base D1=some (.s (.bool (hasE x.xs)),D1):=k_1
     cases b_xs:x.xs.any (badS true) with
     | true=>
       rw [b_xs] at c_1
       refine ⟨D1,?_,e_1⟩
       simp only [bnB,Iz,Sb,a_f23,s_f23_l0_b,s_f23_l1_b,s_f23_l2_b,aa,bl,i64,reduceIte,reduceCtorEq,Nat.reduceEqDiff,Nat.reduceLT,Nat.reduceLeDiff,Nat.reduceBEq,Nat.reduceAdd,fillA,splice,Nat.reduceMul,amY,op_eqP,bn_r16a,bn_r16b,reqB_nob,taleR_nob,segL_nob,segC_nob,h9_0,h10_0,s_xs,b_xs,c_1,h9_1,h10_1]
     | false=>
       rw [b_xs] at c_1
       cases g_xs:hasE x.xs with
       | true=>
         rw [g_xs] at f_1
         refine ⟨D1,?_,e_1⟩
         simp only [bnB,Iz,Sb,a_f23,s_f23_l0_b,s_f23_l1_b,s_f23_l2_b,aa,bl,i64,reduceIte,reduceCtorEq,Nat.reduceEqDiff,Nat.reduceLT,Nat.reduceLeDiff,Nat.reduceBEq,Nat.reduceAdd,fillA,splice,Nat.reduceMul,amY,op_eqP,bn_r16a,bn_r16b,reqB_nob,taleR_nob,segL_nob,segC_nob,h9_0,h10_0,s_xs,b_xs,c_1,h9_1,h10_1,g_xs,f_1]
       | false=>
         rw [g_xs] at f_1
         cases s_ls:s.ls with
         | false=>
           refine ⟨D1,?_,e_1⟩
           simp only [bnB,Iz,Sb,a_f23,s_f23_l0_b,s_f23_l1_b,s_f23_l2_b,aa,bl,i64,reduceIte,reduceCtorEq,Nat.reduceEqDiff,Nat.reduceLT,Nat.reduceLeDiff,Nat.reduceBEq,Nat.reduceAdd,fillA,splice,Nat.reduceMul,amY,op_eqP,bn_r16a,bn_r16b,reqB_nob,taleR_nob,segL_nob,segC_nob,h9_0,h10_0,s_xs,b_xs,c_1,h9_1,h10_1,g_xs,f_1,s_ls]
         | true=>
           obtain ⟨D2,c_2,x_2⟩:=bad_fun hT.is' hT.bad1 hT.bad hT.con hT.idx base D1 false (hls.ext e_1) hwl (l:=x.ls) (by omega)
           have e_2:=e_1.trans x_2
           have h9_2:=getC_ext h9_1 x_2
           have h10_2:=getC_ext h10_1 x_2
           have k_2:=containsS_fun hN.con hN.idx base D2 (⟨#[]⟩:ByteArray) (hls.ext e_2) hwl (l:=x.ls) (by omega)
           have f_2:callW CT (.fn k_f42 [] []) [lv,.s (.string ⟨#[]⟩)] base D2=some (.s (.bool (hasE x.ls)),D2):=k_2
           cases b_ls:x.ls.any (badS false) with
           | true=>
             rw [b_ls] at c_2
             refine ⟨D2,?_,e_2⟩
             simp only [bnB,Iz,Sb,a_f23,s_f23_l0_b,s_f23_l1_b,s_f23_l2_b,aa,bl,i64,reduceIte,reduceCtorEq,Nat.reduceEqDiff,Nat.reduceLT,Nat.reduceLeDiff,Nat.reduceBEq,Nat.reduceAdd,fillA,splice,Nat.reduceMul,amY,op_eqP,bn_r16a,bn_r16b,reqB_nob,taleR_nob,segL_nob,segC_nob,h9_0,h10_0,s_xs,b_xs,c_1,h9_1,h10_1,g_xs,f_1,s_ls,b_ls,c_2,h9_2,h10_2]
           | false=>
             rw [b_ls] at c_2
             cases g_ls:hasE x.ls with
             | true=>
               rw [g_ls] at f_2
               refine ⟨D2,?_,e_2⟩
               simp only [bnB,Iz,Sb,a_f23,s_f23_l0_b,s_f23_l1_b,s_f23_l2_b,aa,bl,i64,reduceIte,reduceCtorEq,Nat.reduceEqDiff,Nat.reduceLT,Nat.reduceLeDiff,Nat.reduceBEq,Nat.reduceAdd,fillA,splice,Nat.reduceMul,amY,op_eqP,bn_r16a,bn_r16b,reqB_nob,taleR_nob,segL_nob,segC_nob,h9_0,h10_0,s_xs,b_xs,c_1,h9_1,h10_1,g_xs,f_1,s_ls,b_ls,c_2,h9_2,h10_2,g_ls,f_2]
             | false=>
               rw [g_ls] at f_2
               refine ⟨D2,?_,e_2⟩
               simp only [bnB,Iz,Sb,a_f23,s_f23_l0_b,s_f23_l1_b,s_f23_l2_b,aa,bl,i64,reduceIte,reduceCtorEq,Nat.reduceEqDiff,Nat.reduceLT,Nat.reduceLeDiff,Nat.reduceBEq,Nat.reduceAdd,fillA,splice,Nat.reduceMul,amY,op_eqP,bn_r16a,bn_r16b,reqB_nob,taleR_nob,segL_nob,segC_nob,h9_0,h10_0,s_xs,b_xs,c_1,h9_1,h10_1,g_xs,f_1,s_ls,b_ls,c_2,h9_2,h10_2,g_ls,f_2]
end
end Go.Proofs.YtamlbkalopefgaaR
set_option maxRecDepth 100000
namespace Go.Proofs.YtamlbkalopefgaaR
open Go.AM
def bnI (i b:Nat) (k:Nat) (x:InsD):Option Pt:=if bnB (bnA (shp x.op) x) (shp x.op) x=true then some (i,b,k) else none
def bnBk (i:Nat) (b:Nat) (bl:BlkD):Option Pt:=if (!isName bl.label)=true then some (i,b,0) else srch (bnI i b) bl.code 0
def bnF (i:Nat) (f:FunD):Option Pt:=if (!isName f.name || f.ps.any fun s=>!isName s)=true then some (i,0,0) else srch (bnBk i) f.blocks 0
section
variable {CT:Nat→Option CFun}
theorem bn_l0 (hT:BadT CT) (hN:ConT CT) (base:Nat) {A A1:Heap} {w sm:Nat} {fv0:V} {fs0:List FunD} (hc:NC A w sm fv0 fs0) (h1:Ext A A1) (hb:base≤A.length) (hg:getC A1 A.length 0=some [Iz 0,Iz 0,Iz 0]) {v16 v35 cv:V} {i b:Nat} {n17 n18 n36 n37:Int} {l:List InsD} (hv:RdL 8 RdIns A cv l) (hn:l.length < 2 ^ 20) (hxs:∀ x∈l,x.xs.length < 2 ^ 20) (hls:∀ x∈l,x.ls.length < 2 ^ 20) {L:Nat} (hL:A1.length≤L) (hA1:A.length < A1.length):
 ∀ C,Ext A1 C→(srch (bnI i b) l 0=none∧∃ C',itW (evC (callW CT) itW base s_f23_l0) [] L (frOf 140 [(0,.ref w 0 0),(2,.ref A.length 0 0),(4,Iz i),(6,Iz b),(16,v16),(17,Iz n17),(18,Iz n18),(35,v35),(36,Iz n36),(37,Iz n37),(50,cv),(51,Iz l.length),(52,Iz 0)]) C=some (.ext 4,frOf 140 [(0,.ref w 0 0),(2,.ref A.length 0 0),(4,Iz i),(6,Iz b),(16,v16),(17,Iz n17),(18,Iz n18),(35,v35),(36,Iz n36),(37,Iz n37),(50,cv),(51,Iz l.length),(52,Iz l.length),(53,bl false)],C')∧Ext A1 C')∨∃ t,srch (bnI i b) l 0=some t∧Found A 140 A.length t (itW (evC (callW CT) itW base s_f23_l0) [] L (frOf 140 [(0,.ref w 0 0),(2,.ref A.length 0 0),(4,Iz i),(6,Iz b),(16,v16),(17,Iz n17),(18,Iz n18),(35,v35),(36,Iz n36),(37,Iz n37),(50,cv),(51,Iz l.length),(52,Iz 0)]) C):=by
 intro C0 hC0
 rcases it_srch l ins0 (bnI i b) (fun _ C=>Ext A1 C) (fun k C=>itW (evC (callW CT) itW base s_f23_l0) [] L (frOf 140 [(0,.ref w 0 0),(2,.ref A.length 0 0),(4,Iz i),(6,Iz b),(16,v16),(17,Iz n17),(18,Iz n18),(35,v35),(36,Iz n36),(37,Iz n37),(50,cv),(51,Iz l.length),(52,Iz k)]) C) (Found A 140 A.length) (by
  intro k C hk hE
  have hlt':((k:Int) < (l.length:Int)):=by omega
  have hwk:=w64 (n:=k) (by omega)
  have hle:=hE.le
  have hkx:=some_getD hk ins0
  obtain ⟨x,hxe⟩:∃ x,l.getD k ins0=x:=⟨_,rfl⟩
  rw [hxe] at hkx ⊢
  have hmem:=List.mem_of_getElem? hkx
  obtain ⟨a,r,a1,hr,a2,_⟩:=hv.at2 hkx
  have hEA:=h1.trans hE
  have ld:=a2 C hEA
  have hbC:base≤C.length:=by omega
  have hgg:∀ c,getC (C ++ [Ob.cells 0 c]) C.length 0=some c:=fun c=>getC_new C 0 c
  have hss:∀ c d,(C ++ [c]).set C.length d=C ++ [d]:=fun c d=>set_snoc C c d
  have eC:∀ c,Ext C (C ++ [Ob.cells 0 c]):=fun c=>Ext.app _ _
  have g2:∀ D,Ext A1 D→getC D A.length 0=some [Iz 0,Iz 0,Iz 0]:=fun D h=>getC_ext hg h
  obtain ⟨av,lv,rfl,q1,q2,q3,q4,_⟩:=hr
  have hav:=q1.one
  have hlv:=q3.one
  obtain ⟨C1,hC1⟩:∃ C1,C ++ [Ob.cells 0 (insC x av lv)]=C1:=⟨_,rfl⟩
  have e1:Ext C C1:=hC1 ▸ eC _
  have hl1:C1.length=C.length+1:=by rw [← hC1,len_snoc]
  have hmp:xLoad C1 false 1 (.ref w 0 1)=some (.mp sm):=by rw [xo_ref,getC_ext hc.gw (hEA.trans e1)];rfl
  have hmg:=get_I .u8 (Ext.at' (hEA.trans e1) hc.sh) (.agg (ShD.c ⟨false,false,false,false,false,false,false⟩)) false x.op
  rw [if_neg Bool.false_ne_true,shT_get] at hmg
  have hg1:getC C1 C.length 0=some (insC x av lv):=hC1 ▸ hgg _
  obtain ⟨C2,hC2⟩:∃ C2,C1 ++ [Ob.cells 0 (shp x.op).c]=C2:=⟨_,rfl⟩
  have e2:Ext C1 C2:=hC2 ▸ Ext.app _ _
  have hl2:C2.length=C.length+2:=by rw [← hC2,len_snoc,hl1]
  have hs1:∀ c d,(C1 ++ [c]).set C1.length d=C1 ++ [d]:=fun c d=>set_snoc C1 c d
  have hz1:∀ c,getC (C1 ++ [Ob.cells 0 c]) C1.length 0=some c:=fun c=>getC_new C1 0 c
  rw [hl1] at hs1 hz1
  have hb1:base≤C.length+1:=by omega
  have h9:=getC_ext hg1 e2
  have h10:getC C2 (C.length+1) 0=some (shp x.op).c:=by rw [← hC2];exact hz1 _
  obtain ⟨D1,r15,d1⟩:=bn_r15 hT base (D0:=C2) (by omega) (p:=C.length) (q:=C.length+1) (x:=x) (av:=av) (lv:=lv) (s:=shp x.op) h9 h10 (v0:=.ref w 0 0) (v2:=.ref A.length 0 0) (v4:=Iz i) (v6:=Iz b) (v8:=Iz k) (v16:=v16) (v17:=Iz n17) (v18:=Iz n18) (v35:=v35) (v36:=Iz n36) (v37:=Iz n37) (v50:=cv) (v51:=Iz l.length) (v52:=Iz k)
  have eX:=hEA.trans (e1.trans (e2.trans d1))
  obtain ⟨D2,r16,d2⟩:=bn_r16 hT hN base (D0:=D1) (by have:=eX.le;omega) (p:=C.length) (q:=C.length+1) (x:=x) (av:=av) (lv:=lv) (s:=shp x.op) (v:=bnA (shp x.op) x) (getC_ext h9 d1) (getC_ext h10 d1) (q1.ext eX) q2 (q3.ext eX) q4 (hxs x hmem) (hls x hmem) (v0:=.ref w 0 0) (v2:=.ref A.length 0 0) (v4:=Iz i) (v6:=Iz b) (v8:=Iz k) (v16:=v16) (v17:=Iz n17) (v18:=Iz n18) (v35:=v35) (v36:=Iz n36) (v37:=Iz n37) (v50:=cv) (v51:=Iz l.length) (v52:=Iz k)
  have eY:Ext A1 D2:=hE.trans (e1.trans (e2.trans (d1.trans d2)))
  unfold bnI
  have hgc:=g2 D2 eY
  simp only [insC] at ld hC1 hg1
  simp only [Iz,bl,ShD.c] at hmg hC2 r15 r16 hgc
  cases hq:bnB (bnA (shp x.op) x) (shp x.op) x with
  | false=>
    rw [hq] at r16
    refine .inl ⟨if_neg Bool.false_ne_true,trim L (frOf 140 [(0,.ref w 0 0),(2,.ref A.length 0 0),(4,Iz i),(6,Iz b),(16,v16),(17,Iz n17),(18,Iz n18),(35,v35),(36,Iz n36),(37,Iz n37),(50,cv),(51,Iz l.length),(52,Iz (k+1:Nat))]) D2,?_,eY.trim (by omega) _⟩
    rw [itW_step]
    simp only [Iz,bl,A23_0p0_0,A23_0p0_2,A23_0p0_3,X23_0,T23_0t1,X23_0t1,A23_0_0,A23_0_2,A23_0_3,T23_1,T23_2,T23_3p0,X23_3,X23_3t1,T23_3p2,X23_3t2,X23_3t3,T23_4p0,X23_4,X23_4t1,T23_4p2,X23_4t2,X23_4t3,X23_4t4,X23_4t5,T23_4t6,X23_4t6,T23_5p0,X23_5,X23_5t1,T23_5t2,X23_5t2,T23_6,T23_7,T23_8p0,X23_8,X23_8t1,T23_8p2,X23_8t2,X23_8t3,T23_9p0,X23_9,X23_9t1,T23_9t2,X23_9t2,T23_10p0,X23_10,X23_10t1,T23_10t2,X23_10t2,T23_11,T23_12,T23_13p0,X23_13,X23_13t1,T23_13p2,X23_13t2,X23_13t3,T23_14p0,X23_14,X23_14t1,X23_14t2,T23_17,T23_18p0,X23_18,X23_18t1,T23_18t2,X23_18t2,T23_19,s_f23_l0_b,s_f23_l0_ev,T23_20,s_f23_l1_b,s_f23_l1_ev,T23_21,s_f23_l2_b,s_f23_l2_ev,T23_22p0,X23_22,X23_22t1,T23_22t2,X23_22t2,aa,bl,i64,reduceIte,reduceCtorEq,Nat.reduceEqDiff,Nat.reduceLT,Nat.reduceLeDiff,Nat.reduceBEq,Nat.reduceAdd,fillA,splice,Nat.reduceMul,amY,op_eqP,ShD.c,hlt',a1,ld,hbC,hb1,hgg,hss,hs1,hz1,hav,hlv,Bool.and_self,hC1,hl1,hmp,hmg,hC2,hg1,r15,r16,hwk]
  | true=>
    rw [hq] at r16
    refine .inr ⟨(i,b,k),if_pos rfl,trim L (frOf 140 [(2,.ref A.length 0 0),(3,bl true)]) (D2.set A.length (.cells 0 [Iz i,Iz b,Iz k])),?_,?_,?_⟩
    ·rw [itW_step]
     simp only [Iz,bl,A23_0p0_0,A23_0p0_2,A23_0p0_3,X23_0,T23_0t1,X23_0t1,A23_0_0,A23_0_2,A23_0_3,T23_1,T23_2,T23_3p0,X23_3,X23_3t1,T23_3p2,X23_3t2,X23_3t3,T23_4p0,X23_4,X23_4t1,T23_4p2,X23_4t2,X23_4t3,X23_4t4,X23_4t5,T23_4t6,X23_4t6,T23_5p0,X23_5,X23_5t1,T23_5t2,X23_5t2,T23_6,T23_7,T23_8p0,X23_8,X23_8t1,T23_8p2,X23_8t2,X23_8t3,T23_9p0,X23_9,X23_9t1,T23_9t2,X23_9t2,T23_10p0,X23_10,X23_10t1,T23_10t2,X23_10t2,T23_11,T23_12,T23_13p0,X23_13,X23_13t1,T23_13p2,X23_13t2,X23_13t3,T23_14p0,X23_14,X23_14t1,X23_14t2,T23_17,T23_18p0,X23_18,X23_18t1,T23_18t2,X23_18t2,T23_19,s_f23_l0_b,s_f23_l0_ev,T23_20,s_f23_l1_b,s_f23_l1_ev,T23_21,s_f23_l2_b,s_f23_l2_ev,T23_22p0,X23_22,X23_22t1,T23_22t2,X23_22t2,aa,bl,i64,reduceIte,reduceCtorEq,Nat.reduceEqDiff,Nat.reduceLT,Nat.reduceLeDiff,Nat.reduceBEq,Nat.reduceAdd,fillA,splice,Nat.reduceMul,amY,op_eqP,ShD.c,hlt',a1,ld,hbC,hb1,hgg,hss,hs1,hz1,hav,hlv,Bool.and_self,hC1,hl1,hmp,hmg,hC2,hg1,r15,r16,hgc,hb]
    ·exact ((h1.trans eY).set (Nat.le_refl _) _).trim (by omega) _
    ·exact trim_get (getC_put (g2 _ eY)) (by omega)) C0 hC0 with ⟨e1,C,e2,e3⟩ | e
 ·refine .inl ⟨e1,trim L (frOf 140 [(0,.ref w 0 0),(2,.ref A.length 0 0),(4,Iz i),(6,Iz b),(16,v16),(17,Iz n17),(18,Iz n18),(35,v35),(36,Iz n36),(37,Iz n37),(50,cv),(51,Iz l.length),(52,Iz l.length),(53,bl false)]) C,?_,e3.trim (by omega) _⟩
  rw [cast0] at e2
  refine e2.trans ?_
  rw [itW_step]
  simp only [Iz,bl,a_f23,s_f23_l0_b,s_f23_l1_b,s_f23_l2_b,aa,bl,i64,reduceIte,reduceCtorEq,Nat.reduceEqDiff,Nat.reduceLT,Nat.reduceLeDiff,Nat.reduceBEq,Nat.reduceAdd,fillA,splice,Nat.reduceMul,amY,op_eqP,Int.lt_irrefl]
 ·rw [cast0] at e
  exact .inr e
theorem bn_l1 (hT:BadT CT) (hN:ConT CT) (base:Nat) {A A1:Heap} {w sm:Nat} {fv0:V} {fs0:List FunD} (hc:NC A w sm fv0 fs0) (h1:Ext A A1) (hb:base≤A.length) (hg:getC A1 A.length 0=some [Iz 0,Iz 0,Iz 0]) {v16 bv:V} {i:Nat} {n17 n18:Int} {l:List BlkD} (hv:RdL 2 RdBlk A bv l) (hn:l.length < 2 ^ 20) (hnc:∀ b∈l,b.code.length < 2 ^ 20) (hxs:∀ b∈l,∀ x∈b.code,x.xs.length < 2 ^ 20) (hls:∀ b∈l,∀ x∈b.code,x.ls.length < 2 ^ 20) {L:Nat} (hL:A1.length≤L) (hA1:A.length < A1.length):
 ∀ C,Ext A1 C→(srch (bnBk i) l 0=none∧∃ C',itW (evC (callW CT) itW base s_f23_l1) [] L (frOf 140 [(0,.ref w 0 0),(2,.ref A.length 0 0),(4,Iz i),(16,v16),(17,Iz n17),(18,Iz n18),(35,bv),(36,Iz l.length),(37,Iz 0)]) C=some (.ext 2,frOf 140 [(0,.ref w 0 0),(2,.ref A.length 0 0),(4,Iz i),(16,v16),(17,Iz n17),(18,Iz n18),(35,bv),(36,Iz l.length),(37,Iz l.length),(38,bl false)],C')∧Ext A1 C')∨∃ t,srch (bnBk i) l 0=some t∧Found A 140 A.length t (itW (evC (callW CT) itW base s_f23_l1) [] L (frOf 140 [(0,.ref w 0 0),(2,.ref A.length 0 0),(4,Iz i),(16,v16),(17,Iz n17),(18,Iz n18),(35,bv),(36,Iz l.length),(37,Iz 0)]) C):=by
 intro C0 hC0
 rcases it_srch l blk0 (bnBk i) (fun _ C=>Ext A1 C) (fun k C=>itW (evC (callW CT) itW base s_f23_l1) [] L (frOf 140 [(0,.ref w 0 0),(2,.ref A.length 0 0),(4,Iz i),(16,v16),(17,Iz n17),(18,Iz n18),(35,bv),(36,Iz l.length),(37,Iz k)]) C) (Found A 140 A.length) (by
  intro k C hk hE
  have hlt':((k:Int) < (l.length:Int)):=by omega
  have hwk:=w64 (n:=k) (by omega)
  have hle:=hE.le
  have hkx:=some_getD hk blk0
  obtain ⟨x,hxe⟩:∃ x,l.getD k blk0=x:=⟨_,rfl⟩
  rw [hxe] at hkx ⊢
  have hmem:=List.mem_of_getElem? hkx
  obtain ⟨a,r,a1,hr,a2,_⟩:=hv.at2 hkx
  have hEA:=h1.trans hE
  have ld:=a2 C hEA
  have hbC:base≤C.length:=by omega
  have hgg:∀ c,getC (C ++ [Ob.cells 0 c]) C.length 0=some c:=fun c=>getC_new C 0 c
  have hss:∀ c d,(C ++ [c]).set C.length d=C ++ [d]:=fun c d=>set_snoc C c d
  have eC:∀ c,Ext C (C ++ [Ob.cells 0 c]):=fun c=>Ext.app _ _
  have g2:∀ D,Ext A1 D→getC D A.length 0=some [Iz 0,Iz 0,Iz 0]:=fun D h=>getC_ext hg h
  obtain ⟨cv,rfl,hcv⟩:=hr
  have hcl:=(rdI_ext hcv (hEA.trans (eC [Sb x.label,cv]))).len
  have hco:=hcv.one
  have hl2:(C ++ [Ob.cells 0 [Sb x.label,cv]]).length=C.length+1:=by simp
  have hcal:=fun D=>is_fun CT hT.is' x.label base D
  unfold bnBk
  cases hq:isName x.label with
  | false=>
    rw [hq] at hcal
    refine .inr ⟨(i,k,0),if_pos rfl,trim L (frOf 140 [(2,.ref A.length 0 0),(3,bl true)]) ((C ++ [Ob.cells 0 [Sb x.label,cv]]).set A.length (.cells 0 [Iz i,Iz k,Iz 0])),?_,?_,?_⟩
    ·have hgc:=g2 (C ++ [Ob.cells 0 [Sb x.label,cv]]) (hE.trans (eC _))
     rw [itW_step]
     simp only [Iz,bl] at hgc hcal
     simp only [Iz,bl,a_f23,s_f23_l0_b,s_f23_l1_b,s_f23_l2_b,aa,bl,i64,reduceIte,reduceCtorEq,Nat.reduceEqDiff,Nat.reduceLT,Nat.reduceLeDiff,Nat.reduceBEq,Nat.reduceAdd,fillA,splice,Nat.reduceMul,amY,op_eqP,hlt',a1,ld,hbC,hgg,hss,hco,Bool.and_self,hcl,hcal,hgc,hb]
    ·exact ((hEA.trans (eC _)).set (Nat.le_refl _) _).trim (by omega) _
    ·exact trim_get (getC_put (g2 _ (hE.trans (eC _)))) (by omega)
  | true=>
    rw [hq] at hcal
    simp only [bl] at hcal
    rw [if_neg (show ¬ (!true)=true by decide)]
    have hin:=bn_l0 (CT:=CT) hT hN base hc h1 hb hg (v16:=v16) (v35:=bv) (i:=i) (b:=k) (n17:=n17) (n18:=n18) (n36:=l.length) (n37:=k) hcv (hnc x hmem) (hxs x hmem) (hls x hmem) (L:=(C ++ [Ob.cells 0 [Sb x.label,cv]]).length) (by rw [len_snoc];omega) hA1 (C ++ [Ob.cells 0 [Sb x.label,cv]]) (hE.trans (eC _))
    rw [hl2] at hin
    rcases hin with ⟨z1,C2,z2,z3⟩ | ⟨t,z1,D,z2,z3,z4⟩
    ·refine .inl ⟨z1,trim L (frOf 140 [(0,.ref w 0 0),(2,.ref A.length 0 0),(4,Iz i),(16,v16),(17,Iz n17),(18,Iz n18),(35,bv),(36,Iz l.length),(37,Iz (k+1:Nat))]) C2,?_,z3.trim (by omega) _⟩
     rw [itW_step]
     simp only [Iz,bl] at z2
     simp only [Iz,bl,a_f23,s_f23_l0_b,s_f23_l1_b,s_f23_l2_b,aa,bl,i64,reduceIte,reduceCtorEq,Nat.reduceEqDiff,Nat.reduceLT,Nat.reduceLeDiff,Nat.reduceBEq,Nat.reduceAdd,fillA,splice,Nat.reduceMul,amY,op_eqP,hlt',a1,ld,hbC,hgg,hss,hco,Bool.and_self,hcl,hcal,hl2,z2,hwk]
    ·refine .inr ⟨t,z1,trim L (frOf 140 [(2,.ref A.length 0 0),(3,bl true)]) D,?_,z3.trim (by omega) _,trim_get z4 (by omega)⟩
     rw [itW_step]
     simp only [Iz,bl] at z2
     simp only [Iz,bl,a_f23,s_f23_l0_b,s_f23_l1_b,s_f23_l2_b,aa,bl,i64,reduceIte,reduceCtorEq,Nat.reduceEqDiff,Nat.reduceLT,Nat.reduceLeDiff,Nat.reduceBEq,Nat.reduceAdd,fillA,splice,Nat.reduceMul,amY,op_eqP,hlt',a1,ld,hbC,hgg,hss,hco,Bool.and_self,hcl,hcal,hl2,z2]) C0 hC0 with ⟨e1,C,e2,e3⟩ | e
 ·refine .inl ⟨e1,trim L (frOf 140 [(0,.ref w 0 0),(2,.ref A.length 0 0),(4,Iz i),(16,v16),(17,Iz n17),(18,Iz n18),(35,bv),(36,Iz l.length),(37,Iz l.length),(38,bl false)]) C,?_,e3.trim (by omega) _⟩
  rw [cast0] at e2
  refine e2.trans ?_
  rw [itW_step]
  simp only [Iz,bl,a_f23,s_f23_l0_b,s_f23_l1_b,s_f23_l2_b,aa,bl,i64,reduceIte,reduceCtorEq,Nat.reduceEqDiff,Nat.reduceLT,Nat.reduceLeDiff,Nat.reduceBEq,Nat.reduceAdd,fillA,splice,Nat.reduceMul,amY,op_eqP,Int.lt_irrefl]
 ·rw [cast0] at e
  exact .inr e
theorem bn_l2 (hT:BadT CT) (hN:ConT CT) (base:Nat) {A A1:Heap} {w sm:Nat} {fv0:V} {fs0:List FunD} (hc:NC A w sm fv0 fs0) (h1:Ext A A1) (hb:base≤A.length) (hg:getC A1 A.length 0=some [Iz 0,Iz 0,Iz 0]) {fv:V} {l:List FunD} (hv:RdL 3 RdFun A fv l) (hn:l.length < 2 ^ 20) (h1':CT k_f40=some (.code s_f40)) (hps:∀ f∈l,f.ps.length < 2 ^ 20) (hnb:∀ f∈l,f.blocks.length < 2 ^ 20) (hnc:∀ f∈l,∀ b∈f.blocks,b.code.length < 2 ^ 20) (hxs:∀ f∈l,∀ b∈f.blocks,∀ x∈b.code,x.xs.length < 2 ^ 20) (hls:∀ f∈l,∀ b∈f.blocks,∀ x∈b.code,x.ls.length < 2 ^ 20) {L:Nat} (hL:A1.length≤L) (hA1:A.length < A1.length):
 ∀ C,Ext A1 C→(srch (bnF) l 0=none∧∃ C',itW (evC (callW CT) itW base s_f23_l2) [] L (frOf 140 [(0,.ref w 0 0),(2,.ref A.length 0 0),(16,fv),(17,Iz l.length),(18,Iz 0)]) C=some (.ext 0,frOf 140 [(0,.ref w 0 0),(2,.ref A.length 0 0),(16,fv),(17,Iz l.length),(18,Iz l.length),(19,bl false)],C')∧Ext A1 C')∨∃ t,srch (bnF) l 0=some t∧Found A 140 A.length t (itW (evC (callW CT) itW base s_f23_l2) [] L (frOf 140 [(0,.ref w 0 0),(2,.ref A.length 0 0),(16,fv),(17,Iz l.length),(18,Iz 0)]) C):=by
 intro C0 hC0
 rcases it_srch l fun0 (bnF) (fun _ C=>Ext A1 C) (fun k C=>itW (evC (callW CT) itW base s_f23_l2) [] L (frOf 140 [(0,.ref w 0 0),(2,.ref A.length 0 0),(16,fv),(17,Iz l.length),(18,Iz k)]) C) (Found A 140 A.length) (by
  intro k C hk hE
  have hlt':((k:Int) < (l.length:Int)):=by omega
  have hwk:=w64 (n:=k) (by omega)
  have hle:=hE.le
  have hkx:=some_getD hk fun0
  obtain ⟨x,hxe⟩:∃ x,l.getD k fun0=x:=⟨_,rfl⟩
  rw [hxe] at hkx ⊢
  have hmem:=List.mem_of_getElem? hkx
  obtain ⟨a,r,a1,hr,a2,_⟩:=hv.at2 hkx
  have hEA:=h1.trans hE
  have ld:=a2 C hEA
  have hbC:base≤C.length:=by omega
  have hgg:∀ c,getC (C ++ [Ob.cells 0 c]) C.length 0=some c:=fun c=>getC_new C 0 c
  have hss:∀ c d,(C ++ [c]).set C.length d=C ++ [d]:=fun c d=>set_snoc C c d
  have eC:∀ c,Ext C (C ++ [Ob.cells 0 c]):=fun c=>Ext.app _ _
  have g2:∀ D,Ext A1 D→getC D A.length 0=some [Iz 0,Iz 0,Iz 0]:=fun D h=>getC_ext hg h
  obtain ⟨pv,bv,rfl,p1,p2,p3,hbv⟩:=hr
  have hpo:=p1.one
  have hbo:=hbv.one
  have hl2:(C ++ [Ob.cells 0 [Sb x.name,pv,bv]]).length=C.length+1:=by simp
  have hcal:=fun D=>is_fun CT hT.is' x.name base D
  unfold bnF
  cases hq:isName x.name with
  | false=>
    rw [hq] at hcal
    refine .inr ⟨(k,0,0),if_pos rfl,trim L (frOf 140 [(2,.ref A.length 0 0),(3,bl true)]) ((C ++ [Ob.cells 0 [Sb x.name,pv,bv]]).set A.length (.cells 0 [Iz k,Iz 0,Iz 0])),?_,?_,?_⟩
    ·have hgc:=g2 (C ++ [Ob.cells 0 [Sb x.name,pv,bv]]) (hE.trans (eC _))
     rw [itW_step]
     simp only [Iz,bl] at hgc hcal
     simp only [Iz,bl,a_f23,s_f23_l0_b,s_f23_l1_b,s_f23_l2_b,aa,bl,i64,reduceIte,reduceCtorEq,Nat.reduceEqDiff,Nat.reduceLT,Nat.reduceLeDiff,Nat.reduceBEq,Nat.reduceAdd,fillA,splice,Nat.reduceMul,amY,op_eqP,hlt',a1,ld,hbC,hgg,hss,hpo,hbo,Bool.and_self,hcal,hgc,hb]
    ·exact ((hEA.trans (eC _)).set (Nat.le_refl _) _).trim (by omega) _
    ·exact trim_get (getC_put (g2 _ (hE.trans (eC _)))) (by omega)
  | true=>
    rw [hq] at hcal
    obtain ⟨C3,hcon,e3⟩:=conS_fun hT.con hT.idx base (C ++ [Ob.cells 0 [Sb x.name,pv,bv]]) (f:=.fn k_f40 [] []) (p:=fun s=>!isName s) (p1.ext (hEA.trans (eC _))) p2 (fun s _ D _=>⟨D,badName1_fun hT.is' h1' base D s,Ext.refl D⟩) (by have:=hps x hmem;omega)
    have hl3:=e3.le
    rw [hl2] at hl3
    have hgg3:=getC_ext (hgg [Sb x.name,pv,bv]) e3
    have hE3:=hE.trans ((eC _).trans e3)
    cases hq2:x.ps.any (fun s=>!isName s) with
    | true=>
      rw [hq2] at hcon
      refine .inr ⟨(k,0,0),if_pos rfl,trim L (frOf 140 [(2,.ref A.length 0 0),(3,bl true)]) (C3.set A.length (.cells 0 [Iz k,Iz 0,Iz 0])),?_,?_,?_⟩
      ·have hgc:=g2 C3 hE3
       rw [itW_step]
       simp only [Iz,bl] at hgc hcal hcon
       simp only [Iz,bl,a_f23,s_f23_l0_b,s_f23_l1_b,s_f23_l2_b,aa,bl,i64,reduceIte,reduceCtorEq,Nat.reduceEqDiff,Nat.reduceLT,Nat.reduceLeDiff,Nat.reduceBEq,Nat.reduceAdd,fillA,splice,Nat.reduceMul,amY,op_eqP,hlt',a1,ld,hbC,hgg,hss,hpo,hbo,Bool.and_self,hcal,hcon,hgc,hb]
      ·exact ((h1.trans hE3).set (Nat.le_refl _) _).trim (by omega) _
      ·exact trim_get (getC_put (g2 _ hE3)) (by omega)
    | false=>
      rw [hq2] at hcon
      rw [if_neg (show ¬ (!true || false)=true by decide)]
      have hbl:=(rdB_ext hbv (h1.trans hE3)).len
      have hin:=bn_l1 (CT:=CT) hT hN base hc h1 hb hg (v16:=fv) (i:=k) (n17:=l.length) (n18:=k) hbv (hnb x hmem) (hnc x hmem) (hxs x hmem) (hls x hmem) (L:=C3.length) (by have:=hE3.le;omega) hA1 C3 hE3
      simp only [Iz,bl] at hcal hcon
      rcases hin with ⟨z1,C2,z2,z3⟩ | ⟨t,z1,D,z2,z3,z4⟩
      ·refine .inl ⟨z1,trim L (frOf 140 [(0,.ref w 0 0),(2,.ref A.length 0 0),(16,fv),(17,Iz l.length),(18,Iz (k+1:Nat))]) C2,?_,z3.trim (by omega) _⟩
       rw [itW_step]
       simp only [Iz,bl] at z2
       simp only [Iz,bl,a_f23,s_f23_l0_b,s_f23_l1_b,s_f23_l2_b,aa,bl,i64,reduceIte,reduceCtorEq,Nat.reduceEqDiff,Nat.reduceLT,Nat.reduceLeDiff,Nat.reduceBEq,Nat.reduceAdd,fillA,splice,Nat.reduceMul,amY,op_eqP,hlt',a1,ld,hbC,hgg,hss,hpo,hbo,Bool.and_self,hcal,hcon,hgg3,hbl,z2,hwk]
      ·refine .inr ⟨t,z1,trim L (frOf 140 [(2,.ref A.length 0 0),(3,bl true)]) D,?_,z3.trim (by omega) _,trim_get z4 (by omega)⟩
       rw [itW_step]
       simp only [Iz,bl] at z2
       simp only [Iz,bl,a_f23,s_f23_l0_b,s_f23_l1_b,s_f23_l2_b,aa,bl,i64,reduceIte,reduceCtorEq,Nat.reduceEqDiff,Nat.reduceLT,Nat.reduceLeDiff,Nat.reduceBEq,Nat.reduceAdd,fillA,splice,Nat.reduceMul,amY,op_eqP,hlt',a1,ld,hbC,hgg,hss,hpo,hbo,Bool.and_self,hcal,hcon,hgg3,hbl,z2]) C0 hC0 with ⟨e1,C,e2,e3⟩ | e
 ·refine .inl ⟨e1,trim L (frOf 140 [(0,.ref w 0 0),(2,.ref A.length 0 0),(16,fv),(17,Iz l.length),(18,Iz l.length),(19,bl false)]) C,?_,e3.trim (by omega) _⟩
  rw [cast0] at e2
  refine e2.trans ?_
  rw [itW_step]
  simp only [Iz,bl,a_f23,s_f23_l0_b,s_f23_l1_b,s_f23_l2_b,aa,bl,i64,reduceIte,reduceCtorEq,Nat.reduceEqDiff,Nat.reduceLT,Nat.reduceLeDiff,Nat.reduceBEq,Nat.reduceAdd,fillA,splice,Nat.reduceMul,amY,op_eqP,Int.lt_irrefl]
 ·rw [cast0] at e
  exact .inr e
theorem badName_fun (hT:CT k_f23=some (.code s_f23)) (h1':CT k_f40=some (.code s_f40)) (hB:BadT CT) (hN:ConT CT) (base:Nat) {A:Heap} (hb:base≤A.length) {w sm:Nat} {fv:V} {fs:List FunD} (hc:NC A w sm fv fs):
 ∃ H',callW CT (.fn k_f23 [] []) [.ref w 0 0] base A=some (resP (srch bnF fs 0),H')∧Ext A H':=by
 have e1:Ext A (A ++ [Ob.cells 0 [Iz 0,Iz 0,Iz 0]]):=Ext.app _ _
 have x1:=hc.load e1
 have hl:=(hc.rd.ext e1).len
 have g1:getC (A ++ [Ob.cells 0 [Iz 0,Iz 0,Iz 0]]) A.length 0=some [Iz 0,Iz 0,Iz 0]:=getC_new A 0 _
 have hl1:(A ++ [Ob.cells 0 [Iz 0,Iz 0,Iz 0]]).length=A.length+1:=by simp
 rcases bn_l2 (CT:=CT) hB hN base hc e1 hb g1 hc.rd hc.sml.n h1' hc.sml.ps hc.sml.nb hc.sml.nc hc.sml.xs hc.sml.ls (L:=A.length+1) (by omega) (by omega) (A ++ [Ob.cells 0 [Iz 0,Iz 0,Iz 0]]) (Ext.refl _) with ⟨q1,C,q2,q3⟩ | ⟨⟨i,b,k⟩,q1,D,q2,q3,q4⟩
 ·have g2:=getC_ext g1 q3
  have g3:=getC_put (c':=[Iz 0,Iz 0,Iz 0]) g2
  refine ⟨C.set A.length (.cells 0 [Iz 0,Iz 0,Iz 0]),callW_fnA (c:=s_f23) (k:=1) hT rfl (by decide) s_f23_first ?_,(e1.trans q3).set (Nat.le_refl _) _⟩
  rw [q1]
  have xR:loadV (C.set A.length (.cells 0 [Iz 0,Iz 0,Iz 0])) true 3 (.ref A.length 0 0)=some (.agg [Iz 0,Iz 0,Iz 0]):=by
   show xLoad _ true 3 _=_
   rw [xo_ref,g3];rfl
  simp only [Iz,bl] at x1 hl hl1 q2 g2 xR
  simp only [Iz,s_f23,a_f23,s_f23_l0_b,s_f23_l1_b,s_f23_l2_b,aa,bl,i64,reduceIte,reduceCtorEq,Nat.reduceEqDiff,Nat.reduceLT,Nat.reduceLeDiff,Nat.reduceBEq,Nat.reduceAdd,fillA,splice,Nat.reduceMul,amY,op_eqP,x1,hl,hl1,q2,g2,hb]
  rw [xR]
  rfl
 ·refine ⟨D,callW_fnA (c:=s_f23) (k:=1) hT rfl (by decide) s_f23_first ?_,q3⟩
  rw [q1]
  have xR:loadV D true 3 (.ref A.length 0 0)=some (.agg [Iz i,Iz b,Iz k]):=by
   show xLoad _ true 3 _=_
   rw [xo_ref,q4];rfl
  simp only [Iz,bl] at x1 hl hl1 q2 xR
  simp only [Iz,s_f23,a_f23,s_f23_l0_b,s_f23_l1_b,s_f23_l2_b,aa,bl,i64,reduceIte,reduceCtorEq,Nat.reduceEqDiff,Nat.reduceLT,Nat.reduceLeDiff,Nat.reduceBEq,Nat.reduceAdd,fillA,splice,Nat.reduceMul,amY,op_eqP,x1,hl,hl1,q2]
  rw [xR]
  rfl
end
end Go.Proofs.YtamlbkalopefgaaR
set_option maxRecDepth 100000
namespace Go.Proofs.YtamlbkalopefgaaR
open Go.AM
theorem trim_app2 {C:Heap} {m:Nat} (h:C.length≤m) (fr:List V) (G:Heap):∃ G',trim m fr (C ++ G)=C ++ G':=by
 rcases trim_or m fr (C ++ G) with e | ⟨e,_⟩
 ·exact ⟨G,e⟩
 ·exact ⟨G.take (m - C.length),by rw [e,List.take_append,List.take_of_length_le h]⟩
def cI (bs:List BlkD):Nat:=(bs.map fun b=>b.code.length).sum
def cF (fs:List FunD):Nat:=(fs.map fun f=>cI f.blocks).sum
theorem cI_take {bs:List BlkD} {k:Nat} {x:BlkD} (h:bs[k]?=some x):cI (bs.take (k+1))=cI (bs.take k)+x.code.length:=by
 rw [List.take_add_one,h,cI,List.map_append,List.sum_append];simp [cI]
theorem cF_take {fs:List FunD} {k:Nat} {x:FunD} (h:fs[k]?=some x):cF (fs.take (k+1))=cF (fs.take k)+cI x.blocks:=by
 rw [List.take_add_one,h,cF,List.map_append,List.sum_append];simp [cF]
def giI (G:Nat→Nat→Nat→Nat→InsD→Bool) (n i b:Nat) (k:Nat) (x:InsD):Option Pt:=if G (n+k) i b k x then some (i,b,k) else none
def giB (G:Nat→Nat→Nat→Nat→InsD→Bool) (n i:Nat) (bs:List BlkD) (b:Nat) (bl:BlkD):Option Pt:=srch (giI G (n+cI (bs.take b)) i b) bl.code 0
def giF (G:Nat→Nat→Nat→Nat→InsD→Bool) (fs:List FunD) (i:Nat) (f:FunD):Option Pt:=srch (giB G (cF (fs.take i)) i f.blocks) f.blocks 0
def gSrch (G:Nat→Nat→Nat→Nat→InsD→Bool) (fs:List FunD):Option Pt:=srch (giF G fs) fs 0
section
variable {CT:Nat→Option CFun}
def Yld (CT:Nat→Option CFun) (base:Nat) (y:V) (K:Nat→Heap) (KD:Nat→Nat→Nat→Nat→Heap) (n i b k:Nat) (r:List V) (g:Bool):Prop:=∀ G,∃ G',callW CT y [.agg [Iz i,Iz b,Iz k],.agg r] base (K n ++ G)=if g then some (bl false,KD n i b k ++ G') else some (bl true,K (n+1) ++ G')
theorem cd_l0 (base:Nat) {A:Heap} {K:Nat→Heap} {KD:Nat→Nat→Nat→Nat→Heap} {Gf:Nat→Nat→Nat→Nat→InsD→Bool} {y:V} {L0 L:Nat} (hL:L0≤L) (hK:∀ n,(K n).length=L0) (hKD:∀ n i b k,(KD n i b k).length=L0) (hE:∀ n,Ext A (K n)) (hb:base≤L0) {i b n0:Nat} {v13 v21 cv:V} {n14 n15 n22 n23:Int} {l:List InsD} (hv:RdL 8 RdIns A cv l) (hn:l.length < 2 ^ 20) (hy:∀ k x r,l[k]?=some x→RdIns A r x→Yld CT base y K KD (n0+k) i b k r (Gf (n0+k) i b k x)):
 ∀ C,(∃ G,C=K (n0) ++ G)→(srch (giI Gf n0 i b) l 0=none∧∃ G',itW (evC (callW CT) itW base s_f70_l0) [] L (frOf 47 [(0,y),(3,Iz i),(5,Iz b),(13,v13),(14,Iz n14),(15,Iz n15),(21,v21),(22,Iz n22),(23,Iz n23),(29,cv),(30,Iz l.length),(31,Iz 0)]) C=some (.ext 4,frOf 47 [(0,y),(3,Iz i),(5,Iz b),(13,v13),(14,Iz n14),(15,Iz n15),(21,v21),(22,Iz n22),(23,Iz n23),(29,cv),(30,Iz l.length),(31,Iz l.length),(32,bl false)],K (n0+l.length) ++ G'))∨∃ t,srch (giI Gf n0 i b) l 0=some t∧∃ fr n G',itW (evC (callW CT) itW base s_f70_l0) [] L (frOf 47 [(0,y),(3,Iz i),(5,Iz b),(13,v13),(14,Iz n14),(15,Iz n15),(21,v21),(22,Iz n22),(23,Iz n23),(29,cv),(30,Iz l.length),(31,Iz 0)]) C=some (.ret,fr,KD n t.1 t.2.1 t.2.2 ++ G'):=by
 intro C0 hC0
 rcases it_srch l ins0 (giI Gf n0 i b) (fun k C=>∃ G,C=K (n0+k) ++ G) (fun k C=>itW (evC (callW CT) itW base s_f70_l0) [] L (frOf 47 [(0,y),(3,Iz i),(5,Iz b),(13,v13),(14,Iz n14),(15,Iz n15),(21,v21),(22,Iz n22),(23,Iz n23),(29,cv),(30,Iz l.length),(31,Iz k)]) C) (fun t r=>∃ fr n G',r=some (.ret,fr,KD n t.1 t.2.1 t.2.2 ++ G')) (by
  intro k C hk ⟨G,hC'⟩
  have hC:=hC'.symm
  have hlt':((k:Int) < (l.length:Int)):=by omega
  have hwk:=w64 (n:=k) (by omega)
  have hkx:=some_getD hk ins0
  obtain ⟨x,hxe⟩:∃ x,l.getD k ins0=x:=⟨_,rfl⟩
  rw [hxe] at hkx ⊢
  have hmem:=List.mem_of_getElem? hkx
  obtain ⟨a,r,a1,hr,a2,_⟩:=hv.at2 hkx
  have hEA:Ext A C:=hC ▸ (hE _).trans ⟨G,rfl⟩
  have ld:=a2 C hEA
  have hbC:base≤C.length:=by rw [← hC,List.length_append,hK];omega
  have hgg:∀ c,getC (C ++ [Ob.cells 0 c]) C.length 0=some c:=fun c=>getC_new C 0 c
  have hss:∀ c d,(C ++ [c]).set C.length d=C ++ [d]:=fun c d=>set_snoc C c d
  have eC:∀ c,Ext C (C ++ [Ob.cells 0 c]):=fun c=>Ext.app _ _
  have eG:∀ c:List V,C ++ [Ob.cells 0 c]=K (n0+k) ++ (G ++ [Ob.cells 0 c]):=fun c=>by rw [← hC,List.append_assoc]
  obtain ⟨av,lv,rfl,q1,q2,q3,q4,_⟩:=id hr
  obtain ⟨G',y1⟩:=hy k x _ hkx hr (G ++ [Ob.cells 0 (insC x av lv)])
  rw [← eG] at y1
  have hav:=q1.one
  have hlv:=q3.one
  unfold giI
  cases hg:Gf (n0+k) i b k x with
  | false=>
    rw [hg,if_neg Bool.false_ne_true] at y1
    obtain ⟨G2,hG2⟩:=trim_app2 (C:=K (n0+(k+1))) (m:=L) (by rw [hK];exact hL) (frOf 47 [(0,y),(3,Iz i),(5,Iz b),(13,v13),(14,Iz n14),(15,Iz n15),(21,v21),(22,Iz n22),(23,Iz n23),(29,cv),(30,Iz l.length),(31,Iz (k+1:Nat))]) G'
    refine .inl ⟨if_neg Bool.false_ne_true,K (n0+(k+1)) ++ G2,?_,G2,rfl⟩
    simp only [insC,Iz,bl,Nat.add_assoc] at ld y1 hG2 ⊢
    rw [itW_step]
    simp only [Iz,bl,a_f70,s_f70_l0_b,s_f70_l1_b,s_f70_l2_b,aa,bl,i64,reduceIte,reduceCtorEq,Nat.reduceEqDiff,Nat.reduceLT,Nat.reduceLeDiff,Nat.reduceBEq,Nat.reduceAdd,fillA,splice,Nat.reduceMul,amY,op_eqP,hlt',a1,ld,hbC,hgg,hss,hav,hlv,Bool.and_self,y1,hwk,hG2]
  | true=>
    rw [hg,if_pos rfl] at y1
    obtain ⟨G2,hG2⟩:=trim_app2 (C:=KD (n0+k) i b k) (m:=L) (by rw [hKD];exact hL) (frOf 47 [(0,y),(3,Iz i),(5,Iz b),(13,v13),(14,Iz n14),(15,Iz n15),(21,v21),(22,Iz n22),(23,Iz n23),(29,cv),(30,Iz l.length),(31,Iz k),(43,bl true)]) G'
    refine .inr ⟨(i,b,k),if_pos rfl,frOf 47 [(0,y),(3,Iz i),(5,Iz b),(13,v13),(14,Iz n14),(15,Iz n15),(21,v21),(22,Iz n22),(23,Iz n23),(29,cv),(30,Iz l.length),(31,Iz k),(43,bl true)],n0+k,G2,?_⟩
    simp only [insC,Iz,bl] at ld y1 hG2 ⊢
    rw [itW_step]
    simp only [Iz,bl,a_f70,s_f70_l0_b,s_f70_l1_b,s_f70_l2_b,aa,bl,i64,reduceIte,reduceCtorEq,Nat.reduceEqDiff,Nat.reduceLT,Nat.reduceLeDiff,Nat.reduceBEq,Nat.reduceAdd,fillA,splice,Nat.reduceMul,amY,op_eqP,hlt',a1,ld,hbC,hgg,hss,hav,hlv,Bool.and_self,y1,hG2]) C0 (by exact hC0) with ⟨e1,C,e2,G,e3⟩ | e
 ·refine .inl ⟨e1,?_⟩
  rw [show n0+l.length=n0+l.length from rfl] at e3
  obtain ⟨G',hG'⟩:=trim_app2 (C:=K (n0+l.length)) (m:=L) (by rw [hK];exact hL) (frOf 47 [(0,y),(3,Iz i),(5,Iz b),(13,v13),(14,Iz n14),(15,Iz n15),(21,v21),(22,Iz n22),(23,Iz n23),(29,cv),(30,Iz l.length),(31,Iz l.length),(32,bl false)]) G
  refine ⟨G',?_⟩
  rw [cast0] at e2
  refine e2.trans ?_
  subst e3
  rw [itW_step]
  simp only [Iz,bl] at hG'
  simp only [Iz,bl,a_f70,s_f70_l0_b,s_f70_l1_b,s_f70_l2_b,aa,bl,i64,reduceIte,reduceCtorEq,Nat.reduceEqDiff,Nat.reduceLT,Nat.reduceLeDiff,Nat.reduceBEq,Nat.reduceAdd,fillA,splice,Nat.reduceMul,amY,op_eqP,Int.lt_irrefl,hG']
 ·rw [cast0] at e
  exact .inr e
theorem cd_l1 (base:Nat) {A:Heap} {K:Nat→Heap} {KD:Nat→Nat→Nat→Nat→Heap} {Gf:Nat→Nat→Nat→Nat→InsD→Bool} {y:V} {L0 L:Nat} (hL:L0≤L) (hK:∀ n,(K n).length=L0) (hKD:∀ n i b k,(KD n i b k).length=L0) (hE:∀ n,Ext A (K n)) (hb:base≤L0) {i n0:Nat} {v13 bv:V} {n14 n15:Int} {l:List BlkD} (hv:RdL 2 RdBlk A bv l) (hn:l.length < 2 ^ 20) (hnc:∀ b∈l,b.code.length < 2 ^ 20) (hy:∀ b x,l[b]?=some x→∀ k z r,x.code[k]?=some z→RdIns A r z→Yld CT base y K KD (n0+cI (l.take b)+k) i b k r (Gf (n0+cI (l.take b)+k) i b k z)):
 ∀ C,(∃ G,C=K (n0) ++ G)→(srch (giB Gf n0 i l) l 0=none∧∃ G',itW (evC (callW CT) itW base s_f70_l1) [] L (frOf 47 [(0,y),(3,Iz i),(13,v13),(14,Iz n14),(15,Iz n15),(21,bv),(22,Iz l.length),(23,Iz 0)]) C=some (.ext 2,frOf 47 [(0,y),(3,Iz i),(13,v13),(14,Iz n14),(15,Iz n15),(21,bv),(22,Iz l.length),(23,Iz l.length),(24,bl false)],K (n0+cI l) ++ G'))∨∃ t,srch (giB Gf n0 i l) l 0=some t∧∃ fr n G',itW (evC (callW CT) itW base s_f70_l1) [] L (frOf 47 [(0,y),(3,Iz i),(13,v13),(14,Iz n14),(15,Iz n15),(21,bv),(22,Iz l.length),(23,Iz 0)]) C=some (.ret,fr,KD n t.1 t.2.1 t.2.2 ++ G'):=by
 intro C0 hC0
 rcases it_srch l blk0 (giB Gf n0 i l) (fun k C=>∃ G,C=K (n0+cI (l.take k)) ++ G) (fun k C=>itW (evC (callW CT) itW base s_f70_l1) [] L (frOf 47 [(0,y),(3,Iz i),(13,v13),(14,Iz n14),(15,Iz n15),(21,bv),(22,Iz l.length),(23,Iz k)]) C) (fun t r=>∃ fr n G',r=some (.ret,fr,KD n t.1 t.2.1 t.2.2 ++ G')) (by
  intro k C hk ⟨G,hC'⟩
  have hC:=hC'.symm
  have hlt':((k:Int) < (l.length:Int)):=by omega
  have hwk:=w64 (n:=k) (by omega)
  have hkx:=some_getD hk blk0
  obtain ⟨x,hxe⟩:∃ x,l.getD k blk0=x:=⟨_,rfl⟩
  rw [hxe] at hkx ⊢
  have hmem:=List.mem_of_getElem? hkx
  obtain ⟨a,r,a1,hr,a2,_⟩:=hv.at2 hkx
  have hEA:Ext A C:=hC ▸ (hE _).trans ⟨G,rfl⟩
  have ld:=a2 C hEA
  have hbC:base≤C.length:=by rw [← hC,List.length_append,hK];omega
  have hgg:∀ c,getC (C ++ [Ob.cells 0 c]) C.length 0=some c:=fun c=>getC_new C 0 c
  have hss:∀ c d,(C ++ [c]).set C.length d=C ++ [d]:=fun c d=>set_snoc C c d
  have eC:∀ c,Ext C (C ++ [Ob.cells 0 c]):=fun c=>Ext.app _ _
  have eG:∀ c:List V,C ++ [Ob.cells 0 c]=K (n0+cI (l.take k)) ++ (G ++ [Ob.cells 0 c]):=fun c=>by rw [← hC,List.append_assoc]
  obtain ⟨cv,rfl,hcv⟩:=id hr
  have hcl:=(rdI_ext hcv (hEA.trans (eC [Sb x.label,cv]))).len
  have hco:=hcv.one
  have hct:=cI_take hkx
  have hl2:(C ++ [Ob.cells 0 [Sb x.label,cv]]).length=C.length+1:=by simp
  have hL1:L0≤C.length+1:=by rw [← hC,List.length_append,hK];omega
  have hin:=cd_l0 (CT:=CT) (Gf:=Gf) (y:=y) (v13:=v13) (v21:=bv) (i:=i) (b:=k) (n14:=n14) (n15:=n15) (n22:=l.length) (n23:=k) base (L:=C.length+1) hL1 hK hKD hE hb hcv (hnc x hmem) (n0:=n0+cI (l.take k)) (hy k x hkx) (C ++ [Ob.cells 0 [Sb x.label,cv]]) ⟨G ++ [Ob.cells 0 [Sb x.label,cv]],eG _⟩
  rw [show n0+cI (l.take k)+x.code.length=n0+cI (l.take (k+1)) by rw [hct];omega] at hin
  rcases hin with ⟨z1,G',z2⟩ | ⟨t,z1,fr,n,G',z2⟩
  ·obtain ⟨G2,hG2⟩:=trim_app2 (C:=K (n0+cI (l.take (k+1)))) (m:=L) (by rw [hK];exact hL) (frOf 47 [(0,y),(3,Iz i),(13,v13),(14,Iz n14),(15,Iz n15),(21,bv),(22,Iz l.length),(23,Iz (k+1:Nat))]) G'
   refine .inl ⟨z1,K (n0+cI (l.take (k+1))) ++ G2,?_,G2,rfl⟩
   simp only [Iz,bl] at z2 hG2 ld ⊢
   rw [itW_step]
   simp only [Iz,bl,a_f70,s_f70_l0_b,s_f70_l1_b,s_f70_l2_b,aa,bl,i64,reduceIte,reduceCtorEq,Nat.reduceEqDiff,Nat.reduceLT,Nat.reduceLeDiff,Nat.reduceBEq,Nat.reduceAdd,fillA,splice,Nat.reduceMul,amY,op_eqP,hlt',a1,ld,hbC,hgg,hss,hco,hcl,Bool.and_self,hl2,z2,hwk,hG2]
  ·obtain ⟨G2,hG2⟩:=trim_app2 (C:=KD n t.1 t.2.1 t.2.2) (m:=L) (by rw [hKD];exact hL) (killS [] fr) G'
   refine .inr ⟨t,z1,killS [] fr,n,G2,?_⟩
   simp only [Iz,bl] at z2 hG2 ld ⊢
   rw [itW_step]
   simp only [Iz,bl,a_f70,s_f70_l0_b,s_f70_l1_b,s_f70_l2_b,aa,bl,i64,reduceIte,reduceCtorEq,Nat.reduceEqDiff,Nat.reduceLT,Nat.reduceLeDiff,Nat.reduceBEq,Nat.reduceAdd,fillA,splice,Nat.reduceMul,amY,op_eqP,hlt',a1,ld,hbC,hgg,hss,hco,hcl,Bool.and_self,hl2,z2,hG2]) C0 (by rw [List.take_zero,show n0+cI []=n0 from rfl];exact hC0) with ⟨e1,C,e2,G,e3⟩ | e
 ·refine .inl ⟨e1,?_⟩
  rw [List.take_length] at e3
  obtain ⟨G',hG'⟩:=trim_app2 (C:=K (n0+cI l)) (m:=L) (by rw [hK];exact hL) (frOf 47 [(0,y),(3,Iz i),(13,v13),(14,Iz n14),(15,Iz n15),(21,bv),(22,Iz l.length),(23,Iz l.length),(24,bl false)]) G
  refine ⟨G',?_⟩
  rw [cast0] at e2
  refine e2.trans ?_
  subst e3
  rw [itW_step]
  simp only [Iz,bl] at hG'
  simp only [Iz,bl,a_f70,s_f70_l0_b,s_f70_l1_b,s_f70_l2_b,aa,bl,i64,reduceIte,reduceCtorEq,Nat.reduceEqDiff,Nat.reduceLT,Nat.reduceLeDiff,Nat.reduceBEq,Nat.reduceAdd,fillA,splice,Nat.reduceMul,amY,op_eqP,Int.lt_irrefl,hG']
 ·rw [cast0] at e
  exact .inr e
theorem cd_l2 (base:Nat) {A:Heap} {K:Nat→Heap} {KD:Nat→Nat→Nat→Nat→Heap} {Gf:Nat→Nat→Nat→Nat→InsD→Bool} {y:V} {L0 L:Nat} (hL:L0≤L) (hK:∀ n,(K n).length=L0) (hKD:∀ n i b k,(KD n i b k).length=L0) (hE:∀ n,Ext A (K n)) (hb:base≤L0) {fv:V} {l:List FunD} (hv:RdL 3 RdFun A fv l) (hn:l.length < 2 ^ 20) (hnb:∀ f∈l,f.blocks.length < 2 ^ 20) (hnc:∀ f∈l,∀ b∈f.blocks,b.code.length < 2 ^ 20) (hy:∀ i f,l[i]?=some f→∀ b x,f.blocks[b]?=some x→∀ k z r,x.code[k]?=some z→RdIns A r z→Yld CT base y K KD (cF (l.take i)+cI (f.blocks.take b)+k) i b k r (Gf (cF (l.take i)+cI (f.blocks.take b)+k) i b k z)):
 ∀ C,(∃ G,C=K (0) ++ G)→(srch (giF Gf l) l 0=none∧∃ G',itW (evC (callW CT) itW base s_f70_l2) [] L (frOf 47 [(0,y),(13,fv),(14,Iz l.length),(15,Iz 0)]) C=some (.ext 0,frOf 47 [(0,y),(13,fv),(14,Iz l.length),(15,Iz l.length),(16,bl false)],K (cF l) ++ G'))∨∃ t,srch (giF Gf l) l 0=some t∧∃ fr n G',itW (evC (callW CT) itW base s_f70_l2) [] L (frOf 47 [(0,y),(13,fv),(14,Iz l.length),(15,Iz 0)]) C=some (.ret,fr,KD n t.1 t.2.1 t.2.2 ++ G'):=by
 intro C0 hC0
 rcases it_srch l fun0 (giF Gf l) (fun k C=>∃ G,C=K (cF (l.take k)) ++ G) (fun k C=>itW (evC (callW CT) itW base s_f70_l2) [] L (frOf 47 [(0,y),(13,fv),(14,Iz l.length),(15,Iz k)]) C) (fun t r=>∃ fr n G',r=some (.ret,fr,KD n t.1 t.2.1 t.2.2 ++ G')) (by
  intro k C hk ⟨G,hC'⟩
  have hC:=hC'.symm
  have hlt':((k:Int) < (l.length:Int)):=by omega
  have hwk:=w64 (n:=k) (by omega)
  have hkx:=some_getD hk fun0
  obtain ⟨x,hxe⟩:∃ x,l.getD k fun0=x:=⟨_,rfl⟩
  rw [hxe] at hkx ⊢
  have hmem:=List.mem_of_getElem? hkx
  obtain ⟨a,r,a1,hr,a2,_⟩:=hv.at2 hkx
  have hEA:Ext A C:=hC ▸ (hE _).trans ⟨G,rfl⟩
  have ld:=a2 C hEA
  have hbC:base≤C.length:=by rw [← hC,List.length_append,hK];omega
  have hgg:∀ c,getC (C ++ [Ob.cells 0 c]) C.length 0=some c:=fun c=>getC_new C 0 c
  have hss:∀ c d,(C ++ [c]).set C.length d=C ++ [d]:=fun c d=>set_snoc C c d
  have eC:∀ c,Ext C (C ++ [Ob.cells 0 c]):=fun c=>Ext.app _ _
  have eG:∀ c:List V,C ++ [Ob.cells 0 c]=K (cF (l.take k)) ++ (G ++ [Ob.cells 0 c]):=fun c=>by rw [← hC,List.append_assoc]
  obtain ⟨pv,bv,rfl,q1,q2,q3,hbv⟩:=id hr
  have hpo:=q1.one
  have hbo:=hbv.one
  have hbl:=(rdB_ext hbv (hEA.trans (eC [Sb x.name,pv,bv]))).len
  have hct:=cF_take hkx
  have hl2:(C ++ [Ob.cells 0 [Sb x.name,pv,bv]]).length=C.length+1:=by simp
  have hL1:L0≤C.length+1:=by rw [← hC,List.length_append,hK];omega
  have hin:=cd_l1 (CT:=CT) (Gf:=Gf) (y:=y) (v13:=fv) (i:=k) (n14:=l.length) (n15:=k) base (L:=C.length+1) hL1 hK hKD hE hb hbv (hnb x hmem) (hnc x hmem) (n0:=cF (l.take k)) (hy k x hkx) (C ++ [Ob.cells 0 [Sb x.name,pv,bv]]) ⟨G ++ [Ob.cells 0 [Sb x.name,pv,bv]],eG _⟩
  rw [← hct] at hin
  rcases hin with ⟨z1,G',z2⟩ | ⟨t,z1,fr,n,G',z2⟩
  ·obtain ⟨G2,hG2⟩:=trim_app2 (C:=K (cF (l.take (k+1)))) (m:=L) (by rw [hK];exact hL) (frOf 47 [(0,y),(13,fv),(14,Iz l.length),(15,Iz (k+1:Nat))]) G'
   refine .inl ⟨z1,K (cF (l.take (k+1))) ++ G2,?_,G2,rfl⟩
   simp only [Iz,bl] at z2 hG2 ld ⊢
   rw [itW_step]
   simp only [Iz,bl,a_f70,s_f70_l0_b,s_f70_l1_b,s_f70_l2_b,aa,bl,i64,reduceIte,reduceCtorEq,Nat.reduceEqDiff,Nat.reduceLT,Nat.reduceLeDiff,Nat.reduceBEq,Nat.reduceAdd,fillA,splice,Nat.reduceMul,amY,op_eqP,hlt',a1,ld,hbC,hgg,hss,hpo,hbo,hbl,Bool.and_self,hl2,z2,hwk,hG2]
  ·obtain ⟨G2,hG2⟩:=trim_app2 (C:=KD n t.1 t.2.1 t.2.2) (m:=L) (by rw [hKD];exact hL) (killS [] fr) G'
   refine .inr ⟨t,z1,killS [] fr,n,G2,?_⟩
   simp only [Iz,bl] at z2 hG2 ld ⊢
   rw [itW_step]
   simp only [Iz,bl,a_f70,s_f70_l0_b,s_f70_l1_b,s_f70_l2_b,aa,bl,i64,reduceIte,reduceCtorEq,Nat.reduceEqDiff,Nat.reduceLT,Nat.reduceLeDiff,Nat.reduceBEq,Nat.reduceAdd,fillA,splice,Nat.reduceMul,amY,op_eqP,hlt',a1,ld,hbC,hgg,hss,hpo,hbo,hbl,Bool.and_self,hl2,z2,hG2]) C0 (by rw [List.take_zero,show cF []=0 from rfl];exact hC0) with ⟨e1,C,e2,G,e3⟩ | e
 ·refine .inl ⟨e1,?_⟩
  rw [List.take_length] at e3
  obtain ⟨G',hG'⟩:=trim_app2 (C:=K (cF l)) (m:=L) (by rw [hK];exact hL) (frOf 47 [(0,y),(13,fv),(14,Iz l.length),(15,Iz l.length),(16,bl false)]) G
  refine ⟨G',?_⟩
  rw [cast0] at e2
  refine e2.trans ?_
  subst e3
  rw [itW_step]
  simp only [Iz,bl] at hG'
  simp only [Iz,bl,a_f70,s_f70_l0_b,s_f70_l1_b,s_f70_l2_b,aa,bl,i64,reduceIte,reduceCtorEq,Nat.reduceEqDiff,Nat.reduceLT,Nat.reduceLeDiff,Nat.reduceBEq,Nat.reduceAdd,fillA,splice,Nat.reduceMul,amY,op_eqP,Int.lt_irrefl,hG']
 ·rw [cast0] at e
  exact .inr e
theorem code1_fun (hT:CT k_f70=some (.code s_f70)) (base:Nat) {A:Heap} {K:Nat→Heap} {KD:Nat→Nat→Nat→Nat→Heap} {Gf:Nat→Nat→Nat→Nat→InsD→Bool} {y:V} {L0:Nat} (hK:∀ n,(K n).length=L0) (hKD:∀ n i b k,(KD n i b k).length=L0) (hE:∀ n,Ext A (K n)) (hb:base≤L0) {w w1 sm:Nat} {fv:V} {fs:List FunD} (hc:NC A w sm fv fs) (hw:getC (K 0) w1 0=some [.ref w 0 0])
 (hy:∀ i f,fs[i]?=some f→∀ b x,f.blocks[b]?=some x→∀ k z r,x.code[k]?=some z→RdIns A r z→Yld CT base y K KD (cF (fs.take i)+cI (f.blocks.take b)+k) i b k r (Gf (cF (fs.take i)+cI (f.blocks.take b)+k) i b k z)):
 (gSrch Gf fs=none∧∃ G,callW CT (.fn k_f70 [] [.ref w1 0 0]) [y] base (K 0)=some (.tup [],K (cF fs) ++ G))∨∃ t,gSrch Gf fs=some t∧∃ n G,callW CT (.fn k_f70 [] [.ref w1 0 0]) [y] base (K 0)=some (.tup [],KD n t.1 t.2.1 t.2.2 ++ G):=by
 have x1:=getC_load hw
 have x2:=hc.load (hE 0)
 have x3:=(hc.rd.ext (hE 0)).len
 rcases cd_l2 (CT:=CT) (Gf:=Gf) (y:=y) (L:=L0) base (Nat.le_refl _) hK hKD hE hb hc.rd hc.sml.n hc.sml.nb hc.sml.nc hy (K 0) ⟨[],(List.append_nil _).symm⟩ with ⟨z1,G,z2⟩ | ⟨t,z1,fr,n,G,z2⟩
 ·refine .inl ⟨z1,G,callW_fn (c:=s_f70) hT (by simp [s_f70]) ?_⟩
  simp only [Iz,bl] at z2 x3
  simp only [s_f70,a_f70,s_f70_l0_b,s_f70_l1_b,s_f70_l2_b,aa,bl,i64,reduceIte,reduceCtorEq,Nat.reduceEqDiff,Nat.reduceLT,Nat.reduceLeDiff,Nat.reduceBEq,Nat.reduceAdd,fillA,splice,Nat.reduceMul,amY,op_eqP,x1,x2,x3,hK,z2,res_nil]
 ·refine .inr ⟨t,z1,n,G,callW_fn (c:=s_f70) hT (by simp [s_f70]) ?_⟩
  simp only [Iz,bl] at z2 x3
  simp only [s_f70,a_f70,s_f70_l0_b,s_f70_l1_b,s_f70_l2_b,aa,bl,i64,reduceIte,reduceCtorEq,Nat.reduceEqDiff,Nat.reduceLT,Nat.reduceLeDiff,Nat.reduceBEq,Nat.reduceAdd,fillA,splice,Nat.reduceMul,amY,op_eqP,x1,x2,x3,hK,z2,res_nil]
end
end Go.Proofs.YtamlbkalopefgaaR
set_option maxRecDepth 100000
namespace Go.Proofs.YtamlbkalopefgaaR
open Go.AM
def eS:ByteArray→Value:=.string
def fuS (P:Nat→FunD→Bool) (i:Nat) (f:FunD):Option Pt:=if P i f then some (i,0,0) else none
section
variable {CT:Nat→Option CFun}
def PredF (CT:Nat→Option CFun) (base:Nat) (f:V) (Inv:Nat→Heap→Prop) (i:Nat) (r:List V) (g:Bool):Prop:=∀ B,Inv i B→∀ G,∃ B' G',callW CT f [Iz i,.agg r] base (B ++ G)=some (bl g,B' ++ G ++ G')∧Inv (i+1) B'
theorem funcs_fun (hT:CT k_f43=some (.code s_f43)) (base m:Nat) (hb:base≤m) {A:Heap} {Inv:Nat→Heap→Prop} (hI:∀ n B,Inv n B→B.length=m∧Ext A B) {w sm:Nat} {fv:V} {fs:List FunD} (hc:NC A w sm fv fs) {f:V} {P:Nat→FunD→Bool}
 (hp:∀ i x r,fs[i]?=some x→RdFun A r x→PredF CT base f Inv i r (P i x)) {B0:Heap} (h0:Inv 0 B0):
 ∃ n B G,callW CT (.fn k_f43 [] []) [.ref w 0 0,f] base B0=some (resP (srch (fuS P) fs 0),B ++ G)∧Inv n B:=by
 obtain ⟨hm0,hE0⟩:=hI 0 B0 h0
 have hn:=hc.sml.n
 rcases it_srch fs fun0 (fuS P) (fun k C=>∃ B G,C=B ++ [Ob.cells 0 [Iz 0,Iz 0,Iz 0]] ++ G∧Inv k B) (fun k C=>itW (evC (callW CT) itW base s_f43_l0) [] (m+1) (frOf 27 [(1,f),(4,.ref m 0 0),(12,fv),(13,Iz fs.length),(14,Iz k)]) C) (fun t r=>∃ n B G,r=some (.ret,frOf 27 [(4,.ref m 0 0),(5,bl true)],B ++ [Ob.cells 0 [Iz t.1,Iz t.2.1,Iz t.2.2]] ++ G)∧Inv n B) (by
  intro k C hk ⟨B,G,hC',hInv⟩
  have hC:=hC'.symm
  obtain ⟨hBm,hBE⟩:=hI k B hInv
  have hlt':((k:Int) < (fs.length:Int)):=by omega
  have hwk:=w64 (n:=k) (by omega)
  have hkx:=some_getD hk fun0
  obtain ⟨x,hxe⟩:∃ x,fs.getD k fun0=x:=⟨_,rfl⟩
  rw [hxe] at hkx ⊢
  obtain ⟨a,r,a1,hr,a2,_⟩:=hc.rd.at2 hkx
  have hEA:Ext A C:=hC ▸ (hBE.trans (Ext.app _ _)).trans ⟨G,rfl⟩
  have ld:=a2 C hEA
  have hCl:m+1≤C.length:=by rw [← hC];simp;omega
  have hbC:base≤C.length:=by omega
  have hgg:∀ c,getC (C ++ [Ob.cells 0 c]) C.length 0=some c:=fun c=>getC_new C 0 c
  have hss:∀ c d,(C ++ [c]).set C.length d=C ++ [d]:=fun c d=>set_snoc C c d
  obtain ⟨pv,bv,rfl,q1,q2,q3,hbv⟩:=id hr
  have hpo:=q1.one
  have hbo:=hbv.one
  obtain ⟨B',G',y1,y2⟩:=hp k x _ hkx hr B hInv ([Ob.cells 0 [Iz 0,Iz 0,Iz 0]] ++ G ++ [Ob.cells 0 [Sb x.name,pv,bv]])
  obtain ⟨hBm',hBE'⟩:=hI (k+1) B' y2
  have eC:B ++ ([Ob.cells 0 [Iz 0,Iz 0,Iz 0]] ++ G ++ [Ob.cells 0 [Sb x.name,pv,bv]])=C ++ [Ob.cells 0 [Sb x.name,pv,bv]]:=by rw [← hC];simp
  obtain ⟨G2,hG2⟩:∃ G2,G ++ [Ob.cells 0 [Sb x.name,pv,bv]] ++ G'=G2:=⟨_,rfl⟩
  have eD:B' ++ ([Ob.cells 0 [Iz 0,Iz 0,Iz 0]] ++ G ++ [Ob.cells 0 [Sb x.name,pv,bv]]) ++ G'=B' ++ [Ob.cells 0 [Iz 0,Iz 0,Iz 0]] ++ G2:=by rw [← hG2];simp
  rw [eC,eD] at y1
  unfold fuS
  cases hg:P k x with
  | false=>
    rw [hg] at y1
    obtain ⟨G3,hG3⟩:=trim_app2 (C:=B' ++ [Ob.cells 0 [Iz 0,Iz 0,Iz 0]]) (m:=m+1) (by rw [len_snoc];omega) (frOf 27 [(1,f),(4,.ref m 0 0),(12,fv),(13,Iz fs.length),(14,Iz (k+1:Nat))]) G2
    refine .inl ⟨if_neg Bool.false_ne_true,B' ++ [Ob.cells 0 [Iz 0,Iz 0,Iz 0]] ++ G3,?_,B',G3,rfl,y2⟩
    rw [itW_step]
    simp only [Iz,bl] at y1 hG3
    simp only [Iz,a_f43,s_f43_l0_b,aa,bl,i64,reduceIte,reduceCtorEq,Nat.reduceEqDiff,Nat.reduceLT,Nat.reduceLeDiff,Nat.reduceBEq,Nat.reduceAdd,fillA,splice,Nat.reduceMul,amY,op_eqP,hlt',a1,ld,hbC,hgg,hss,hpo,hbo,Bool.and_self,y1,hwk,hG3]
  | true=>
    rw [hg] at y1
    have g4:getC (B' ++ [Ob.cells 0 [Iz 0,Iz 0,Iz 0]] ++ G2) m 0=some [Iz 0,Iz 0,Iz 0]:=by rw [← hBm'];simp [getC]
    have s4:(B' ++ [Ob.cells 0 [Iz 0,Iz 0,Iz 0]] ++ G2).set m (.cells 0 [Iz k,Iz 0,Iz 0])=B' ++ [Ob.cells 0 [Iz k,Iz 0,Iz 0]] ++ G2:=by rw [← hBm'];simp
    obtain ⟨G3,hG3⟩:=trim_app2 (C:=B' ++ [Ob.cells 0 [Iz k,Iz 0,Iz 0]]) (m:=m+1) (by rw [len_snoc];omega) (frOf 27 [(4,.ref m 0 0),(5,bl true)]) G2
    refine .inr ⟨(k,0,0),if_pos rfl,k+1,B',G3,?_,y2⟩
    rw [itW_step]
    simp only [Iz,bl] at y1 hG3 g4 s4
    simp only [Iz,bl,a_f43,s_f43_l0_b,aa,bl,i64,reduceIte,reduceCtorEq,Nat.reduceEqDiff,Nat.reduceLT,Nat.reduceLeDiff,Nat.reduceBEq,Nat.reduceAdd,fillA,splice,Nat.reduceMul,amY,op_eqP,hlt',a1,ld,hbC,hgg,hss,hpo,hbo,Bool.and_self,y1,g4,s4,hb,hG3]) (B0 ++ [Ob.cells 0 [Iz 0,Iz 0,Iz 0]]) ⟨B0,[],(List.append_nil _).symm,h0⟩ with ⟨e1,C,e2,B,G,hC,hInv⟩ | ⟨⟨i,b,k⟩,e1,n,B,G,e2,hInv⟩
 all_goals
  have x1:=hc.load (hE0.trans (Ext.app B0 [Ob.cells 0 [Iz 0,Iz 0,Iz 0]]))
  have hl:=(hc.rd.ext (hE0.trans (Ext.app B0 [Ob.cells 0 [Iz 0,Iz 0,Iz 0]]))).len
  have hl0:=len_snoc B0 (Ob.cells 0 [Iz 0,Iz 0,Iz 0])
  rw [hm0] at hl0
  have z0:Iz ((0:Nat):Int)=Iz 0:=rfl
  rw [z0] at e2
  obtain ⟨hBm,hBE⟩:=hI _ B hInv
 ·have g4:∀ G,getC (B ++ [Ob.cells 0 [Iz 0,Iz 0,Iz 0]] ++ G) m 0=some [Iz 0,Iz 0,Iz 0]:=fun G=>by rw [← hBm];simp [getC]
  have s4:∀ G,(B ++ [Ob.cells 0 [Iz 0,Iz 0,Iz 0]] ++ G).set m (.cells 0 [Iz 0,Iz 0,Iz 0])=B ++ [Ob.cells 0 [Iz 0,Iz 0,Iz 0]] ++ G:=fun G=>by rw [← hBm];simp
  obtain ⟨G1,hG1⟩:=trim_app2 (C:=B ++ [Ob.cells 0 [Iz 0,Iz 0,Iz 0]]) (m:=m+1) (by rw [len_snoc];omega) (frOf 27 [(1,f),(4,.ref m 0 0),(12,fv),(13,Iz fs.length),(14,Iz fs.length),(15,bl false)]) G
  have hend:itW (evC (callW CT) itW base s_f43_l0) [] (m+1) (frOf 27 [(1,f),(4,.ref m 0 0),(12,fv),(13,Iz fs.length),(14,Iz fs.length)]) C=some (.ext 0,frOf 27 [(1,f),(4,.ref m 0 0),(12,fv),(13,Iz fs.length),(14,Iz fs.length),(15,bl false)],B ++ [Ob.cells 0 [Iz 0,Iz 0,Iz 0]] ++ G1):=by
   subst hC
   rw [itW_step]
   simp only [Iz,bl] at hG1
   simp only [Iz,bl,a_f43,s_f43_l0_b,aa,bl,i64,reduceIte,reduceCtorEq,Nat.reduceEqDiff,Nat.reduceLT,Nat.reduceLeDiff,Nat.reduceBEq,Nat.reduceAdd,fillA,splice,Nat.reduceMul,amY,op_eqP,Int.lt_irrefl,hG1]
  have e3:=e2.trans hend
  refine ⟨fs.length,B,[Ob.cells 0 [Iz 0,Iz 0,Iz 0]] ++ G1,callW_fnA (c:=s_f43) (k:=2) hT rfl (by decide) s_f43_first ?_,hInv⟩
  have xR:loadV (B ++ [Ob.cells 0 [Iz 0,Iz 0,Iz 0]] ++ G1) true 3 (.ref m 0 0)=some (.agg [Iz 0,Iz 0,Iz 0]):=by
   show xLoad _ true 3 _=_
   rw [xo_ref,g4];rfl
  rw [e1,← List.append_assoc]
  have g5:=g4 G1
  have s5:=s4 G1
  simp only [Iz,bl] at e3 xR x1 hl hl0 g5 s5
  simp only [Iz,s_f43,a_f43,s_f43_l0_b,aa,bl,i64,reduceIte,reduceCtorEq,Nat.reduceEqDiff,Nat.reduceLT,Nat.reduceLeDiff,Nat.reduceBEq,Nat.reduceAdd,fillA,splice,Nat.reduceMul,amY,op_eqP,hm0,hl0,x1,hl,e3,g5,s5,hb]
  rw [xR]
  rfl
 ·refine ⟨n,B,[Ob.cells 0 [Iz i,Iz b,Iz k]] ++ G,callW_fnA (c:=s_f43) (k:=2) hT rfl (by decide) s_f43_first ?_,hInv⟩
  have xR:loadV (B ++ [Ob.cells 0 [Iz i,Iz b,Iz k]] ++ G) true 3 (.ref m 0 0)=some (.agg [Iz i,Iz b,Iz k]):=by
   show xLoad _ true 3 _=_
   have:getC (B ++ [Ob.cells 0 [Iz i,Iz b,Iz k]] ++ G) m 0=some [Iz i,Iz b,Iz k]:=by rw [← hBm];simp [getC]
   rw [xo_ref,this];rfl
  rw [e1,← List.append_assoc]
  simp only [Iz,bl] at e2 xR x1 hl hl0
  simp only [Iz,s_f43,a_f43,s_f43_l0_b,aa,bl,i64,reduceIte,reduceCtorEq,Nat.reduceEqDiff,Nat.reduceLT,Nat.reduceLeDiff,Nat.reduceBEq,Nat.reduceAdd,fillA,splice,Nat.reduceMul,amY,op_eqP,hm0,hl0,x1,hl,e2]
  rw [xR]
  rfl
end
end Go.Proofs.YtamlbkalopefgaaR
set_option maxRecDepth 100000
namespace Go.Proofs.YtamlbkalopefgaaR
open Go.AM
def seenL (l:List BlkD) (s:ByteArray):Bool:=l.any fun y=>decide (y.label=s)
def tlB (bs:List BlkD) (i:Nat) (b:Nat) (x:BlkD):Option Pt:=if seenL (bs.take b) x.label then some (i,b,0) else none
def tlF (i:Nat) (f:FunD):Option Pt:=srch (tlB f.blocks i) f.blocks 0
section
variable {CT:Nat→Option CFun}
theorem tl_l0 (base:Nat) {A C0:Heap} (h1:Ext A C0) (hb:base≤A.length) (hg:getC C0 A.length 0=some [Iz 0,Iz 0,Iz 0]) {bv v13:V} {i:Nat} {n14 n15:Int} {l:List BlkD} (hv:RdL 2 RdBlk A bv l) (hn:l.length < 2 ^ 20) (hA:A.length < C0.length):
 ∀ C,(∃ M G,C=C0 ++ [M] ++ G∧SetOf eS (fun s=>seenL (l.take 0) s) M)→(srch (tlB l i) l 0=none∧∃ C',itW (evC (callW CT) itW base s_f28_l0) [] (C0.length+1) (frOf 42 [(2,.ref A.length 0 0),(4,Iz i),(6,.mp C0.length),(13,v13),(14,Iz n14),(15,Iz n15),(22,bv),(23,Iz l.length),(24,Iz 0)]) C=some (.ext 2,frOf 42 [(2,.ref A.length 0 0),(4,Iz i),(6,.mp C0.length),(13,v13),(14,Iz n14),(15,Iz n15),(22,bv),(23,Iz l.length),(24,Iz l.length),(25,bl false)],C')∧Ext C0 C')∨∃ t,srch (tlB l i) l 0=some t∧Found A 42 A.length t (itW (evC (callW CT) itW base s_f28_l0) [] (C0.length+1) (frOf 42 [(2,.ref A.length 0 0),(4,Iz i),(6,.mp C0.length),(13,v13),(14,Iz n14),(15,Iz n15),(22,bv),(23,Iz l.length),(24,Iz 0)]) C):=by
 intro C0' hC0
 rcases it_srch l blk0 (tlB l i) (fun k C=>∃ M G,C=C0 ++ [M] ++ G∧SetOf eS (fun s=>seenL (l.take k) s) M) (fun k C=>itW (evC (callW CT) itW base s_f28_l0) [] (C0.length+1) (frOf 42 [(2,.ref A.length 0 0),(4,Iz i),(6,.mp C0.length),(13,v13),(14,Iz n14),(15,Iz n15),(22,bv),(23,Iz l.length),(24,Iz k)]) C) (Found A 42 A.length) (by
  intro k C hk ⟨M,G,hC,hS⟩
  have hlt':((k:Int) < (l.length:Int)):=by omega
  have hwk:=w64 (n:=k) (by omega)
  have hkx:=some_getD hk blk0
  obtain ⟨x,hxe⟩:∃ x,l.getD k blk0=x:=⟨_,rfl⟩
  rw [hxe] at hkx ⊢
  obtain ⟨a,r,a1,hr,a2,_⟩:=hv.at2 hkx
  have hE0:Ext C0 C:=hC ▸ (Ext.app C0 [M]).trans ⟨G,rfl⟩
  have hEA:=h1.trans hE0
  have ld:=a2 C hEA
  have hle:=hE0.le
  have hbC:base≤C.length:=by omega
  have hgg:∀ c,getC (C ++ [Ob.cells 0 c]) C.length 0=some c:=fun c=>getC_new C 0 c
  have hss:∀ c d,(C ++ [c]).set C.length d=C ++ [d]:=fun c d=>set_snoc C c d
  obtain ⟨cv,rfl,hcv⟩:=hr
  have hco:=hcv.one
  obtain ⟨D,hD⟩:∃ D,C ++ [Ob.cells 0 [Sb x.label,cv]]=D:=⟨_,rfl⟩
  have hED:Ext C D:=hD ▸ Ext.app _ _
  have hmm:D[C0.length]?=some M:=by rw [← hD,hC];simp
  have hgt:=setOf_get same_str key_str hS x.label hmm
  have hgD:getC D C.length 0=some [Sb x.label,cv]:=by rw [← hD];exact getC_new C 0 _
  have hsD:∀ c,(C ++ [c]).set C.length (Ob.cells 0 [Sb x.label,cv])=D:=fun c=>by rw [← hD];exact set_snoc C c _
  unfold tlB
  cases hs:seenL (l.take k) x.label with
  | true=>
    rw [hs] at hgt
    have hg2:=getC_ext hg (hE0.trans hED)
    refine .inr ⟨(i,k,0),if_pos rfl,trim (C0.length+1) (frOf 42 [(2,.ref A.length 0 0),(3,bl true)]) (D.set A.length (.cells 0 [Iz i,Iz k,Iz 0])),?_,((hEA.trans hED).set (Nat.le_refl _) _).trim (by omega) _,trim_get (getC_put hg2) (by omega)⟩
    rw [itW_step]
    simp only [Iz] at hg2
    simp only [Iz,bl,a_f28,s_f28_l0_b,s_f28_l1_b,aa,bl,i64,reduceIte,reduceCtorEq,Nat.reduceEqDiff,Nat.reduceLT,Nat.reduceLeDiff,Nat.reduceBEq,Nat.reduceAdd,fillA,splice,Nat.reduceMul,amY,op_eqP,hlt',a1,ld,hbC,hgg,hsD,hco,Bool.and_self,hgD,hgt,hg2,hb]
  | false=>
    rw [hs] at hgt
    obtain ⟨M',u1,u2⟩:=setOf_put same_str key_str hS x.label (H:=D) (base:=base) (j:=C0.length) (by omega) hmm
    have hset:D.set C0.length M'=C0 ++ [M'] ++ (G ++ [Ob.cells 0 [Sb x.label,cv]]):=by rw [← hD,hC];simp
    rw [hset] at u1
    obtain ⟨G2,hG2⟩:=trim_app2 (C:=C0 ++ [M']) (m:=C0.length+1) (by simp) (frOf 42 [(2,.ref A.length 0 0),(4,Iz i),(6,.mp C0.length),(13,v13),(14,Iz n14),(15,Iz n15),(22,bv),(23,Iz l.length),(24,Iz (k+1:Nat))]) (G ++ [Ob.cells 0 [Sb x.label,cv]])
    refine .inl ⟨if_neg Bool.false_ne_true,C0 ++ [M'] ++ G2,?_,M',G2,rfl,u2.congr fun s=>?_⟩
    ·rw [itW_step]
     simp only [Iz] at hG2
     simp only [Iz,bl,a_f28,s_f28_l0_b,s_f28_l1_b,aa,bl,i64,reduceIte,reduceCtorEq,Nat.reduceEqDiff,Nat.reduceLT,Nat.reduceLeDiff,Nat.reduceBEq,Nat.reduceAdd,fillA,splice,Nat.reduceMul,amY,op_eqP,op_mapUpd,hlt',a1,ld,hbC,hgg,hsD,hco,Bool.and_self,hgD,hgt,u1,hwk,hG2]
    ·unfold seenL
     rw [List.take_add_one,hkx,List.any_append]
     simp [eq_comm]) C0' hC0 with ⟨e1,C,e2,M,G,e3,_⟩ | e
 ·obtain ⟨G2,hG2⟩:=trim_app2 (C:=C0 ++ [M]) (m:=C0.length+1) (by simp) (frOf 42 [(2,.ref A.length 0 0),(4,Iz i),(6,.mp C0.length),(13,v13),(14,Iz n14),(15,Iz n15),(22,bv),(23,Iz l.length),(24,Iz l.length),(25,bl false)]) G
  refine .inl ⟨e1,C0 ++ [M] ++ G2,?_,(Ext.app C0 [M]).trans ⟨G2,rfl⟩⟩
  rw [cast0] at e2
  refine e2.trans ?_
  subst e3
  rw [itW_step]
  simp only [Iz,bl] at hG2
  simp only [Iz,bl,a_f28,s_f28_l0_b,s_f28_l1_b,aa,bl,i64,reduceIte,reduceCtorEq,Nat.reduceEqDiff,Nat.reduceLT,Nat.reduceLeDiff,Nat.reduceBEq,Nat.reduceAdd,fillA,splice,Nat.reduceMul,amY,op_eqP,Int.lt_irrefl,hG2]
 ·rw [cast0] at e
  exact .inr e
theorem tl_l1 (base:Nat) {A A1:Heap} (h1:Ext A A1) (hb:base≤A.length) (hg:getC A1 A.length 0=some [Iz 0,Iz 0,Iz 0]) {fv:V} {l:List FunD} (hv:RdL 3 RdFun A fv l) (hn:l.length < 2 ^ 20) (hnb:∀ f∈l,f.blocks.length < 2 ^ 20) {L:Nat} (hL:A1.length≤L) (hA1:A.length < A1.length):
 ∀ C,Ext A1 C→(srch (tlF) l 0=none∧∃ C',itW (evC (callW CT) itW base s_f28_l1) [] L (frOf 42 [(2,.ref A.length 0 0),(13,fv),(14,Iz l.length),(15,Iz 0)]) C=some (.ext 0,frOf 42 [(2,.ref A.length 0 0),(13,fv),(14,Iz l.length),(15,Iz l.length),(16,bl false)],C')∧Ext A1 C')∨∃ t,srch (tlF) l 0=some t∧Found A 42 A.length t (itW (evC (callW CT) itW base s_f28_l1) [] L (frOf 42 [(2,.ref A.length 0 0),(13,fv),(14,Iz l.length),(15,Iz 0)]) C):=by
 intro C0 hC0
 rcases it_srch l fun0 (tlF) (fun _ C=>Ext A1 C) (fun k C=>itW (evC (callW CT) itW base s_f28_l1) [] L (frOf 42 [(2,.ref A.length 0 0),(13,fv),(14,Iz l.length),(15,Iz k)]) C) (Found A 42 A.length) (by
  intro k C hk hE
  have hlt':((k:Int) < (l.length:Int)):=by omega
  have hwk:=w64 (n:=k) (by omega)
  have hle:=hE.le
  have hkx:=some_getD hk fun0
  obtain ⟨x,hxe⟩:∃ x,l.getD k fun0=x:=⟨_,rfl⟩
  rw [hxe] at hkx ⊢
  have hmem:=List.mem_of_getElem? hkx
  obtain ⟨a,r,a1,hr,a2,_⟩:=hv.at2 hkx
  have hEA:=h1.trans hE
  have ld:=a2 C hEA
  have hbC:base≤C.length:=by omega
  have hgg:∀ c,getC (C ++ [Ob.cells 0 c]) C.length 0=some c:=fun c=>getC_new C 0 c
  have hss:∀ c d,(C ++ [c]).set C.length d=C ++ [d]:=fun c d=>set_snoc C c d
  have eC:∀ c,Ext C (C ++ [Ob.cells 0 c]):=fun c=>Ext.app _ _
  have g2:∀ D,Ext A1 D→getC D A.length 0=some [Iz 0,Iz 0,Iz 0]:=fun D h=>getC_ext hg h
  obtain ⟨pv,bv,rfl,q1,q2,q3,hbv⟩:=hr
  have hpl:=Sb_len (q1.ext (hEA.trans (eC [Sb x.name,pv,bv])))
  have hpo:=q1.one
  have hbo:=hbv.one
  have hbl:=(rdB_ext hbv (hEA.trans (eC [Sb x.name,pv,bv]))).len
  have hl2:(C ++ [Ob.cells 0 [Sb x.name,pv,bv]]).length=C.length+1:=by simp
  have hbl0:=(rdB_ext hbv (hEA.trans ((eC [Sb x.name,pv,bv]).trans (Ext.app (C ++ [Ob.cells 0 [Sb x.name,pv,bv]]) [Ob.map []])))).len
  unfold tlF
  have hin:=tl_l0 (CT:=CT) (v13:=fv) (i:=k) (n14:=l.length) (n15:=k) base (C0:=C ++ [Ob.cells 0 [Sb x.name,pv,bv]]) (hEA.trans (eC _)) hb (g2 _ (hE.trans (eC _))) hbv (hnb x hmem) (by rw [len_snoc];omega) (C ++ [Ob.cells 0 [Sb x.name,pv,bv]] ++ [Ob.map []]) ⟨.map [],[],(List.append_nil _).symm,setOf_nil eS⟩
  have hl3:(C ++ [Ob.cells 0 [Sb x.name,pv,bv]] ++ [Ob.map []]).length=C.length+2:=by simp
  have hgf:getC (C ++ [Ob.cells 0 [Sb x.name,pv,bv]] ++ [Ob.map []]) C.length 0=some [Sb x.name,pv,bv]:=getC_ext (hgg _) (Ext.app _ _)
  rw [hl2] at hin
  rcases hin with ⟨z1,C2,z2,z3⟩ | ⟨t,z1,D,z2,z3,z4⟩
  ·refine .inl ⟨z1,trim L (frOf 42 [(2,.ref A.length 0 0),(13,fv),(14,Iz l.length),(15,Iz (k+1:Nat))]) C2,?_,((hE.trans (eC _)).trans z3).trim (by omega) _⟩
   rw [itW_step]
   simp only [Iz,bl] at z2
   simp only [Iz,bl,a_f28,s_f28_l0_b,s_f28_l1_b,aa,bl,i64,reduceIte,reduceCtorEq,Nat.reduceEqDiff,Nat.reduceLT,Nat.reduceLeDiff,Nat.reduceBEq,Nat.reduceAdd,fillA,splice,Nat.reduceMul,amY,op_eqP,op_mapNew,hlt',a1,ld,hbC,hgg,hss,hpo,hbo,Bool.and_self,hpl,hbl,hbl0,hl2,hl3,hgf,z2,hwk]
  ·refine .inr ⟨t,z1,trim L (frOf 42 [(2,.ref A.length 0 0),(3,bl true)]) D,?_,z3.trim (by omega) _,trim_get z4 (by omega)⟩
   rw [itW_step]
   simp only [Iz,bl] at z2
   simp only [Iz,bl,a_f28,s_f28_l0_b,s_f28_l1_b,aa,bl,i64,reduceIte,reduceCtorEq,Nat.reduceEqDiff,Nat.reduceLT,Nat.reduceLeDiff,Nat.reduceBEq,Nat.reduceAdd,fillA,splice,Nat.reduceMul,amY,op_eqP,op_mapNew,hlt',a1,ld,hbC,hgg,hss,hpo,hbo,Bool.and_self,hpl,hbl,hbl0,hl2,hl3,hgf,z2]) C0 hC0 with ⟨e1,C,e2,e3⟩ | e
 ·refine .inl ⟨e1,trim L (frOf 42 [(2,.ref A.length 0 0),(13,fv),(14,Iz l.length),(15,Iz l.length),(16,bl false)]) C,?_,e3.trim (by omega) _⟩
  rw [cast0] at e2
  refine e2.trans ?_
  rw [itW_step]
  simp only [Iz,bl,a_f28,s_f28_l0_b,s_f28_l1_b,aa,bl,i64,reduceIte,reduceCtorEq,Nat.reduceEqDiff,Nat.reduceLT,Nat.reduceLeDiff,Nat.reduceBEq,Nat.reduceAdd,fillA,splice,Nat.reduceMul,amY,op_eqP,Int.lt_irrefl]
 ·rw [cast0] at e
  exact .inr e
theorem twiceLabel_fun (hT:CT k_f28=some (.code s_f28)) (base:Nat) {A:Heap} (hb:base≤A.length) {w sm:Nat} {fv:V} {fs:List FunD} (hc:NC A w sm fv fs):
 ∃ H',callW CT (.fn k_f28 [] []) [.ref w 0 0] base A=some (resP (srch tlF fs 0),H')∧Ext A H':=by
 have e1:Ext A (A ++ [Ob.cells 0 [Iz 0,Iz 0,Iz 0]]):=Ext.app _ _
 have x1:=hc.load e1
 have hl:=(hc.rd.ext e1).len
 have g1:getC (A ++ [Ob.cells 0 [Iz 0,Iz 0,Iz 0]]) A.length 0=some [Iz 0,Iz 0,Iz 0]:=getC_new A 0 _
 have hl1:(A ++ [Ob.cells 0 [Iz 0,Iz 0,Iz 0]]).length=A.length+1:=by simp
 rcases tl_l1 (CT:=CT) base e1 hb g1 hc.rd hc.sml.n hc.sml.nb (L:=A.length+1) (by omega) (by omega) (A ++ [Ob.cells 0 [Iz 0,Iz 0,Iz 0]]) (Ext.refl _) with ⟨q1,C,q2,q3⟩ | ⟨⟨i,b,k⟩,q1,D,q2,q3,q4⟩
 ·have g2:=getC_ext g1 q3
  have g3:=getC_put (c':=[Iz 0,Iz 0,Iz 0]) g2
  refine ⟨C.set A.length (.cells 0 [Iz 0,Iz 0,Iz 0]),callW_fnA (c:=s_f28) (k:=1) hT rfl (by decide) s_f28_first ?_,(e1.trans q3).set (Nat.le_refl _) _⟩
  rw [q1]
  have xR:loadV (C.set A.length (.cells 0 [Iz 0,Iz 0,Iz 0])) true 3 (.ref A.length 0 0)=some (.agg [Iz 0,Iz 0,Iz 0]):=by
   show xLoad _ true 3 _=_
   rw [xo_ref,g3];rfl
  simp only [Iz,bl] at x1 hl hl1 q2 g2 xR
  simp only [Iz,s_f28,a_f28,s_f28_l0_b,s_f28_l1_b,aa,bl,i64,reduceIte,reduceCtorEq,Nat.reduceEqDiff,Nat.reduceLT,Nat.reduceLeDiff,Nat.reduceBEq,Nat.reduceAdd,fillA,splice,Nat.reduceMul,amY,op_eqP,x1,hl,hl1,q2,g2,hb]
  rw [xR]
  rfl
 ·refine ⟨D,callW_fnA (c:=s_f28) (k:=1) hT rfl (by decide) s_f28_first ?_,q3⟩
  rw [q1]
  have xR:loadV D true 3 (.ref A.length 0 0)=some (.agg [Iz i,Iz b,Iz k]):=by
   show xLoad _ true 3 _=_
   rw [xo_ref,q4];rfl
  simp only [Iz,bl] at x1 hl hl1 q2 xR
  simp only [Iz,s_f28,a_f28,s_f28_l0_b,s_f28_l1_b,aa,bl,i64,reduceIte,reduceCtorEq,Nat.reduceEqDiff,Nat.reduceLT,Nat.reduceLeDiff,Nat.reduceBEq,Nat.reduceAdd,fillA,splice,Nat.reduceMul,amY,op_eqP,x1,hl,hl1,q2]
  rw [xR]
  rfl
end
end Go.Proofs.YtamlbkalopefgaaR
set_option maxRecDepth 100000
namespace Go.Proofs.YtamlbkalopefgaaR
open Go.AM
def seenS (l:List ByteArray) (s:ByteArray):Bool:=l.any fun y=>decide (y=s)
def seenD (l:List InsD) (s:ByteArray):Bool:=l.any fun y=>decide (y.d=s)
def seenB (l:List BlkD) (s:ByteArray):Bool:=l.any fun y=>seenD y.code s
def tvP (l:List ByteArray) (i:Nat) (k:Nat) (x:ByteArray):Option Pt:=if seenS (l.take k) x then some (i,0,0) else none
def tvI (S:ByteArray→Bool) (l:List InsD) (i b:Nat) (k:Nat) (x:InsD):Option Pt:=if (!x.d.data.toList == [] && (S x.d || seenD (l.take k) x.d))=true then some (i,b,k) else none
def tvB (S:ByteArray→Bool) (l:List BlkD) (i:Nat) (b:Nat) (x:BlkD):Option Pt:=srch (tvI (fun s=>S s || seenB (l.take b) s) x.code i b) x.code 0
def tvF (i:Nat) (f:FunD):Option Pt:=match srch (tvP f.ps i) f.ps 0 with | some t=>some t | none=>srch (tvB (seenS f.ps) f.blocks i) f.blocks 0
section
variable {CT:Nat→Option CFun}
theorem tv_l0 (base:Nat) {A C0:Heap} (h1:Ext A C0) (hb:base≤A.length) (hg:getC C0 A.length 0=some [Iz 0,Iz 0,Iz 0]) (hA:A.length < C0.length) {L:Nat} (hL:C0.length+1≤L) {i p5:Nat} {v17 pv:V} {n18 n19:Int} {l:List ByteArray} (hv:Rd A pv (l.map Sb)) (hw:Wide1 pv) (hn:l.length < 2 ^ 20):
 ∀ C,(∃ M G,C=C0 ++ [M] ++ G∧SetOf eS (fun s=>seenS ([]) s) M)→(srch (tvP l i) l 0=none∧∃ C',itW (evC (callW CT) itW base s_f36_l0) [] L (frOf 76 [(2,.ref A.length 0 0),(4,Iz i),(5,.ref p5 0 0),(6,.mp C0.length),(17,v17),(18,Iz n18),(19,Iz n19),(26,pv),(27,Iz l.length),(28,Iz 0)]) C=some (.ext 2,frOf 76 [(2,.ref A.length 0 0),(4,Iz i),(5,.ref p5 0 0),(6,.mp C0.length),(17,v17),(18,Iz n18),(19,Iz n19),(26,pv),(27,Iz l.length),(28,Iz l.length),(29,bl false)],C')∧∃ M G,C'=C0 ++ [M] ++ G∧SetOf eS (fun s=>seenS (l) s) M)∨∃ t,srch (tvP l i) l 0=some t∧Found A 76 A.length t (itW (evC (callW CT) itW base s_f36_l0) [] L (frOf 76 [(2,.ref A.length 0 0),(4,Iz i),(5,.ref p5 0 0),(6,.mp C0.length),(17,v17),(18,Iz n18),(19,Iz n19),(26,pv),(27,Iz l.length),(28,Iz 0)]) C):=by
 intro C0' hC0
 rcases it_srch l ⟨#[]⟩ (tvP l i) (fun k C=>∃ M G,C=C0 ++ [M] ++ G∧SetOf eS (fun s=>seenS (l.take k) s) M) (fun k C=>itW (evC (callW CT) itW base s_f36_l0) [] L (frOf 76 [(2,.ref A.length 0 0),(4,Iz i),(5,.ref p5 0 0),(6,.mp C0.length),(17,v17),(18,Iz n18),(19,Iz n19),(26,pv),(27,Iz l.length),(28,Iz k)]) C) (Found A 76 A.length) (by
  intro k C hk ⟨M,G,hC,hS⟩
  have hlt':((k:Int) < (l.length:Int)):=by omega
  have hwk:=w64 (n:=k) (by omega)
  have hkx:=some_getD hk ⟨#[]⟩
  obtain ⟨x,hxe⟩:∃ x,l.getD k ⟨#[]⟩=x:=⟨_,rfl⟩
  have hk':=hk
  have hxe':=hxe
  rw [hxe] at hkx ⊢
  have hmem:=List.mem_of_getElem? hkx
  have hE0:Ext C0 C:=hC ▸ (Ext.app C0 [M]).trans ⟨G,rfl⟩
  have hEA:=h1.trans hE0
  have hle:=hE0.le
  have hbC:base≤C.length:=by omega
  have hgg:∀ c,getC (C ++ [Ob.cells 0 c]) C.length 0=some c:=fun c=>getC_new C 0 c
  have hss:∀ c d,(C ++ [c]).set C.length d=C ++ [d]:=fun c d=>set_snoc C c d
  have eC:∀ c,Ext C (C ++ [Ob.cells 0 c]):=fun c=>Ext.app _ _
  obtain ⟨a,a1,a2⟩:=Sb_at (hv.ext hEA) hw hk'
  rw [hxe'] at a2
  have hmm:C[C0.length]?=some M:=by rw [hC];simp
  have hgt:=setOf_get same_str key_str hS x hmm
  unfold tvP
  cases hs:seenS (l.take k) x with
  | true=>
    rw [hs] at hgt
    have hg2:=getC_ext hg hE0
    refine .inr ⟨(i,0,0),if_pos rfl,trim L (frOf 76 [(2,.ref A.length 0 0),(3,bl true)]) (C.set A.length (.cells 0 [Iz i,Iz 0,Iz 0])),?_,(hEA.set (Nat.le_refl _) _).trim (by omega) _,trim_get (getC_put hg2) (by omega)⟩
    rw [itW_step]
    simp only [Iz] at hg2
    simp only [Iz,bl,a_f36,s_f36_l0_b,s_f36_l1_b,s_f36_l2_b,s_f36_l3_b,aa,bl,i64,reduceIte,reduceCtorEq,Nat.reduceEqDiff,Nat.reduceLT,Nat.reduceLeDiff,Nat.reduceBEq,Nat.reduceAdd,fillA,splice,Nat.reduceMul,amY,op_eqP,hlt',a1,a2,hgt,hg2,hb]
  | false=>
    rw [hs] at hgt
    obtain ⟨M',u1,u2⟩:=setOf_put same_str key_str hS x (H:=C) (base:=base) (j:=C0.length) (by omega) hmm
    have hset:C.set C0.length M'=C0 ++ [M'] ++ G:=by rw [hC];simp
    rw [hset] at u1
    obtain ⟨G2,hG2⟩:=trim_app2 (C:=C0 ++ [M']) (m:=L) (by rw [len_snoc];exact hL) (frOf 76 [(2,.ref A.length 0 0),(4,Iz i),(5,.ref p5 0 0),(6,.mp C0.length),(17,v17),(18,Iz n18),(19,Iz n19),(26,pv),(27,Iz l.length),(28,Iz (k+1:Nat))]) G
    refine .inl ⟨if_neg Bool.false_ne_true,C0 ++ [M'] ++ G2,?_,M',G2,rfl,u2.congr fun s=>?_⟩
    ·rw [itW_step]
     simp only [Iz] at hG2
     simp only [Iz,bl,a_f36,s_f36_l0_b,s_f36_l1_b,s_f36_l2_b,s_f36_l3_b,aa,bl,i64,reduceIte,reduceCtorEq,Nat.reduceEqDiff,Nat.reduceLT,Nat.reduceLeDiff,Nat.reduceBEq,Nat.reduceAdd,fillA,splice,Nat.reduceMul,amY,op_eqP,op_mapUpd,hlt',a1,a2,hgt,u1,hwk,hG2]
    ·unfold seenS
     rw [List.take_add_one,hkx,List.any_append]
     simp [eq_comm]) C0' (by simpa using hC0) with ⟨e1,C,e2,M,G,e3,e4⟩ | e
 ·obtain ⟨G2,hG2⟩:=trim_app2 (C:=C0 ++ [M]) (m:=L) (by rw [len_snoc];exact hL) (frOf 76 [(2,.ref A.length 0 0),(4,Iz i),(5,.ref p5 0 0),(6,.mp C0.length),(17,v17),(18,Iz n18),(19,Iz n19),(26,pv),(27,Iz l.length),(28,Iz l.length),(29,bl false)]) G
  refine .inl ⟨e1,C0 ++ [M] ++ G2,?_,M,G2,rfl,by rw [List.take_length] at e4;exact e4⟩
  rw [cast0] at e2
  refine e2.trans ?_
  subst e3
  rw [itW_step]
  simp only [Iz,bl] at hG2
  simp only [Iz,bl,a_f36,s_f36_l0_b,s_f36_l1_b,s_f36_l2_b,s_f36_l3_b,aa,bl,i64,reduceIte,reduceCtorEq,Nat.reduceEqDiff,Nat.reduceLT,Nat.reduceLeDiff,Nat.reduceBEq,Nat.reduceAdd,fillA,splice,Nat.reduceMul,amY,op_eqP,Int.lt_irrefl,hG2]
 ·rw [cast0] at e
  exact .inr e
theorem tv_l1 (base:Nat) {A C0:Heap} (h1:Ext A C0) (hb:base≤A.length) (hg:getC C0 A.length 0=some [Iz 0,Iz 0,Iz 0]) (hA:A.length < C0.length) {L:Nat} (hL:C0.length+1≤L) {i b:Nat} {v17 v41 cv:V} {n18 n19 n42 n43:Int} {l:List InsD} (hv:RdL 8 RdIns A cv l) (hn:l.length < 2 ^ 20) {S:ByteArray→Bool}:
 ∀ C,(∃ M G,C=C0 ++ [M] ++ G∧SetOf eS (fun s=>S s || seenD ([]) s) M)→(srch (tvI S l i b) l 0=none∧∃ C',itW (evC (callW CT) itW base s_f36_l1) [] L (frOf 76 [(2,.ref A.length 0 0),(4,Iz i),(6,.mp C0.length),(9,Iz b),(17,v17),(18,Iz n18),(19,Iz n19),(41,v41),(42,Iz n42),(43,Iz n43),(49,cv),(50,Iz l.length),(51,Iz 0)]) C=some (.ext 6,frOf 76 [(2,.ref A.length 0 0),(4,Iz i),(6,.mp C0.length),(9,Iz b),(17,v17),(18,Iz n18),(19,Iz n19),(41,v41),(42,Iz n42),(43,Iz n43),(49,cv),(50,Iz l.length),(51,Iz l.length),(52,bl false)],C')∧∃ M G,C'=C0 ++ [M] ++ G∧SetOf eS (fun s=>S s || seenD (l) s) M)∨∃ t,srch (tvI S l i b) l 0=some t∧Found A 76 A.length t (itW (evC (callW CT) itW base s_f36_l1) [] L (frOf 76 [(2,.ref A.length 0 0),(4,Iz i),(6,.mp C0.length),(9,Iz b),(17,v17),(18,Iz n18),(19,Iz n19),(41,v41),(42,Iz n42),(43,Iz n43),(49,cv),(50,Iz l.length),(51,Iz 0)]) C):=by
 intro C0' hC0
 rcases it_srch l ins0 (tvI S l i b) (fun k C=>∃ M G,C=C0 ++ [M] ++ G∧SetOf eS (fun s=>S s || seenD (l.take k) s) M) (fun k C=>itW (evC (callW CT) itW base s_f36_l1) [] L (frOf 76 [(2,.ref A.length 0 0),(4,Iz i),(6,.mp C0.length),(9,Iz b),(17,v17),(18,Iz n18),(19,Iz n19),(41,v41),(42,Iz n42),(43,Iz n43),(49,cv),(50,Iz l.length),(51,Iz k)]) C) (Found A 76 A.length) (by
  intro k C hk ⟨M,G,hC,hS⟩
  have hlt':((k:Int) < (l.length:Int)):=by omega
  have hwk:=w64 (n:=k) (by omega)
  have hkx:=some_getD hk ins0
  obtain ⟨x,hxe⟩:∃ x,l.getD k ins0=x:=⟨_,rfl⟩
  have hk':=hk
  have hxe':=hxe
  rw [hxe] at hkx ⊢
  have hmem:=List.mem_of_getElem? hkx
  have hE0:Ext C0 C:=hC ▸ (Ext.app C0 [M]).trans ⟨G,rfl⟩
  have hEA:=h1.trans hE0
  have hle:=hE0.le
  have hbC:base≤C.length:=by omega
  have hgg:∀ c,getC (C ++ [Ob.cells 0 c]) C.length 0=some c:=fun c=>getC_new C 0 c
  have hss:∀ c d,(C ++ [c]).set C.length d=C ++ [d]:=fun c d=>set_snoc C c d
  have eC:∀ c,Ext C (C ++ [Ob.cells 0 c]):=fun c=>Ext.app _ _
  obtain ⟨a,r,a1,hr,a2,_⟩:=hv.at2 hkx
  have ld:=a2 C hEA
  obtain ⟨av,lv,rfl,q1,q2,q3,q4,_⟩:=hr
  have hav:=q1.one
  have hlv:=q3.one
  obtain ⟨D,hD⟩:∃ D,C ++ [Ob.cells 0 (insC x av lv)]=D:=⟨_,rfl⟩
  have hED:Ext C D:=hD ▸ Ext.app _ _
  have hmm:D[C0.length]?=some M:=by rw [← hD,hC];simp
  have hgt:=setOf_get same_str key_str hS x.d hmm
  have hgD:getC D C.length 0=some (insC x av lv):=by rw [← hD];exact getC_new C 0 _
  have hsD:∀ c,(C ++ [c]).set C.length (Ob.cells 0 (insC x av lv))=D:=fun c=>by rw [← hD];exact set_snoc C c _
  obtain ⟨M',u1,u2⟩:=setOf_put same_str key_str hS x.d (H:=D) (base:=base) (j:=C0.length) (by omega) hmm
  have hset:D.set C0.length M'=C0 ++ [M'] ++ (G ++ [Ob.cells 0 (insC x av lv)]):=by rw [← hD,hC];simp
  rw [hset] at u1
  obtain ⟨G2,hG2⟩:=trim_app2 (C:=C0 ++ [M']) (m:=L) (by rw [len_snoc];exact hL) (frOf 76 [(2,.ref A.length 0 0),(4,Iz i),(6,.mp C0.length),(9,Iz b),(17,v17),(18,Iz n18),(19,Iz n19),(41,v41),(42,Iz n42),(43,Iz n43),(49,cv),(50,Iz l.length),(51,Iz (k+1:Nat))]) (G ++ [Ob.cells 0 (insC x av lv)])
  have hS':SetOf eS (fun s=>S s || seenD (l.take (k+1)) s) M':=u2.congr fun s=>by
   unfold seenD
   rw [List.take_add_one,hkx,List.any_append]
   simp [eq_comm,Bool.or_assoc]
  have hg2:=getC_ext hg (hE0.trans hED)
  have eN:=((hEA.trans hED).set (Nat.le_refl _) (.cells 0 [Iz i,Iz b,Iz k])).trim (m:=L) (by omega) (frOf 76 [(2,.ref A.length 0 0),(3,bl true)])
  have tN:=trim_get (m:=L) (fr:=frOf 76 [(2,.ref A.length 0 0),(3,bl true)]) (getC_put (c':=[Iz i,Iz b,Iz k]) hg2) (by omega)
  unfold tvI
  simp only [Iz,insC] at hG2 hgD hsD hg2 u1 ld
  cases he:(x.d.data.toList == []) with
  | true=>
    refine .inl ⟨by rw [Bool.not_true,Bool.false_and,if_neg Bool.false_ne_true],C0 ++ [M'] ++ G2,?_,M',G2,rfl,hS'⟩
    rw [itW_step]
    simp only [insC,Iz,bl,a_f36,s_f36_l0_b,s_f36_l1_b,s_f36_l2_b,s_f36_l3_b,aa,bl,i64,reduceIte,reduceCtorEq,Nat.reduceEqDiff,Nat.reduceLT,Nat.reduceLeDiff,Nat.reduceBEq,Nat.reduceAdd,fillA,splice,Nat.reduceMul,amY,op_eqP,op_mapUpd,hlt',a1,ld,hbC,hgg,hsD,hav,hlv,Bool.and_self,hgD,he,hgt,u1,hwk,hG2]
  | false=>
    cases hs:(S x.d || seenD (l.take k) x.d) with
    | true=>
      rw [hs] at hgt
      refine .inr ⟨(i,b,k),by rw [Bool.not_false,Bool.true_and,if_pos rfl],_,?_,eN,tN⟩
      rw [itW_step]
      simp only [insC,Iz,bl,a_f36,s_f36_l0_b,s_f36_l1_b,s_f36_l2_b,s_f36_l3_b,aa,bl,i64,reduceIte,reduceCtorEq,Nat.reduceEqDiff,Nat.reduceLT,Nat.reduceLeDiff,Nat.reduceBEq,Nat.reduceAdd,fillA,splice,Nat.reduceMul,amY,op_eqP,hlt',a1,ld,hbC,hgg,hsD,hav,hlv,Bool.and_self,hgD,he,hgt,hg2,hb]
    | false=>
      rw [hs] at hgt
      refine .inl ⟨by rw [Bool.not_false,Bool.true_and,if_neg Bool.false_ne_true],C0 ++ [M'] ++ G2,?_,M',G2,rfl,hS'⟩
      rw [itW_step]
      simp only [insC,Iz,bl,a_f36,s_f36_l0_b,s_f36_l1_b,s_f36_l2_b,s_f36_l3_b,aa,bl,i64,reduceIte,reduceCtorEq,Nat.reduceEqDiff,Nat.reduceLT,Nat.reduceLeDiff,Nat.reduceBEq,Nat.reduceAdd,fillA,splice,Nat.reduceMul,amY,op_eqP,op_mapUpd,hlt',a1,ld,hbC,hgg,hsD,hav,hlv,Bool.and_self,hgD,he,hgt,u1,hwk,hG2]) C0' (by simpa using hC0) with ⟨e1,C,e2,M,G,e3,e4⟩ | e
 ·obtain ⟨G2,hG2⟩:=trim_app2 (C:=C0 ++ [M]) (m:=L) (by rw [len_snoc];exact hL) (frOf 76 [(2,.ref A.length 0 0),(4,Iz i),(6,.mp C0.length),(9,Iz b),(17,v17),(18,Iz n18),(19,Iz n19),(41,v41),(42,Iz n42),(43,Iz n43),(49,cv),(50,Iz l.length),(51,Iz l.length),(52,bl false)]) G
  refine .inl ⟨e1,C0 ++ [M] ++ G2,?_,M,G2,rfl,by rw [List.take_length] at e4;exact e4⟩
  rw [cast0] at e2
  refine e2.trans ?_
  subst e3
  rw [itW_step]
  simp only [Iz,bl] at hG2
  simp only [Iz,bl,a_f36,s_f36_l0_b,s_f36_l1_b,s_f36_l2_b,s_f36_l3_b,aa,bl,i64,reduceIte,reduceCtorEq,Nat.reduceEqDiff,Nat.reduceLT,Nat.reduceLeDiff,Nat.reduceBEq,Nat.reduceAdd,fillA,splice,Nat.reduceMul,amY,op_eqP,Int.lt_irrefl,hG2]
 ·rw [cast0] at e
  exact .inr e
theorem tv_l2 (base:Nat) {A C0:Heap} (h1:Ext A C0) (hb:base≤A.length) (hg:getC C0 A.length 0=some [Iz 0,Iz 0,Iz 0]) (hA:A.length < C0.length) {L:Nat} (hL:C0.length+1≤L) {i:Nat} {v17 bv:V} {n18 n19:Int} {l:List BlkD} (hv:RdL 2 RdBlk A bv l) (hnc:∀ b∈l,b.code.length < 2 ^ 20) (hn:l.length < 2 ^ 20) {S:ByteArray→Bool}:
 ∀ C,(∃ M G,C=C0 ++ [M] ++ G∧SetOf eS (fun s=>S s || seenB ([]) s) M)→(srch (tvB S l i) l 0=none∧∃ C',itW (evC (callW CT) itW base s_f36_l2) [] L (frOf 76 [(2,.ref A.length 0 0),(4,Iz i),(6,.mp C0.length),(17,v17),(18,Iz n18),(19,Iz n19),(41,bv),(42,Iz l.length),(43,Iz 0)]) C=some (.ext 4,frOf 76 [(2,.ref A.length 0 0),(4,Iz i),(6,.mp C0.length),(17,v17),(18,Iz n18),(19,Iz n19),(41,bv),(42,Iz l.length),(43,Iz l.length),(44,bl false)],C')∧∃ M G,C'=C0 ++ [M] ++ G∧SetOf eS (fun s=>S s || seenB (l) s) M)∨∃ t,srch (tvB S l i) l 0=some t∧Found A 76 A.length t (itW (evC (callW CT) itW base s_f36_l2) [] L (frOf 76 [(2,.ref A.length 0 0),(4,Iz i),(6,.mp C0.length),(17,v17),(18,Iz n18),(19,Iz n19),(41,bv),(42,Iz l.length),(43,Iz 0)]) C):=by
 intro C0' hC0
 rcases it_srch l blk0 (tvB S l i) (fun k C=>∃ M G,C=C0 ++ [M] ++ G∧SetOf eS (fun s=>S s || seenB (l.take k) s) M) (fun k C=>itW (evC (callW CT) itW base s_f36_l2) [] L (frOf 76 [(2,.ref A.length 0 0),(4,Iz i),(6,.mp C0.length),(17,v17),(18,Iz n18),(19,Iz n19),(41,bv),(42,Iz l.length),(43,Iz k)]) C) (Found A 76 A.length) (by
  intro k C hk ⟨M,G,hC,hS⟩
  have hlt':((k:Int) < (l.length:Int)):=by omega
  have hwk:=w64 (n:=k) (by omega)
  have hkx:=some_getD hk blk0
  obtain ⟨x,hxe⟩:∃ x,l.getD k blk0=x:=⟨_,rfl⟩
  have hk':=hk
  have hxe':=hxe
  rw [hxe] at hkx ⊢
  have hmem:=List.mem_of_getElem? hkx
  have hE0:Ext C0 C:=hC ▸ (Ext.app C0 [M]).trans ⟨G,rfl⟩
  have hEA:=h1.trans hE0
  have hle:=hE0.le
  have hbC:base≤C.length:=by omega
  have hgg:∀ c,getC (C ++ [Ob.cells 0 c]) C.length 0=some c:=fun c=>getC_new C 0 c
  have hss:∀ c d,(C ++ [c]).set C.length d=C ++ [d]:=fun c d=>set_snoc C c d
  have eC:∀ c,Ext C (C ++ [Ob.cells 0 c]):=fun c=>Ext.app _ _
  obtain ⟨a,r,a1,hr,a2,_⟩:=hv.at2 hkx
  have ld:=a2 C hEA
  obtain ⟨cv,rfl,hcv⟩:=hr
  have hcl:=(rdI_ext hcv (hEA.trans (eC [Sb x.label,cv]))).len
  have hco:=hcv.one
  have hl2:(C ++ [Ob.cells 0 [Sb x.label,cv]]).length=C.length+1:=by simp
  have hLC:C0.length+1≤C.length+1:=by omega
  have hin:=tv_l1 (CT:=CT) (v17:=v17) (v41:=bv) (i:=i) (b:=k) (n18:=n18) (n19:=n19) (n42:=l.length) (n43:=k) base h1 hb hg hA hLC hcv (hnc x hmem) (S:=fun s=>S s || seenB (l.take k) s) (C ++ [Ob.cells 0 [Sb x.label,cv]]) ⟨M,G ++ [Ob.cells 0 [Sb x.label,cv]],by rw [hC];simp,by simpa [seenD] using hS⟩
  unfold tvB
  rcases hin with ⟨z1,C2,z2,M2,G2,z3,z4⟩ | ⟨t,z1,D,z2,z3,z4⟩
  ·subst z3
   obtain ⟨G3,hG3⟩:=trim_app2 (C:=C0 ++ [M2]) (m:=L) (by rw [len_snoc];exact hL) (frOf 76 [(2,.ref A.length 0 0),(4,Iz i),(6,.mp C0.length),(17,v17),(18,Iz n18),(19,Iz n19),(41,bv),(42,Iz l.length),(43,Iz (k+1:Nat))]) G2
   refine .inl ⟨z1,C0 ++ [M2] ++ G3,?_,M2,G3,rfl,z4.congr fun s=>?_⟩
   ·rw [itW_step]
    simp only [Iz,bl] at z2 hG3
    simp only [Iz,bl,a_f36,s_f36_l0_b,s_f36_l1_b,s_f36_l2_b,s_f36_l3_b,aa,bl,i64,reduceIte,reduceCtorEq,Nat.reduceEqDiff,Nat.reduceLT,Nat.reduceLeDiff,Nat.reduceBEq,Nat.reduceAdd,fillA,splice,Nat.reduceMul,amY,op_eqP,hlt',a1,ld,hbC,hgg,hss,hco,Bool.and_self,hcl,hl2,z2,hwk,hG3]
   ·unfold seenB
    rw [List.take_add_one,hkx,List.any_append]
    simp [Bool.or_assoc]
  ·refine .inr ⟨t,z1,trim L (frOf 76 [(2,.ref A.length 0 0),(3,bl true)]) D,?_,z3.trim (by omega) _,trim_get z4 (by omega)⟩
   rw [itW_step]
   simp only [Iz,bl] at z2
   simp only [Iz,bl,a_f36,s_f36_l0_b,s_f36_l1_b,s_f36_l2_b,s_f36_l3_b,aa,bl,i64,reduceIte,reduceCtorEq,Nat.reduceEqDiff,Nat.reduceLT,Nat.reduceLeDiff,Nat.reduceBEq,Nat.reduceAdd,fillA,splice,Nat.reduceMul,amY,op_eqP,hlt',a1,ld,hbC,hgg,hss,hco,Bool.and_self,hcl,hl2,z2]) C0' (by simpa using hC0) with ⟨e1,C,e2,M,G,e3,e4⟩ | e
 ·obtain ⟨G2,hG2⟩:=trim_app2 (C:=C0 ++ [M]) (m:=L) (by rw [len_snoc];exact hL) (frOf 76 [(2,.ref A.length 0 0),(4,Iz i),(6,.mp C0.length),(17,v17),(18,Iz n18),(19,Iz n19),(41,bv),(42,Iz l.length),(43,Iz l.length),(44,bl false)]) G
  refine .inl ⟨e1,C0 ++ [M] ++ G2,?_,M,G2,rfl,by rw [List.take_length] at e4;exact e4⟩
  rw [cast0] at e2
  refine e2.trans ?_
  subst e3
  rw [itW_step]
  simp only [Iz,bl] at hG2
  simp only [Iz,bl,a_f36,s_f36_l0_b,s_f36_l1_b,s_f36_l2_b,s_f36_l3_b,aa,bl,i64,reduceIte,reduceCtorEq,Nat.reduceEqDiff,Nat.reduceLT,Nat.reduceLeDiff,Nat.reduceBEq,Nat.reduceAdd,fillA,splice,Nat.reduceMul,amY,op_eqP,Int.lt_irrefl,hG2]
 ·rw [cast0] at e
  exact .inr e
theorem tv_l3 (base:Nat) {A A1:Heap} (h1:Ext A A1) (hb:base≤A.length) (hg:getC A1 A.length 0=some [Iz 0,Iz 0,Iz 0]) {fv:V} {l:List FunD} (hv:RdL 3 RdFun A fv l) (hn:l.length < 2 ^ 20) (hps:∀ f∈l,f.ps.length < 2 ^ 20) (hnb:∀ f∈l,f.blocks.length < 2 ^ 20) (hnc:∀ f∈l,∀ b∈f.blocks,b.code.length < 2 ^ 20) {L:Nat} (hL:A1.length≤L) (hA1:A.length < A1.length):
 ∀ C,Ext A1 C→(srch (tvF) l 0=none∧∃ C',itW (evC (callW CT) itW base s_f36_l3) [] L (frOf 76 [(2,.ref A.length 0 0),(17,fv),(18,Iz l.length),(19,Iz 0)]) C=some (.ext 0,frOf 76 [(2,.ref A.length 0 0),(17,fv),(18,Iz l.length),(19,Iz l.length),(20,bl false)],C')∧Ext A1 C')∨∃ t,srch (tvF) l 0=some t∧Found A 76 A.length t (itW (evC (callW CT) itW base s_f36_l3) [] L (frOf 76 [(2,.ref A.length 0 0),(17,fv),(18,Iz l.length),(19,Iz 0)]) C):=by
 intro C0 hC0
 rcases it_srch l fun0 (tvF) (fun _ C=>Ext A1 C) (fun k C=>itW (evC (callW CT) itW base s_f36_l3) [] L (frOf 76 [(2,.ref A.length 0 0),(17,fv),(18,Iz l.length),(19,Iz k)]) C) (Found A 76 A.length) (by
  intro k C hk hE
  have hlt':((k:Int) < (l.length:Int)):=by omega
  have hwk:=w64 (n:=k) (by omega)
  have hle:=hE.le
  have hkx:=some_getD hk fun0
  obtain ⟨x,hxe⟩:∃ x,l.getD k fun0=x:=⟨_,rfl⟩
  rw [hxe] at hkx ⊢
  have hmem:=List.mem_of_getElem? hkx
  obtain ⟨a,r,a1,hr,a2,_⟩:=hv.at2 hkx
  have hEA:=h1.trans hE
  have ld:=a2 C hEA
  have hbC:base≤C.length:=by omega
  have hgg:∀ c,getC (C ++ [Ob.cells 0 c]) C.length 0=some c:=fun c=>getC_new C 0 c
  have hss:∀ c d,(C ++ [c]).set C.length d=C ++ [d]:=fun c d=>set_snoc C c d
  have eC:∀ c,Ext C (C ++ [Ob.cells 0 c]):=fun c=>Ext.app _ _
  have g2:∀ D,Ext A1 D→getC D A.length 0=some [Iz 0,Iz 0,Iz 0]:=fun D h=>getC_ext hg h
  obtain ⟨pv,bv,rfl,q1,q2,q3,hbv⟩:=hr
  have hpl:=Sb_len (q1.ext (hEA.trans (eC [Sb x.name,pv,bv])))
  have hpo:=q1.one
  have hbo:=hbv.one
  have hbl:=(rdB_ext hbv (hEA.trans (eC [Sb x.name,pv,bv]))).len
  have hl2:(C ++ [Ob.cells 0 [Sb x.name,pv,bv]]).length=C.length+1:=by simp
  have eM:Ext C (C ++ [Ob.cells 0 [Sb x.name,pv,bv]] ++ [Ob.map []]):=(eC [Sb x.name,pv,bv]).trans (Ext.app (C ++ [Ob.cells 0 [Sb x.name,pv,bv]]) [Ob.map []])
  have hpl0:=Sb_len (q1.ext (hEA.trans eM))
  have hl3:(C ++ [Ob.cells 0 [Sb x.name,pv,bv]] ++ [Ob.map []]).length=C.length+2:=by simp
  have hgf:getC (C ++ [Ob.cells 0 [Sb x.name,pv,bv]] ++ [Ob.map []]) C.length 0=some [Sb x.name,pv,bv]:=getC_ext (hgg _) (Ext.app _ _)
  have hA0:A.length < (C ++ [Ob.cells 0 [Sb x.name,pv,bv]]).length:=by rw [len_snoc];omega
  unfold tvF
  have hin:=tv_l0 (CT:=CT) (v17:=fv) (p5:=C.length) (i:=k) (n18:=l.length) (n19:=k) base (C0:=C ++ [Ob.cells 0 [Sb x.name,pv,bv]]) (hEA.trans (eC _)) hb (g2 _ (hE.trans (eC _))) hA0 (L:=C.length+2) (by rw [hl2];omega) q1 q2 (hps x hmem) (C ++ [Ob.cells 0 [Sb x.name,pv,bv]] ++ [Ob.map []]) ⟨.map [],[],(List.append_nil _).symm,setOf_nil eS⟩
  rw [hl2] at hin
  rcases hin with ⟨z1,C2,z2,M2,G2,z3,z4⟩ | ⟨t,z1,D,z2,z3,z4⟩
  ·rw [z1]
   have e02:Ext (C ++ [Ob.cells 0 [Sb x.name,pv,bv]]) C2:=z3 ▸ (Ext.app _ [M2]).trans ⟨G2,rfl⟩
   have hgf2:getC C2 C.length 0=some [Sb x.name,pv,bv]:=getC_ext (hgg _) e02
   have hbl2:=(rdB_ext hbv (hEA.trans ((eC _).trans e02))).len
   have hL2:(C ++ [Ob.cells 0 [Sb x.name,pv,bv]]).length+1≤C2.length:=by rw [z3];simp;omega
   have hin2:=tv_l2 (CT:=CT) (v17:=fv) (i:=k) (n18:=l.length) (n19:=k) base (C0:=C ++ [Ob.cells 0 [Sb x.name,pv,bv]]) (hEA.trans (eC _)) hb (g2 _ (hE.trans (eC _))) hA0 hL2 hbv (hnc x hmem) (hnb x hmem) (S:=seenS x.ps) C2 ⟨M2,G2,z3,by simpa [seenB] using z4⟩
   rw [hl2] at hin2
   rcases hin2 with ⟨y1,C3,y2,M3,G3,y3,y4⟩ | ⟨t,y1,D,y2,y3,y4⟩
   ·have e03:Ext (C ++ [Ob.cells 0 [Sb x.name,pv,bv]]) C3:=y3 ▸ (Ext.app _ [M3]).trans ⟨G3,rfl⟩
    refine .inl ⟨y1,trim L (frOf 76 [(2,.ref A.length 0 0),(17,fv),(18,Iz l.length),(19,Iz (k+1:Nat))]) C3,?_,((hE.trans (eC _)).trans e03).trim (by omega) _⟩
    rw [itW_step]
    simp only [Iz,bl] at z2 y2
    simp only [Iz,bl,a_f36,s_f36_l0_b,s_f36_l1_b,s_f36_l2_b,s_f36_l3_b,aa,bl,i64,reduceIte,reduceCtorEq,Nat.reduceEqDiff,Nat.reduceLT,Nat.reduceLeDiff,Nat.reduceBEq,Nat.reduceAdd,fillA,splice,Nat.reduceMul,amY,op_eqP,op_mapNew,hlt',a1,ld,hbC,hgg,hss,hpo,hbo,Bool.and_self,hpl0,hl2,hl3,hgf,z2,hgf2,hbl2,y2,hwk]
   ·refine .inr ⟨t,y1,trim L (frOf 76 [(2,.ref A.length 0 0),(3,bl true)]) D,?_,y3.trim (by omega) _,trim_get y4 (by omega)⟩
    rw [itW_step]
    simp only [Iz,bl] at z2 y2
    simp only [Iz,bl,a_f36,s_f36_l0_b,s_f36_l1_b,s_f36_l2_b,s_f36_l3_b,aa,bl,i64,reduceIte,reduceCtorEq,Nat.reduceEqDiff,Nat.reduceLT,Nat.reduceLeDiff,Nat.reduceBEq,Nat.reduceAdd,fillA,splice,Nat.reduceMul,amY,op_eqP,op_mapNew,hlt',a1,ld,hbC,hgg,hss,hpo,hbo,Bool.and_self,hpl0,hl2,hl3,hgf,z2,hgf2,hbl2,y2]
  ·rw [z1]
   refine .inr ⟨t,rfl,trim L (frOf 76 [(2,.ref A.length 0 0),(3,bl true)]) D,?_,z3.trim (by omega) _,trim_get z4 (by omega)⟩
   rw [itW_step]
   simp only [Iz,bl] at z2
   simp only [Iz,bl,a_f36,s_f36_l0_b,s_f36_l1_b,s_f36_l2_b,s_f36_l3_b,aa,bl,i64,reduceIte,reduceCtorEq,Nat.reduceEqDiff,Nat.reduceLT,Nat.reduceLeDiff,Nat.reduceBEq,Nat.reduceAdd,fillA,splice,Nat.reduceMul,amY,op_eqP,op_mapNew,hlt',a1,ld,hbC,hgg,hss,hpo,hbo,Bool.and_self,hpl0,hl2,hl3,hgf,z2]) C0 hC0 with ⟨e1,C,e2,e3⟩ | e
 ·refine .inl ⟨e1,trim L (frOf 76 [(2,.ref A.length 0 0),(17,fv),(18,Iz l.length),(19,Iz l.length),(20,bl false)]) C,?_,e3.trim (by omega) _⟩
  rw [cast0] at e2
  refine e2.trans ?_
  rw [itW_step]
  simp only [Iz,bl,a_f36,s_f36_l0_b,s_f36_l1_b,s_f36_l2_b,s_f36_l3_b,aa,bl,i64,reduceIte,reduceCtorEq,Nat.reduceEqDiff,Nat.reduceLT,Nat.reduceLeDiff,Nat.reduceBEq,Nat.reduceAdd,fillA,splice,Nat.reduceMul,amY,op_eqP,Int.lt_irrefl]
 ·rw [cast0] at e
  exact .inr e
theorem twiceVar_fun (hT:CT k_f36=some (.code s_f36)) (base:Nat) {A:Heap} (hb:base≤A.length) {w sm:Nat} {fv:V} {fs:List FunD} (hc:NC A w sm fv fs):
 ∃ H',callW CT (.fn k_f36 [] []) [.ref w 0 0] base A=some (resP (srch tvF fs 0),H')∧Ext A H':=by
 have e1:Ext A (A ++ [Ob.cells 0 [Iz 0,Iz 0,Iz 0]]):=Ext.app _ _
 have x1:=hc.load e1
 have hl:=(hc.rd.ext e1).len
 have g1:getC (A ++ [Ob.cells 0 [Iz 0,Iz 0,Iz 0]]) A.length 0=some [Iz 0,Iz 0,Iz 0]:=getC_new A 0 _
 have hl1:(A ++ [Ob.cells 0 [Iz 0,Iz 0,Iz 0]]).length=A.length+1:=by simp
 rcases tv_l3 (CT:=CT) base e1 hb g1 hc.rd hc.sml.n hc.sml.ps hc.sml.nb hc.sml.nc (L:=A.length+1) (by omega) (by omega) (A ++ [Ob.cells 0 [Iz 0,Iz 0,Iz 0]]) (Ext.refl _) with ⟨q1,C,q2,q3⟩ | ⟨⟨i,b,k⟩,q1,D,q2,q3,q4⟩
 ·have g2:=getC_ext g1 q3
  have g3:=getC_put (c':=[Iz 0,Iz 0,Iz 0]) g2
  refine ⟨C.set A.length (.cells 0 [Iz 0,Iz 0,Iz 0]),callW_fnA (c:=s_f36) (k:=1) hT rfl (by decide) s_f36_first ?_,(e1.trans q3).set (Nat.le_refl _) _⟩
  rw [q1]
  have xR:loadV (C.set A.length (.cells 0 [Iz 0,Iz 0,Iz 0])) true 3 (.ref A.length 0 0)=some (.agg [Iz 0,Iz 0,Iz 0]):=by
   show xLoad _ true 3 _=_
   rw [xo_ref,g3];rfl
  simp only [Iz,bl] at x1 hl hl1 q2 g2 xR
  simp only [Iz,s_f36,a_f36,s_f36_l0_b,s_f36_l1_b,s_f36_l2_b,s_f36_l3_b,aa,bl,i64,reduceIte,reduceCtorEq,Nat.reduceEqDiff,Nat.reduceLT,Nat.reduceLeDiff,Nat.reduceBEq,Nat.reduceAdd,fillA,splice,Nat.reduceMul,amY,op_eqP,x1,hl,hl1,q2,g2,hb]
  rw [xR]
  rfl
 ·refine ⟨D,callW_fnA (c:=s_f36) (k:=1) hT rfl (by decide) s_f36_first ?_,q3⟩
  rw [q1]
  have xR:loadV D true 3 (.ref A.length 0 0)=some (.agg [Iz i,Iz b,Iz k]):=by
   show xLoad _ true 3 _=_
   rw [xo_ref,q4];rfl
  simp only [Iz,bl] at x1 hl hl1 q2 xR
  simp only [Iz,s_f36,a_f36,s_f36_l0_b,s_f36_l1_b,s_f36_l2_b,s_f36_l3_b,aa,bl,i64,reduceIte,reduceCtorEq,Nat.reduceEqDiff,Nat.reduceLT,Nat.reduceLeDiff,Nat.reduceBEq,Nat.reduceAdd,fillA,splice,Nat.reduceMul,amY,op_eqP,x1,hl,hl1,q2]
  rw [xR]
  rfl
end
end Go.Proofs.YtamlbkalopefgaaR
set_option maxRecDepth 100000
namespace Go.Proofs.YtamlbkalopefgaaR
open Go.AM
def nvH (C0:Heap) (M:Ob) (G:Heap):Heap:=C0 ++ [M] ++ [.cells 0 [.mp C0.length]] ++ G
theorem nvH_ext (C0:Heap) (M:Ob) (G:Heap):Ext C0 (nvH C0 M G):=⟨[M] ++ [.cells 0 [.mp C0.length]] ++ G,by simp [nvH]⟩
theorem nvH_len (C0:Heap) (M:Ob):(nvH C0 M []).length=C0.length+2:=by simp [nvH]
theorem nvH_app (C0:Heap) (M:Ob) (G:Heap):nvH C0 M G=nvH C0 M [] ++ G:=by simp [nvH]
theorem nvH_more (C0:Heap) (M:Ob) (G G':Heap):nvH C0 M G ++ G'=nvH C0 M (G ++ G'):=by simp [nvH]
theorem nvH_m (C0:Heap) (M:Ob) (G:Heap):(nvH C0 M G)[C0.length]?=some M:=by simp [nvH]
theorem nvH_c (C0:Heap) (M:Ob) (G:Heap):getC (nvH C0 M G) (C0.length+1) 0=some [.mp C0.length]:=by simp [nvH,getC]
theorem nvH_set (C0:Heap) (M M':Ob) (G:Heap):(nvH C0 M G).set C0.length M'=nvH C0 M' G:=by simp [nvH]
section
variable {CT:Nat→Option CFun}
theorem nv_l0 (base:Nat) {A C0:Heap} (h1:Ext A C0) (hb:base≤A.length) (hA:A.length < C0.length) {L:Nat} (hL:C0.length+2≤L) {i p5:Nat} {v21:V} {n22 n23:Int} {pv:V} {l:List ByteArray} (hv:Rd A pv (l.map Sb)) (hw:Wide1 pv) (hn:l.length < 2 ^ 20) {S:ByteArray→Bool}:
 ∀ C,(∃ M G,C=nvH C0 M G∧SetOf eS S M)→∃ C',itW (evC (callW CT) itW base s_f37_l0) [] L (frOf 93 [(2,.ref A.length 0 0),(4,Iz i),(5,.ref p5 0 0),(6,.ref (C0.length+1) 0 0),(21,v21),(22,Iz n22),(23,Iz n23),(31,pv),(32,Iz l.length),(33,Iz 0)]) C=some (.ext 2,frOf 93 [(2,.ref A.length 0 0),(4,Iz i),(5,.ref p5 0 0),(6,.ref (C0.length+1) 0 0),(21,v21),(22,Iz n22),(23,Iz n23),(31,pv),(32,Iz l.length),(33,Iz l.length),(34,bl false)],C')∧∃ M G,C'=nvH C0 M G∧SetOf eS (fun s=>S s || seenS (l) s) M:=by
 intro C0' hC0
 obtain ⟨C,e2,M,G,e3,e4⟩:=it_rel l.length (fun k C=>∃ M G,C=nvH C0 M G∧SetOf eS (fun s=>S s || seenS (l.take k) s) M) (fun k C=>itW (evC (callW CT) itW base s_f37_l0) [] L (frOf 93 [(2,.ref A.length 0 0),(4,Iz i),(5,.ref p5 0 0),(6,.ref (C0.length+1) 0 0),(21,v21),(22,Iz n22),(23,Iz n23),(31,pv),(32,Iz l.length),(33,Iz k)]) C) (by
  intro k C hk ⟨M,G,hC,hS⟩
  have hlt':((k:Int) < (l.length:Int)):=by omega
  have hwk:=w64 (n:=k) (by omega)
  have hkx:=some_getD hk ⟨#[]⟩
  obtain ⟨x,hxe⟩:∃ x,l.getD k ⟨#[]⟩=x:=⟨_,rfl⟩
  have hk':=hk
  have hxe':=hxe
  rw [hxe] at hkx
  have hmem:=List.mem_of_getElem? hkx
  have hE0:Ext C0 C:=hC ▸ nvH_ext C0 M G
  have hEA:=h1.trans hE0
  have hle:=hE0.le
  have hbC:base≤C.length:=by omega
  have hgg:∀ c,getC (C ++ [Ob.cells 0 c]) C.length 0=some c:=fun c=>getC_new C 0 c
  have hss:∀ c d,(C ++ [c]).set C.length d=C ++ [d]:=fun c d=>set_snoc C c d
  have eC:∀ c,Ext C (C ++ [Ob.cells 0 c]):=fun c=>Ext.app _ _
  obtain ⟨a,a1,a2⟩:=Sb_at (hv.ext hEA) hw hk'
  rw [hxe'] at a2
  have hx:=getC_load (nvH_c C0 M G)
  rw [← hC] at hx
  obtain ⟨M',u1,u2⟩:=setOf_put same_str key_str hS x (H:=C) (base:=base) (j:=C0.length) (by omega) (by rw [hC];exact nvH_m C0 M G)
  rw [show C.set C0.length M'=nvH C0 M' G by rw [hC];exact nvH_set C0 M M' G] at u1
  obtain ⟨G2,hG2⟩:=trim_app2 (C:=nvH C0 M' []) (m:=L) (by rw [nvH_len];exact hL) (frOf 93 [(2,.ref A.length 0 0),(4,Iz i),(5,.ref p5 0 0),(6,.ref (C0.length+1) 0 0),(21,v21),(22,Iz n22),(23,Iz n23),(31,pv),(32,Iz l.length),(33,Iz (k+1:Nat))]) G
  rw [← nvH_app,← nvH_app] at hG2
  refine ⟨nvH C0 M' G2,?_,M',G2,rfl,u2.congr fun s=>?_⟩
  ·rw [itW_step]
   simp only [Iz] at hG2
   simp only [Iz,bl,a_f37,s_f37_l0_b,s_f37_l1_b,s_f37_l2_b,s_f37_l3_b,s_f37_l4_b,s_f37_l5_b,aa,bl,i64,reduceIte,reduceCtorEq,Nat.reduceEqDiff,Nat.reduceLT,Nat.reduceLeDiff,Nat.reduceBEq,Nat.reduceAdd,fillA,splice,Nat.reduceMul,amY,op_eqP,op_mapUpd,hlt',a1,a2,hx,u1,hwk,hG2]
  ·unfold seenS
   rw [List.take_add_one,hkx,List.any_append]
   simp [eq_comm,Bool.or_assoc]) 0 C0' (Nat.zero_le _) (by simpa [seenS,seenD,seenB] using hC0)
 obtain ⟨G2,hG2⟩:=trim_app2 (C:=nvH C0 M []) (m:=L) (by rw [nvH_len];exact hL) (frOf 93 [(2,.ref A.length 0 0),(4,Iz i),(5,.ref p5 0 0),(6,.ref (C0.length+1) 0 0),(21,v21),(22,Iz n22),(23,Iz n23),(31,pv),(32,Iz l.length),(33,Iz l.length),(34,bl false)]) G
 rw [← nvH_app,← nvH_app] at hG2
 refine ⟨nvH C0 M G2,?_,M,G2,rfl,by rw [List.take_length] at e4;exact e4⟩
 rw [cast0] at e2
 refine e2.trans ?_
 subst e3
 rw [itW_step]
 simp only [Iz,bl] at hG2
 simp only [Iz,bl,a_f37,s_f37_l0_b,s_f37_l1_b,s_f37_l2_b,s_f37_l3_b,s_f37_l4_b,s_f37_l5_b,aa,bl,i64,reduceIte,reduceCtorEq,Nat.reduceEqDiff,Nat.reduceLT,Nat.reduceLeDiff,Nat.reduceBEq,Nat.reduceAdd,fillA,splice,Nat.reduceMul,amY,op_eqP,Int.lt_irrefl,hG2]
theorem nv_l1 (base:Nat) {A C0:Heap} (h1:Ext A C0) (hb:base≤A.length) (hA:A.length < C0.length) {L:Nat} (hL:C0.length+2≤L) {i p5:Nat} {v21:V} {n22 n23:Int} {v41 cv:V} {n42 n43:Int} {l:List InsD} (hv:RdL 8 RdIns A cv l) (hn:l.length < 2 ^ 20) {S:ByteArray→Bool}:
 ∀ C,(∃ M G,C=nvH C0 M G∧SetOf eS S M)→∃ C',itW (evC (callW CT) itW base s_f37_l1) [] L (frOf 93 [(2,.ref A.length 0 0),(4,Iz i),(5,.ref p5 0 0),(6,.ref (C0.length+1) 0 0),(21,v21),(22,Iz n22),(23,Iz n23),(41,v41),(42,Iz n42),(43,Iz n43),(48,cv),(49,Iz l.length),(50,Iz 0)]) C=some (.ext 6,frOf 93 [(2,.ref A.length 0 0),(4,Iz i),(5,.ref p5 0 0),(6,.ref (C0.length+1) 0 0),(21,v21),(22,Iz n22),(23,Iz n23),(41,v41),(42,Iz n42),(43,Iz n43),(48,cv),(49,Iz l.length),(50,Iz l.length),(51,bl false)],C')∧∃ M G,C'=nvH C0 M G∧SetOf eS (fun s=>S s || seenD (l) s) M:=by
 intro C0' hC0
 obtain ⟨C,e2,M,G,e3,e4⟩:=it_rel l.length (fun k C=>∃ M G,C=nvH C0 M G∧SetOf eS (fun s=>S s || seenD (l.take k) s) M) (fun k C=>itW (evC (callW CT) itW base s_f37_l1) [] L (frOf 93 [(2,.ref A.length 0 0),(4,Iz i),(5,.ref p5 0 0),(6,.ref (C0.length+1) 0 0),(21,v21),(22,Iz n22),(23,Iz n23),(41,v41),(42,Iz n42),(43,Iz n43),(48,cv),(49,Iz l.length),(50,Iz k)]) C) (by
  intro k C hk ⟨M,G,hC,hS⟩
  have hlt':((k:Int) < (l.length:Int)):=by omega
  have hwk:=w64 (n:=k) (by omega)
  have hkx:=some_getD hk ins0
  obtain ⟨x,hxe⟩:∃ x,l.getD k ins0=x:=⟨_,rfl⟩
  have hk':=hk
  have hxe':=hxe
  rw [hxe] at hkx
  have hmem:=List.mem_of_getElem? hkx
  have hE0:Ext C0 C:=hC ▸ nvH_ext C0 M G
  have hEA:=h1.trans hE0
  have hle:=hE0.le
  have hbC:base≤C.length:=by omega
  have hgg:∀ c,getC (C ++ [Ob.cells 0 c]) C.length 0=some c:=fun c=>getC_new C 0 c
  have hss:∀ c d,(C ++ [c]).set C.length d=C ++ [d]:=fun c d=>set_snoc C c d
  have eC:∀ c,Ext C (C ++ [Ob.cells 0 c]):=fun c=>Ext.app _ _
  obtain ⟨a,r,a1,hr,a2,_⟩:=hv.at2 hkx
  have ld:=a2 C hEA
  obtain ⟨av,lv,rfl,q1,q2,q3,q4,_⟩:=hr
  have hav:=q1.one
  have hlv:=q3.one
  obtain ⟨D,hD⟩:∃ D,C ++ [Ob.cells 0 (insC x av lv)]=D:=⟨_,rfl⟩
  have hDn:D=nvH C0 M (G ++ [Ob.cells 0 (insC x av lv)]):=by rw [← hD,hC,nvH_more]
  have hx:xLoad D false 1 (.ref (C0.length+1) 0 0)=some (.mp C0.length):=getC_load (hDn ▸ nvH_c C0 M _)
  have hgD:getC D C.length 0=some (insC x av lv):=by rw [← hD];exact getC_new C 0 _
  have hsD:∀ c,(C ++ [c]).set C.length (Ob.cells 0 (insC x av lv))=D:=fun c=>by rw [← hD];exact set_snoc C c _
  obtain ⟨M',u1,u2⟩:=setOf_put same_str key_str hS x.d (H:=D) (base:=base) (j:=C0.length) (by omega) (by rw [hDn];exact nvH_m C0 M _)
  rw [show D.set C0.length M'=nvH C0 M' (G ++ [Ob.cells 0 (insC x av lv)]) by rw [hDn];exact nvH_set C0 M M' _] at u1
  obtain ⟨G2,hG2⟩:=trim_app2 (C:=nvH C0 M' []) (m:=L) (by rw [nvH_len];exact hL) (frOf 93 [(2,.ref A.length 0 0),(4,Iz i),(5,.ref p5 0 0),(6,.ref (C0.length+1) 0 0),(21,v21),(22,Iz n22),(23,Iz n23),(41,v41),(42,Iz n42),(43,Iz n43),(48,cv),(49,Iz l.length),(50,Iz (k+1:Nat))]) (G ++ [Ob.cells 0 (insC x av lv)])
  rw [← nvH_app,← nvH_app] at hG2
  refine ⟨nvH C0 M' G2,?_,M',G2,rfl,u2.congr fun s=>?_⟩
  ·rw [itW_step]
   simp only [Iz,insC] at hG2 hgD hsD u1 ld
   simp only [insC,Iz,bl,a_f37,s_f37_l0_b,s_f37_l1_b,s_f37_l2_b,s_f37_l3_b,s_f37_l4_b,s_f37_l5_b,aa,bl,i64,reduceIte,reduceCtorEq,Nat.reduceEqDiff,Nat.reduceLT,Nat.reduceLeDiff,Nat.reduceBEq,Nat.reduceAdd,fillA,splice,Nat.reduceMul,amY,op_eqP,op_mapUpd,hlt',a1,ld,hbC,hgg,hsD,hav,hlv,Bool.and_self,hgD,hx,u1,hwk,hG2]
  ·unfold seenD
   rw [List.take_add_one,hkx,List.any_append]
   simp [eq_comm,Bool.or_assoc]) 0 C0' (Nat.zero_le _) (by simpa [seenS,seenD,seenB] using hC0)
 obtain ⟨G2,hG2⟩:=trim_app2 (C:=nvH C0 M []) (m:=L) (by rw [nvH_len];exact hL) (frOf 93 [(2,.ref A.length 0 0),(4,Iz i),(5,.ref p5 0 0),(6,.ref (C0.length+1) 0 0),(21,v21),(22,Iz n22),(23,Iz n23),(41,v41),(42,Iz n42),(43,Iz n43),(48,cv),(49,Iz l.length),(50,Iz l.length),(51,bl false)]) G
 rw [← nvH_app,← nvH_app] at hG2
 refine ⟨nvH C0 M G2,?_,M,G2,rfl,by rw [List.take_length] at e4;exact e4⟩
 rw [cast0] at e2
 refine e2.trans ?_
 subst e3
 rw [itW_step]
 simp only [Iz,bl] at hG2
 simp only [Iz,bl,a_f37,s_f37_l0_b,s_f37_l1_b,s_f37_l2_b,s_f37_l3_b,s_f37_l4_b,s_f37_l5_b,aa,bl,i64,reduceIte,reduceCtorEq,Nat.reduceEqDiff,Nat.reduceLT,Nat.reduceLeDiff,Nat.reduceBEq,Nat.reduceAdd,fillA,splice,Nat.reduceMul,amY,op_eqP,Int.lt_irrefl,hG2]
theorem nv_l2 (base:Nat) {A C0:Heap} (h1:Ext A C0) (hb:base≤A.length) (hA:A.length < C0.length) {L:Nat} (hL:C0.length+2≤L) {i p5:Nat} {v21:V} {n22 n23:Int} {bv:V} {l:List BlkD} (hv:RdL 2 RdBlk A bv l) (hnc:∀ b∈l,b.code.length < 2 ^ 20) (hn:l.length < 2 ^ 20) {S:ByteArray→Bool}:
 ∀ C,(∃ M G,C=nvH C0 M G∧SetOf eS S M)→∃ C',itW (evC (callW CT) itW base s_f37_l2) [] L (frOf 93 [(2,.ref A.length 0 0),(4,Iz i),(5,.ref p5 0 0),(6,.ref (C0.length+1) 0 0),(21,v21),(22,Iz n22),(23,Iz n23),(41,bv),(42,Iz l.length),(43,Iz 0)]) C=some (.ext 4,frOf 93 [(2,.ref A.length 0 0),(4,Iz i),(5,.ref p5 0 0),(6,.ref (C0.length+1) 0 0),(21,v21),(22,Iz n22),(23,Iz n23),(41,bv),(42,Iz l.length),(43,Iz l.length),(44,bl false)],C')∧∃ M G,C'=nvH C0 M G∧SetOf eS (fun s=>S s || seenB (l) s) M:=by
 intro C0' hC0
 obtain ⟨C,e2,M,G,e3,e4⟩:=it_rel l.length (fun k C=>∃ M G,C=nvH C0 M G∧SetOf eS (fun s=>S s || seenB (l.take k) s) M) (fun k C=>itW (evC (callW CT) itW base s_f37_l2) [] L (frOf 93 [(2,.ref A.length 0 0),(4,Iz i),(5,.ref p5 0 0),(6,.ref (C0.length+1) 0 0),(21,v21),(22,Iz n22),(23,Iz n23),(41,bv),(42,Iz l.length),(43,Iz k)]) C) (by
  intro k C hk ⟨M,G,hC,hS⟩
  have hlt':((k:Int) < (l.length:Int)):=by omega
  have hwk:=w64 (n:=k) (by omega)
  have hkx:=some_getD hk blk0
  obtain ⟨x,hxe⟩:∃ x,l.getD k blk0=x:=⟨_,rfl⟩
  have hk':=hk
  have hxe':=hxe
  rw [hxe] at hkx
  have hmem:=List.mem_of_getElem? hkx
  have hE0:Ext C0 C:=hC ▸ nvH_ext C0 M G
  have hEA:=h1.trans hE0
  have hle:=hE0.le
  have hbC:base≤C.length:=by omega
  have hgg:∀ c,getC (C ++ [Ob.cells 0 c]) C.length 0=some c:=fun c=>getC_new C 0 c
  have hss:∀ c d,(C ++ [c]).set C.length d=C ++ [d]:=fun c d=>set_snoc C c d
  have eC:∀ c,Ext C (C ++ [Ob.cells 0 c]):=fun c=>Ext.app _ _
  obtain ⟨a,r,a1,hr,a2,_⟩:=hv.at2 hkx
  have ld:=a2 C hEA
  obtain ⟨cv,rfl,hcv⟩:=hr
  have hcl:=(rdI_ext hcv (hEA.trans (eC [Sb x.label,cv]))).len
  have hco:=hcv.one
  have hl2:(C ++ [Ob.cells 0 [Sb x.label,cv]]).length=C.length+1:=by simp
  have hCl:C0.length+2≤C.length:=by rw [hC,nvH_app,List.length_append,nvH_len];omega
  obtain ⟨C2,z2,M2,G2,z3,z4⟩:=nv_l1 (CT:=CT) (v21:=v21) (v41:=bv) (i:=i) (p5:=p5) (n22:=n22) (n23:=n23) (n42:=l.length) (n43:=k) base h1 hb hA (L:=C.length+1) (by omega) hcv (hnc x hmem) (S:=fun s=>S s || seenB (l.take k) s) (C ++ [Ob.cells 0 [Sb x.label,cv]]) ⟨M,G ++ [Ob.cells 0 [Sb x.label,cv]],by rw [hC,nvH_more],hS⟩
  subst z3
  obtain ⟨G3,hG3⟩:=trim_app2 (C:=nvH C0 M2 []) (m:=L) (by rw [nvH_len];exact hL) (frOf 93 [(2,.ref A.length 0 0),(4,Iz i),(5,.ref p5 0 0),(6,.ref (C0.length+1) 0 0),(21,v21),(22,Iz n22),(23,Iz n23),(41,bv),(42,Iz l.length),(43,Iz (k+1:Nat))]) G2
  rw [← nvH_app,← nvH_app] at hG3
  refine ⟨nvH C0 M2 G3,?_,M2,G3,rfl,z4.congr fun s=>?_⟩
  ·rw [itW_step]
   simp only [Iz,bl] at z2 hG3
   simp only [Iz,bl,a_f37,s_f37_l0_b,s_f37_l1_b,s_f37_l2_b,s_f37_l3_b,s_f37_l4_b,s_f37_l5_b,aa,bl,i64,reduceIte,reduceCtorEq,Nat.reduceEqDiff,Nat.reduceLT,Nat.reduceLeDiff,Nat.reduceBEq,Nat.reduceAdd,fillA,splice,Nat.reduceMul,amY,op_eqP,hlt',a1,ld,hbC,hgg,hss,hco,Bool.and_self,hcl,hl2,z2,hwk,hG3]
  ·unfold seenB
   rw [List.take_add_one,hkx,List.any_append]
   simp [Bool.or_assoc]) 0 C0' (Nat.zero_le _) (by simpa [seenS,seenD,seenB] using hC0)
 obtain ⟨G2,hG2⟩:=trim_app2 (C:=nvH C0 M []) (m:=L) (by rw [nvH_len];exact hL) (frOf 93 [(2,.ref A.length 0 0),(4,Iz i),(5,.ref p5 0 0),(6,.ref (C0.length+1) 0 0),(21,v21),(22,Iz n22),(23,Iz n23),(41,bv),(42,Iz l.length),(43,Iz l.length),(44,bl false)]) G
 rw [← nvH_app,← nvH_app] at hG2
 refine ⟨nvH C0 M G2,?_,M,G2,rfl,by rw [List.take_length] at e4;exact e4⟩
 rw [cast0] at e2
 refine e2.trans ?_
 subst e3
 rw [itW_step]
 simp only [Iz,bl] at hG2
 simp only [Iz,bl,a_f37,s_f37_l0_b,s_f37_l1_b,s_f37_l2_b,s_f37_l3_b,s_f37_l4_b,s_f37_l5_b,aa,bl,i64,reduceIte,reduceCtorEq,Nat.reduceEqDiff,Nat.reduceLT,Nat.reduceLeDiff,Nat.reduceBEq,Nat.reduceAdd,fillA,splice,Nat.reduceMul,amY,op_eqP,Int.lt_irrefl,hG2]
end
end Go.Proofs.YtamlbkalopefgaaR
set_option maxRecDepth 100000
namespace Go.Proofs.YtamlbkalopefgaaR
open Go.AM
def nvI (S:ByteArray→Bool) (i b:Nat) (k:Nat) (x:InsD):Option Pt:=if (x.a :: x.b :: x.xs).any (fun s=>!S s)=true then some (i,b,k) else none
def nvB (S:ByteArray→Bool) (i:Nat) (b:Nat) (bl:BlkD):Option Pt:=srch (nvI S i b) bl.code 0
section
variable {CT:Nat→Option CFun}
theorem noVar1_fun (hT:CT k_f61=some (.code s_f61)) (base:Nat) {D:Heap} {c q:Nat} {M:Ob} {S:ByteArray→Bool} (hg:getC D c 0=some [.mp q]) (hM:D[q]?=some M) (hS:SetOf eS S M) (s:ByteArray):callW CT (.fn k_f61 [] [.ref c 0 0]) [Sb s] base D=some (.s (.bool (!S s)),D):=by
 have hx:=getC_load hg
 have hgt:=setOf_get same_str key_str hS s hM
 refine callW_fn (c:=s_f61) hT (by simp [s_f61]) ?_
 simp only [s_f61,a_f61,aa,bl,i64,reduceIte,reduceCtorEq,Nat.reduceEqDiff,Nat.reduceLT,Nat.reduceLeDiff,Nat.reduceBEq,Nat.reduceAdd,fillA,splice,Nat.reduceMul,amY,op_eqP,hx,hgt]
theorem nv_l3 (hT1:CT k_f61=some (.code s_f61)) (hC:CT k_f39=some (.code s_f39)) (hX:CT k_f62=some (.code s_f62)) (base:Nat) {A A1:Heap} (h1:Ext A A1) (hb:base≤A.length) (hg:getC A1 A.length 0=some [Iz 0,Iz 0,Iz 0]) {v21 v60 cv:V} {i b:Nat} {n22 n23 n61 n62:Int} {l:List InsD} (hv:RdL 8 RdIns A cv l) (hn:l.length < 2 ^ 20) (hx:∀ x∈l,x.xs.length < 2 ^ 20) {q c:Nat} {M:Ob} {S:ByteArray→Bool} (hc6:getC A1 c 0=some [.mp q]) (hM:A1[q]?=some M) (hS:SetOf eS S M) {L:Nat} (hL:A1.length≤L) (hA1:A.length < A1.length):
 ∀ C,Ext A1 C→(srch (nvI S i b) l 0=none∧∃ C',itW (evC (callW CT) itW base s_f37_l3) [] L (frOf 93 [(2,.ref A.length 0 0),(4,Iz i),(6,.ref c 0 0),(13,Iz b),(21,v21),(22,Iz n22),(23,Iz n23),(60,v60),(61,Iz n61),(62,Iz n62),(68,cv),(69,Iz l.length),(70,Iz 0)]) C=some (.ext 10,frOf 93 [(2,.ref A.length 0 0),(4,Iz i),(6,.ref c 0 0),(13,Iz b),(21,v21),(22,Iz n22),(23,Iz n23),(60,v60),(61,Iz n61),(62,Iz n62),(68,cv),(69,Iz l.length),(70,Iz l.length),(71,bl false)],C')∧Ext A1 C')∨∃ t,srch (nvI S i b) l 0=some t∧Found A 93 A.length t (itW (evC (callW CT) itW base s_f37_l3) [] L (frOf 93 [(2,.ref A.length 0 0),(4,Iz i),(6,.ref c 0 0),(13,Iz b),(21,v21),(22,Iz n22),(23,Iz n23),(60,v60),(61,Iz n61),(62,Iz n62),(68,cv),(69,Iz l.length),(70,Iz 0)]) C):=by
 intro C0 hC0
 rcases it_srch l ins0 (nvI S i b) (fun _ C=>Ext A1 C) (fun k C=>itW (evC (callW CT) itW base s_f37_l3) [] L (frOf 93 [(2,.ref A.length 0 0),(4,Iz i),(6,.ref c 0 0),(13,Iz b),(21,v21),(22,Iz n22),(23,Iz n23),(60,v60),(61,Iz n61),(62,Iz n62),(68,cv),(69,Iz l.length),(70,Iz k)]) C) (Found A 93 A.length) (by
  intro k C hk hE
  have hlt':((k:Int) < (l.length:Int)):=by omega
  have hwk:=w64 (n:=k) (by omega)
  have hle:=hE.le
  have hkx:=some_getD hk ins0
  obtain ⟨x,hxe⟩:∃ x,l.getD k ins0=x:=⟨_,rfl⟩
  rw [hxe] at hkx ⊢
  have hmem:=List.mem_of_getElem? hkx
  obtain ⟨a,r,a1,hr,a2,_⟩:=hv.at2 hkx
  have hEA:=h1.trans hE
  have ld:=a2 C hEA
  have hbC:base≤C.length:=by omega
  have hgg:∀ c,getC (C ++ [Ob.cells 0 c]) C.length 0=some c:=fun c=>getC_new C 0 c
  have hss:∀ c d,(C ++ [c]).set C.length d=C ++ [d]:=fun c d=>set_snoc C c d
  have eC:∀ c,Ext C (C ++ [Ob.cells 0 c]):=fun c=>Ext.app _ _
  have g2:∀ D,Ext A1 D→getC D A.length 0=some [Iz 0,Iz 0,Iz 0]:=fun D h=>getC_ext hg h
  obtain ⟨av,lv,rfl,q1,q2,q3,q4,_⟩:=hr
  have hxl:=hx x hmem
  have hav:=q1.one
  have hlv:=q3.one
  obtain ⟨D,hD⟩:∃ D,C ++ [Ob.cells 0 (insC x av lv)]=D:=⟨_,rfl⟩
  have hED:Ext C D:=hD ▸ Ext.app _ _
  have hgD:getC D C.length 0=some (insC x av lv):=by rw [← hD];exact getC_new C 0 _
  have hsD:∀ c,(C ++ [c]).set C.length (Ob.cells 0 (insC x av lv))=D:=fun c=>by rw [← hD];exact set_snoc C c _
  have hDl:D.length=C.length+1:=by rw [← hD,len_snoc]
  have hbD:base≤D.length:=by omega
  have hq1:=q1.ext ((hEA.trans hED).trans (Ext.app D [Ob.cells 0 [Sb x.a,Sb x.b]]))
  obtain ⟨g',happ⟩:=append_full (H:=D ++ [Ob.cells 0 [Sb x.a,Sb x.b]]) (base:=base) (bytes:=16) (id:=D.length) (g:=0) (l:=[Sb x.a,Sb x.b]) (getC_new D 0 _) hbD hq1 (List.all_eq_true.2 fun v hv=>by obtain ⟨s,_,rfl⟩:=List.mem_map.1 hv;rfl) (by simp only [List.length_cons,List.length_nil,List.length_map];omega)
  have hset:∀ d,(D ++ [Ob.cells 0 [Sb x.a,Sb x.b]]).set D.length d=D ++ [d]:=fun d=>set_snoc D _ d
  rw [hset] at happ
  obtain ⟨E0,hE0⟩:∃ E0,D ++ [Ob.cells g' ([Sb x.a,Sb x.b] ++ x.xs.map Sb)]=E0:=⟨_,rfl⟩
  rw [hE0] at happ
  have hDE:Ext D E0:=hE0 ▸ Ext.app _ _
  have hg0:getC E0 D.length g'=some ([Sb x.a,Sb x.b] ++ x.xs.map Sb):=hE0 ▸ getC_new D g' _
  have hrd:Rd E0 (.sl D.length g' 0 ([Sb x.a,Sb x.b].length+(x.xs.map Sb).length) 1) ((x.a :: x.b :: x.xs).map Sb):=by
   have:=Rd.sl hg0 (off:=0) (n:=[Sb x.a,Sb x.b].length+(x.xs.map Sb).length) (by simp;omega)
   rw [List.drop_zero,List.take_of_length_le (by simp;omega)] at this
   exact this
  have eCE:=hED.trans hDE
  obtain ⟨E1,t1,t2⟩:=conS_fun hC hX base E0 (f:=.fn k_f61 [] [.ref c 0 0]) (p:=fun s=>!S s) hrd trivial (fun s _ E hE'=>⟨E,noVar1_fun hT1 base (getC_ext hc6 ((hE.trans eCE).trans hE')) (Ext.at' ((hE.trans eCE).trans hE') hM) hS s,Ext.refl _⟩) (by simp only [List.length_cons];omega)
  have hg2:=getC_ext hg ((hE.trans eCE).trans t2)
  rw [hDl] at happ t1
  unfold nvI
  simp only [Iz,insC,Sb,List.length_cons,List.length_nil,Nat.zero_add,Nat.reduceAdd,List.length_map] at hgD hsD hg2 happ t1 ld
  cases hs:(x.a :: x.b :: x.xs).any (fun s=>!S s) with
  | true=>
    rw [hs] at t1
    refine .inr ⟨(i,b,k),if_pos rfl,trim L (frOf 93 [(2,.ref A.length 0 0),(3,bl true)]) (E1.set A.length (.cells 0 [Iz i,Iz b,Iz k])),?_,(((hEA.trans eCE).trans t2).set (Nat.le_refl _) _).trim (by omega) _,trim_get (getC_put (getC_ext hg ((hE.trans eCE).trans t2))) (by omega)⟩
    rw [itW_step]
    simp only [insC,Iz,bl,a_f37,s_f37_l0_b,s_f37_l1_b,s_f37_l2_b,s_f37_l3_b,s_f37_l4_b,s_f37_l5_b,aa,bl,i64,reduceIte,reduceCtorEq,Nat.reduceEqDiff,Nat.reduceLT,Nat.reduceLeDiff,Nat.reduceBEq,Nat.reduceAdd,fillA,splice,Nat.reduceMul,amY,op_eqP,hlt',a1,ld,hbC,hgg,hsD,hav,hlv,Bool.and_self,hgD,hDl,happ,xsub_mkFn,t1,hg2,hb]
  | false=>
    rw [hs] at t1
    refine .inl ⟨if_neg Bool.false_ne_true,trim L (frOf 93 [(2,.ref A.length 0 0),(4,Iz i),(6,.ref c 0 0),(13,Iz b),(21,v21),(22,Iz n22),(23,Iz n23),(60,v60),(61,Iz n61),(62,Iz n62),(68,cv),(69,Iz l.length),(70,Iz (k+1:Nat))]) E1,?_,((hE.trans eCE).trans t2).trim (by omega) _⟩
    rw [itW_step]
    simp only [insC,Iz,bl,a_f37,s_f37_l0_b,s_f37_l1_b,s_f37_l2_b,s_f37_l3_b,s_f37_l4_b,s_f37_l5_b,aa,bl,i64,reduceIte,reduceCtorEq,Nat.reduceEqDiff,Nat.reduceLT,Nat.reduceLeDiff,Nat.reduceBEq,Nat.reduceAdd,fillA,splice,Nat.reduceMul,amY,op_eqP,hlt',a1,ld,hbC,hgg,hsD,hav,hlv,Bool.and_self,hgD,hDl,happ,xsub_mkFn,t1,hwk]) C0 hC0 with ⟨e1,C,e2,e3⟩ | e
 ·refine .inl ⟨e1,trim L (frOf 93 [(2,.ref A.length 0 0),(4,Iz i),(6,.ref c 0 0),(13,Iz b),(21,v21),(22,Iz n22),(23,Iz n23),(60,v60),(61,Iz n61),(62,Iz n62),(68,cv),(69,Iz l.length),(70,Iz l.length),(71,bl false)]) C,?_,e3.trim (by omega) _⟩
  rw [cast0] at e2
  refine e2.trans ?_
  rw [itW_step]
  simp only [Iz,bl,a_f37,s_f37_l0_b,s_f37_l1_b,s_f37_l2_b,s_f37_l3_b,s_f37_l4_b,s_f37_l5_b,aa,bl,i64,reduceIte,reduceCtorEq,Nat.reduceEqDiff,Nat.reduceLT,Nat.reduceLeDiff,Nat.reduceBEq,Nat.reduceAdd,fillA,splice,Nat.reduceMul,amY,op_eqP,Int.lt_irrefl]
 ·rw [cast0] at e
  exact .inr e
theorem nv_l4 (hT1:CT k_f61=some (.code s_f61)) (hC:CT k_f39=some (.code s_f39)) (hX:CT k_f62=some (.code s_f62)) (base:Nat) {A A1:Heap} (h1:Ext A A1) (hb:base≤A.length) (hg:getC A1 A.length 0=some [Iz 0,Iz 0,Iz 0]) {v21 bv:V} {i:Nat} {n22 n23:Int} {l:List BlkD} (hv:RdL 2 RdBlk A bv l) (hn:l.length < 2 ^ 20) (hnc:∀ b∈l,b.code.length < 2 ^ 20) (hx:∀ b∈l,∀ x∈b.code,x.xs.length < 2 ^ 20) {q c:Nat} {M:Ob} {S:ByteArray→Bool} (hc6:getC A1 c 0=some [.mp q]) (hM:A1[q]?=some M) (hS:SetOf eS S M) {L:Nat} (hL:A1.length≤L) (hA1:A.length < A1.length):
 ∀ C,Ext A1 C→(srch (nvB S i) l 0=none∧∃ C',itW (evC (callW CT) itW base s_f37_l4) [] L (frOf 93 [(2,.ref A.length 0 0),(4,Iz i),(6,.ref c 0 0),(21,v21),(22,Iz n22),(23,Iz n23),(60,bv),(61,Iz l.length),(62,Iz 0)]) C=some (.ext 8,frOf 93 [(2,.ref A.length 0 0),(4,Iz i),(6,.ref c 0 0),(21,v21),(22,Iz n22),(23,Iz n23),(60,bv),(61,Iz l.length),(62,Iz l.length),(63,bl false)],C')∧Ext A1 C')∨∃ t,srch (nvB S i) l 0=some t∧Found A 93 A.length t (itW (evC (callW CT) itW base s_f37_l4) [] L (frOf 93 [(2,.ref A.length 0 0),(4,Iz i),(6,.ref c 0 0),(21,v21),(22,Iz n22),(23,Iz n23),(60,bv),(61,Iz l.length),(62,Iz 0)]) C):=by
 intro C0 hC0
 rcases it_srch l blk0 (nvB S i) (fun _ C=>Ext A1 C) (fun k C=>itW (evC (callW CT) itW base s_f37_l4) [] L (frOf 93 [(2,.ref A.length 0 0),(4,Iz i),(6,.ref c 0 0),(21,v21),(22,Iz n22),(23,Iz n23),(60,bv),(61,Iz l.length),(62,Iz k)]) C) (Found A 93 A.length) (by
  intro k C hk hE
  have hlt':((k:Int) < (l.length:Int)):=by omega
  have hwk:=w64 (n:=k) (by omega)
  have hle:=hE.le
  have hkx:=some_getD hk blk0
  obtain ⟨x,hxe⟩:∃ x,l.getD k blk0=x:=⟨_,rfl⟩
  rw [hxe] at hkx ⊢
  have hmem:=List.mem_of_getElem? hkx
  obtain ⟨a,r,a1,hr,a2,_⟩:=hv.at2 hkx
  have hEA:=h1.trans hE
  have ld:=a2 C hEA
  have hbC:base≤C.length:=by omega
  have hgg:∀ c,getC (C ++ [Ob.cells 0 c]) C.length 0=some c:=fun c=>getC_new C 0 c
  have hss:∀ c d,(C ++ [c]).set C.length d=C ++ [d]:=fun c d=>set_snoc C c d
  have eC:∀ c,Ext C (C ++ [Ob.cells 0 c]):=fun c=>Ext.app _ _
  have g2:∀ D,Ext A1 D→getC D A.length 0=some [Iz 0,Iz 0,Iz 0]:=fun D h=>getC_ext hg h
  obtain ⟨cv,rfl,hcv⟩:=hr
  have hcl:=(rdI_ext hcv (hEA.trans (eC [Sb x.label,cv]))).len
  have hco:=hcv.one
  have hin:=nv_l3 (CT:=CT) (v21:=v21) (v60:=bv) (i:=i) (b:=k) (n22:=n22) (n23:=n23) (n61:=l.length) (n62:=k) hT1 hC hX base h1 hb hg hcv (hnc x hmem) (hx x hmem) hc6 hM hS (L:=(C ++ [Ob.cells 0 [Sb x.label,cv]]).length) (by rw [len_snoc];omega) hA1 (C ++ [Ob.cells 0 [Sb x.label,cv]]) (hE.trans (eC _))
  have hl2:(C ++ [Ob.cells 0 [Sb x.label,cv]]).length=C.length+1:=by simp
  rw [hl2] at hin
  unfold nvB
  rcases hin with ⟨z1,C2,z2,z3⟩ | ⟨t,z1,D,z2,z3,z4⟩
  ·refine .inl ⟨z1,trim L (frOf 93 [(2,.ref A.length 0 0),(4,Iz i),(6,.ref c 0 0),(21,v21),(22,Iz n22),(23,Iz n23),(60,bv),(61,Iz l.length),(62,Iz (k+1:Nat))]) C2,?_,z3.trim (by omega) _⟩
   rw [itW_step]
   simp only [Iz,bl] at z2
   simp only [Iz,bl,a_f37,s_f37_l0_b,s_f37_l1_b,s_f37_l2_b,s_f37_l3_b,s_f37_l4_b,s_f37_l5_b,aa,bl,i64,reduceIte,reduceCtorEq,Nat.reduceEqDiff,Nat.reduceLT,Nat.reduceLeDiff,Nat.reduceBEq,Nat.reduceAdd,fillA,splice,Nat.reduceMul,amY,op_eqP,hlt',a1,ld,hbC,hgg,hss,hco,Bool.and_self,hcl,hl2,z2,hwk]
  ·refine .inr ⟨t,z1,trim L (frOf 93 [(2,.ref A.length 0 0),(3,bl true)]) D,?_,z3.trim (by omega) _,trim_get z4 (by omega)⟩
   rw [itW_step]
   simp only [Iz,bl] at z2
   simp only [Iz,bl,a_f37,s_f37_l0_b,s_f37_l1_b,s_f37_l2_b,s_f37_l3_b,s_f37_l4_b,s_f37_l5_b,aa,bl,i64,reduceIte,reduceCtorEq,Nat.reduceEqDiff,Nat.reduceLT,Nat.reduceLeDiff,Nat.reduceBEq,Nat.reduceAdd,fillA,splice,Nat.reduceMul,amY,op_eqP,hlt',a1,ld,hbC,hgg,hss,hco,Bool.and_self,hcl,hl2,z2]) C0 hC0 with ⟨e1,C,e2,e3⟩ | e
 ·refine .inl ⟨e1,trim L (frOf 93 [(2,.ref A.length 0 0),(4,Iz i),(6,.ref c 0 0),(21,v21),(22,Iz n22),(23,Iz n23),(60,bv),(61,Iz l.length),(62,Iz l.length),(63,bl false)]) C,?_,e3.trim (by omega) _⟩
  rw [cast0] at e2
  refine e2.trans ?_
  rw [itW_step]
  simp only [Iz,bl,a_f37,s_f37_l0_b,s_f37_l1_b,s_f37_l2_b,s_f37_l3_b,s_f37_l4_b,s_f37_l5_b,aa,bl,i64,reduceIte,reduceCtorEq,Nat.reduceEqDiff,Nat.reduceLT,Nat.reduceLeDiff,Nat.reduceBEq,Nat.reduceAdd,fillA,splice,Nat.reduceMul,amY,op_eqP,Int.lt_irrefl]
 ·rw [cast0] at e
  exact .inr e
def emptyBA:ByteArray:=⟨#[]⟩
def nullBA:ByteArray:=⟨#[110,117,108,108]⟩
def nvS (f:FunD) (s:ByteArray):Bool:=(((false || decide (s=emptyBA)) || decide (s=nullBA)) || seenS f.ps s) || seenB f.blocks s
def nvF (i:Nat) (f:FunD):Option Pt:=srch (nvB (nvS f) i) f.blocks 0
theorem nv_l5 (hT1:CT k_f61=some (.code s_f61)) (hC:CT k_f39=some (.code s_f39)) (hX:CT k_f62=some (.code s_f62)) (base:Nat) {A A1:Heap} (h1:Ext A A1) (hb:base≤A.length) (hg:getC A1 A.length 0=some [Iz 0,Iz 0,Iz 0]) {fv:V} {l:List FunD} (hv:RdL 3 RdFun A fv l) (hn:l.length < 2 ^ 20) (hps:∀ f∈l,f.ps.length < 2 ^ 20) (hnb:∀ f∈l,f.blocks.length < 2 ^ 20) (hnc:∀ f∈l,∀ b∈f.blocks,b.code.length < 2 ^ 20) (hx:∀ f∈l,∀ b∈f.blocks,∀ x∈b.code,x.xs.length < 2 ^ 20) {L:Nat} (hL:A1.length≤L) (hA1:A.length < A1.length):
 ∀ C,Ext A1 C→(srch (nvF) l 0=none∧∃ C',itW (evC (callW CT) itW base s_f37_l5) [] L (frOf 93 [(2,.ref A.length 0 0),(21,fv),(22,Iz l.length),(23,Iz 0)]) C=some (.ext 0,frOf 93 [(2,.ref A.length 0 0),(21,fv),(22,Iz l.length),(23,Iz l.length),(24,bl false)],C')∧Ext A1 C')∨∃ t,srch (nvF) l 0=some t∧Found A 93 A.length t (itW (evC (callW CT) itW base s_f37_l5) [] L (frOf 93 [(2,.ref A.length 0 0),(21,fv),(22,Iz l.length),(23,Iz 0)]) C):=by
 intro C0 hC0
 rcases it_srch l fun0 (nvF) (fun _ C=>Ext A1 C) (fun k C=>itW (evC (callW CT) itW base s_f37_l5) [] L (frOf 93 [(2,.ref A.length 0 0),(21,fv),(22,Iz l.length),(23,Iz k)]) C) (Found A 93 A.length) (by
  intro k C hk hE
  have hlt':((k:Int) < (l.length:Int)):=by omega
  have hwk:=w64 (n:=k) (by omega)
  have hle:=hE.le
  have hkx:=some_getD hk fun0
  obtain ⟨x,hxe⟩:∃ x,l.getD k fun0=x:=⟨_,rfl⟩
  rw [hxe] at hkx ⊢
  have hmem:=List.mem_of_getElem? hkx
  obtain ⟨a,r,a1,hr,a2,_⟩:=hv.at2 hkx
  have hEA:=h1.trans hE
  have ld:=a2 C hEA
  have hbC:base≤C.length:=by omega
  have hgg:∀ c,getC (C ++ [Ob.cells 0 c]) C.length 0=some c:=fun c=>getC_new C 0 c
  have hss:∀ c d,(C ++ [c]).set C.length d=C ++ [d]:=fun c d=>set_snoc C c d
  have eC:∀ c,Ext C (C ++ [Ob.cells 0 c]):=fun c=>Ext.app _ _
  have g2:∀ D,Ext A1 D→getC D A.length 0=some [Iz 0,Iz 0,Iz 0]:=fun D h=>getC_ext hg h
  obtain ⟨pv,bv,rfl,q1,q2,q3,hbv⟩:=hr
  have hpl:=Sb_len (q1.ext (hEA.trans (eC [Sb x.name,pv,bv])))
  have hpo:=q1.one
  have hbo:=hbv.one
  have hbl:=(rdB_ext hbv (hEA.trans (eC [Sb x.name,pv,bv]))).len
  have hl2:(C ++ [Ob.cells 0 [Sb x.name,pv,bv]]).length=C.length+1:=by simp
  obtain ⟨C0,hC0⟩:∃ C0,C ++ [Ob.cells 0 [Sb x.name,pv,bv]]=C0:=⟨_,rfl⟩
  have hC0l:C0.length=C.length+1:=by rw [← hC0,len_snoc]
  have hE0:Ext C C0:=hC0 ▸ Ext.app _ _
  have hsD:∀ c,(C ++ [c]).set C.length (Ob.cells 0 [Sb x.name,pv,bv])=C0:=fun c=>by rw [← hC0];exact set_snoc C c _
  have hb0:base≤C0.length:=by omega
  have hb00:base≤C0.length+1:=by omega
  have hm0:∀ M:Ob,(C0 ++ [M])[C0.length]?=some M:=fun M=>by simp
  have hs0:∀ M M':Ob,(C0 ++ [M]).set C0.length M'=C0 ++ [M']:=fun M M'=>set_snoc C0 M M'
  obtain ⟨M1,u1,w1⟩:=setOf_put same_str key_str (setOf_nil eS) emptyBA (H:=C0 ++ [.map []]) hb0 (hm0 _)
  obtain ⟨M2,u2,w2⟩:=setOf_put same_str key_str w1 nullBA (H:=C0 ++ [M1]) hb0 (hm0 _)
  rw [hs0] at u1 u2
  have hl3:∀ M:Ob,(C0 ++ [M]).length=C0.length+1:=fun M=>len_snoc _ _
  have hss3:∀ (M c d:Ob),(C0 ++ [M] ++ [c]).set (C0.length+1) d=C0 ++ [M] ++ [d]:=fun M c d=>by have:=set_snoc (C0 ++ [M]) c d;rwa [hl3] at this
  have hgg3:∀ (M:Ob) c,getC (C0 ++ [M] ++ [Ob.cells 0 c]) (C0.length+1) 0=some c:=fun M c=>by have:=getC_new (C0 ++ [M]) 0 c;rwa [hl3] at this
  obtain ⟨K,hK⟩:∃ K,C0 ++ [M2] ++ [Ob.cells 0 [.mp C0.length]]=K:=⟨_,rfl⟩
  have hKn:K=nvH C0 M2 []:=by rw [← hK];simp [nvH]
  have hKl:K.length=C0.length+2:=by rw [hKn,nvH_len]
  have hEK:Ext C0 K:=hKn ▸ nvH_ext C0 M2 []
  have hgf0:getC C0 C.length 0=some [Sb x.name,pv,bv]:=by rw [← hC0];exact getC_new C 0 _
  have hgfK:=getC_ext hgf0 hEK
  have hplK:=Sb_len (q1.ext ((hEA.trans hE0).trans hEK))
  have hA0:A.length < C0.length:=by omega
  obtain ⟨C2,z2,M3,G3,z3,z4⟩:=nv_l0 (CT:=CT) (v21:=fv) (i:=k) (p5:=C.length) (n22:=l.length) (n23:=k) base (hEA.trans hE0) hb hA0 (L:=C0.length+2) (Nat.le_refl _) q1 q2 (hps x hmem) K ⟨M2,[],hKn,w2⟩
  have hE2:Ext C0 C2:=z3 ▸ nvH_ext C0 M3 G3
  have hL2:C0.length+2≤C2.length:=by rw [z3,nvH_app,List.length_append,nvH_len];omega
  have hgf2:=getC_ext hgf0 hE2
  have hbl2:=(rdB_ext hbv ((hEA.trans hE0).trans hE2)).len
  obtain ⟨C4,y2,M5,G5,y3,y4⟩:=nv_l2 (CT:=CT) (v21:=fv) (i:=k) (p5:=C.length) (n22:=l.length) (n23:=k) base (hEA.trans hE0) hb hA0 hL2 hbv (hnc x hmem) (hnb x hmem) C2 ⟨M3,G3,z3,z4⟩
  have hE4:Ext C0 C4:=y3 ▸ nvH_ext C0 M5 G5
  have hgf4:=getC_ext hgf0 hE4
  have hbl4:=(rdB_ext hbv ((hEA.trans hE0).trans hE4)).len
  have hle4:=hE4.le
  unfold nvF
  have hin:=nv_l4 (CT:=CT) (v21:=fv) (i:=k) (n22:=l.length) (n23:=k) hT1 hC hX base (A1:=C4) ((hEA.trans hE0).trans hE4) hb (g2 _ ((hE.trans hE0).trans hE4)) hbv (hnb x hmem) (hnc x hmem) (hx x hmem) (q:=C0.length) (c:=C0.length+1) (y3 ▸ nvH_c C0 M5 G5) (y3 ▸ nvH_m C0 M5 G5) (S:=nvS x) y4 (L:=C4.length) (Nat.le_refl _) (by omega) C4 (Ext.refl _)
  have hKl':(C0 ++ [M2] ++ [Ob.cells 0 [V.mp C0.length]]).length=C0.length+2:=by rw [hK,hKl]
  simp only [eS,emptyBA,nullBA] at u1 u2
  rcases hin with ⟨x1,C5,x2,x3⟩ | ⟨t,x1,D,x2,x3,x4⟩
  ·refine .inl ⟨x1,trim L (frOf 93 [(2,.ref A.length 0 0),(21,fv),(22,Iz l.length),(23,Iz (k+1:Nat))]) C5,?_,(((hE.trans hE0).trans hE4).trans x3).trim (by omega) _⟩
   rw [itW_step]
   simp only [Iz,bl] at z2 y2 x2 hplK
   simp only [Iz,bl,a_f37,s_f37_l0_b,s_f37_l1_b,s_f37_l2_b,s_f37_l3_b,s_f37_l4_b,s_f37_l5_b,aa,bl,i64,reduceIte,reduceCtorEq,Nat.reduceEqDiff,Nat.reduceLT,Nat.reduceLeDiff,Nat.reduceBEq,Nat.reduceAdd,fillA,splice,Nat.reduceMul,amY,op_eqP,op_mapNew,op_mapUpd,hlt',a1,ld,hbC,hgg,hsD,hpo,hbo,Bool.and_self,u1,u2,hl3,hss3,hgg3,hb0,hb00,hK,hKl,hgfK,hplK,z2,hgf2,hbl2,y2,hgf4,hbl4,x2,hwk]
  ·refine .inr ⟨t,x1,trim L (frOf 93 [(2,.ref A.length 0 0),(3,bl true)]) D,?_,x3.trim (by omega) _,trim_get x4 (by omega)⟩
   rw [itW_step]
   simp only [Iz,bl] at z2 y2 x2 hplK
   simp only [Iz,bl,a_f37,s_f37_l0_b,s_f37_l1_b,s_f37_l2_b,s_f37_l3_b,s_f37_l4_b,s_f37_l5_b,aa,bl,i64,reduceIte,reduceCtorEq,Nat.reduceEqDiff,Nat.reduceLT,Nat.reduceLeDiff,Nat.reduceBEq,Nat.reduceAdd,fillA,splice,Nat.reduceMul,amY,op_eqP,op_mapNew,op_mapUpd,hlt',a1,ld,hbC,hgg,hsD,hpo,hbo,Bool.and_self,u1,u2,hl3,hss3,hgg3,hb0,hb00,hK,hKl,hgfK,hplK,z2,hgf2,hbl2,y2,hgf4,hbl4,x2]) C0 hC0 with ⟨e1,C,e2,e3⟩ | e
 ·refine .inl ⟨e1,trim L (frOf 93 [(2,.ref A.length 0 0),(21,fv),(22,Iz l.length),(23,Iz l.length),(24,bl false)]) C,?_,e3.trim (by omega) _⟩
  rw [cast0] at e2
  refine e2.trans ?_
  rw [itW_step]
  simp only [Iz,bl,a_f37,s_f37_l0_b,s_f37_l1_b,s_f37_l2_b,s_f37_l3_b,s_f37_l4_b,s_f37_l5_b,aa,bl,i64,reduceIte,reduceCtorEq,Nat.reduceEqDiff,Nat.reduceLT,Nat.reduceLeDiff,Nat.reduceBEq,Nat.reduceAdd,fillA,splice,Nat.reduceMul,amY,op_eqP,Int.lt_irrefl]
 ·rw [cast0] at e
  exact .inr e
theorem noVar_fun (hT:CT k_f37=some (.code s_f37)) (hT1:CT k_f61=some (.code s_f61)) (hC:CT k_f39=some (.code s_f39)) (hX:CT k_f62=some (.code s_f62)) (base:Nat) {A:Heap} (hb:base≤A.length) {w sm:Nat} {fv:V} {fs:List FunD} (hc:NC A w sm fv fs):
 ∃ H',callW CT (.fn k_f37 [] []) [.ref w 0 0] base A=some (resP (srch nvF fs 0),H')∧Ext A H':=by
 have e1:Ext A (A ++ [Ob.cells 0 [Iz 0,Iz 0,Iz 0]]):=Ext.app _ _
 have x1:=hc.load e1
 have hl:=(hc.rd.ext e1).len
 have g1:getC (A ++ [Ob.cells 0 [Iz 0,Iz 0,Iz 0]]) A.length 0=some [Iz 0,Iz 0,Iz 0]:=getC_new A 0 _
 have hl1:(A ++ [Ob.cells 0 [Iz 0,Iz 0,Iz 0]]).length=A.length+1:=by simp
 rcases nv_l5 (CT:=CT) hT1 hC hX base e1 hb g1 hc.rd hc.sml.n hc.sml.ps hc.sml.nb hc.sml.nc hc.sml.xs (L:=A.length+1) (by omega) (by omega) (A ++ [Ob.cells 0 [Iz 0,Iz 0,Iz 0]]) (Ext.refl _) with ⟨q1,C,q2,q3⟩ | ⟨⟨i,b,k⟩,q1,D,q2,q3,q4⟩
 ·have g2:=getC_ext g1 q3
  have g3:=getC_put (c':=[Iz 0,Iz 0,Iz 0]) g2
  refine ⟨C.set A.length (.cells 0 [Iz 0,Iz 0,Iz 0]),callW_fnA (c:=s_f37) (k:=1) hT rfl (by decide) s_f37_first ?_,(e1.trans q3).set (Nat.le_refl _) _⟩
  rw [q1]
  have xR:loadV (C.set A.length (.cells 0 [Iz 0,Iz 0,Iz 0])) true 3 (.ref A.length 0 0)=some (.agg [Iz 0,Iz 0,Iz 0]):=by
   show xLoad _ true 3 _=_
   rw [xo_ref,g3];rfl
  simp only [Iz,bl] at x1 hl hl1 q2 g2 xR
  simp only [Iz,s_f37,a_f37,s_f37_l0_b,s_f37_l1_b,s_f37_l2_b,s_f37_l3_b,s_f37_l4_b,s_f37_l5_b,aa,bl,i64,reduceIte,reduceCtorEq,Nat.reduceEqDiff,Nat.reduceLT,Nat.reduceLeDiff,Nat.reduceBEq,Nat.reduceAdd,fillA,splice,Nat.reduceMul,amY,op_eqP,x1,hl,hl1,q2,g2,hb]
  rw [xR]
  rfl
 ·refine ⟨D,callW_fnA (c:=s_f37) (k:=1) hT rfl (by decide) s_f37_first ?_,q3⟩
  rw [q1]
  have xR:loadV D true 3 (.ref A.length 0 0)=some (.agg [Iz i,Iz b,Iz k]):=by
   show xLoad _ true 3 _=_
   rw [xo_ref,q4];rfl
  simp only [Iz,bl] at x1 hl hl1 q2 xR
  simp only [Iz,s_f37,a_f37,s_f37_l0_b,s_f37_l1_b,s_f37_l2_b,s_f37_l3_b,s_f37_l4_b,s_f37_l5_b,aa,bl,i64,reduceIte,reduceCtorEq,Nat.reduceEqDiff,Nat.reduceLT,Nat.reduceLeDiff,Nat.reduceBEq,Nat.reduceAdd,fillA,splice,Nat.reduceMul,amY,op_eqP,x1,hl,hl1,q2]
  rw [xR]
  rfl
end
end Go.Proofs.YtamlbkalopefgaaR
set_option maxRecDepth 100000
namespace Go.Proofs.YtamlbkalopefgaaR
open Go.AM
abbrev frF (m:Nat):List V:=frOf 18 [(3,.ref m 0 0),(4,.ref (m+1) 0 0),(5,.ref (m+2) 0 0),(9,.fn k_f70 [] [.ref (m+3) 0 0])]
def lpR (m:Nat):Ob:=.loop .ready none (frF m) [10,11] s_names_walk_find_a0 s_f48_b0
def lpB (m:Nat):Ob:=.loop .busy none (frF m) [10,11] s_names_walk_find_a0 s_f48_b0
def lpD (m:Nat):Ob:=.loop .done (pendOf .ret) (frF m) [10,11] s_names_walk_find_a0 s_f48_b0
def fC (B:Heap) (f:V) (p:List V) (q:Bool) (w:Nat) (lp:Ob):Heap:=B ++ [.cells 0 [f]] ++ [.cells 0 p] ++ [.cells 0 [.s (.bool q)]] ++ [.cells 0 [.ref w 0 0]] ++ [lp]
theorem fC_len (B:Heap) (f:V) (p:List V) (q:Bool) (w:Nat) (lp:Ob):(fC B f p q w lp).length=B.length+5:=by simp [fC]
theorem fC_ext (B:Heap) (f:V) (p:List V) (q:Bool) (w:Nat) (lp:Ob) (G:Heap):Ext B (fC B f p q w lp ++ G):=⟨[.cells 0 [f]] ++ [.cells 0 p] ++ [.cells 0 [.s (.bool q)]] ++ [.cells 0 [.ref w 0 0]] ++ [lp] ++ G,by simp [fC]⟩
theorem fC_f (B:Heap) (f:V) (p:List V) (q:Bool) (w:Nat) (lp:Ob) (G:Heap):getC (fC B f p q w lp ++ G) B.length 0=some [f]:=by simp [fC,getC]
theorem fC_p (B:Heap) (f:V) (p:List V) (q:Bool) (w:Nat) (lp:Ob) (G:Heap):getC (fC B f p q w lp ++ G) (B.length+1) 0=some p:=by simp [fC,getC]
theorem fC_q (B:Heap) (f:V) (p:List V) (q:Bool) (w:Nat) (lp:Ob) (G:Heap):getC (fC B f p q w lp ++ G) (B.length+2) 0=some [.s (.bool q)]:=by simp [fC,getC]
theorem fC_w (B:Heap) (f:V) (p:List V) (q:Bool) (w:Nat) (lp:Ob) (G:Heap):getC (fC B f p q w lp ++ G) (B.length+3) 0=some [.ref w 0 0]:=by simp [fC,getC]
theorem fC_lp (B:Heap) (f:V) (p:List V) (q:Bool) (w:Nat) (lp:Ob) (G:Heap):(fC B f p q w lp ++ G)[B.length+4]?=some lp:=by simp [fC]
theorem fC_sp (B:Heap) (f:V) (p p':List V) (q:Bool) (w:Nat) (lp:Ob) (G:Heap):(fC B f p q w lp ++ G).set (B.length+1) (.cells 0 p')=fC B f p' q w lp ++ G:=by simp [fC]
theorem fC_sq (B:Heap) (f:V) (p:List V) (q q':Bool) (w:Nat) (lp:Ob) (G:Heap):(fC B f p q w lp ++ G).set (B.length+2) (.cells 0 [.s (.bool q')])=fC B f p q' w lp ++ G:=by simp [fC]
theorem fC_sl (B:Heap) (f:V) (p:List V) (q:Bool) (w:Nat) (lp lp':Ob) (G:Heap):(fC B f p q w lp ++ G).set (B.length+4) lp'=fC B f p q w lp' ++ G:=by simp [fC]
theorem fC_app (B:Heap) (f:V) (p:List V) (q:Bool) (w:Nat) (lp:Ob) (G:Heap):fC B f p q w lp ++ G=B ++ ([.cells 0 [f]] ++ [.cells 0 p] ++ [.cells 0 [.s (.bool q)]] ++ [.cells 0 [.ref w 0 0]] ++ [lp] ++ G):=by simp [fC]
def gC (B:Heap) (f:V) (p:List V) (q:Bool) (w:Nat):Heap:=B ++ [.cells 0 [f]] ++ [.cells 0 p] ++ [.cells 0 [.s (.bool q)]] ++ [.cells 0 [.ref w 0 0]]
theorem gC_len (B:Heap) (f:V) (p:List V) (q:Bool) (w:Nat):(gC B f p q w).length=B.length+4:=by simp [gC]
theorem fC_cut (B:Heap) (f:V) (p:List V) (q:Bool) (w:Nat) (lp lp':Ob) (G:Heap):(fC B f p q w lp ++ G).set (B.length+4) lp'=gC B f p q w ++ (lp' :: G):=by simp [fC,gC]
theorem gC_p (B:Heap) (f:V) (p:List V) (q:Bool) (w:Nat) (G:Heap):getC (gC B f p q w ++ G) (B.length+1) 0=some p:=by simp [gC,getC]
theorem gC_q (B:Heap) (f:V) (p:List V) (q:Bool) (w:Nat) (G:Heap):getC (gC B f p q w ++ G) (B.length+2) 0=some [.s (.bool q)]:=by simp [gC,getC]
theorem gC_sp (B:Heap) (f:V) (p p':List V) (q:Bool) (w:Nat) (G:Heap):(gC B f p q w ++ G).set (B.length+1) (.cells 0 p')=gC B f p' q w ++ G:=by simp [gC]
theorem gC_sq (B:Heap) (f:V) (p:List V) (q q':Bool) (w:Nat) (G:Heap):(gC B f p q w ++ G).set (B.length+2) (.cells 0 [.s (.bool q')])=gC B f p q' w ++ G:=by simp [gC]
theorem gC_app (B:Heap) (f:V) (p:List V) (q:Bool) (w:Nat) (G:Heap):∃ G',gC B f p q w ++ G=B ++ G':=⟨[.cells 0 [f]] ++ [.cells 0 p] ++ [.cells 0 [.s (.bool q)]] ++ [.cells 0 [.ref w 0 0]] ++ G,by simp [gC]⟩
section
variable {CT:Nat→Option CFun}
def kF (B:Nat→Heap) (m:Nat) (f:V) (w n:Nat):Heap:=fC (B n) f [Iz 0,Iz 0,Iz 0] false w (lpR m)
def kD (B:Nat→Heap) (m:Nat) (f:V) (w n i b k:Nat):Heap:=fC (B (n+1)) f [Iz i,Iz b,Iz k] true w (lpD m)
def Pred (CT:Nat→Option CFun) (base:Nat) (f:V) (B:Nat→Heap) (n i b k:Nat) (r:List V) (g:Bool):Prop:=∀ G,∃ G',callW CT f [.agg [Iz i,Iz b,Iz k],.agg r] base (B n ++ G)=some (bl g,B (n+1) ++ G ++ G')
theorem find_yld (base m:Nat) {B:Nat→Heap} (hB:∀ n,(B n).length=m) (hb:base≤m) {f:V} (hf:f.one=true) {w n i b k:Nat} {A:Heap} {r:List V} {x:InsD} (hr:RdIns A r x) {g:Bool} (hp:Pred CT base f B n i b k r g):
 Yld CT base (.yld (m+4)) (kF B m f w) (kD B m f w) n i b k r g:=by
 intro G
 obtain ⟨av,lv,rfl,q1,q2,q3,q4,_⟩:=id hr
 have hav:=q1.one
 have hlv:=q3.one
 obtain ⟨C,hC⟩:∃ C,kF B m f w n ++ G=C:=⟨_,rfl⟩
 obtain ⟨c,hcc⟩:∃ c,m+(5+G.length)=c:=⟨_,rfl⟩
 have hCl:C.length=c:=by rw [← hcc];rw [← hC,List.length_append,kF,fC_len,hB];omega
 obtain ⟨G1,hG1⟩:∃ G1,G ++ [Ob.cells 0 [Iz i,Iz b,Iz k]] ++ [Ob.cells 0 (insC x av lv)]=G1:=⟨_,rfl⟩
 have eH1:C ++ [Ob.cells 0 [Iz i,Iz b,Iz k]] ++ [Ob.cells 0 (insC x av lv)]=kF B m f w n ++ G1:=by rw [← hC,← hG1];simp
 have hm:=hB n
 have h0:=fC_lp (B n) f [Iz 0,Iz 0,Iz 0] false w (lpR m) G
 have h1:=fC_lp (B n) f [Iz 0,Iz 0,Iz 0] false w (lpR m) G1
 have e2:=fC_sl (B n) f [Iz 0,Iz 0,Iz 0] false w (lpR m) (lpB m) G1
 have lf:=fC_f (B n) f [Iz 0,Iz 0,Iz 0] false w (lpB m) G1
 rw [hm] at h0 h1 e2 lf
 have g6:getC (fC (B n) f [Iz 0,Iz 0,Iz 0] false w (lpB m) ++ G1) c 0=some [Iz i,Iz b,Iz k]:=by
  rw [← hG1,← List.append_assoc,← List.append_assoc]
  refine getC_ext ?_ (Ext.app _ _)
  have:=getC_new (fC (B n) f [Iz 0,Iz 0,Iz 0] false w (lpB m) ++ G) 0 [Iz i,Iz b,Iz k]
  rwa [List.length_append,fC_len,hm,Nat.add_assoc,hcc] at this
 have g7:getC (fC (B n) f [Iz 0,Iz 0,Iz 0] false w (lpB m) ++ G1) (c+1) 0=some (insC x av lv):=by
  rw [← hG1,← List.append_assoc,← List.append_assoc]
  have:=getC_new (fC (B n) f [Iz 0,Iz 0,Iz 0] false w (lpB m) ++ G ++ [Ob.cells 0 [Iz i,Iz b,Iz k]]) 0 (insC x av lv)
  rwa [len_snoc,show (fC (B n) f [Iz 0,Iz 0,Iz 0] false w (lpB m) ++ G).length=c by rw [← hcc,List.length_append,fC_len,hm];omega] at this
 obtain ⟨G2,hp⟩:=hp ([.cells 0 [f]] ++ [.cells 0 [Iz 0,Iz 0,Iz 0]] ++ [.cells 0 [.s (.bool false)]] ++ [.cells 0 [.ref w 0 0]] ++ [lpB m] ++ G1)
 rw [← fC_app] at hp
 have eR:B (n+1) ++ ([.cells 0 [f]] ++ [.cells 0 [Iz 0,Iz 0,Iz 0]] ++ [.cells 0 [.s (.bool false)]] ++ [.cells 0 [.ref w 0 0]] ++ [lpB m] ++ G1) ++ G2=fC (B (n+1)) f [Iz 0,Iz 0,Iz 0] false w (lpB m) ++ (G1 ++ G2):=by simp [fC]
 rw [eR] at hp
 have hm1:=hB (n+1)
 refine ⟨G1 ++ G2,?_⟩
 rw [hC]
 rw [show (if g=true then some (bl false,kD B m f w n i b k ++ (G1 ++ G2)) else some (bl true,kF B m f w (n+1) ++ (G1 ++ G2)))=some (if g=true then (bl false,kD B m f w n i b k ++ (G1 ++ G2)) else (bl true,kF B m f w (n+1) ++ (G1 ++ G2))) by cases g <;> rfl]
 have hH:C[m+4]?=some (lpR m):=by rw [← hC];exact h0
 refine callW_yld2 (id:=m+4) (by omega) hH (fr:=frOf 18 [(3,.ref m 0 0),(4,.ref (m+1) 0 0),(5,.ref (m+2) 0 0),(9,.fn k_f70 [] [.ref (m+3) 0 0]),(10,.agg [Iz i,Iz b,Iz k]),(11,.agg (insC x av lv))]) (fr1:=frOf 18 [(3,.ref m 0 0),(4,.ref (m+1) 0 0),(5,.ref (m+2) 0 0),(6,.ref c 0 0),(7,.ref (c+1) 0 0)]) (H1:=C ++ [Ob.cells 0 [Iz i,Iz b,Iz k]] ++ [Ob.cells 0 (insC x av lv)]) ?_ ?_ (by rw [eH1];exact h1) ?_
 ·simp only [frF,aa,bl,i64,reduceIte,reduceCtorEq,Nat.reduceEqDiff,Nat.reduceLT,Nat.reduceLeDiff,Nat.reduceBEq,Nat.reduceAdd,fillA,splice,Nat.reduceMul,amY,op_eqP]
 ·have h6:base≤c:=by omega
  have h7:base≤c+1:=by omega
  have hgg:∀ e,getC (C ++ [Ob.cells 0 e]) c 0=some e:=fun e=>by have:=getC_new C 0 e;rwa [hCl] at this
  have hss:∀ e d,(C ++ [e]).set c d=C ++ [d]:=fun e d=>by have:=set_snoc C e d;rwa [hCl] at this
  have hl2:∀ d,(C ++ [d]).length=c+1:=fun d=>by rw [len_snoc,hCl]
  have hgg2:∀ a e,getC (C ++ [a] ++ [Ob.cells 0 e]) (c+1) 0=some e:=fun a e=>by have:=getC_new (C ++ [a]) 0 e;rwa [hl2] at this
  have hss2:∀ a e d,(C ++ [a] ++ [e]).set (c+1) d=C ++ [a] ++ [d]:=fun a e d=>by have:=set_snoc (C ++ [a]) e d;rwa [hl2] at this
  simp only [insC,Iz,s_names_walk_find_a0,a_f48,aa,bl,i64,reduceIte,reduceCtorEq,Nat.reduceEqDiff,Nat.reduceLT,Nat.reduceLeDiff,Nat.reduceBEq,Nat.reduceAdd,fillA,splice,Nat.reduceMul,amY,op_eqP,hCl,h6,h7,hgg,hss,hl2,hgg2,hss2,hav,hlv,Bool.and_self]
 ·rw [eH1]
  have e2':(kF B m f w n ++ G1).set (m+4) (Ob.loop .busy none (frF m) [10,11] s_names_walk_find_a0 s_f48_b0)=fC (B n) f [Iz 0,Iz 0,Iz 0] false w (lpB m) ++ G1:=e2
  rw [e2']
  obtain ⟨D,hD⟩:∃ D,fC (B n) f [Iz 0,Iz 0,Iz 0] false w (lpB m) ++ G1=D:=⟨_,rfl⟩
  rw [hD] at lf g6 g7 hp ⊢
  have lfx:xLoad D false 1 (.ref m 0 0)=some f:=getC_load lf
  cases g with
  | false=>
    have hend:evC (callW CT) itW base s_f48_b0 (frOf 18 [(3,.ref m 0 0),(4,.ref (m+1) 0 0),(5,.ref (m+2) 0 0),(6,.ref c 0 0),(7,.ref (c+1) 0 0)]) D=some (.nrm,frOf 18 [(4,.ref (m+1) 0 0),(5,.ref (m+2) 0 0),(6,.ref c 0 0),(15,bl false)],fC (B (n+1)) f [Iz 0,Iz 0,Iz 0] false w (lpB m) ++ (G1 ++ G2)):=by
     simp only [insC,Iz,bl] at g6 g7 hp lfx
     simp only [insC,Iz,bl,s_f48_b0,a_f48,aa,bl,i64,reduceIte,reduceCtorEq,Nat.reduceEqDiff,Nat.reduceLT,Nat.reduceLeDiff,Nat.reduceBEq,Nat.reduceAdd,fillA,splice,Nat.reduceMul,amY,op_eqP,g6,g7,lfx,hp]
    have hl:=fC_lp (B (n+1)) f [Iz 0,Iz 0,Iz 0] false w (lpB m) (G1 ++ G2)
    have e3:=fC_sl (B (n+1)) f [Iz 0,Iz 0,Iz 0] false w (lpB m) (lpR m) (G1 ++ G2)
    rw [hm1] at hl e3
    rw [hend,yldE_some hl]
    exact congrArg some (Prod.ext rfl e3)
  | true=>
    have hend:evC (callW CT) itW base s_f48_b0 (frOf 18 [(3,.ref m 0 0),(4,.ref (m+1) 0 0),(5,.ref (m+2) 0 0),(6,.ref c 0 0),(7,.ref (c+1) 0 0)]) D=some (.ret,frOf 18 [],fC (B (n+1)) f [Iz i,Iz b,Iz k] true w (lpB m) ++ (G1 ++ G2)):=by
     have hb1:base≤m+1:=by omega
     have hb2:base≤m+2:=by omega
     have p1:=fC_p (B (n+1)) f [Iz 0,Iz 0,Iz 0] false w (lpB m) (G1 ++ G2)
     have p2:=fC_sp (B (n+1)) f [Iz 0,Iz 0,Iz 0] [Iz i,Iz b,Iz k] false w (lpB m) (G1 ++ G2)
     have p3:=fC_q (B (n+1)) f [Iz i,Iz b,Iz k] false w (lpB m) (G1 ++ G2)
     have p4:=fC_sq (B (n+1)) f [Iz i,Iz b,Iz k] false true w (lpB m) (G1 ++ G2)
     have g6':getC (fC (B (n+1)) f [Iz 0,Iz 0,Iz 0] false w (lpB m) ++ (G1 ++ G2)) c 0=some [Iz i,Iz b,Iz k]:=by
      have:=getC_new (fC (B (n+1)) f [Iz 0,Iz 0,Iz 0] false w (lpB m) ++ G) 0 [Iz i,Iz b,Iz k]
      rw [List.length_append,fC_len,hm1,Nat.add_assoc,hcc] at this
      exact getC_ext this ⟨[Ob.cells 0 (insC x av lv)] ++ G2,by rw [← hG1];simp⟩
     rw [hm1] at p1 p2 p3 p4
     simp only [insC,Iz,bl] at g6 g7 hp lfx p1 p2 p3 p4 g6'
     simp only [insC,Iz,bl,s_f48_b0,a_f48,aa,bl,i64,reduceIte,reduceCtorEq,Nat.reduceEqDiff,Nat.reduceLT,Nat.reduceLeDiff,Nat.reduceBEq,Nat.reduceAdd,fillA,splice,Nat.reduceMul,amY,op_eqP,g6,g7,lfx,hp,g6',p1,p2,p3,p4,hb1,hb2]
    have hl:=fC_lp (B (n+1)) f [Iz i,Iz b,Iz k] true w (lpB m) (G1 ++ G2)
    have e3:=fC_sl (B (n+1)) f [Iz i,Iz b,Iz k] true w (lpB m) (lpD m) (G1 ++ G2)
    rw [hm1] at hl e3
    rw [hend,yldE_some hl]
    exact congrArg some (Prod.ext rfl e3)
structure FindT (CT:Nat→Option CFun):Prop where
 find:CT k_f48=some (.code s_f48)
 code:CT k_f67=some (.code s_f67)
 code1:CT k_f70=some (.code s_f70)
theorem code_fun (hT:FindT CT) (base:Nat) (H:Heap) (w:Nat):callW CT (.fn k_f67 [] []) [.ref w 0 0] base H=some (.fn k_f70 [] [.ref H.length 0 0],H ++ [.cells 0 [.ref w 0 0]]):=by
 refine callW_fnA (c:=s_f67) (k:=1) hT.code rfl (by decide) s_f67_first ?_
 simp only [s_f67,a_f67,aa,bl,i64,reduceIte,reduceCtorEq,Nat.reduceEqDiff,Nat.reduceLT,Nat.reduceLeDiff,Nat.reduceBEq,Nat.reduceAdd,fillA,splice,Nat.reduceMul,amY,op_eqP,xsub_mkFn]
theorem find_fun (hT:FindT CT) (base:Nat) {A:Heap} (hb:base≤A.length) {w sm:Nat} {fv:V} {fs:List FunD} (hc:NC A w sm fv fs) {f:V} (hf:f.one=true) {B:Nat→Heap} {m:Nat} (hB:∀ n,(B n).length=m) (hE:∀ n,Ext A (B n)) {Gf:Nat→Nat→Nat→Nat→InsD→Bool}
 (hp:∀ i f1,fs[i]?=some f1→∀ b x,f1.blocks[b]?=some x→∀ k z r,x.code[k]?=some z→RdIns A r z→Pred CT base f B (cF (fs.take i)+cI (f1.blocks.take b)+k) i b k r (Gf (cF (fs.take i)+cI (f1.blocks.take b)+k) i b k z)):
 ∃ n G,callW CT (.fn k_f48 [] []) [.ref w 0 0,f] base (B 0)=some (resP (gSrch Gf fs),B n ++ G):=by
 have hbm:base≤m:=by have:=(hE 0).le;rw [hB] at this;omega
 have hm:=hB 0
 have hK:∀ n,(kF B m f w n).length=m+5:=fun n=>by rw [kF,fC_len,hB]
 have hKD:∀ n i b k,(kD B m f w n i b k).length=m+5:=fun n i b k=>by rw [kD,fC_len,hB]
 have hEK:∀ n,Ext A (kF B m f w n):=fun n=>(hE n).trans (by have:=fC_ext (B n) f [Iz 0,Iz 0,Iz 0] false w (lpR m) [];rwa [List.append_nil] at this)
 have hw:getC (kF B m f w 0) (m+3) 0=some [.ref w 0 0]:=by
  have:=fC_w (B 0) f [Iz 0,Iz 0,Iz 0] false w (lpR m) []
  rwa [List.append_nil,hm] at this
 have hfc:=cells_of_one hf
 have hcd:=code_fun hT base
 have hb1:base≤m+1:=by omega
 have hb2:base≤m+2:=by omega
 have e0:B 0 ++ [.cells 0 [f]] ++ [.cells 0 [Iz 0,Iz 0,Iz 0]] ++ [.cells 0 [.s (.bool false)]] ++ [.cells 0 [.ref w 0 0]] ++ [lpR m]=kF B m f w 0:=rfl
 rcases code1_fun (CT:=CT) hT.code1 base hK hKD hEK (show base≤m+5 by omega) hc hw (y:=.yld (m+4)) (Gf:=Gf) (fun i f1 hi b x hx k z r hz hr=>find_yld base m hB hbm hf hr (hp i f1 hi b x hx k z r hz hr)) with ⟨z1,G,z2⟩ | ⟨⟨i,b,k⟩,z1,n,G,z2⟩
 ·obtain ⟨G1,t1⟩:=trim_app2 (C:=gC (B (cF fs)) f [Iz 0,Iz 0,Iz 0] false w) (m:=m+4) (by rw [gC_len,hB];omega) (frF m) (.dead :: G)
  have hmn:=hB (cF fs)
  have hl:=fC_lp (B (cF fs)) f [Iz 0,Iz 0,Iz 0] false w (lpR m) G
  have hd:=fC_cut (B (cF fs)) f [Iz 0,Iz 0,Iz 0] false w (lpR m) .dead G
  have p1:=gC_p (B (cF fs)) f [Iz 0,Iz 0,Iz 0] false w G1
  have p2:=gC_sp (B (cF fs)) f [Iz 0,Iz 0,Iz 0] [Iz 0,Iz 0,Iz 0] false w G1
  have p3:=gC_q (B (cF fs)) f [Iz 0,Iz 0,Iz 0] false w G1
  have p4:=gC_sq (B (cF fs)) f [Iz 0,Iz 0,Iz 0] false false w G1
  rw [hmn] at hl hd p1 p2 p3 p4
  rw [← hd] at t1
  have hrn:=fun fr v=>rngC_nrm (L:=m+4) (fr:=fr) (v:=v) hl
  obtain ⟨G2,hG2⟩:=gC_app (B (cF fs)) f [Iz 0,Iz 0,Iz 0] false w G1
  refine ⟨cF fs,G2,callW_fnA (c:=s_f48) (k:=2) hT.find rfl (by decide) s_f48_first ?_⟩
  rw [z1,← hG2]
  simp only [kF,fC,lpR] at z2 hrn t1 hl
  simp only [Iz,bl] at z2 hrn t1 p1 p2 p3 p4
  simp only [Iz,s_f48,a_f48,aa,bl,i64,reduceIte,reduceCtorEq,Nat.reduceEqDiff,Nat.reduceLT,Nat.reduceLeDiff,Nat.reduceBEq,Nat.reduceAdd,fillA,splice,Nat.reduceMul,amY,op_eqP,hm,hfc,hf,hcd,len_snoc,z2,hrn,t1,p1,p2,p3,p4,hb1,hb2]
  have xR:loadV (gC (B (cF fs)) f [Iz 0,Iz 0,Iz 0] false w ++ G1) true 3 (.ref (m+1) 0 0)=some (.agg [Iz 0,Iz 0,Iz 0]):=by
   show xLoad _ true 3 _=_
   rw [xo_ref,p1];rfl
  have xQ:loadV (gC (B (cF fs)) f [Iz 0,Iz 0,Iz 0] false w ++ G1) false 1 (.ref (m+2) 0 0)=some (bl false):=by
   show xLoad _ false 1 _=_
   exact getC_load p3
  simp only [Iz,bl] at xR xQ
  rw [xR,xQ]
  rfl
 ·obtain ⟨G1,t1⟩:=trim_app2 (C:=gC (B (n+1)) f [Iz i,Iz b,Iz k] true w) (m:=m+4) (by rw [gC_len,hB];omega) (frF m) (.dead :: G)
  have hmn:=hB (n+1)
  have hl:=fC_lp (B (n+1)) f [Iz i,Iz b,Iz k] true w (lpD m) G
  have hd:=fC_cut (B (n+1)) f [Iz i,Iz b,Iz k] true w (lpD m) .dead G
  have p1:=gC_p (B (n+1)) f [Iz i,Iz b,Iz k] true w G1
  have p3:=gC_q (B (n+1)) f [Iz i,Iz b,Iz k] true w G1
  rw [hmn] at hl hd p1 p3
  rw [← hd] at t1
  have hrn:=fun fr v=>rngC_done (L:=m+4) (fr:=fr) (v:=v) (e:=.ret) hl
  obtain ⟨G2,hG2⟩:=gC_app (B (n+1)) f [Iz i,Iz b,Iz k] true w G1
  refine ⟨n+1,G2,callW_fnA (c:=s_f48) (k:=2) hT.find rfl (by decide) s_f48_first ?_⟩
  rw [z1,← hG2]
  simp only [kF,kD,fC,lpR,lpD] at z2 hrn t1 hl
  simp only [Iz,bl] at z2 hrn t1 p1 p3
  simp only [Iz,s_f48,a_f48,aa,bl,i64,reduceIte,reduceCtorEq,Nat.reduceEqDiff,Nat.reduceLT,Nat.reduceLeDiff,Nat.reduceBEq,Nat.reduceAdd,fillA,splice,Nat.reduceMul,amY,op_eqP,hm,hfc,hf,hcd,len_snoc,z2,hrn,t1,hb1,hb2]
  have xR:loadV (gC (B (n+1)) f [Iz i,Iz b,Iz k] true w ++ G1) true 3 (.ref (m+1) 0 0)=some (.agg [Iz i,Iz b,Iz k]):=by
   show xLoad _ true 3 _=_
   rw [xo_ref,p1];rfl
  have xQ:loadV (gC (B (n+1)) f [Iz i,Iz b,Iz k] true w ++ G1) false 1 (.ref (m+2) 0 0)=some (bl true):=by
   show xLoad _ false 1 _=_
   exact getC_load p3
  simp only [Iz,bl] at xR xQ
  rw [xR,xQ]
  rfl
end
end Go.Proofs.YtamlbkalopefgaaR
set_option maxRecDepth 100000
namespace Go.Proofs.YtamlbkalopefgaaR
open Go.AM
def eqB (a b:ByteArray):Bool:=a.data.toList == b.data.toList
def namedI (s:ByteArray) (fs:List FunD):Int:=idxP (fun f=>eqB f.name s) fs
section
variable {CT:Nat→Option CFun}
theorem find_pure (hT:FindT CT) (base:Nat) {A:Heap} (hb:base≤A.length) {w sm:Nat} {fv:V} {fs:List FunD} (hc:NC A w sm fv fs) {f:V} (hf:f.one=true) {g:Nat→Nat→Nat→InsD→Bool}
 (hp:∀ (i:Nat) (f1:FunD),fs[i]?=some f1→∀ (b:Nat) (x:BlkD),f1.blocks[b]?=some x→∀ (k:Nat) (z:InsD) (r:List V),x.code[k]?=some z→RdIns A r z→∀ D,Ext A D→∃ D',callW CT f [.agg [Iz i,Iz b,Iz k],.agg r] base D=some (bl (g i b k z),D')∧Ext D D'):
 ∃ H',callW CT (.fn k_f48 [] []) [.ref w 0 0,f] base A=some (resP (gSrch (fun _=>g) fs),H')∧Ext A H':=by
 obtain ⟨n,G,h1⟩:=find_fun hT base hb hc hf (B:=fun _=>A) (m:=A.length) (fun _=>rfl) (fun _=>Ext.refl A) (Gf:=fun _=>g) (fun i f1 hi b x hx k z r hz hr G=>by
  obtain ⟨D',d1,G',rfl⟩:=hp i f1 hi b x hx k z r hz hr (A ++ G) ⟨G,rfl⟩
  exact ⟨G',d1⟩)
 exact ⟨A ++ G,h1,G,rfl⟩
theorem named1_fun (hT:CT k_f66=some (.code s_f66)) (base:Nat) {H:Heap} (hb:base≤H.length) {id:Nat} {s:ByteArray} (hg:getC H id 0=some [Sb s]) {A:Heap} {r:List V} {x:FunD} (hr:RdFun A r x):∃ H',callW CT (.fn k_f66 [] [.ref id 0 0]) [.agg r] base H=some (bl (eqB x.name s),H')∧Ext H H':=by
 obtain ⟨pv,bv,rfl,q1,q2,q3,hbv⟩:=hr
 have hpo:=q1.one
 have hbo:=hbv.one
 have e1:Ext H (H ++ [Ob.cells 0 [Sb x.name,pv,bv]]):=Ext.app _ _
 have hx:=getC_load (getC_ext hg e1)
 have hgg:=getC_new H 0 [Sb x.name,pv,bv]
 refine ⟨H ++ [Ob.cells 0 [Sb x.name,pv,bv]],callW_fnA (c:=s_f66) (k:=2) hT rfl (by decide) s_f66_first ?_,e1⟩
 unfold eqB
 simp only [s_f66,a_f66,aa,bl,i64,reduceIte,reduceCtorEq,Nat.reduceEqDiff,Nat.reduceLT,Nat.reduceLeDiff,Nat.reduceBEq,Nat.reduceAdd,fillA,splice,Nat.reduceMul,amY,op_eqP,hpo,hbo,Bool.and_self,hx,hgg]
theorem named_fun (hT1:CT k_f66=some (.code s_f66)) (hT:CT k_f45=some (.code s_f45)) (hI:CT k_f65=some (.code s_f65)) (base:Nat) {A:Heap} (hb:base≤A.length) {w sm:Nat} {fv:V} {fs:List FunD} (hc:NC A w sm fv fs) (s:ByteArray):
 ∃ H',callW CT (.fn k_f45 [] []) [.ref w 0 0,Sb s] base A=some (Iz (namedI s fs),H')∧Ext A H':=by
 have e1:Ext A (A ++ [Ob.cells 0 [Sb s]]):=Ext.app _ _
 have x1:=hc.load e1
 obtain ⟨H',h1,h2⟩:=idxF_fun hI base (A ++ [Ob.cells 0 [Sb s]]) (f:=.fn k_f66 [] [.ref A.length 0 0]) (p:=fun f=>eqB f.name s) (hc.rd.ext e1) (fun i x r _ hr D hD=>named1_fun hT1 base (by have:=hD.le;rw [len_snoc] at this;omega) (getC_ext (getC_new A 0 _) hD) hr) (by have:=hc.sml.n;omega)
 refine ⟨H',callW_fnA (c:=s_f45) (k:=2) hT rfl (by decide) s_f45_first ?_,e1.trans h2⟩
 unfold namedI
 simp only [Iz] at h1
 simp only [Iz,s_f45,a_f45,aa,bl,i64,reduceIte,reduceCtorEq,Nat.reduceEqDiff,Nat.reduceLT,Nat.reduceLeDiff,Nat.reduceBEq,Nat.reduceAdd,fillA,splice,Nat.reduceMul,amY,op_eqP,xsub_mkFn,x1,h1]
def nfG (fs:List FunD) (x:InsD):Bool:=(x.op == 10 || x.op == 4) && decide (namedI x.f fs < 0)
theorem noFunc1_fun (hT1:CT k_f66=some (.code s_f66)) (hN:CT k_f45=some (.code s_f45)) (hI:CT k_f65=some (.code s_f65)) (hT:CT k_f59=some (.code s_f59)) (base:Nat) {A:Heap} (hb:base≤A.length) {w w1 sm:Nat} {fv:V} {fs:List FunD} (hc:NC A w sm fv fs) (hw:getC A w1 0=some [.ref w 0 0]) {i b k:Nat} {r:List V} {x:InsD} (hr:RdIns A r x) (D:Heap) (hD:Ext A D):
 ∃ D',callW CT (.fn k_f59 [] [.ref w1 0 0]) [.agg [Iz i,Iz b,Iz k],.agg r] base D=some (bl (nfG fs x),D')∧Ext D D':=by
 obtain ⟨av,lv,rfl,q1,q2,q3,q4,_⟩:=hr
 have hav:=q1.one
 have hlv:=q3.one
 have hbD:base≤D.length:=by have:=hD.le;omega
 obtain ⟨D1,hD1⟩:∃ D1,D ++ [Ob.cells 0 [Iz i,Iz b,Iz k]] ++ [Ob.cells 0 (insC x av lv)]=D1:=⟨_,rfl⟩
 have e1:Ext D D1:=hD1 ▸ (Ext.app _ _).trans (Ext.app _ _)
 have hw1:=getC_load (getC_ext hw (hD.trans e1))
 have hgg:getC D1 (D.length+1) 0=some (insC x av lv):=by
  have:=getC_new (D ++ [Ob.cells 0 [Iz i,Iz b,Iz k]]) 0 (insC x av lv)
  rwa [len_snoc,hD1] at this
 have hl1:=len_snoc D (Ob.cells 0 [Iz i,Iz b,Iz k])
 obtain ⟨D2,h1,h2⟩:=named_fun hT1 hN hI base (by have:=e1.le;omega) (hc.ext (hD.trans e1)) x.f
 unfold nfG
 simp only [insC,Iz,bl] at h1 hgg hD1 hl1
 cases ho:(x.op == 10) with
 | true=>
   refine ⟨D2,callW_fnA (c:=s_f59) (k:=3) hT rfl (by decide) s_f59_first ?_,e1.trans h2⟩
   simp only [insC,Iz,s_f59,a_f59,aa,bl,i64,reduceIte,reduceCtorEq,Nat.reduceEqDiff,Nat.reduceLT,Nat.reduceLeDiff,Nat.reduceBEq,Nat.reduceAdd,fillA,splice,Nat.reduceMul,amY,op_eqP,hav,hlv,Bool.and_self,hl1,hD1,hgg,ho,hw1,h1]
 | false=>
   cases ho4:(x.op == 4) with
   | true=>
     refine ⟨D2,callW_fnA (c:=s_f59) (k:=3) hT rfl (by decide) s_f59_first ?_,e1.trans h2⟩
     simp only [insC,Iz,s_f59,a_f59,aa,bl,i64,reduceIte,reduceCtorEq,Nat.reduceEqDiff,Nat.reduceLT,Nat.reduceLeDiff,Nat.reduceBEq,Nat.reduceAdd,fillA,splice,Nat.reduceMul,amY,op_eqP,hav,hlv,Bool.and_self,hl1,hD1,hgg,ho,ho4,hw1,h1]
   | false=>
     refine ⟨D1,callW_fnA (c:=s_f59) (k:=3) hT rfl (by decide) s_f59_first ?_,e1⟩
     simp only [insC,Iz,s_f59,a_f59,aa,bl,i64,reduceIte,reduceCtorEq,Nat.reduceEqDiff,Nat.reduceLT,Nat.reduceLeDiff,Nat.reduceBEq,Nat.reduceAdd,fillA,splice,Nat.reduceMul,amY,op_eqP,hav,hlv,Bool.and_self,hl1,hD1,hgg,ho,ho4]
end
end Go.Proofs.YtamlbkalopefgaaR
set_option maxRecDepth 100000
namespace Go.Proofs.YtamlbkalopefgaaR
open Go.AM
def mainB:ByteArray:=⟨#[109,97,105,110]⟩
def mfO (fs:List FunD):Option Pt:=if ((fs.length:Int) == 0 || decide ((fs.length:Int) > 64))=true then some (0,0,0) else none
def nmO (fs:List FunD):Option Pt:=if namedI mainB fs < 0 then some (0,0,0) else if (fs.getD (namedI mainB fs).toNat fun0).ps.length > 0 then some ((namedI mainB fs).toNat,0,0) else none
theorem namedI_at' {s:ByteArray} {fs:List FunD} (h:¬ namedI s fs < 0):∃ j:Nat,namedI s fs=(j:Int)∧j < fs.length:=by
 unfold namedI idxP at h ⊢
 cases e:fs.findIdx? (fun f=>eqB f.name s) with
 | none=>rw [e] at h;exact absurd h (by decide)
 | some j=>exact ⟨j,rfl,(List.findIdx?_eq_some_iff_getElem.1 e).1⟩
section
variable {CT:Nat→Option CFun}
theorem manyFuncs_fun (hT:CT k_f22=some (.code s_f22)) (base:Nat) {A:Heap} (hb:base≤A.length) {w sm:Nat} {fv:V} {fs:List FunD} (hc:NC A w sm fv fs):
 ∃ H',callW CT (.fn k_f22 [] []) [.ref w 0 0] base A=some (resP (mfO fs),H')∧Ext A H':=by
 have e1:Ext A (A ++ [Ob.cells 0 [Iz 0,Iz 0,Iz 0]]):=Ext.app _ _
 have x1:=hc.load e1
 have hl:=(hc.rd.ext e1).len
 have g1:getC (A ++ [Ob.cells 0 [Iz 0,Iz 0,Iz 0]]) A.length 0=some [Iz 0,Iz 0,Iz 0]:=getC_new A 0 _
 have s1:∀ d,(A ++ [Ob.cells 0 [Iz 0,Iz 0,Iz 0]]).set A.length d=A ++ [d]:=fun d=>set_snoc A _ d
 have xR:loadV (A ++ [Ob.cells 0 [Iz 0,Iz 0,Iz 0]]) true 3 (.ref A.length 0 0)=some (.agg [Iz 0,Iz 0,Iz 0]):=by
  show xLoad _ true 3 _=_
  rw [xo_ref,g1];rfl
 have hne:(w != A.length)=true:=by
  have hgw:=hc.gw
  by_cases e:w=A.length
  ·subst e
   simp [getC] at hgw
  ·simpa using e
 have oR:∀ (a b c:Nat),V.obj? (.ref a b c)=some (some a):=fun _ _ _=>rfl
 have oA:∀ i j:Nat,apartO (some (some i)) (some (some j))=(i != j):=fun _ _=>rfl
 have oB:∀ x:Option Nat,apartO (some none) (some x)=true:=fun _=>rfl
 have hfo:V.obj? fv=some none:=by
  obtain ⟨R,hr1,_⟩:=hc.rd
  have hel:=hr1.el
  unfold elems at hel
  split at hel <;> first | rfl | cases hel
 refine ⟨A ++ [Ob.cells 0 [Iz 0,Iz 0,Iz 0]],callW_fnA (c:=s_f22) (k:=1) hT rfl (by decide) s_f22_first ?_,e1⟩
 unfold mfO
 simp only [Iz,bl] at x1 hl g1 s1 xR
 cases h0:((fs.length:Int) == 0) with
 | true=>
   simp only [Iz,s_f22,X22_1,opsK,a_f22,aa,bl,i64,reduceIte,reduceCtorEq,Nat.reduceEqDiff,Nat.reduceLT,Nat.reduceLeDiff,Nat.reduceBEq,Nat.reduceAdd,fillA,splice,Nat.reduceMul,amY,op_eqP,x1,hl,g1,s1,hb,h0]
   rw [xR]
   rfl
 | false=>
   cases h1:decide ((fs.length:Int) > 64) with
   | true=>
     simp only [Iz,s_f22,X22_1,opsK,a_f22,aa,bl,i64,reduceIte,reduceCtorEq,Nat.reduceEqDiff,Nat.reduceLT,Nat.reduceLeDiff,Nat.reduceBEq,Nat.reduceAdd,fillA,splice,Nat.reduceMul,amY,op_eqP,x1,hl,g1,s1,hb,h0,h1]
     simp only [List.all_cons,List.all_nil,lateOk,apartAt_eq,R22_1,List.getD_cons_succ,List.getD_cons_zero,apartP,AOp.place,AOp.obj,aa,bl,i64,reduceIte,reduceCtorEq,Nat.reduceEqDiff,Nat.reduceLT,Nat.reduceLeDiff,Nat.reduceBEq,Nat.reduceAdd,fillA,splice,Nat.reduceMul,amY,op_eqP,oR,oA,oB,hne,hfo,Bool.true_or,Bool.and_self,cond_true]
     rw [xR]
     rfl
   | false=>
     simp only [Iz,s_f22,X22_1,opsK,a_f22,aa,bl,i64,reduceIte,reduceCtorEq,Nat.reduceEqDiff,Nat.reduceLT,Nat.reduceLeDiff,Nat.reduceBEq,Nat.reduceAdd,fillA,splice,Nat.reduceMul,amY,op_eqP,x1,hl,g1,s1,hb,h0,h1]
     simp only [List.all_cons,List.all_nil,lateOk,apartAt_eq,R22_1,List.getD_cons_succ,List.getD_cons_zero,apartP,AOp.place,AOp.obj,aa,bl,i64,reduceIte,reduceCtorEq,Nat.reduceEqDiff,Nat.reduceLT,Nat.reduceLeDiff,Nat.reduceBEq,Nat.reduceAdd,fillA,splice,Nat.reduceMul,amY,op_eqP,oR,oA,oB,hne,hfo,Bool.true_or,Bool.and_self,cond_true]
     rw [xR]
     rfl
theorem noMain_fun (hT1:CT k_f66=some (.code s_f66)) (hN:CT k_f45=some (.code s_f45)) (hI:CT k_f65=some (.code s_f65)) (hT:CT k_f25=some (.code s_f25)) (base:Nat) {A:Heap} (hb:base≤A.length) {w sm:Nat} {fv:V} {fs:List FunD} (hc:NC A w sm fv fs):
 ∃ H',callW CT (.fn k_f25 [] []) [.ref w 0 0] base A=some (resP (nmO fs),H')∧Ext A H':=by
 have e1:Ext A (A ++ [Ob.cells 0 [Iz 0,Iz 0,Iz 0]]):=Ext.app _ _
 obtain ⟨H1,h1,h2⟩:=named_fun hT1 hN hI base (by have:=e1.le;omega) (hc.ext e1) mainB
 have g2:getC H1 A.length 0=some [Iz 0,Iz 0,Iz 0]:=getC_ext (getC_new A 0 _) h2
 have x1:=hc.load (e1.trans h2)
 have FIN:∀ (i:Nat),loadV (H1.set A.length (.cells 0 [Iz i,Iz 0,Iz 0])) true 3 (.ref A.length 0 0)=some (.agg [Iz i,Iz 0,Iz 0]):=fun i=>by
  show xLoad _ true 3 _=_
  rw [xo_ref,getC_put g2];rfl
 have z0:((0:Nat):Int)=0:=rfl
 unfold nmO
 by_cases hlt:namedI mainB fs < 0
 ·rw [if_pos hlt]
  refine ⟨H1.set A.length (.cells 0 [Iz 0,Iz 0,Iz 0]),callW_fnA (c:=s_f25) (k:=1) hT rfl (by decide) s_f25_first ?_,(e1.trans h2).set (Nat.le_refl _) _⟩
  have xR:=FIN 0
  rw [z0] at xR
  simp only [Iz,Sb,mainB] at h1 g2 xR
  simp only [mainB] at hlt
  simp only [Iz,s_f25,a_f25,aa,bl,i64,reduceIte,reduceCtorEq,Nat.reduceEqDiff,Nat.reduceLT,Nat.reduceLeDiff,Nat.reduceBEq,Nat.reduceAdd,fillA,splice,Nat.reduceMul,amY,op_eqP,h1,g2,hb,hlt]
  rw [xR]
  rfl
 ·rw [if_neg hlt]
  obtain ⟨j,hj,hjl⟩:=namedI_at' hlt
  rw [hj,Int.toNat_natCast]
  rw [hj] at h1
  have hfj:=some_getD hjl fun0
  obtain ⟨f,hfe⟩:∃ f,fs.getD j fun0=f:=⟨_,rfl⟩
  rw [hfe] at hfj ⊢
  obtain ⟨a,r,a1,hr,_,a3⟩:=hc.rd.at2 hfj
  obtain ⟨pv,bv,rfl,p1,p2,p3,hbv⟩:=hr
  obtain ⟨a',b1,b2⟩:=a3 1 pv rfl
  have b3:=b2 H1 (e1.trans h2)
  have hpl:=Sb_len (p1.ext (e1.trans h2))
  have hj0:¬ ((j:Int) < 0):=by omega
  by_cases h0:f.ps.length > 0
  ·rw [if_pos h0]
   have h0':((f.ps.length:Int) > 0):=by omega
   refine ⟨H1.set A.length (.cells 0 [Iz j,Iz 0,Iz 0]),callW_fnA (c:=s_f25) (k:=1) hT rfl (by decide) s_f25_first ?_,(e1.trans h2).set (Nat.le_refl _) _⟩
   have xR:=FIN j
   simp only [Iz,Sb,mainB] at h1 g2 xR
   simp only [Iz,s_f25,a_f25,aa,bl,i64,reduceIte,reduceCtorEq,Nat.reduceEqDiff,Nat.reduceLT,Nat.reduceLeDiff,Nat.reduceBEq,Nat.reduceAdd,fillA,splice,Nat.reduceMul,amY,op_eqP,h1,g2,hb,hj0,x1,a1,b1,b3,hpl,h0']
   rw [xR]
   rfl
  ·rw [if_neg h0]
   have h0':¬ ((f.ps.length:Int) > 0):=by omega
   refine ⟨H1.set A.length (.cells 0 [Iz 0,Iz 0,Iz 0]),callW_fnA (c:=s_f25) (k:=1) hT rfl (by decide) s_f25_first ?_,(e1.trans h2).set (Nat.le_refl _) _⟩
   have xR:=FIN 0
   rw [z0] at xR
   simp only [Iz,Sb,mainB] at h1 g2 xR
   simp only [Iz,s_f25,a_f25,aa,bl,i64,reduceIte,reduceCtorEq,Nat.reduceEqDiff,Nat.reduceLT,Nat.reduceLeDiff,Nat.reduceBEq,Nat.reduceAdd,fillA,splice,Nat.reduceMul,amY,op_eqP,h1,g2,hb,hj0,x1,a1,b1,b3,hpl,h0']
   rw [xR]
   rfl
end
end Go.Proofs.YtamlbkalopefgaaR
set_option maxRecDepth 100000
namespace Go.Proofs.YtamlbkalopefgaaR
open Go.AM
theorem sum_le {α:Type} (f:α→Nat) (c:Nat):∀ (l:List α),(∀ x∈l,f x≤c)→(l.map f).sum≤l.length * c:=by
 intro l
 induction l with
 | nil=>intro _;simp
 | cons x l ih=>
   intro h
   have h1:=ih fun y hy=>h y (List.mem_cons_of_mem _ hy)
   have h2:=h x List.mem_cons_self
   rw [List.map_cons,List.sum_cons,List.length_cons,Nat.add_mul]
   omega
theorem cI_lt {bs:List BlkD} (h1:bs.length < 2 ^ 20) (h2:∀ b∈bs,b.code.length < 2 ^ 20):cI bs≤2 ^ 40:=by
 have h:=sum_le (fun b:BlkD=>b.code.length) (2 ^ 20) bs fun b hb=>by have:=h2 b hb;omega
 have:bs.length * 2 ^ 20≤2 ^ 20 * 2 ^ 20:=Nat.mul_le_mul_right _ (by omega)
 unfold cI
 omega
theorem cF_lt {fs:List FunD} (h:Small fs):cF fs≤2 ^ 60:=by
 have h':=sum_le (fun f:FunD=>cI f.blocks) (2 ^ 40) fs fun f hf=>cI_lt (h.nb f hf) (h.nc f hf)
 have:fs.length * 2 ^ 40≤2 ^ 20 * 2 ^ 40:=Nat.mul_le_mul_right _ (by have:=h.n;omega)
 unfold cF
 omega
theorem sum_take {α:Type} (f:α→Nat) (l:List α) (k:Nat):((l.take k).map f).sum≤(l.map f).sum:=by
 have:l.map f=(l.take k).map f ++ (l.drop k).map f:=by rw [← List.map_append,List.take_append_drop]
 rw [this,List.sum_append]
 omega
def mcG (n:Nat):Bool:=decide ((n:Int)+1 > 4096)
section
variable {CT:Nat→Option CFun}
theorem manyCode1_fun (hT:CT k_f49=some (.code s_f49)) (base:Nat) {A:Heap} (hb:base≤A.length) {n i b k:Nat} (hn:n < 2 ^ 62) {A0:Heap} {r:List V} {x:InsD} (hr:RdIns A0 r x):
 Pred CT base (.fn k_f49 [] [.ref (A.length+1) 0 0]) (fun n=>A ++ [Ob.cells 0 [Iz 0,Iz 0,Iz 0]] ++ [Ob.cells 0 [Iz n]]) n i b k r (mcG n):=by
 intro G
 obtain ⟨av,lv,rfl,q1,q2,q3,q4,_⟩:=hr
 have hav:=q1.one
 have hlv:=q3.one
 obtain ⟨B,hB⟩:∃ B:Nat→Heap,(fun n:Nat=>A ++ [Ob.cells 0 [Iz 0,Iz 0,Iz 0]] ++ [Ob.cells 0 [Iz n]])=B:=⟨_,rfl⟩
 rw [hB]
 obtain ⟨G',hG'⟩:∃ G',[Ob.cells 0 [Iz i,Iz b,Iz k]] ++ [Ob.cells 0 (insC x av lv)]=G':=⟨_,rfl⟩
 have e0:∀ n,B n ++ G ++ [Ob.cells 0 [Iz i,Iz b,Iz k]] ++ [Ob.cells 0 (insC x av lv)]=B n ++ G ++ G':=fun n=>by rw [← hG'];simp
 have hBn:∀ n:Nat,B n=A ++ [Ob.cells 0 [Iz 0,Iz 0,Iz 0]] ++ [Ob.cells 0 [Iz n]]:=fun n=>by rw [← hB]
 have g1:∀ n,getC (B n ++ G ++ G') (A.length+1) 0=some [Iz n]:=fun n=>by rw [hBn];simp [getC]
 have s1:∀ n m:Nat,(B n ++ G ++ G').set (A.length+1) (.cells 0 [Iz m])=B m ++ G ++ G':=fun n m=>by rw [hBn,hBn];simp
 have hwk:=w64 (n:=n) hn
 have hb1:base≤A.length+1:=by omega
 have hb2:base≤(B n ++ G).length:=by rw [hBn];simp;omega
 have hg1:=g1 n
 have hg2:=g1 (n+1)
 have hs1:=s1 n (n+1)
 have hcc:((n+1:Nat):Int)=(n:Int)+1:=by omega
 refine ⟨G',callW_fnA (c:=s_f49) (k:=3) hT rfl (by decide) s_f49_first ?_⟩
 have ee:=e0 n
 unfold mcG
 simp only [insC,Iz] at ee hg1 hg2 hs1
 simp only [insC,Iz,s_f49,a_f49,aa,bl,i64,reduceIte,reduceCtorEq,Nat.reduceEqDiff,Nat.reduceLT,Nat.reduceLeDiff,Nat.reduceBEq,Nat.reduceAdd,fillA,splice,Nat.reduceMul,amY,op_eqP,hav,hlv,Bool.and_self,ee,hg1,hwk,hb1,hs1,hg2]
 rw [hcc]
theorem manyCode_fun (hF:FindT CT) (hT1:CT k_f49=some (.code s_f49)) (hT:CT k_f29=some (.code s_f29)) (base:Nat) {A:Heap} (hb:base≤A.length) {w sm:Nat} {fv:V} {fs:List FunD} (hc:NC A w sm fv fs):
 ∃ H',callW CT (.fn k_f29 [] []) [.ref w 0 0] base A=some (resP (gSrch (fun n _ _ _ _=>mcG n) fs),H')∧Ext A H':=by
 obtain ⟨n,G,h1⟩:=find_fun hF base hb hc (f:=.fn k_f49 [] [.ref (A.length+1) 0 0]) rfl (B:=fun n=>A ++ [Ob.cells 0 [Iz 0,Iz 0,Iz 0]] ++ [Ob.cells 0 [Iz n]]) (m:=A.length+2) (fun n=>by simp) (fun n=>(Ext.app _ _).trans (Ext.app _ _)) (Gf:=fun n _ _ _ _=>mcG n) (fun i f1 hi b x hx k z r hz hr=>manyCode1_fun hT1 base hb (by
  have h1:=cF_lt hc.sml
  have h2:cF (fs.take i)≤cF fs:=sum_take _ _ _
  have hm:=List.mem_of_getElem? hi
  have h3:=cI_lt (hc.sml.nb f1 hm) (hc.sml.nc f1 hm)
  have h4:cI (f1.blocks.take b)≤cI f1.blocks:=sum_take _ _ _
  have h5:=hc.sml.nc f1 hm x (List.mem_of_getElem? hx)
  have h6:=(List.getElem?_eq_some_iff.1 hz).1
  omega) hr)
 have hl:=len_snoc A (Ob.cells 0 [Iz 0,Iz 0,Iz 0])
 have hb1:base≤A.length+1:=by omega
 have hss:∀ c d,(A ++ [Ob.cells 0 [Iz 0,Iz 0,Iz 0]] ++ [c]).set (A.length+1) d=A ++ [Ob.cells 0 [Iz 0,Iz 0,Iz 0]] ++ [d]:=fun c d=>by have:=set_snoc (A ++ [Ob.cells 0 [Iz 0,Iz 0,Iz 0]]) c d;rwa [hl] at this
 have hgg:∀ c,getC (A ++ [Ob.cells 0 [Iz 0,Iz 0,Iz 0]] ++ [Ob.cells 0 c]) (A.length+1) 0=some c:=fun c=>by have:=getC_new (A ++ [Ob.cells 0 [Iz 0,Iz 0,Iz 0]]) 0 c;rwa [hl] at this
 obtain ⟨H1,hH1⟩:∃ H1,A ++ [Ob.cells 0 [Iz 0,Iz 0,Iz 0]] ++ [Ob.cells 0 [Iz n]] ++ G=H1:=⟨_,rfl⟩
 rw [hH1] at h1
 have eH1:Ext A H1:=hH1 ▸ ((Ext.app _ _).trans (Ext.app _ _)).trans ⟨G,rfl⟩
 have g2:getC H1 A.length 0=some [Iz 0,Iz 0,Iz 0]:=by rw [← hH1];exact getC_ext (getC_new A 0 _) ((Ext.app _ _).trans ⟨G,rfl⟩)
 have FIN:∀ (i b k:Nat),loadV (H1.set A.length (.cells 0 [Iz i,Iz b,Iz k])) true 3 (.ref A.length 0 0)=some (.agg [Iz i,Iz b,Iz k]):=fun i b k=>by
  show xLoad _ true 3 _=_
  rw [xo_ref,getC_put g2];rfl
 have z0:Iz ((0:Nat):Int)=Iz 0:=rfl
 rw [z0] at h1
 cases ho:gSrch (fun n _ _ _ _=>mcG n) fs with
 | none=>
   rw [ho] at h1
   refine ⟨H1.set A.length (.cells 0 [Iz 0,Iz 0,Iz 0]),callW_fnA (c:=s_f29) (k:=1) hT rfl (by decide) s_f29_first ?_,eH1.set (Nat.le_refl _) _⟩
   have xR:=FIN 0 0 0
   simp only [z0] at xR
   simp only [resP,Iz,bl] at h1 g2 xR hl hgg hss
   simp only [Iz,s_f29,a_f29,aa,bl,i64,reduceIte,reduceCtorEq,Nat.reduceEqDiff,Nat.reduceLT,Nat.reduceLeDiff,Nat.reduceBEq,Nat.reduceAdd,fillA,splice,Nat.reduceMul,amY,op_eqP,xsub_mkFn,hl,hss,hgg,h1,g2,hb1,hb]
   rw [xR]
   rfl
 | some t=>
   obtain ⟨i,b,k⟩:=t
   rw [ho] at h1
   refine ⟨H1.set A.length (.cells 0 [Iz i,Iz b,Iz k]),callW_fnA (c:=s_f29) (k:=1) hT rfl (by decide) s_f29_first ?_,eH1.set (Nat.le_refl _) _⟩
   have xR:=FIN i b k
   simp only [resP,Iz,bl] at h1 g2 xR hl hgg hss
   simp only [Iz,s_f29,a_f29,aa,bl,i64,reduceIte,reduceCtorEq,Nat.reduceEqDiff,Nat.reduceLT,Nat.reduceLeDiff,Nat.reduceBEq,Nat.reduceAdd,fillA,splice,Nat.reduceMul,amY,op_eqP,xsub_mkFn,hl,hss,hgg,h1,g2,hb1,hb]
   rw [xR]
   rfl
end
end Go.Proofs.YtamlbkalopefgaaR
set_option maxRecDepth 100000
namespace Go.Proofs.YtamlbkalopefgaaR
open Go.AM
section
variable {CT:Nat→Option CFun}
def mbG (f:FunD):Bool:=(f.blocks.length:Int) == 0 || decide ((f.blocks.length:Int) > 64)
theorem manyBlocks1_fun (hT:CT k_f47=some (.code s_f47)) (base:Nat) {A H:Heap} (hE:Ext A H) {i:Nat} {r:List V} {x:FunD} (hr:RdFun A r x):∃ G',callW CT (.fn k_f47 [] []) [Iz i,.agg r] base H=some (bl (mbG x),H ++ G'):=by
 obtain ⟨pv,bv,rfl,q1,q2,q3,hbv⟩:=hr
 have hpo:=q1.one
 have hbo:=hbv.one
 have hbl:=(rdB_ext hbv (hE.trans (Ext.app H [Ob.cells 0 [Sb x.name,pv,bv]]))).len
 have hgg:=getC_new H 0 [Sb x.name,pv,bv]
 refine ⟨[Ob.cells 0 [Sb x.name,pv,bv]],callW_fnA (c:=s_f47) (k:=2) hT rfl (by decide) s_f47_first ?_⟩
 unfold mbG
 simp only [Iz,s_f47,a_f47,aa,bl,i64,reduceIte,reduceCtorEq,Nat.reduceEqDiff,Nat.reduceLT,Nat.reduceLeDiff,Nat.reduceBEq,Nat.reduceAdd,fillA,splice,Nat.reduceMul,amY,op_eqP,hpo,hbo,Bool.and_self,hgg,hbl]
theorem manyBlocks_fun (hF:CT k_f43=some (.code s_f43)) (hT1:CT k_f47=some (.code s_f47)) (hT:CT k_f27=some (.code s_f27)) (base:Nat) {A:Heap} (hb:base≤A.length) {w sm:Nat} {fv:V} {fs:List FunD} (hc:NC A w sm fv fs):
 ∃ H',callW CT (.fn k_f27 [] []) [.ref w 0 0] base A=some (resP (srch (fuS fun _=>mbG) fs 0),H')∧Ext A H':=by
 have eA:Ext A (A ++ [Ob.cells 0 [Iz 0,Iz 0,Iz 0]]):=Ext.app _ _
 obtain ⟨n,B,G,h1,rfl⟩:=funcs_fun hF base (A.length+1) (by omega) (Inv:=fun _ B=>B=A ++ [Ob.cells 0 [Iz 0,Iz 0,Iz 0]]) (fun _ B hB=>by subst hB;exact ⟨len_snoc _ _,eA⟩) hc (f:=.fn k_f47 [] []) (P:=fun _=>mbG) (fun i x r hi hr B hB G=>by
  subst hB
  obtain ⟨G',h⟩:=manyBlocks1_fun (CT:=CT) hT1 base (i:=i) (eA.trans ⟨G,rfl⟩) hr
  exact ⟨_,G',h,rfl⟩) rfl
 obtain ⟨H1,hH1⟩:∃ H1,A ++ [Ob.cells 0 [Iz 0,Iz 0,Iz 0]] ++ G=H1:=⟨_,rfl⟩
 rw [hH1] at h1
 have eH1:Ext A H1:=hH1 ▸ eA.trans ⟨G,rfl⟩
 have g2:getC H1 A.length 0=some [Iz 0,Iz 0,Iz 0]:=by rw [← hH1];exact getC_ext (getC_new A 0 _) ⟨G,rfl⟩
 cases ho:srch (fuS fun _=>mbG) fs 0 with
 | none=>
   rw [ho] at h1
   have g3:=getC_put (c':=[Iz 0,Iz 0,Iz 0]) g2
   refine ⟨H1.set (A.length) (.cells 0 [Iz 0,Iz 0,Iz 0]),callW_fnA (c:=s_f27) (k:=1) hT rfl (by decide) s_f27_first ?_,eH1.set (Nat.le_refl _) _⟩
   have xR:loadV (H1.set (A.length) (.cells 0 [Iz 0,Iz 0,Iz 0])) true 3 (.ref (A.length) 0 0)=some (.agg [Iz 0,Iz 0,Iz 0]):=by
    show xLoad _ true 3 _=_
    rw [xo_ref,g3];rfl
   simp only [resP,Iz,bl] at h1 g2 xR
   simp only [Iz,s_f27,a_f27,aa,bl,i64,reduceIte,reduceCtorEq,Nat.reduceEqDiff,Nat.reduceLT,Nat.reduceLeDiff,Nat.reduceBEq,Nat.reduceAdd,fillA,splice,Nat.reduceMul,amY,op_eqP,h1,g2,hb]
   rw [xR]
   rfl
 | some t=>
   obtain ⟨i,b,k⟩:=t
   rw [ho] at h1
   have g3:=getC_put (c':=[Iz i,Iz b,Iz k]) g2
   refine ⟨H1.set (A.length) (.cells 0 [Iz i,Iz b,Iz k]),callW_fnA (c:=s_f27) (k:=1) hT rfl (by decide) s_f27_first ?_,eH1.set (Nat.le_refl _) _⟩
   have xR:loadV (H1.set (A.length) (.cells 0 [Iz i,Iz b,Iz k])) true 3 (.ref (A.length) 0 0)=some (.agg [Iz i,Iz b,Iz k]):=by
    show xLoad _ true 3 _=_
    rw [xo_ref,g3];rfl
   simp only [resP,Iz,bl] at h1 g2 xR
   simp only [Iz,s_f27,a_f27,aa,bl,i64,reduceIte,reduceCtorEq,Nat.reduceEqDiff,Nat.reduceLT,Nat.reduceLeDiff,Nat.reduceBEq,Nat.reduceAdd,fillA,splice,Nat.reduceMul,amY,op_eqP,h1,g2,hb]
   rw [xR]
   rfl
def twG (fs:List FunD) (i:Nat) (f:FunD):Bool:=(fs.take i).any fun g=>decide (g.name=f.name)
def twB (A:Heap) (M:Ob):Heap:=A ++ [Ob.cells 0 [Iz 0,Iz 0,Iz 0]] ++ [M] ++ [Ob.cells 0 [.mp (A.length+1)]]
theorem twiceFunc1_fun (hT:CT k_f44=some (.code s_f44)) (base:Nat) {A A0:Heap} (hb:base≤A.length) {S:ByteArray→Bool} {M:Ob} (hM:SetOf eS S M) {i:Nat} {r:List V} {x:FunD} (hr:RdFun A0 r x) (G:Heap):
 ∃ M' G',callW CT (.fn k_f44 [] [.ref (A.length+2) 0 0]) [Iz i,.agg r] base (twB A M ++ G)=some (bl (S x.name),twB A M' ++ G ++ G')∧SetOf eS (fun l=>S l || decide (l=x.name)) M':=by
 obtain ⟨pv,bv,rfl,q1,q2,q3,hbv⟩:=hr
 have hpo:=q1.one
 have hbo:=hbv.one
 obtain ⟨C,hC⟩:∃ C,twB A M ++ G ++ [Ob.cells 0 [Sb x.name,pv,bv]]=C:=⟨_,rfl⟩
 have hm:C[A.length+1]?=some M:=by rw [← hC];simp [twB]
 have hx:xLoad C false 1 (.ref (A.length+2) 0 0)=some (.mp (A.length+1)):=getC_load (by rw [← hC];simp [twB,getC])
 have hgg:getC C (twB A M ++ G).length 0=some [Sb x.name,pv,bv]:=by rw [← hC];exact getC_new _ 0 _
 have hget:=setOf_get same_str key_str hM x.name hm
 obtain ⟨M',u1,u2⟩:=setOf_put same_str key_str hM x.name (H:=C) (base:=base) (j:=A.length+1) (by omega) hm
 have hset:C.set (A.length+1) M'=twB A M' ++ G ++ [Ob.cells 0 [Sb x.name,pv,bv]]:=by rw [← hC];simp [twB]
 rw [hset] at u1
 refine ⟨M',[Ob.cells 0 [Sb x.name,pv,bv]],callW_fnA (c:=s_f44) (k:=3) hT rfl (by decide) s_f44_first ?_,u2⟩
 try simp only [eS] at hget u1
 simp only [Iz,s_f44,a_f44,aa,bl,i64,reduceIte,reduceCtorEq,Nat.reduceEqDiff,Nat.reduceLT,Nat.reduceLeDiff,Nat.reduceBEq,Nat.reduceAdd,fillA,splice,Nat.reduceMul,amY,op_eqP,op_mapUpd,hpo,hbo,Bool.and_self,hC,hgg,hx,hget,u1]
theorem twiceFunc_fun (hF:CT k_f43=some (.code s_f43)) (hT1:CT k_f44=some (.code s_f44)) (hT:CT k_f24=some (.code s_f24)) (base:Nat) {A:Heap} (hb:base≤A.length) {w sm:Nat} {fv:V} {fs:List FunD} (hc:NC A w sm fv fs):
 ∃ H',callW CT (.fn k_f24 [] []) [.ref w 0 0] base A=some (resP (srch (fuS (twG fs)) fs 0),H')∧Ext A H':=by
 have eB:∀ M,Ext A (twB A M):=fun M=>⟨_,by unfold twB;rw [List.append_assoc,List.append_assoc]⟩
 have lB:∀ M,(twB A M).length=A.length+3:=fun M=>by simp [twB]
 obtain ⟨n,B,G,h1,M1,rfl,hS1⟩:=funcs_fun hF base (A.length+3) (by omega) (Inv:=fun n B=>∃ M,B=twB A M∧SetOf eS (fun l=>(fs.take n).any fun g=>decide (g.name=l)) M) (fun n B hB=>by
  obtain ⟨M,rfl,_⟩:=hB
  exact ⟨lB M,eB M⟩) hc (f:=.fn k_f44 [] [.ref (A.length+2) 0 0]) (P:=twG fs) (fun i x r hi hr B hB G=>by
  obtain ⟨M,rfl,hS⟩:=hB
  obtain ⟨M',G',t1,t2⟩:=twiceFunc1_fun (CT:=CT) hT1 base hb hS (i:=i) hr G
  refine ⟨twB A M',G',t1,M',rfl,t2.congr fun l=>?_⟩
  rw [List.take_add_one,hi,List.any_append]
  simp [eq_comm]) (B0:=twB A (.map [])) ⟨.map [],rfl,by simpa using setOf_nil eS⟩
 obtain ⟨H1,hH1⟩:∃ H1,twB A M1 ++ G=H1:=⟨_,rfl⟩
 rw [hH1] at h1
 have eH1:Ext A H1:=hH1 ▸ (eB M1).trans ⟨G,rfl⟩
 have g2:getC H1 A.length 0=some [Iz 0,Iz 0,Iz 0]:=by rw [← hH1];simp [twB,getC]
 have hl1:=len_snoc A (Ob.cells 0 [Iz 0,Iz 0,Iz 0])
 have hl2:∀ a,(A ++ [Ob.cells 0 [Iz 0,Iz 0,Iz 0]] ++ [a]).length=A.length+2:=fun a=>by simp
 have hb2:base≤A.length+2:=by omega
 have hgg:∀ a c,getC (A ++ [Ob.cells 0 [Iz 0,Iz 0,Iz 0]] ++ [a] ++ [Ob.cells 0 c]) (A.length+2) 0=some c:=fun a c=>by have:=getC_new (A ++ [Ob.cells 0 [Iz 0,Iz 0,Iz 0]] ++ [a]) 0 c;rwa [hl2] at this
 have hss:∀ a c d,(A ++ [Ob.cells 0 [Iz 0,Iz 0,Iz 0]] ++ [a] ++ [c]).set (A.length+2) d=A ++ [Ob.cells 0 [Iz 0,Iz 0,Iz 0]] ++ [a] ++ [d]:=fun a c d=>by have:=set_snoc (A ++ [Ob.cells 0 [Iz 0,Iz 0,Iz 0]] ++ [a]) c d;rwa [hl2] at this
 unfold twB at h1
 simp only [Iz] at hl1 hl2 hgg hss
 cases ho:srch (fuS (twG fs)) fs 0 with
 | none=>
   rw [ho] at h1
   have g3:=getC_put (c':=[Iz 0,Iz 0,Iz 0]) g2
   refine ⟨H1.set (A.length) (.cells 0 [Iz 0,Iz 0,Iz 0]),callW_fnA (c:=s_f24) (k:=1) hT rfl (by decide) s_f24_first ?_,eH1.set (Nat.le_refl _) _⟩
   have xR:loadV (H1.set (A.length) (.cells 0 [Iz 0,Iz 0,Iz 0])) true 3 (.ref (A.length) 0 0)=some (.agg [Iz 0,Iz 0,Iz 0]):=by
    show xLoad _ true 3 _=_
    rw [xo_ref,g3];rfl
   simp only [resP,Iz,bl] at h1 g2 xR
   simp only [Iz,s_f24,a_f24,aa,bl,i64,reduceIte,reduceCtorEq,Nat.reduceEqDiff,Nat.reduceLT,Nat.reduceLeDiff,Nat.reduceBEq,Nat.reduceAdd,fillA,splice,Nat.reduceMul,amY,op_eqP,h1,g2,op_mapNew,xsub_mkFn,hl1,hl2,hgg,hss,hb2,hb]
   rw [xR]
   rfl
 | some t=>
   obtain ⟨i,b,k⟩:=t
   rw [ho] at h1
   have g3:=getC_put (c':=[Iz i,Iz b,Iz k]) g2
   refine ⟨H1.set (A.length) (.cells 0 [Iz i,Iz b,Iz k]),callW_fnA (c:=s_f24) (k:=1) hT rfl (by decide) s_f24_first ?_,eH1.set (Nat.le_refl _) _⟩
   have xR:loadV (H1.set (A.length) (.cells 0 [Iz i,Iz b,Iz k])) true 3 (.ref (A.length) 0 0)=some (.agg [Iz i,Iz b,Iz k]):=by
    show xLoad _ true 3 _=_
    rw [xo_ref,g3];rfl
   simp only [resP,Iz,bl] at h1 g2 xR
   simp only [Iz,s_f24,a_f24,aa,bl,i64,reduceIte,reduceCtorEq,Nat.reduceEqDiff,Nat.reduceLT,Nat.reduceLeDiff,Nat.reduceBEq,Nat.reduceAdd,fillA,splice,Nat.reduceMul,amY,op_eqP,h1,g2,op_mapNew,xsub_mkFn,hl1,hl2,hgg,hss,hb2,hb]
   rw [xR]
   rfl
end
end Go.Proofs.YtamlbkalopefgaaR
set_option maxRecDepth 100000
namespace Go.Proofs.YtamlbkalopefgaaR
open Go.AM
section
variable {CT:Nat→Option CFun}
def arG (fs:List FunD) (x:InsD):Bool:=(x.op == 10 && decide (namedI x.f fs ≥ 0)) && (((fs.getD (namedI x.f fs).toNat fun0).ps.length:Int) != (x.xs.length:Int))
theorem namedI_at {s:ByteArray} {fs:List FunD} (h:namedI s fs ≥ 0):∃ j:Nat,namedI s fs=(j:Int)∧j < fs.length:=by
 unfold namedI idxP at h ⊢
 cases e:fs.findIdx? (fun f=>eqB f.name s) with
 | none=>rw [e] at h;exact absurd h (by decide)
 | some j=>exact ⟨j,rfl,(List.findIdx?_eq_some_iff_getElem.1 e).1⟩
theorem arity1_fun (hT1:CT k_f66=some (.code s_f66)) (hN:CT k_f45=some (.code s_f45)) (hI:CT k_f65=some (.code s_f65)) (hT:CT k_f60=some (.code s_f60)) (base:Nat) {A:Heap} (hb:base≤A.length) {w w1 sm:Nat} {fv:V} {fs:List FunD} (hc:NC A w sm fv fs) (hw:getC A w1 0=some [.ref w 0 0]) {i b k:Nat} {r:List V} {x:InsD} (hr:RdIns A r x) (D:Heap) (hD:Ext A D):
 ∃ D',callW CT (.fn k_f60 [] [.ref w1 0 0]) [.agg [Iz i,Iz b,Iz k],.agg r] base D=some (bl (arG fs x),D')∧Ext D D':=by
 obtain ⟨av,lv,rfl,q1,q2,q3,q4,_⟩:=hr
 have hav:=q1.one
 have hlv:=q3.one
 have hbD:base≤D.length:=by have:=hD.le;omega
 obtain ⟨D1,hD1⟩:∃ D1,D ++ [Ob.cells 0 [Iz i,Iz b,Iz k]] ++ [Ob.cells 0 (insC x av lv)]=D1:=⟨_,rfl⟩
 have e1:Ext D D1:=hD1 ▸ (Ext.app _ _).trans (Ext.app _ _)
 have hw1:=getC_load (getC_ext hw (hD.trans e1))
 have hgg:getC D1 (D.length+1) 0=some (insC x av lv):=by
  have:=getC_new (D ++ [Ob.cells 0 [Iz i,Iz b,Iz k]]) 0 (insC x av lv)
  rwa [len_snoc,hD1] at this
 have hgp:getC D1 D.length 0=some [Iz i,Iz b,Iz k]:=hD1 ▸ getC_ext (getC_new D 0 [Iz i,Iz b,Iz k]) (Ext.app _ _)
 have hl1:=len_snoc D (Ob.cells 0 [Iz i,Iz b,Iz k])
 have hxl:=Sb_len (q1.ext (hD.trans e1))
 have hll:=Sb_len (q3.ext (hD.trans e1))
 have hW:=(hc.ext (hD.trans e1)).load (Ext.refl _)
 obtain ⟨D2,h1,h2⟩:=named_fun hT1 hN hI base (by have:=e1.le;omega) (hc.ext (hD.trans e1)) x.f
 have hgg2:=getC_ext hgg h2
 have hw2:=getC_load (getC_ext hw ((hD.trans e1).trans h2))
 have hW2:=(hc.ext ((hD.trans e1).trans h2)).load (Ext.refl _)
 have hxl2:=Sb_len (q1.ext ((hD.trans e1).trans h2))
 unfold arG
 refine ⟨D2,callW_fnA (c:=s_f60) (k:=3) hT rfl (by decide) s_f60_first ?_,e1.trans h2⟩
 simp only [insC,Iz,bl] at h1 hgg hgg2 hD1 hl1 hxl2
 cases ho:(x.op == 10) with
 | false=>
   simp only [insC,Iz,s_f60,a_f60,aa,bl,i64,reduceIte,reduceCtorEq,Nat.reduceEqDiff,Nat.reduceLT,Nat.reduceLeDiff,Nat.reduceBEq,Nat.reduceAdd,fillA,splice,Nat.reduceMul,amY,op_eqP,hav,hlv,Bool.and_self,hl1,hD1,hgg,hgg2,ho,hw1,h1]
 | true=>
   by_cases hge:namedI x.f fs ≥ 0
   ·obtain ⟨j,hj,hjl⟩:=namedI_at hge
    have hfj:=some_getD hjl fun0
    rw [hj,Int.toNat_natCast]
    rw [hj] at h1
    obtain ⟨f,hfe⟩:∃ f,fs.getD j fun0=f:=⟨_,rfl⟩
    rw [hfe] at hfj ⊢
    obtain ⟨a,r,a1,hr,_,a3⟩:=hc.rd.at2 hfj
    obtain ⟨pv,bv,rfl,p1,p2,p3,hbv⟩:=hr
    obtain ⟨a',b1,b2⟩:=a3 1 pv rfl
    have b3:=b2 D2 ((hD.trans e1).trans h2)
    have hpl:=Sb_len (p1.ext ((hD.trans e1).trans h2))
    have hj0:((j:Int) ≥ 0):=by omega
    simp only [insC,Iz,s_f60,a_f60,aa,bl,i64,reduceIte,reduceCtorEq,Nat.reduceEqDiff,Nat.reduceLT,Nat.reduceLeDiff,Nat.reduceBEq,Nat.reduceAdd,fillA,splice,Nat.reduceMul,amY,op_eqP,hav,hlv,Bool.and_self,hl1,hD1,hgg,hgg2,ho,hw1,hw2,h1,hW2,a1,b1,b3,hpl,hxl2,hj0]
   ·rw [decide_eq_false hge]
    simp only [insC,Iz,s_f60,a_f60,aa,bl,i64,reduceIte,reduceCtorEq,Nat.reduceEqDiff,Nat.reduceLT,Nat.reduceLeDiff,Nat.reduceBEq,Nat.reduceAdd,fillA,splice,Nat.reduceMul,amY,op_eqP,hav,hlv,Bool.and_self,hl1,hD1,hgg,hgg2,ho,hw1,h1,hge]
def hasL (bs:List BlkD) (l:ByteArray):Bool:=bs.any fun b=>eqB b.label l
def nlG (fs:List FunD) (i:Nat) (x:InsD):Bool:=x.ls.any fun l=>!hasL (fs.getD i fun0).blocks l
theorem noLabel111_fun (hT:CT k_f58=some (.code s_f58)) (base:Nat) {H:Heap} (hb:base≤H.length) {id:Nat} {s:ByteArray} (hg:getC H id 0=some [Sb s]) {A:Heap} {r:List V} {x:BlkD} (hr:RdBlk A r x):∃ H',callW CT (.fn k_f58 [] [.ref id 0 0]) [.agg r] base H=some (bl (eqB x.label s),H')∧Ext H H':=by
 obtain ⟨cv,rfl,hcv⟩:=hr
 have hco:=hcv.one
 have e1:Ext H (H ++ [Ob.cells 0 [Sb x.label,cv]]):=Ext.app _ _
 have hx:=getC_load (getC_ext hg e1)
 have hgg:=getC_new H 0 [Sb x.label,cv]
 refine ⟨H ++ [Ob.cells 0 [Sb x.label,cv]],callW_fnA (c:=s_f58) (k:=2) hT rfl (by decide) s_f58_first ?_,e1⟩
 unfold eqB
 simp only [s_f58,a_f58,aa,bl,i64,reduceIte,reduceCtorEq,Nat.reduceEqDiff,Nat.reduceLT,Nat.reduceLeDiff,Nat.reduceBEq,Nat.reduceAdd,fillA,splice,Nat.reduceMul,amY,op_eqP,hco,Bool.and_self,hx,hgg]
theorem noLabel11_fun (hT2:CT k_f58=some (.code s_f58)) (hT:CT k_f56=some (.code s_f56)) (hC:CT k_f57=some (.code s_f57)) (hX:CT k_f69=some (.code s_f69)) (base:Nat) {H:Heap} (hb:base≤H.length) {w w1 p sm:Nat} {fv:V} {fs:List FunD} (hc:NC H w sm fv fs) (hw:getC H w1 0=some [.ref w 0 0]) {i b k:Nat} (hp:getC H p 0=some [Iz i,Iz b,Iz k]) (hi:i < fs.length) (s:ByteArray):
 ∃ H',callW CT (.fn k_f56 [] [.ref w1 0 0,.ref p 0 0]) [Sb s] base H=some (bl (!hasL (fs.getD i fun0).blocks s),H')∧Ext H H':=by
 have e1:Ext H (H ++ [Ob.cells 0 [Sb s]]):=Ext.app _ _
 have hw1:=getC_load (getC_ext hw e1)
 have hp1:=getC_ext hp e1
 have hW:=(hc.ext e1).load (Ext.refl _)
 have hfi:=some_getD hi fun0
 obtain ⟨f,hfe⟩:∃ f,fs.getD i fun0=f:=⟨_,rfl⟩
 rw [hfe] at hfi ⊢
 obtain ⟨a,r,a1,hr,_,a3⟩:=hc.rd.at2 hfi
 obtain ⟨pv,bv,rfl,p1,p2,p3,hbv⟩:=hr
 obtain ⟨a',b1,b2⟩:=a3 2 bv rfl
 have b3:=b2 _ e1
 obtain ⟨H',h1,h2⟩:=conB_fun hC hX base (H ++ [Ob.cells 0 [Sb s]]) (f:=.fn k_f58 [] [.ref H.length 0 0]) (p:=fun b=>eqB b.label s) (rdB_ext hbv e1) (fun i x r _ hr D hD=>noLabel111_fun hT2 base (by have:=hD.le;rw [len_snoc] at this;omega) (getC_ext (getC_new H 0 _) hD) hr) (by have:=hc.sml.nb f (List.mem_of_getElem? hfi);omega)
 refine ⟨H',callW_fnA (c:=s_f56) (k:=3) hT rfl (by decide) s_f56_first ?_,e1.trans h2⟩
 unfold hasL
 simp only [Iz,bl] at h1 hp1
 simp only [Iz,s_f56,a_f56,aa,bl,i64,reduceIte,reduceCtorEq,Nat.reduceEqDiff,Nat.reduceLT,Nat.reduceLeDiff,Nat.reduceBEq,Nat.reduceAdd,fillA,splice,Nat.reduceMul,amY,op_eqP,xsub_mkFn,hw1,hp1,hW,a1,b1,b3,h1]
theorem noLabel1_fun (hT2:CT k_f58=some (.code s_f58)) (hT1:CT k_f56=some (.code s_f56)) (hC:CT k_f57=some (.code s_f57)) (hX:CT k_f69=some (.code s_f69)) (hCS:CT k_f39=some (.code s_f39)) (hXS:CT k_f62=some (.code s_f62)) (hT:CT k_f55=some (.code s_f55)) (base:Nat) {A:Heap} (hb:base≤A.length) {w w1 sm:Nat} {fv:V} {fs:List FunD} (hc:NC A w sm fv fs) (hw:getC A w1 0=some [.ref w 0 0]) {i b k:Nat} {r:List V} {x:InsD} (hr:RdIns A r x) (hi:i < fs.length) (hls:x.ls.length < 2 ^ 20) (D:Heap) (hD:Ext A D):
 ∃ D',callW CT (.fn k_f55 [] [.ref w1 0 0]) [.agg [Iz i,Iz b,Iz k],.agg r] base D=some (bl (nlG fs i x),D')∧Ext D D':=by
 obtain ⟨av,lv,rfl,q1,q2,q3,q4,_⟩:=hr
 have hav:=q1.one
 have hlv:=q3.one
 have hbD:base≤D.length:=by have:=hD.le;omega
 obtain ⟨D1,hD1⟩:∃ D1,D ++ [Ob.cells 0 [Iz i,Iz b,Iz k]] ++ [Ob.cells 0 (insC x av lv)]=D1:=⟨_,rfl⟩
 have e1:Ext D D1:=hD1 ▸ (Ext.app _ _).trans (Ext.app _ _)
 have hw1:=getC_load (getC_ext hw (hD.trans e1))
 have hgg:getC D1 (D.length+1) 0=some (insC x av lv):=by
  have:=getC_new (D ++ [Ob.cells 0 [Iz i,Iz b,Iz k]]) 0 (insC x av lv)
  rwa [len_snoc,hD1] at this
 have hgp:getC D1 D.length 0=some [Iz i,Iz b,Iz k]:=hD1 ▸ getC_ext (getC_new D 0 [Iz i,Iz b,Iz k]) (Ext.app _ _)
 have hl1:=len_snoc D (Ob.cells 0 [Iz i,Iz b,Iz k])
 have hxl:=Sb_len (q1.ext (hD.trans e1))
 have hll:=Sb_len (q3.ext (hD.trans e1))
 have hW:=(hc.ext (hD.trans e1)).load (Ext.refl _)
 obtain ⟨D2,h1,h2⟩:=conS_fun hCS hXS base D1 (f:=.fn k_f56 [] [.ref w1 0 0,.ref D.length 0 0]) (p:=fun l=>!hasL (fs.getD i fun0).blocks l) (q3.ext (hD.trans e1)) q4 (fun s _ E hE=>noLabel11_fun hT2 hT1 hC hX base (by have:=e1.le;have:=hE.le;omega) (hc.ext ((hD.trans e1).trans hE)) (getC_ext hw ((hD.trans e1).trans hE)) (getC_ext hgp hE) hi s) (by omega)
 unfold nlG
 refine ⟨D2,callW_fnA (c:=s_f55) (k:=3) hT rfl (by decide) s_f55_first ?_,e1.trans h2⟩
 simp only [insC,Iz,bl] at h1 hgg hD1 hl1
 simp only [insC,Iz,s_f55,a_f55,aa,bl,i64,reduceIte,reduceCtorEq,Nat.reduceEqDiff,Nat.reduceLT,Nat.reduceLeDiff,Nat.reduceBEq,Nat.reduceAdd,fillA,splice,Nat.reduceMul,amY,op_eqP,xsub_mkFn,hav,hlv,Bool.and_self,hl1,hD1,hgg,h1]
end
end Go.Proofs.YtamlbkalopefgaaR
set_option maxRecDepth 100000
namespace Go.AM
theorem flat_eq {w:Nat}:∀ (E R:List (List V)),E.length=R.length→E.flatten=R.flatten→(∀ r∈R,r.length=w)→(∀ e∈E,w≤e.length)→E=R:=by
 intro E
 induction E with
 | nil=>intro R h _ _ _;exact (List.length_eq_zero_iff.1 h.symm).symm
 | cons e E ih=>
   intro R h1 h2 h3 h4
   cases R with
   | nil=>simp at h1
   | cons r R=>
     simp only [List.length_cons,Nat.add_right_cancel_iff] at h1
     rw [List.flatten_cons,List.flatten_cons] at h2
     have hr:=h3 r List.mem_cons_self
     have he:=h4 e List.mem_cons_self
     have hge:∀ (E:List (List V)),(∀ e∈E,w≤e.length)→E.length * w≤E.flatten.length:=by
      intro E
      induction E with
      | nil=>intro _;simp
      | cons e E ih=>
        intro h
        have:=ih fun x hx=>h x (List.mem_cons_of_mem _ hx)
        have:=h e List.mem_cons_self
        rw [List.flatten_cons,List.length_append,List.length_cons,Nat.add_mul]
        omega
     have hl:=congrArg List.length h2
     have e1:=flat_len R fun x hx=>h3 x (List.mem_cons_of_mem _ hx)
     have e2:=hge E fun x hx=>h4 x (List.mem_cons_of_mem _ hx)
     rw [List.length_append,List.length_append,e1,← h1] at hl
     obtain ⟨a,b⟩:=List.append_inj h2 (by omega)
     rw [a,ih R h1 b (fun x hx=>h3 x (List.mem_cons_of_mem _ hx)) fun x hx=>h4 x (List.mem_cons_of_mem _ hx)]
theorem flat_take {w:Nat} {R:List (List V)} (hR:∀ r∈R,r.length=w) {k:Nat} (hk:k≤R.length):R.flatten.take (k * w)=(R.take k).flatten:=by
 have e1:R.flatten=(R.take k).flatten ++ (R.drop k).flatten:=by rw [← List.flatten_append,List.take_append_drop]
 have e2:=flat_len (R.take k) fun r hr=>hR r (List.mem_of_mem_take hr)
 rw [List.length_take,Nat.min_eq_left hk] at e2
 rw [e1,List.take_left' e2]
theorem RdW.cut {w:Nat} {H:Heap} {v:V} {R:List (List V)} (h:RdW w H v R) (hw:w≠1) (hR:∀ r∈R,r.length=w) {k:Nat} (hk:k≤R.length):∃ v',xSlice w v none (some (.s (.int .i64 k)))=some v'∧RdW w H v' (R.take k):=by
 have he:=h.el
 have hat:=h.at'
 have hmin:(R.take k).length=k:=by rw [List.length_take,Nat.min_eq_left hk]
 have i4:(0:Int)≤(0:Int)∧(0:Int)≤k∧(k:Int)≤R.length∧w=w:=⟨by omega,by omega,by omega,rfl⟩
 have i5:((k:Int) - 0).toNat=k:=by omega
 have ht:∀ (i:Nat) (r:List V),(R.take k)[i]?=some r→i < k∧R[i]?=some r:=fun i r h=>by
  rw [List.getElem?_take] at h
  split at h
  ·exact ⟨by assumption,h⟩
  ·cases h
 unfold elems at he
 split at he
 ·have e0:R.length=0:=(Prod.mk.inj (Option.some.inj he)).1.symm
  obtain rfl:=List.length_eq_zero_iff.1 e0
  have hk0:k=0:=Nat.le_zero.1 hk
  subst hk0
  exact ⟨_,rfl,RdW.nil w H⟩
 ·rw [if_neg hw] at he
  cases he
 ·have e0:R.length=0:=(Prod.mk.inj (Option.some.inj he)).1.symm
  obtain rfl:=List.length_eq_zero_iff.1 e0
  have hk0:k=0:=Nat.le_zero.1 hk
  subst hk0
  exact ⟨_,rfl,rfl,rfl,rfl,fun i r h=>by simp at h⟩
 ·rename_i es z
  split at he
  ·rename_i ez
   subst ez
   obtain ⟨e1,e2⟩:=Prod.mk.inj (Option.some.inj he)
   have eR:es=R:=flat_eq es R e1 e2 hR fun e hm=>by
    obtain ⟨i,hi,rfl⟩:=List.getElem_of_mem hm
    obtain ⟨a,a1,a2,_⟩:=hat i (R[i]'(by omega)) (List.getElem?_eq_getElem (by omega))
    rw [xi_psl,if_pos ⟨by omega,rfl⟩,Int.toNat_natCast,List.getElem?_eq_getElem hi] at a1
    cases a1
    rw [xo_pref] at a2
    split at a2
    ·rename_i hl
     rw [List.length_take] at hl
     omega
    ·cases a2
   subst eR
   have hRt:∀ r∈es.take k,r.length=z:=fun r hr=>hR r (List.mem_of_mem_take hr)
   refine ⟨.psl (es.take k) z,?_,RdW.psl H hRt⟩
   simp only [xslice_psl,bndV_none,bndV_int,cutPsl_some,cast0,i4,i5,and_self,if_true,Int.toNat_zero,List.drop_zero]
  ·cases he
 ·rename_i id g off len z
  split at he
  ·rename_i ez
   subst ez
   split at he
   ·rename_i c hc
    simp only at he
    split at he
    ·rename_i hl
     obtain ⟨e1,e2⟩:=Prod.mk.inj (Option.some.inj he)
     subst e1
     refine ⟨.sl id g off k z,?_,?_,?_,rfl,?_⟩
     ·simp only [xslice_sl,bndV_none,bndV_int,cutSl_some,cast0,i4,i5,and_self,if_true,Int.toNat_zero,Nat.zero_mul,Nat.add_zero]
     ·have ec:(c.drop off).take (k * z)=(R.take k).flatten:=by
       rw [← flat_take hR hk,← e2,List.take_take,Nat.min_eq_left (Nat.mul_le_mul_right z hk)]
      have el:=flat_len (R.take k) fun r hr=>hR r (List.mem_of_mem_take hr)
      rw [hmin] at el
      simp only [elems,if_true,hc,ec,el,hmin]
     ·rw [hmin];rfl
     ·intro i r hir
      obtain ⟨h1,h2⟩:=ht i r hir
      obtain ⟨a,a1,a2,a3⟩:=hat i r h2
      rw [xi_sl,if_pos ⟨by omega,by omega,rfl⟩] at a1
      exact ⟨a,by rw [xi_sl,if_pos ⟨by omega,by omega,rfl⟩];exact a1,a2,a3⟩
    ·cases he
   ·cases he
  ·cases he
 ·cases he
end Go.AM
set_option maxRecDepth 100000
namespace Go.Proofs.YtamlbkalopefgaaR
open Go.AM
theorem rdI_cut {H:Heap} {v:V} {l:List InsD} (h:RdL 8 RdIns H v l) {k:Nat} (hk:k≤l.length):∃ v',xSlice 8 v none (some (.s (.int .i64 k)))=some v'∧RdL 8 RdIns H v' (l.take k):=by
 obtain ⟨R,h1,h2,h3,h4⟩:=h
 have hR:∀ r∈R,r.length=8:=fun r hr=>by
  obtain ⟨i,hi,rfl⟩:=List.getElem_of_mem hr
  obtain ⟨r,r1,av,lv,r2,_⟩:=h4 i (l[i]'(by omega)) (List.getElem?_eq_getElem (by omega))
  rw [List.getElem?_eq_getElem hi] at r1
  rw [Option.some.inj r1,r2];rfl
 obtain ⟨v',e1,e2⟩:=h1.cut (by decide) hR (k:=k) (by omega)
 refine ⟨v',e1,R.take k,e2,by rw [List.length_take,List.length_take,h2],by rw [List.length_take];omega,fun i x hx=>?_⟩
 rw [List.getElem?_take] at hx
 split at hx
 ·rename_i hik
  obtain ⟨r,r1,r2⟩:=h4 i x hx
  exact ⟨r,by rw [List.getElem?_take,if_pos hik];exact r1,r2⟩
 ·cases hx
section
variable {CT:Nat→Option CFun}
def bpG (fs:List FunD) (i b k:Nat) (x:InsD):Bool:=x.op == 6 && ((b:Int) == 0 || (((fs.getD i fun0).blocks.getD b blk0).code.take k).any fun z=>z.op != 6)
theorem badPhi11_fun (hT:CT k_f54=some (.code s_f54)) (base:Nat) {H:Heap} (hb:base≤H.length) {A:Heap} {r:List V} {x:InsD} (hr:RdIns A r x):∃ H',callW CT (.fn k_f54 [] []) [.agg r] base H=some (bl (x.op != 6),H')∧Ext H H':=by
 obtain ⟨av,lv,rfl,q1,q2,q3,q4,_⟩:=hr
 have hav:=q1.one
 have hlv:=q3.one
 have hgg:=getC_new H 0 (insC x av lv)
 refine ⟨H ++ [Ob.cells 0 (insC x av lv)],callW_fnA (c:=s_f54) (k:=1) hT rfl (by decide) s_f54_first ?_,Ext.app _ _⟩
 simp only [insC] at hgg
 simp only [insC,s_f54,a_f54,aa,bl,i64,reduceIte,reduceCtorEq,Nat.reduceEqDiff,Nat.reduceLT,Nat.reduceLeDiff,Nat.reduceBEq,Nat.reduceAdd,fillA,splice,Nat.reduceMul,amY,op_eqP,hav,hlv,Bool.and_self,hgg]
theorem badPhi1_fun (hT1:CT k_f54=some (.code s_f54)) (hC:CT k_f53=some (.code s_f53)) (hX:CT k_f68=some (.code s_f68)) (hT:CT k_f52=some (.code s_f52)) (base:Nat) {A:Heap} (hb:base≤A.length) {w w1 sm:Nat} {fv:V} {fs:List FunD} (hc:NC A w sm fv fs) (hw:getC A w1 0=some [.ref w 0 0]) {i b k:Nat} {r:List V} {x:InsD} (hr:RdIns A r x) {f:FunD} {bk:BlkD} (hi:fs[i]?=some f) (hbk:f.blocks[b]?=some bk) (hk:k≤bk.code.length) (D:Heap) (hD:Ext A D):
 ∃ D',callW CT (.fn k_f52 [] [.ref w1 0 0]) [.agg [Iz i,Iz b,Iz k],.agg r] base D=some (bl (bpG fs i b k x),D')∧Ext D D':=by
 obtain ⟨av,lv,rfl,q1,q2,q3,q4,_⟩:=hr
 have hav:=q1.one
 have hlv:=q3.one
 have hbD:base≤D.length:=by have:=hD.le;omega
 obtain ⟨D1,hD1⟩:∃ D1,D ++ [Ob.cells 0 [Iz i,Iz b,Iz k]] ++ [Ob.cells 0 (insC x av lv)]=D1:=⟨_,rfl⟩
 have e1:Ext D D1:=hD1 ▸ (Ext.app _ _).trans (Ext.app _ _)
 have hw1:=getC_load (getC_ext hw (hD.trans e1))
 have hgg:getC D1 (D.length+1) 0=some (insC x av lv):=by
  have:=getC_new (D ++ [Ob.cells 0 [Iz i,Iz b,Iz k]]) 0 (insC x av lv)
  rwa [len_snoc,hD1] at this
 have hgp:getC D1 D.length 0=some [Iz i,Iz b,Iz k]:=hD1 ▸ getC_ext (getC_new D 0 [Iz i,Iz b,Iz k]) (Ext.app _ _)
 have hl1:=len_snoc D (Ob.cells 0 [Iz i,Iz b,Iz k])
 have hxl:=Sb_len (q1.ext (hD.trans e1))
 have hll:=Sb_len (q3.ext (hD.trans e1))
 have hW:=(hc.ext (hD.trans e1)).load (Ext.refl _)
 have eAD:=hD.trans e1
 obtain ⟨a,r,a1,hr,_,a3⟩:=hc.rd.at2 hi
 obtain ⟨pv,bv,rfl,p1,p2,p3,hbv⟩:=hr
 obtain ⟨a',b1,b2⟩:=a3 2 bv rfl
 have b3:=b2 D1 eAD
 obtain ⟨c,rc,c1,hrc,_,c3⟩:=hbv.at2 hbk
 obtain ⟨cv,rfl,hcv⟩:=hrc
 obtain ⟨c',d1,d2⟩:=c3 1 cv rfl
 have d3:=d2 D1 eAD
 obtain ⟨sv,s1,s2⟩:=rdI_cut hcv hk
 have hcl:=hc.sml.nc f (List.mem_of_getElem? hi) bk (List.mem_of_getElem? hbk)
 obtain ⟨D2,h1,h2⟩:=conI_fun hC hX base D1 (f:=.fn k_f54 [] []) (p:=fun z=>z.op != 6) (rdI_ext s2 eAD) (fun j z r _ hr E hE=>badPhi11_fun hT1 base (by have:=e1.le;have:=hE.le;omega) hr) (by rw [List.length_take];omega)
 unfold bpG
 rw [show fs.getD i fun0=f by rw [List.getD,hi];rfl,show f.blocks.getD b blk0=bk by rw [List.getD,hbk];rfl]
 simp only [insC,Iz,bl] at h1 hgg hgp hD1 hl1
 cases ho:(x.op == 6) with
 | false=>
   refine ⟨D1,callW_fnA (c:=s_f52) (k:=3) hT rfl (by decide) s_f52_first ?_,e1⟩
   simp only [insC,Iz,s_f52,a_f52,aa,bl,i64,reduceIte,reduceCtorEq,Nat.reduceEqDiff,Nat.reduceLT,Nat.reduceLeDiff,Nat.reduceBEq,Nat.reduceAdd,fillA,splice,Nat.reduceMul,amY,op_eqP,hav,hlv,Bool.and_self,hl1,hD1,hgg,hgp,hw1,hW,a1,b1,b3,c1,d1,d3,s1,ho]
 | true=>
   cases hb0:((b:Int) == 0) with
   | true=>
     refine ⟨D1,callW_fnA (c:=s_f52) (k:=3) hT rfl (by decide) s_f52_first ?_,e1⟩
     simp only [insC,Iz,s_f52,a_f52,aa,bl,i64,reduceIte,reduceCtorEq,Nat.reduceEqDiff,Nat.reduceLT,Nat.reduceLeDiff,Nat.reduceBEq,Nat.reduceAdd,fillA,splice,Nat.reduceMul,amY,op_eqP,hav,hlv,Bool.and_self,hl1,hD1,hgg,hgp,hw1,hW,a1,b1,b3,c1,d1,d3,s1,ho,hb0]
   | false=>
     refine ⟨D2,callW_fnA (c:=s_f52) (k:=3) hT rfl (by decide) s_f52_first ?_,e1.trans h2⟩
     simp only [insC,Iz,s_f52,a_f52,aa,bl,i64,reduceIte,reduceCtorEq,Nat.reduceEqDiff,Nat.reduceLT,Nat.reduceLeDiff,Nat.reduceBEq,Nat.reduceAdd,fillA,splice,Nat.reduceMul,amY,op_eqP,hav,hlv,Bool.and_self,hl1,hD1,hgg,hgp,hw1,hW,a1,b1,b3,c1,d1,d3,s1,ho,hb0,h1]
end
end Go.Proofs.YtamlbkalopefgaaR
set_option maxRecDepth 100000
namespace Go.Proofs.YtamlbkalopefgaaR
open Go.AM
def bi1 (x:InsD):Bool:=!(lookI shT x.op).isSome || !(shp x.op).d && !x.d.data.toList == [] || !(shp x.op).a && !x.a.data.toList == [] || !(shp x.op).b && !x.b.data.toList == [] || !(shp x.op).k && x.k != 0 || !(shp x.op).f && !x.f.data.toList == [] || !(shp x.op).xs && decide ((x.xs.length:Int) > 0) || !(shp x.op).ls && decide ((x.ls.length:Int) > 0)
def bi2 (x:InsD):Bool:=(shp x.op).d && x.d.data.toList == [] && !(x.op == 10 || x.op == 11) || (shp x.op).a && x.a.data.toList == [] && x.op != 14 || (shp x.op).b && x.b.data.toList == [] || (shp x.op).f && x.f.data.toList == []
def bi3 (x:InsD):Bool:=bif x.op == 1 || x.op == 2 then decide (x.k < 1) || decide (x.k > 64) else bif x.op == 7 then decide (x.k < 0) || decide (x.k ≥ 64) else bif x.op == 6 then (x.xs.length:Int) == 0 || (x.xs.length:Int) != (x.ls.length:Int) else bif x.op == 12 then (x.ls.length:Int) != 2 else bif x.op == 13 then (x.ls.length:Int) != 1 else false
def biG (x:InsD):Bool:=bi1 x || (bi2 x || bi3 x)
section
variable {CT:Nat→Option CFun}
theorem badInstr1_fun (hCl:CT k_f46=some (.code s_f46)) (hT:CT k_f50=some (.code s_f50)) (base:Nat) {A:Heap} (hb:base≤A.length) {w w1 sm:Nat} {fv:V} {fs:List FunD} (hc:NC A w sm fv fs) (hw:getC A w1 0=some [.ref w 0 0]) {i b k:Nat} {r:List V} {x:InsD} (hr:RdIns A r x) (D:Heap) (hD:Ext A D):
 ∃ D',callW CT (.fn k_f50 [] [.ref w1 0 0]) [.agg [Iz i,Iz b,Iz k],.agg r] base D=some (bl (biG x),D')∧Ext D D':=by
 obtain ⟨av,lv,rfl,q1,q2,q3,q4,_⟩:=hr
 have hav:=q1.one
 have hlv:=q3.one
 have hbD:base≤D.length:=by have:=hD.le;omega
 obtain ⟨D1,hD1⟩:∃ D1,D ++ [Ob.cells 0 [Iz i,Iz b,Iz k]] ++ [Ob.cells 0 (insC x av lv)]=D1:=⟨_,rfl⟩
 have e1:Ext D D1:=hD1 ▸ (Ext.app _ _).trans (Ext.app _ _)
 have hw1:=getC_load (getC_ext hw (hD.trans e1))
 have hgg:getC D1 (D.length+1) 0=some (insC x av lv):=by
  have:=getC_new (D ++ [Ob.cells 0 [Iz i,Iz b,Iz k]]) 0 (insC x av lv)
  rwa [len_snoc,hD1] at this
 have hgp:getC D1 D.length 0=some [Iz i,Iz b,Iz k]:=hD1 ▸ getC_ext (getC_new D 0 [Iz i,Iz b,Iz k]) (Ext.app _ _)
 have hl1:=len_snoc D (Ob.cells 0 [Iz i,Iz b,Iz k])
 have hxl:=Sb_len (q1.ext (hD.trans e1))
 have hll:=Sb_len (q3.ext (hD.trans e1))
 have hW:=(hc.ext (hD.trans e1)).load (Ext.refl _)
 have hws:=(getC_ext hc.gw (hD.trans e1))
 have hmp:xLoad D1 false 1 (.ref w 0 1)=some (.mp sm):=by rw [xo_ref,hws];rfl
 have hmg:=get_I .u8 (Ext.at' (hD.trans e1) hc.sh) (.agg (ShD.c ⟨false,false,false,false,false,false,false⟩)) true x.op
 rw [if_pos rfl,shT_get] at hmg
 have hl2:D1.length=D.length+2:=by rw [← hD1,len_snoc,len_snoc]
 have hbD1:base≤D.length+2:=by omega
 have hgg2:=getC_ext hgg (Ext.app D1 [Ob.cells 0 (shp x.op).c])
 have hgs:=getC_new D1 0 (shp x.op).c
 have hss:∀ c d,(D1 ++ [c]).set D1.length d=D1 ++ [d]:=fun c d=>set_snoc D1 c d
 have hgz:∀ c,getC (D1 ++ [Ob.cells 0 c]) D1.length 0=some c:=fun c=>getC_new D1 0 c
 rw [hl2] at hgs hss hgz
 have e2:Ext D (D1 ++ [Ob.cells 0 (shp x.op).c]):=e1.trans (Ext.app _ _)
 have hxl2:=Sb_len (q1.ext (hD.trans e2))
 have hll2:=Sb_len (q3.ext (hD.trans e2))
 have hcal:=fun E=>calls_fun hCl base E x.op
 refine ⟨D1 ++ [Ob.cells 0 (shp x.op).c],callW_fnA (c:=s_f50) (k:=3) hT rfl (by decide) s_f50_first ?_,e2⟩
 simp only [insC,Iz,bl,ShD.c] at hgg hgg2 hgs hD1 hl1 hmg hcal hgz hss hxl2 hll2
 unfold biG
 cases hd:((shp x.op).d && x.d.data.toList == []) with
 | true=>
   simp only [insC,Iz,ShD.c,s_f50,a_f50,aa,bl,i64,reduceIte,reduceCtorEq,Nat.reduceEqDiff,Nat.reduceLT,Nat.reduceLeDiff,Nat.reduceBEq,Nat.reduceAdd,fillA,splice,Nat.reduceMul,amY,op_eqP,hav,hlv,Bool.and_self,hl1,hD1,hl2,hgg,hgg2,hgs,hw1,hmp,hmg,hbD1,hss,hgz,hcal,hxl2,hll2,hd]
   cases e1:bi1 x with
   | true=>
     unfold bi1 at e1
     simp only [e1,cond_true,Bool.true_or]
   | false=>
     unfold bi1 at e1
     simp only [e1,cond_false,Bool.false_or]
     cases e2:bi2 x with
     | true=>
       unfold bi2 at e2
       rw [hd] at e2
       simp only [Bool.false_and,Bool.false_or,Bool.true_and] at e2
       simp only [e2,cond_true,cond_false,Bool.true_or,Bool.false_and,Bool.false_or,Bool.true_and]
     | false=>
       unfold bi2 at e2
       rw [hd] at e2
       simp only [Bool.false_and,Bool.false_or,Bool.true_and] at e2
       simp only [e2,cond_true,cond_false,Bool.false_or,Bool.false_and,Bool.true_and]
       unfold bi3
       cases o1:(x.op == 1) <;> cases o2:(x.op == 2) <;> cases o7:(x.op == 7) <;> cases o6:(x.op == 6) <;> cases o12:(x.op == 12) <;> cases o13:(x.op == 13) <;> simp only [cond_true,cond_false,Bool.true_or,Bool.false_or,Bool.or_true,Bool.or_false]
 | false=>
   simp only [insC,Iz,ShD.c,s_f50,a_f50,aa,bl,i64,reduceIte,reduceCtorEq,Nat.reduceEqDiff,Nat.reduceLT,Nat.reduceLeDiff,Nat.reduceBEq,Nat.reduceAdd,fillA,splice,Nat.reduceMul,amY,op_eqP,hav,hlv,Bool.and_self,hl1,hD1,hl2,hgg,hgg2,hgs,hw1,hmp,hmg,hbD1,hss,hgz,hcal,hxl2,hll2,hd]
   cases e1:bi1 x with
   | true=>
     unfold bi1 at e1
     simp only [e1,cond_true,Bool.true_or]
   | false=>
     unfold bi1 at e1
     simp only [e1,cond_false,Bool.false_or]
     cases e2:bi2 x with
     | true=>
       unfold bi2 at e2
       rw [hd] at e2
       simp only [Bool.false_and,Bool.false_or,Bool.true_and] at e2
       simp only [e2,cond_true,cond_false,Bool.true_or,Bool.false_and,Bool.false_or,Bool.true_and]
     | false=>
       unfold bi2 at e2
       rw [hd] at e2
       simp only [Bool.false_and,Bool.false_or,Bool.true_and] at e2
       simp only [e2,cond_true,cond_false,Bool.false_or,Bool.false_and,Bool.true_and]
       unfold bi3
       cases o1:(x.op == 1) <;> cases o2:(x.op == 2) <;> cases o7:(x.op == 7) <;> cases o6:(x.op == 6) <;> cases o12:(x.op == 12) <;> cases o13:(x.op == 13) <;> simp only [cond_true,cond_false,Bool.true_or,Bool.false_or,Bool.or_true,Bool.or_false]
end
end Go.Proofs.YtamlbkalopefgaaR
set_option maxRecDepth 100000
namespace Go.Proofs.YtamlbkalopefgaaR
open Go.AM
section
variable {CT:Nat→Option CFun}
theorem noFunc_fun (hF:FindT CT) (hN1:CT k_f66=some (.code s_f66)) (hN:CT k_f45=some (.code s_f45)) (hI:CT k_f65=some (.code s_f65)) (hT1:CT k_f59=some (.code s_f59)) (hT:CT k_f34=some (.code s_f34)) (base:Nat) {A:Heap} (hb:base≤A.length) {w sm:Nat} {fv:V} {fs:List FunD} (hc:NC A w sm fv fs):
 ∃ H',callW CT (.fn k_f34 [] []) [.ref w 0 0] base A=some (resP (gSrch (fun _=>fun _ _ _ x=>nfG fs x) fs),H')∧Ext A H':=by
 have e1:Ext A (A ++ [Ob.cells 0 [.ref w 0 0]]):=Ext.app _ _
 have e2:Ext (A ++ [Ob.cells 0 [.ref w 0 0]]) (A ++ [Ob.cells 0 [.ref w 0 0]] ++ [Ob.cells 0 [Iz 0,Iz 0,Iz 0]]):=Ext.app _ _
 have hw:getC (A ++ [Ob.cells 0 [.ref w 0 0]] ++ [Ob.cells 0 [Iz 0,Iz 0,Iz 0]]) A.length 0=some [.ref w 0 0]:=getC_ext (getC_new A 0 _) e2
 have hl:=len_snoc A (Ob.cells 0 [.ref w 0 0])
 have hb1:base≤A.length+1:=by omega
 have hb2:base≤(A ++ [Ob.cells 0 [.ref w 0 0]] ++ [Ob.cells 0 [Iz 0,Iz 0,Iz 0]]).length:=by rw [len_snoc,len_snoc];omega
 obtain ⟨H1,h1,h2⟩:=find_pure hF base hb2 (hc.ext (e1.trans e2)) (f:=.fn k_f59 [] [.ref A.length 0 0]) rfl (g:=fun _ _ _ x=>nfG fs x) (fun i f1 hi b x hx k z r hz hr D hD=>noFunc1_fun hN1 hN hI hT1 base hb2 (hc.ext (e1.trans e2)) hw hr D hD)
 have g2:getC H1 (A.length+1) 0=some [Iz 0,Iz 0,Iz 0]:=by
  have:=getC_new (A ++ [Ob.cells 0 [.ref w 0 0]]) 0 [Iz 0,Iz 0,Iz 0]
  rw [len_snoc] at this
  exact getC_ext this h2
 have hwx:=getC_load hw
 cases ho:gSrch (fun _=>fun _ _ _ x=>nfG fs x) fs with
 | none=>
   rw [ho] at h1
   have g3:=getC_put (c':=[Iz 0,Iz 0,Iz 0]) g2
   refine ⟨H1.set (A.length+1) (.cells 0 [Iz 0,Iz 0,Iz 0]),callW_fnA (c:=s_f34) (k:=1) hT rfl (by decide) s_f34_first ?_,((e1.trans e2).trans h2).set (Nat.le_succ _) _⟩
   have xR:loadV (H1.set (A.length+1) (.cells 0 [Iz 0,Iz 0,Iz 0])) true 3 (.ref (A.length+1) 0 0)=some (.agg [Iz 0,Iz 0,Iz 0]):=by
    show xLoad _ true 3 _=_
    rw [xo_ref,g3];rfl
   simp only [resP,Iz,bl] at h1 g2 xR
   simp only [Iz,s_f34,a_f34,aa,bl,i64,reduceIte,reduceCtorEq,Nat.reduceEqDiff,Nat.reduceLT,Nat.reduceLeDiff,Nat.reduceBEq,Nat.reduceAdd,fillA,splice,Nat.reduceMul,amY,op_eqP,xsub_mkFn,hl,hwx,h1,g2,hb1]
   rw [xR]
   rfl
 | some t=>
   obtain ⟨i,b,k⟩:=t
   rw [ho] at h1
   have g3:=getC_put (c':=[Iz i,Iz b,Iz k]) g2
   refine ⟨H1.set (A.length+1) (.cells 0 [Iz i,Iz b,Iz k]),callW_fnA (c:=s_f34) (k:=1) hT rfl (by decide) s_f34_first ?_,((e1.trans e2).trans h2).set (Nat.le_succ _) _⟩
   have xR:loadV (H1.set (A.length+1) (.cells 0 [Iz i,Iz b,Iz k])) true 3 (.ref (A.length+1) 0 0)=some (.agg [Iz i,Iz b,Iz k]):=by
    show xLoad _ true 3 _=_
    rw [xo_ref,g3];rfl
   simp only [resP,Iz,bl] at h1 g2 xR
   simp only [Iz,s_f34,a_f34,aa,bl,i64,reduceIte,reduceCtorEq,Nat.reduceEqDiff,Nat.reduceLT,Nat.reduceLeDiff,Nat.reduceBEq,Nat.reduceAdd,fillA,splice,Nat.reduceMul,amY,op_eqP,xsub_mkFn,hl,hwx,h1,g2,hb1]
   rw [xR]
   rfl
theorem arity_fun (hF:FindT CT) (hN1:CT k_f66=some (.code s_f66)) (hN:CT k_f45=some (.code s_f45)) (hI:CT k_f65=some (.code s_f65)) (hT1:CT k_f60=some (.code s_f60)) (hT:CT k_f35=some (.code s_f35)) (base:Nat) {A:Heap} (hb:base≤A.length) {w sm:Nat} {fv:V} {fs:List FunD} (hc:NC A w sm fv fs):
 ∃ H',callW CT (.fn k_f35 [] []) [.ref w 0 0] base A=some (resP (gSrch (fun _=>fun _ _ _ x=>arG fs x) fs),H')∧Ext A H':=by
 have e1:Ext A (A ++ [Ob.cells 0 [.ref w 0 0]]):=Ext.app _ _
 have e2:Ext (A ++ [Ob.cells 0 [.ref w 0 0]]) (A ++ [Ob.cells 0 [.ref w 0 0]] ++ [Ob.cells 0 [Iz 0,Iz 0,Iz 0]]):=Ext.app _ _
 have hw:getC (A ++ [Ob.cells 0 [.ref w 0 0]] ++ [Ob.cells 0 [Iz 0,Iz 0,Iz 0]]) A.length 0=some [.ref w 0 0]:=getC_ext (getC_new A 0 _) e2
 have hl:=len_snoc A (Ob.cells 0 [.ref w 0 0])
 have hb1:base≤A.length+1:=by omega
 have hb2:base≤(A ++ [Ob.cells 0 [.ref w 0 0]] ++ [Ob.cells 0 [Iz 0,Iz 0,Iz 0]]).length:=by rw [len_snoc,len_snoc];omega
 obtain ⟨H1,h1,h2⟩:=find_pure hF base hb2 (hc.ext (e1.trans e2)) (f:=.fn k_f60 [] [.ref A.length 0 0]) rfl (g:=fun _ _ _ x=>arG fs x) (fun i f1 hi b x hx k z r hz hr D hD=>arity1_fun hN1 hN hI hT1 base hb2 (hc.ext (e1.trans e2)) hw hr D hD)
 have g2:getC H1 (A.length+1) 0=some [Iz 0,Iz 0,Iz 0]:=by
  have:=getC_new (A ++ [Ob.cells 0 [.ref w 0 0]]) 0 [Iz 0,Iz 0,Iz 0]
  rw [len_snoc] at this
  exact getC_ext this h2
 have hwx:=getC_load hw
 cases ho:gSrch (fun _=>fun _ _ _ x=>arG fs x) fs with
 | none=>
   rw [ho] at h1
   have g3:=getC_put (c':=[Iz 0,Iz 0,Iz 0]) g2
   refine ⟨H1.set (A.length+1) (.cells 0 [Iz 0,Iz 0,Iz 0]),callW_fnA (c:=s_f35) (k:=1) hT rfl (by decide) s_f35_first ?_,((e1.trans e2).trans h2).set (Nat.le_succ _) _⟩
   have xR:loadV (H1.set (A.length+1) (.cells 0 [Iz 0,Iz 0,Iz 0])) true 3 (.ref (A.length+1) 0 0)=some (.agg [Iz 0,Iz 0,Iz 0]):=by
    show xLoad _ true 3 _=_
    rw [xo_ref,g3];rfl
   simp only [resP,Iz,bl] at h1 g2 xR
   simp only [Iz,s_f35,a_f35,aa,bl,i64,reduceIte,reduceCtorEq,Nat.reduceEqDiff,Nat.reduceLT,Nat.reduceLeDiff,Nat.reduceBEq,Nat.reduceAdd,fillA,splice,Nat.reduceMul,amY,op_eqP,xsub_mkFn,hl,hwx,h1,g2,hb1]
   rw [xR]
   rfl
 | some t=>
   obtain ⟨i,b,k⟩:=t
   rw [ho] at h1
   have g3:=getC_put (c':=[Iz i,Iz b,Iz k]) g2
   refine ⟨H1.set (A.length+1) (.cells 0 [Iz i,Iz b,Iz k]),callW_fnA (c:=s_f35) (k:=1) hT rfl (by decide) s_f35_first ?_,((e1.trans e2).trans h2).set (Nat.le_succ _) _⟩
   have xR:loadV (H1.set (A.length+1) (.cells 0 [Iz i,Iz b,Iz k])) true 3 (.ref (A.length+1) 0 0)=some (.agg [Iz i,Iz b,Iz k]):=by
    show xLoad _ true 3 _=_
    rw [xo_ref,g3];rfl
   simp only [resP,Iz,bl] at h1 g2 xR
   simp only [Iz,s_f35,a_f35,aa,bl,i64,reduceIte,reduceCtorEq,Nat.reduceEqDiff,Nat.reduceLT,Nat.reduceLeDiff,Nat.reduceBEq,Nat.reduceAdd,fillA,splice,Nat.reduceMul,amY,op_eqP,xsub_mkFn,hl,hwx,h1,g2,hb1]
   rw [xR]
   rfl
theorem noLabel_fun (hF:FindT CT) (hL3:CT k_f58=some (.code s_f58)) (hL2:CT k_f56=some (.code s_f56)) (hC:CT k_f57=some (.code s_f57)) (hX:CT k_f69=some (.code s_f69)) (hCS:CT k_f39=some (.code s_f39)) (hXS:CT k_f62=some (.code s_f62)) (hT1:CT k_f55=some (.code s_f55)) (hT:CT k_f33=some (.code s_f33)) (base:Nat) {A:Heap} (hb:base≤A.length) {w sm:Nat} {fv:V} {fs:List FunD} (hc:NC A w sm fv fs):
 ∃ H',callW CT (.fn k_f33 [] []) [.ref w 0 0] base A=some (resP (gSrch (fun _=>fun i _ _ x=>nlG fs i x) fs),H')∧Ext A H':=by
 have e1:Ext A (A ++ [Ob.cells 0 [.ref w 0 0]]):=Ext.app _ _
 have e2:Ext (A ++ [Ob.cells 0 [.ref w 0 0]]) (A ++ [Ob.cells 0 [.ref w 0 0]] ++ [Ob.cells 0 [Iz 0,Iz 0,Iz 0]]):=Ext.app _ _
 have hw:getC (A ++ [Ob.cells 0 [.ref w 0 0]] ++ [Ob.cells 0 [Iz 0,Iz 0,Iz 0]]) A.length 0=some [.ref w 0 0]:=getC_ext (getC_new A 0 _) e2
 have hl:=len_snoc A (Ob.cells 0 [.ref w 0 0])
 have hb1:base≤A.length+1:=by omega
 have hb2:base≤(A ++ [Ob.cells 0 [.ref w 0 0]] ++ [Ob.cells 0 [Iz 0,Iz 0,Iz 0]]).length:=by rw [len_snoc,len_snoc];omega
 obtain ⟨H1,h1,h2⟩:=find_pure hF base hb2 (hc.ext (e1.trans e2)) (f:=.fn k_f55 [] [.ref A.length 0 0]) rfl (g:=fun i _ _ x=>nlG fs i x) (fun i f1 hi b x hx k z r hz hr D hD=>noLabel1_fun hL3 hL2 hC hX hCS hXS hT1 base hb2 (hc.ext (e1.trans e2)) hw hr (List.getElem?_eq_some_iff.1 hi).1 (hc.sml.ls f1 (List.mem_of_getElem? hi) x (List.mem_of_getElem? hx) z (List.mem_of_getElem? hz)) D hD)
 have g2:getC H1 (A.length+1) 0=some [Iz 0,Iz 0,Iz 0]:=by
  have:=getC_new (A ++ [Ob.cells 0 [.ref w 0 0]]) 0 [Iz 0,Iz 0,Iz 0]
  rw [len_snoc] at this
  exact getC_ext this h2
 have hwx:=getC_load hw
 cases ho:gSrch (fun _=>fun i _ _ x=>nlG fs i x) fs with
 | none=>
   rw [ho] at h1
   have g3:=getC_put (c':=[Iz 0,Iz 0,Iz 0]) g2
   refine ⟨H1.set (A.length+1) (.cells 0 [Iz 0,Iz 0,Iz 0]),callW_fnA (c:=s_f33) (k:=1) hT rfl (by decide) s_f33_first ?_,((e1.trans e2).trans h2).set (Nat.le_succ _) _⟩
   have xR:loadV (H1.set (A.length+1) (.cells 0 [Iz 0,Iz 0,Iz 0])) true 3 (.ref (A.length+1) 0 0)=some (.agg [Iz 0,Iz 0,Iz 0]):=by
    show xLoad _ true 3 _=_
    rw [xo_ref,g3];rfl
   simp only [resP,Iz,bl] at h1 g2 xR
   simp only [Iz,s_f33,a_f33,aa,bl,i64,reduceIte,reduceCtorEq,Nat.reduceEqDiff,Nat.reduceLT,Nat.reduceLeDiff,Nat.reduceBEq,Nat.reduceAdd,fillA,splice,Nat.reduceMul,amY,op_eqP,xsub_mkFn,hl,hwx,h1,g2,hb1]
   rw [xR]
   rfl
 | some t=>
   obtain ⟨i,b,k⟩:=t
   rw [ho] at h1
   have g3:=getC_put (c':=[Iz i,Iz b,Iz k]) g2
   refine ⟨H1.set (A.length+1) (.cells 0 [Iz i,Iz b,Iz k]),callW_fnA (c:=s_f33) (k:=1) hT rfl (by decide) s_f33_first ?_,((e1.trans e2).trans h2).set (Nat.le_succ _) _⟩
   have xR:loadV (H1.set (A.length+1) (.cells 0 [Iz i,Iz b,Iz k])) true 3 (.ref (A.length+1) 0 0)=some (.agg [Iz i,Iz b,Iz k]):=by
    show xLoad _ true 3 _=_
    rw [xo_ref,g3];rfl
   simp only [resP,Iz,bl] at h1 g2 xR
   simp only [Iz,s_f33,a_f33,aa,bl,i64,reduceIte,reduceCtorEq,Nat.reduceEqDiff,Nat.reduceLT,Nat.reduceLeDiff,Nat.reduceBEq,Nat.reduceAdd,fillA,splice,Nat.reduceMul,amY,op_eqP,xsub_mkFn,hl,hwx,h1,g2,hb1]
   rw [xR]
   rfl
theorem badPhi_fun (hF:FindT CT) (hP:CT k_f54=some (.code s_f54)) (hC:CT k_f53=some (.code s_f53)) (hX:CT k_f68=some (.code s_f68)) (hT1:CT k_f52=some (.code s_f52)) (hT:CT k_f32=some (.code s_f32)) (base:Nat) {A:Heap} (hb:base≤A.length) {w sm:Nat} {fv:V} {fs:List FunD} (hc:NC A w sm fv fs):
 ∃ H',callW CT (.fn k_f32 [] []) [.ref w 0 0] base A=some (resP (gSrch (fun _=>fun i b k x=>bpG fs i b k x) fs),H')∧Ext A H':=by
 have e1:Ext A (A ++ [Ob.cells 0 [.ref w 0 0]]):=Ext.app _ _
 have e2:Ext (A ++ [Ob.cells 0 [.ref w 0 0]]) (A ++ [Ob.cells 0 [.ref w 0 0]] ++ [Ob.cells 0 [Iz 0,Iz 0,Iz 0]]):=Ext.app _ _
 have hw:getC (A ++ [Ob.cells 0 [.ref w 0 0]] ++ [Ob.cells 0 [Iz 0,Iz 0,Iz 0]]) A.length 0=some [.ref w 0 0]:=getC_ext (getC_new A 0 _) e2
 have hl:=len_snoc A (Ob.cells 0 [.ref w 0 0])
 have hb1:base≤A.length+1:=by omega
 have hb2:base≤(A ++ [Ob.cells 0 [.ref w 0 0]] ++ [Ob.cells 0 [Iz 0,Iz 0,Iz 0]]).length:=by rw [len_snoc,len_snoc];omega
 obtain ⟨H1,h1,h2⟩:=find_pure hF base hb2 (hc.ext (e1.trans e2)) (f:=.fn k_f52 [] [.ref A.length 0 0]) rfl (g:=fun i b k x=>bpG fs i b k x) (fun i f1 hi b x hx k z r hz hr D hD=>badPhi1_fun hP hC hX hT1 base hb2 (hc.ext (e1.trans e2)) hw hr hi hx (Nat.le_of_lt (List.getElem?_eq_some_iff.1 hz).1) D hD)
 have g2:getC H1 (A.length+1) 0=some [Iz 0,Iz 0,Iz 0]:=by
  have:=getC_new (A ++ [Ob.cells 0 [.ref w 0 0]]) 0 [Iz 0,Iz 0,Iz 0]
  rw [len_snoc] at this
  exact getC_ext this h2
 have hwx:=getC_load hw
 cases ho:gSrch (fun _=>fun i b k x=>bpG fs i b k x) fs with
 | none=>
   rw [ho] at h1
   have g3:=getC_put (c':=[Iz 0,Iz 0,Iz 0]) g2
   refine ⟨H1.set (A.length+1) (.cells 0 [Iz 0,Iz 0,Iz 0]),callW_fnA (c:=s_f32) (k:=1) hT rfl (by decide) s_f32_first ?_,((e1.trans e2).trans h2).set (Nat.le_succ _) _⟩
   have xR:loadV (H1.set (A.length+1) (.cells 0 [Iz 0,Iz 0,Iz 0])) true 3 (.ref (A.length+1) 0 0)=some (.agg [Iz 0,Iz 0,Iz 0]):=by
    show xLoad _ true 3 _=_
    rw [xo_ref,g3];rfl
   simp only [resP,Iz,bl] at h1 g2 xR
   simp only [Iz,s_f32,a_f32,aa,bl,i64,reduceIte,reduceCtorEq,Nat.reduceEqDiff,Nat.reduceLT,Nat.reduceLeDiff,Nat.reduceBEq,Nat.reduceAdd,fillA,splice,Nat.reduceMul,amY,op_eqP,xsub_mkFn,hl,hwx,h1,g2,hb1]
   rw [xR]
   rfl
 | some t=>
   obtain ⟨i,b,k⟩:=t
   rw [ho] at h1
   have g3:=getC_put (c':=[Iz i,Iz b,Iz k]) g2
   refine ⟨H1.set (A.length+1) (.cells 0 [Iz i,Iz b,Iz k]),callW_fnA (c:=s_f32) (k:=1) hT rfl (by decide) s_f32_first ?_,((e1.trans e2).trans h2).set (Nat.le_succ _) _⟩
   have xR:loadV (H1.set (A.length+1) (.cells 0 [Iz i,Iz b,Iz k])) true 3 (.ref (A.length+1) 0 0)=some (.agg [Iz i,Iz b,Iz k]):=by
    show xLoad _ true 3 _=_
    rw [xo_ref,g3];rfl
   simp only [resP,Iz,bl] at h1 g2 xR
   simp only [Iz,s_f32,a_f32,aa,bl,i64,reduceIte,reduceCtorEq,Nat.reduceEqDiff,Nat.reduceLT,Nat.reduceLeDiff,Nat.reduceBEq,Nat.reduceAdd,fillA,splice,Nat.reduceMul,amY,op_eqP,xsub_mkFn,hl,hwx,h1,g2,hb1]
   rw [xR]
   rfl
theorem badInstr_fun (hF:FindT CT) (hCl:CT k_f46=some (.code s_f46)) (hT1:CT k_f50=some (.code s_f50)) (hT:CT k_f30=some (.code s_f30)) (base:Nat) {A:Heap} (hb:base≤A.length) {w sm:Nat} {fv:V} {fs:List FunD} (hc:NC A w sm fv fs):
 ∃ H',callW CT (.fn k_f30 [] []) [.ref w 0 0] base A=some (resP (gSrch (fun _=>fun _ _ _ x=>biG x) fs),H')∧Ext A H':=by
 have e1:Ext A (A ++ [Ob.cells 0 [.ref w 0 0]]):=Ext.app _ _
 have e2:Ext (A ++ [Ob.cells 0 [.ref w 0 0]]) (A ++ [Ob.cells 0 [.ref w 0 0]] ++ [Ob.cells 0 [Iz 0,Iz 0,Iz 0]]):=Ext.app _ _
 have hw:getC (A ++ [Ob.cells 0 [.ref w 0 0]] ++ [Ob.cells 0 [Iz 0,Iz 0,Iz 0]]) A.length 0=some [.ref w 0 0]:=getC_ext (getC_new A 0 _) e2
 have hl:=len_snoc A (Ob.cells 0 [.ref w 0 0])
 have hb1:base≤A.length+1:=by omega
 have hb2:base≤(A ++ [Ob.cells 0 [.ref w 0 0]] ++ [Ob.cells 0 [Iz 0,Iz 0,Iz 0]]).length:=by rw [len_snoc,len_snoc];omega
 obtain ⟨H1,h1,h2⟩:=find_pure hF base hb2 (hc.ext (e1.trans e2)) (f:=.fn k_f50 [] [.ref A.length 0 0]) rfl (g:=fun _ _ _ x=>biG x) (fun i f1 hi b x hx k z r hz hr D hD=>badInstr1_fun hCl hT1 base hb2 (hc.ext (e1.trans e2)) hw hr D hD)
 have g2:getC H1 (A.length+1) 0=some [Iz 0,Iz 0,Iz 0]:=by
  have:=getC_new (A ++ [Ob.cells 0 [.ref w 0 0]]) 0 [Iz 0,Iz 0,Iz 0]
  rw [len_snoc] at this
  exact getC_ext this h2
 have hwx:=getC_load hw
 cases ho:gSrch (fun _=>fun _ _ _ x=>biG x) fs with
 | none=>
   rw [ho] at h1
   have g3:=getC_put (c':=[Iz 0,Iz 0,Iz 0]) g2
   refine ⟨H1.set (A.length+1) (.cells 0 [Iz 0,Iz 0,Iz 0]),callW_fnA (c:=s_f30) (k:=1) hT rfl (by decide) s_f30_first ?_,((e1.trans e2).trans h2).set (Nat.le_succ _) _⟩
   have xR:loadV (H1.set (A.length+1) (.cells 0 [Iz 0,Iz 0,Iz 0])) true 3 (.ref (A.length+1) 0 0)=some (.agg [Iz 0,Iz 0,Iz 0]):=by
    show xLoad _ true 3 _=_
    rw [xo_ref,g3];rfl
   simp only [resP,Iz,bl] at h1 g2 xR
   simp only [Iz,s_f30,a_f30,aa,bl,i64,reduceIte,reduceCtorEq,Nat.reduceEqDiff,Nat.reduceLT,Nat.reduceLeDiff,Nat.reduceBEq,Nat.reduceAdd,fillA,splice,Nat.reduceMul,amY,op_eqP,xsub_mkFn,hl,hwx,h1,g2,hb1]
   rw [xR]
   rfl
 | some t=>
   obtain ⟨i,b,k⟩:=t
   rw [ho] at h1
   have g3:=getC_put (c':=[Iz i,Iz b,Iz k]) g2
   refine ⟨H1.set (A.length+1) (.cells 0 [Iz i,Iz b,Iz k]),callW_fnA (c:=s_f30) (k:=1) hT rfl (by decide) s_f30_first ?_,((e1.trans e2).trans h2).set (Nat.le_succ _) _⟩
   have xR:loadV (H1.set (A.length+1) (.cells 0 [Iz i,Iz b,Iz k])) true 3 (.ref (A.length+1) 0 0)=some (.agg [Iz i,Iz b,Iz k]):=by
    show xLoad _ true 3 _=_
    rw [xo_ref,g3];rfl
   simp only [resP,Iz,bl] at h1 g2 xR
   simp only [Iz,s_f30,a_f30,aa,bl,i64,reduceIte,reduceCtorEq,Nat.reduceEqDiff,Nat.reduceLT,Nat.reduceLeDiff,Nat.reduceBEq,Nat.reduceAdd,fillA,splice,Nat.reduceMul,amY,op_eqP,xsub_mkFn,hl,hwx,h1,g2,hb1]
   rw [xR]
   rfl
end
end Go.Proofs.YtamlbkalopefgaaR
