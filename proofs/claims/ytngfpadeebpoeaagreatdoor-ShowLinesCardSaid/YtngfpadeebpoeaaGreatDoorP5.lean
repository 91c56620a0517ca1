/- Texts of the proof: ShnH2, ShnH3, ShnD5, ShnI1, ShoF11, ShoF12, ShoF13, ShoP1, ShoP2, ShnJ1, ShS4, ShoL1, ShoM1, ShoL2. -/
import Derived.Test.YtngfpadeebpoeaaGreatDoorP0
import Derived.Test.YtngfpadeebpoeaaGreatDoorP1
import Derived.Test.YtngfpadeebpoeaaGreatDoorP2
import Derived.Test.YtngfpadeebpoeaaGreatDoorP3
import Derived.Test.YtngfpadeebpoeaaGreatDoorP4
set_option linter.all false
set_option maxRecDepth 100000
namespace Go.Proofs.YtngfpadeebpoeaaGreatDoor
open Go.AM
structure ConT (CT:Nat→Option CFun):Prop where
 con:CT k_f96=some (.code s_f96)
 idx:CT k_f137=some (.code s_f137)
def hasE (l:List ByteArray):Bool:=l.any fun y=>(⟨#[]⟩:ByteArray).data.toList == y.data.toList
def bnB (v:Bool) (s:ShD) (x:InsD):Bool:=(v || (s.xs && (x.xs.any (badS true) || hasE x.xs))) || (s.ls && (x.ls.any (badS false) || hasE x.ls))
section
variable {CT:Nat→Option CFun}
theorem taleR_nob (fr:List V) (H:Heap) (os:List (Nat × E)) (kill:List Nat):taleR fr H os kill false=none:=rfl
theorem segL_nob (H:Heap) (o:Option St):segL H none o=o:=rfl
theorem segC_nob (call:CallF) (it:IterF) (base:Nat) (b:List AOper) (kill:List Nat) (H:Heap) (o:Option St):segC call it base b kill H none o=o:=rfl
theorem reqB_nob (b r:Bool):reqB (some und) b r=false:=rfl
theorem bn_r16a (base:Nat) (H:Heap) {v0 v2 v4 v6 v8 v9 v10 v16 v17 v18 v35 v36 v37 v50 v51 v52:V}:origRow (callW CT) itW base R37_16t11 [9,10,102,103,104,105,106,107,108,109,110,111,112,113,114,115,116,117,118,119,120,121,122,123,124,125,126,127,128,129,130] (frOf 140 [(0,v0),(2,v2),(4,v4),(6,v6),(8,v8),(9,v9),(10,v10),(16,v16),(17,v17),(18,v18),(35,v35),(36,v36),(37,v37),(50,v50),(51,v51),(52,v52),(103,V.s (Value.bool true)),(106,und),(110,und),(113,und)]) H=some (.nrm,frOf 140 [(0,v0),(2,v2),(4,v4),(6,v6),(8,v8),(11,V.s (Value.bool true)),(16,v16),(17,v17),(18,v18),(35,v35),(36,v36),(37,v37),(50,v50),(51,v51),(52,v52)],H):=by
 simp only [origRow,R37_16t11,R37_16t12,R37_16t13,R37_16t14,R37_16t15,R37_16t16,R37_16t17,R37_16t18,R37_16t19,R37_16t20,R37_16t21,R37_16t22,R37_16p11,R37_16p12,R37_16p13,R37_16p14,R37_16p15,R37_16p16,R37_16p17,R37_16p18,R37_16p19,R37_16p20,R37_16p21,List.cons_append,List.nil_append,aa,reduceIte,reduceCtorEq,Nat.reduceEqDiff,Nat.reduceLT,Nat.reduceLeDiff,Nat.reduceBEq,Nat.reduceAdd,Nat.reduceMul,op_appR,evC_ops,evOps_nil,evOps_cons,evOps_guard,opK_bool,wantV_bool,wantV_und,put_some,evOp_pick,pickR,op_move,op_un,ev_t,ev_c,resK_some]
theorem bn_r16b (base:Nat) (H:Heap) {v0 v2 v4 v6 v8 v16 v17 v18 v35 v36 v37 v50 v51 v52:V}:origRow (callW CT) itW base R37_16t22 [9,10,102,103,104,105,106,107,108,109,110,111,112,113,114,115,116,117,118,119,120,121,122,123,124,125,126,127,128,129,130] (frOf 140 [(0,v0),(2,v2),(4,v4),(6,v6),(8,v8),(16,v16),(17,v17),(18,v18),(35,v35),(36,v36),(37,v37),(50,v50),(51,v51),(52,v52),(117,V.s (Value.bool true)),(120,und),(124,und),(127,und)]) H=some (.nrm,frOf 140 [(0,v0),(2,v2),(4,v4),(6,v6),(8,v8),(11,V.s (Value.bool true)),(16,v16),(17,v17),(18,v18),(35,v35),(36,v36),(37,v37),(50,v50),(51,v51),(52,v52)],H):=by
 simp only [origRow,R37_16t22,List.cons_append,List.nil_append,aa,reduceIte,reduceCtorEq,Nat.reduceEqDiff,Nat.reduceLT,Nat.reduceLeDiff,Nat.reduceBEq,Nat.reduceAdd,Nat.reduceMul,op_appR,evC_ops,evOps_nil,evOps_cons,evOps_guard,opK_bool,wantV_bool,wantV_und,put_some,evOp_pick,pickR,op_move,op_un,ev_t,ev_c,resK_some]
set_option maxHeartbeats 8000000 in
theorem bn_r16 (hT:BadT CT) (hN:ConT CT) (base:Nat) {D0:Heap} (hb:base≤D0.length) {p q:Nat} {x:InsD} {av lv:V} {s:ShD} {v:Bool} (h9_0:getC D0 p 0=some (insC x av lv)) (h10_0:getC D0 q 0=some s.c) (hxs:Rd D0 av (x.xs.map Sb)) (hwx:Wide1 av) (hls:Rd D0 lv (x.ls.map Sb)) (hwl:Wide1 lv) (hnx:x.xs.length < 2 ^ 20) (hnl:x.ls.length < 2 ^ 20) {v0 v2 v4 v6 v8 v16 v17 v18 v35 v36 v37 v50 v51 v52:V}:
 ∃ D',evC (callW CT) itW base (.region R37_16 [] [9,10,102,103,104,105,106,107,108,109,110,111,112,113,114,115,116,117,118,119,120,121,122,123,124,125,126,127,128,129,130]) (frOf 140 [(0,v0),(2,v2),(4,v4),(6,v6),(8,v8),(9,.ref p 0 0),(10,.ref q 0 0),(11,bl v),(16,v16),(17,v17),(18,v18),(35,v35),(36,v36),(37,v37),(50,v50),(51,v51),(52,v52)]) D0=some (.nrm,frOf 140 [(0,v0),(2,v2),(4,v4),(6,v6),(8,v8),(11,bl (bnB v s x)),(16,v16),(17,v17),(18,v18),(35,v35),(36,v36),(37,v37),(50,v50),(51,v51),(52,v52)],D')∧Ext D0 D':=by
 have e_0:Ext D0 D0:=Ext.refl _
 simp only [insC,ShD.c] at h9_0 h10_0
 cases v with
 | true=>
   refine ⟨D0,?_,e_0⟩
   simp only [bnB,Iz,Sb,a_f37,s_f37_l0_b,s_f37_l1_b,s_f37_l2_b,aa,reduceIte,reduceCtorEq,Nat.reduceEqDiff,Nat.reduceLT,Nat.reduceLeDiff,Nat.reduceBEq,Nat.reduceAdd,Nat.reduceMul,op_appR,bn_r16a,bn_r16b,reqB_nob,taleR_nob,segL_nob,segC_nob,h9_0,h10_0]
 | false=>
   cases s_xs:s.xs with
   | false=>
     cases s_ls:s.ls with
     | false=>
       refine ⟨D0,?_,e_0⟩
       simp only [bnB,Iz,Sb,a_f37,s_f37_l0_b,s_f37_l1_b,s_f37_l2_b,aa,reduceIte,reduceCtorEq,Nat.reduceEqDiff,Nat.reduceLT,Nat.reduceLeDiff,Nat.reduceBEq,Nat.reduceAdd,Nat.reduceMul,op_appR,bn_r16a,bn_r16b,reqB_nob,taleR_nob,segL_nob,segC_nob,h9_0,h10_0,s_xs,s_ls]
     | true=>
       obtain ⟨D1,c_1,x_1⟩:=bad_fun hT.is' hT.bad1 hT.bad hT.con hT.idx base D0 false (hls.ext e_0) hwl (l:=x.ls) (by omega)
       have e_1:=e_0.trans x_1
       have h9_1:=getC_ext h9_0 x_1
       have h10_1:=getC_ext h10_0 x_1
       have k_1:=containsS_fun hN.con hN.idx base D1 (⟨#[]⟩:ByteArray) (hls.ext e_1) hwl (l:=x.ls) (by omega)
       have f_1:callW CT (.fn k_f96 [] []) [lv,.s (.string ⟨#[]⟩)] base D1=some (.s (.bool (hasE x.ls)),D1):=k_1
       cases b_ls:x.ls.any (badS false) with
       | true=>
         rw [b_ls] at c_1
         refine ⟨D1,?_,e_1⟩
         simp only [bnB,Iz,Sb,a_f37,s_f37_l0_b,s_f37_l1_b,s_f37_l2_b,aa,reduceIte,reduceCtorEq,Nat.reduceEqDiff,Nat.reduceLT,Nat.reduceLeDiff,Nat.reduceBEq,Nat.reduceAdd,Nat.reduceMul,op_appR,bn_r16a,bn_r16b,reqB_nob,taleR_nob,segL_nob,segC_nob,h9_0,h10_0,s_xs,s_ls,b_ls,c_1,h9_1,h10_1]
       | false=>
         rw [b_ls] at c_1
         cases g_ls:hasE x.ls with
         | true=>
           rw [g_ls] at f_1
           refine ⟨D1,?_,e_1⟩
           simp only [bnB,Iz,Sb,a_f37,s_f37_l0_b,s_f37_l1_b,s_f37_l2_b,aa,reduceIte,reduceCtorEq,Nat.reduceEqDiff,Nat.reduceLT,Nat.reduceLeDiff,Nat.reduceBEq,Nat.reduceAdd,Nat.reduceMul,op_appR,bn_r16a,bn_r16b,reqB_nob,taleR_nob,segL_nob,segC_nob,h9_0,h10_0,s_xs,s_ls,b_ls,c_1,h9_1,h10_1,g_ls,f_1]
         | false=>
           rw [g_ls] at f_1
           refine ⟨D1,?_,e_1⟩
           simp only [bnB,Iz,Sb,a_f37,s_f37_l0_b,s_f37_l1_b,s_f37_l2_b,aa,reduceIte,reduceCtorEq,Nat.reduceEqDiff,Nat.reduceLT,Nat.reduceLeDiff,Nat.reduceBEq,Nat.reduceAdd,Nat.reduceMul,op_appR,bn_r16a,bn_r16b,reqB_nob,taleR_nob,segL_nob,segC_nob,h9_0,h10_0,s_xs,s_ls,b_ls,c_1,h9_1,h10_1,g_ls,f_1]
   | true=>
     obtain ⟨D1,c_1,x_1⟩:=bad_fun hT.is' hT.bad1 hT.bad hT.con hT.idx base D0 true (hxs.ext e_0) hwx (l:=x.xs) (by omega)
     have e_1:=e_0.trans x_1
     have h9_1:=getC_ext h9_0 x_1
     have h10_1:=getC_ext h10_0 x_1
     have k_1:=containsS_fun hN.con hN.idx base D1 (⟨#[]⟩:ByteArray) (hxs.ext e_1) hwx (l:=x.xs) (by omega)
     have f_1:callW CT (.fn k_f96 [] []) [av,.s (.string ⟨#[]⟩)] base D1=some (.s (.bool (hasE x.xs)),D1):=k_1
     cases b_xs:x.xs.any (badS true) with
     | true=>
       rw [b_xs] at c_1
       refine ⟨D1,?_,e_1⟩
       simp only [bnB,Iz,Sb,a_f37,s_f37_l0_b,s_f37_l1_b,s_f37_l2_b,aa,reduceIte,reduceCtorEq,Nat.reduceEqDiff,Nat.reduceLT,Nat.reduceLeDiff,Nat.reduceBEq,Nat.reduceAdd,Nat.reduceMul,op_appR,bn_r16a,bn_r16b,reqB_nob,taleR_nob,segL_nob,segC_nob,h9_0,h10_0,s_xs,b_xs,c_1,h9_1,h10_1]
     | false=>
       rw [b_xs] at c_1
       cases g_xs:hasE x.xs with
       | true=>
         rw [g_xs] at f_1
         refine ⟨D1,?_,e_1⟩
         simp only [bnB,Iz,Sb,a_f37,s_f37_l0_b,s_f37_l1_b,s_f37_l2_b,aa,reduceIte,reduceCtorEq,Nat.reduceEqDiff,Nat.reduceLT,Nat.reduceLeDiff,Nat.reduceBEq,Nat.reduceAdd,Nat.reduceMul,op_appR,bn_r16a,bn_r16b,reqB_nob,taleR_nob,segL_nob,segC_nob,h9_0,h10_0,s_xs,b_xs,c_1,h9_1,h10_1,g_xs,f_1]
       | false=>
         rw [g_xs] at f_1
         cases s_ls:s.ls with
         | false=>
           refine ⟨D1,?_,e_1⟩
           simp only [bnB,Iz,Sb,a_f37,s_f37_l0_b,s_f37_l1_b,s_f37_l2_b,aa,reduceIte,reduceCtorEq,Nat.reduceEqDiff,Nat.reduceLT,Nat.reduceLeDiff,Nat.reduceBEq,Nat.reduceAdd,Nat.reduceMul,op_appR,bn_r16a,bn_r16b,reqB_nob,taleR_nob,segL_nob,segC_nob,h9_0,h10_0,s_xs,b_xs,c_1,h9_1,h10_1,g_xs,f_1,s_ls]
         | true=>
           obtain ⟨D2,c_2,x_2⟩:=bad_fun hT.is' hT.bad1 hT.bad hT.con hT.idx base D1 false (hls.ext e_1) hwl (l:=x.ls) (by omega)
           have e_2:=e_1.trans x_2
           have h9_2:=getC_ext h9_1 x_2
           have h10_2:=getC_ext h10_1 x_2
           have k_2:=containsS_fun hN.con hN.idx base D2 (⟨#[]⟩:ByteArray) (hls.ext e_2) hwl (l:=x.ls) (by omega)
           have f_2:callW CT (.fn k_f96 [] []) [lv,.s (.string ⟨#[]⟩)] base D2=some (.s (.bool (hasE x.ls)),D2):=k_2
           cases b_ls:x.ls.any (badS false) with
           | true=>
             rw [b_ls] at c_2
             refine ⟨D2,?_,e_2⟩
             simp only [bnB,Iz,Sb,a_f37,s_f37_l0_b,s_f37_l1_b,s_f37_l2_b,aa,reduceIte,reduceCtorEq,Nat.reduceEqDiff,Nat.reduceLT,Nat.reduceLeDiff,Nat.reduceBEq,Nat.reduceAdd,Nat.reduceMul,op_appR,bn_r16a,bn_r16b,reqB_nob,taleR_nob,segL_nob,segC_nob,h9_0,h10_0,s_xs,b_xs,c_1,h9_1,h10_1,g_xs,f_1,s_ls,b_ls,c_2,h9_2,h10_2]
           | false=>
             rw [b_ls] at c_2
             cases g_ls:hasE x.ls with
             | true=>
               rw [g_ls] at f_2
               refine ⟨D2,?_,e_2⟩
               simp only [bnB,Iz,Sb,a_f37,s_f37_l0_b,s_f37_l1_b,s_f37_l2_b,aa,reduceIte,reduceCtorEq,Nat.reduceEqDiff,Nat.reduceLT,Nat.reduceLeDiff,Nat.reduceBEq,Nat.reduceAdd,Nat.reduceMul,op_appR,bn_r16a,bn_r16b,reqB_nob,taleR_nob,segL_nob,segC_nob,h9_0,h10_0,s_xs,b_xs,c_1,h9_1,h10_1,g_xs,f_1,s_ls,b_ls,c_2,h9_2,h10_2,g_ls,f_2]
             | false=>
               rw [g_ls] at f_2
               refine ⟨D2,?_,e_2⟩
               simp only [bnB,Iz,Sb,a_f37,s_f37_l0_b,s_f37_l1_b,s_f37_l2_b,aa,reduceIte,reduceCtorEq,Nat.reduceEqDiff,Nat.reduceLT,Nat.reduceLeDiff,Nat.reduceBEq,Nat.reduceAdd,Nat.reduceMul,op_appR,bn_r16a,bn_r16b,reqB_nob,taleR_nob,segL_nob,segC_nob,h9_0,h10_0,s_xs,b_xs,c_1,h9_1,h10_1,g_xs,f_1,s_ls,b_ls,c_2,h9_2,h10_2,g_ls,f_2]
end
end Go.Proofs.YtngfpadeebpoeaaGreatDoor
set_option maxRecDepth 100000
namespace Go.Proofs.YtngfpadeebpoeaaGreatDoor
open Go.AM
def bnI (i b:Nat) (k:Nat) (x:InsD):Option Pt:=if bnB (bnA (shp x.op) x) (shp x.op) x=true then some (i,b,k) else none
def bnBk (i:Nat) (b:Nat) (bl:BlkD):Option Pt:=if (!isName bl.label)=true then some (i,b,0) else srch (bnI i b) bl.code 0
def bnF (i:Nat) (f:FunD):Option Pt:=if (!isName f.name || f.ps.any fun s=>!isName s)=true then some (i,0,0) else srch (bnBk i) f.blocks 0
section
variable {CT:Nat→Option CFun}
theorem bn_l0 (hT:BadT CT) (hN:ConT CT) (base:Nat) {A A1:Heap} {w sm:Nat} {fv0:V} {fs0:List FunD} (hc:NC A w sm fv0 fs0) (h1:Ext A A1) (hb:base≤A.length) (hg:getC A1 A.length 0=some [Iz 0,Iz 0,Iz 0]) {v16 v35 cv:V} {i b:Nat} {n17 n18 n36 n37:Int} {l:List InsD} (hv:RdL 8 RdIns A cv l) (hn:l.length < 2 ^ 20) (hxs:∀ x∈l,x.xs.length < 2 ^ 20) (hls:∀ x∈l,x.ls.length < 2 ^ 20) {L:Nat} (hL:A1.length≤L) (hA1:A.length < A1.length):
 ∀ C,Ext A1 C→(srch (bnI i b) l 0=none∧∃ C',itW (evC (callW CT) itW base s_f37_l0) [] L (frOf 140 [(0,.ref w 0 0),(2,.ref A.length 0 0),(4,Iz i),(6,Iz b),(16,v16),(17,Iz n17),(18,Iz n18),(35,v35),(36,Iz n36),(37,Iz n37),(50,cv),(51,Iz l.length),(52,Iz 0)]) C=some (.ext 4,frOf 140 [(0,.ref w 0 0),(2,.ref A.length 0 0),(4,Iz i),(6,Iz b),(16,v16),(17,Iz n17),(18,Iz n18),(35,v35),(36,Iz n36),(37,Iz n37),(50,cv),(51,Iz l.length),(52,Iz l.length),(53,bl false)],C')∧Ext A1 C')∨∃ t,srch (bnI i b) l 0=some t∧Found A 140 A.length t (itW (evC (callW CT) itW base s_f37_l0) [] L (frOf 140 [(0,.ref w 0 0),(2,.ref A.length 0 0),(4,Iz i),(6,Iz b),(16,v16),(17,Iz n17),(18,Iz n18),(35,v35),(36,Iz n36),(37,Iz n37),(50,cv),(51,Iz l.length),(52,Iz 0)]) C):=by
 intro C0 hC0
 rcases it_srch l ins0 (bnI i b) (fun _ C=>Ext A1 C) (fun k C=>itW (evC (callW CT) itW base s_f37_l0) [] L (frOf 140 [(0,.ref w 0 0),(2,.ref A.length 0 0),(4,Iz i),(6,Iz b),(16,v16),(17,Iz n17),(18,Iz n18),(35,v35),(36,Iz n36),(37,Iz n37),(50,cv),(51,Iz l.length),(52,Iz k)]) C) (Found A 140 A.length) (by
  intro k C hk hE
  have hlt':((k:Int) < (l.length:Int)):=by omega
  have hwk:=w64 (n:=k) (by omega)
  have hle:=hE.le
  have hkx:=some_getD hk ins0
  obtain ⟨x,hxe⟩:∃ x,l.getD k ins0=x:=⟨_,rfl⟩
  rw [hxe] at hkx ⊢
  have hmem:=List.mem_of_getElem? hkx
  obtain ⟨a,r,a1,hr,a2,_⟩:=hv.at2 hkx
  have hEA:=h1.trans hE
  have ld:=a2 C hEA
  have hbC:base≤C.length:=by omega
  have hgg:∀ c,getC (C ++ [Ob.cells 0 c]) C.length 0=some c:=fun c=>getC_new C 0 c
  have hss:∀ c d,(C ++ [c]).set C.length d=C ++ [d]:=fun c d=>set_snoc C c d
  have eC:∀ c,Ext C (C ++ [Ob.cells 0 c]):=fun c=>Ext.app _ _
  have g2:∀ D,Ext A1 D→getC D A.length 0=some [Iz 0,Iz 0,Iz 0]:=fun D h=>getC_ext hg h
  obtain ⟨av,lv,rfl,q1,q2,q3,q4,_⟩:=hr
  have hav:=q1.one
  have hlv:=q3.one
  obtain ⟨C1,hC1⟩:∃ C1,C ++ [Ob.cells 0 (insC x av lv)]=C1:=⟨_,rfl⟩
  have e1:Ext C C1:=hC1 ▸ eC _
  have hl1:C1.length=C.length+1:=by rw [← hC1,len_snoc]
  have hmp:xLoad C1 false 1 (.ref w 0 1)=some (.mp sm):=by rw [xo_ref,getC_ext hc.gw (hEA.trans e1)];rfl
  have hmg:=get_I .u8 (Ext.at' (hEA.trans e1) hc.sh) (.agg (ShD.c ⟨false,false,false,false,false,false,false⟩)) false x.op
  rw [if_neg Bool.false_ne_true,shT_get] at hmg
  have hg1:getC C1 C.length 0=some (insC x av lv):=hC1 ▸ hgg _
  obtain ⟨C2,hC2⟩:∃ C2,C1 ++ [Ob.cells 0 (shp x.op).c]=C2:=⟨_,rfl⟩
  have e2:Ext C1 C2:=hC2 ▸ Ext.app _ _
  have hl2:C2.length=C.length+2:=by rw [← hC2,len_snoc,hl1]
  have hs1:∀ c d,(C1 ++ [c]).set C1.length d=C1 ++ [d]:=fun c d=>set_snoc C1 c d
  have hz1:∀ c,getC (C1 ++ [Ob.cells 0 c]) C1.length 0=some c:=fun c=>getC_new C1 0 c
  rw [hl1] at hs1 hz1
  have hb1:base≤C.length+1:=by omega
  have h9:=getC_ext hg1 e2
  have h10:getC C2 (C.length+1) 0=some (shp x.op).c:=by rw [← hC2];exact hz1 _
  obtain ⟨D1,r15,d1⟩:=bn_r15 hT base (D0:=C2) (by omega) (p:=C.length) (q:=C.length+1) (x:=x) (av:=av) (lv:=lv) (s:=shp x.op) h9 h10 (v0:=.ref w 0 0) (v2:=.ref A.length 0 0) (v4:=Iz i) (v6:=Iz b) (v8:=Iz k) (v16:=v16) (v17:=Iz n17) (v18:=Iz n18) (v35:=v35) (v36:=Iz n36) (v37:=Iz n37) (v50:=cv) (v51:=Iz l.length) (v52:=Iz k)
  have eX:=hEA.trans (e1.trans (e2.trans d1))
  obtain ⟨D2,r16,d2⟩:=bn_r16 hT hN base (D0:=D1) (by have:=eX.le;omega) (p:=C.length) (q:=C.length+1) (x:=x) (av:=av) (lv:=lv) (s:=shp x.op) (v:=bnA (shp x.op) x) (getC_ext h9 d1) (getC_ext h10 d1) (q1.ext eX) q2 (q3.ext eX) q4 (hxs x hmem) (hls x hmem) (v0:=.ref w 0 0) (v2:=.ref A.length 0 0) (v4:=Iz i) (v6:=Iz b) (v8:=Iz k) (v16:=v16) (v17:=Iz n17) (v18:=Iz n18) (v35:=v35) (v36:=Iz n36) (v37:=Iz n37) (v50:=cv) (v51:=Iz l.length) (v52:=Iz k)
  have eY:Ext A1 D2:=hE.trans (e1.trans (e2.trans (d1.trans d2)))
  unfold bnI
  have hgc:=g2 D2 eY
  simp only [insC] at ld hC1 hg1
  simp only [Iz,bl,ShD.c] at hmg hC2 r15 r16 hgc
  cases hq:bnB (bnA (shp x.op) x) (shp x.op) x with
  | false=>
    rw [hq] at r16
    refine .inl ⟨if_neg Bool.false_ne_true,trim L (frOf 140 [(0,.ref w 0 0),(2,.ref A.length 0 0),(4,Iz i),(6,Iz b),(16,v16),(17,Iz n17),(18,Iz n18),(35,v35),(36,Iz n36),(37,Iz n37),(50,cv),(51,Iz l.length),(52,Iz (k+1:Nat))]) D2,?_,eY.trim (by omega) _⟩
    rw [itW_step]
    simp only [Iz,bl,A37_0p0_0,A37_0p0_2,A37_0p0_3,X37_0,T37_0t1,X37_0t1,A37_0_0,A37_0_2,A37_0_3,T37_1,T37_2,T37_3p0,X37_3,X37_3t1,T37_3p2,X37_3t2,X37_3t3,T37_4p0,X37_4,X37_4t1,T37_4p2,X37_4t2,X37_4t3,X37_4t4,X37_4t5,T37_4t6,X37_4t6,T37_5p0,X37_5,X37_5t1,T37_5t2,X37_5t2,T37_6,T37_7,T37_8p0,X37_8,X37_8t1,T37_8p2,X37_8t2,X37_8t3,T37_9p0,X37_9,X37_9t1,T37_9t2,X37_9t2,T37_10p0,X37_10,X37_10t1,T37_10t2,X37_10t2,T37_11,T37_12,T37_13p0,X37_13,X37_13t1,T37_13p2,X37_13t2,X37_13t3,T37_14p0,X37_14,X37_14t1,X37_14t2,T37_17,T37_18p0,X37_18,X37_18t1,T37_18t2,X37_18t2,T37_19,s_f37_l0_b,s_f37_l0_ev,T37_20,s_f37_l1_b,s_f37_l1_ev,T37_21,s_f37_l2_b,s_f37_l2_ev,T37_22p0,X37_22,X37_22t1,T37_22t2,X37_22t2,aa,reduceIte,reduceCtorEq,Nat.reduceEqDiff,Nat.reduceLT,Nat.reduceLeDiff,Nat.reduceBEq,Nat.reduceAdd,Nat.reduceMul,op_appR,ShD.c,hlt',a1,ld,hbC,hb1,hgg,hss,hs1,hz1,hav,hlv,Bool.and_self,hC1,hl1,hmp,hmg,hC2,hg1,r15,r16,hwk]
  | true=>
    rw [hq] at r16
    refine .inr ⟨(i,b,k),if_pos rfl,trim L (frOf 140 [(2,.ref A.length 0 0),(3,bl true)]) (D2.set A.length (.cells 0 [Iz i,Iz b,Iz k])),?_,?_,?_⟩
    ·rw [itW_step]
     simp only [Iz,bl,A37_0p0_0,A37_0p0_2,A37_0p0_3,X37_0,T37_0t1,X37_0t1,A37_0_0,A37_0_2,A37_0_3,T37_1,T37_2,T37_3p0,X37_3,X37_3t1,T37_3p2,X37_3t2,X37_3t3,T37_4p0,X37_4,X37_4t1,T37_4p2,X37_4t2,X37_4t3,X37_4t4,X37_4t5,T37_4t6,X37_4t6,T37_5p0,X37_5,X37_5t1,T37_5t2,X37_5t2,T37_6,T37_7,T37_8p0,X37_8,X37_8t1,T37_8p2,X37_8t2,X37_8t3,T37_9p0,X37_9,X37_9t1,T37_9t2,X37_9t2,T37_10p0,X37_10,X37_10t1,T37_10t2,X37_10t2,T37_11,T37_12,T37_13p0,X37_13,X37_13t1,T37_13p2,X37_13t2,X37_13t3,T37_14p0,X37_14,X37_14t1,X37_14t2,T37_17,T37_18p0,X37_18,X37_18t1,T37_18t2,X37_18t2,T37_19,s_f37_l0_b,s_f37_l0_ev,T37_20,s_f37_l1_b,s_f37_l1_ev,T37_21,s_f37_l2_b,s_f37_l2_ev,T37_22p0,X37_22,X37_22t1,T37_22t2,X37_22t2,aa,reduceIte,reduceCtorEq,Nat.reduceEqDiff,Nat.reduceLT,Nat.reduceLeDiff,Nat.reduceBEq,Nat.reduceAdd,Nat.reduceMul,op_appR,ShD.c,hlt',a1,ld,hbC,hb1,hgg,hss,hs1,hz1,hav,hlv,Bool.and_self,hC1,hl1,hmp,hmg,hC2,hg1,r15,r16,hgc,hb]
    ·exact ((h1.trans eY).set (Nat.le_refl _) _).trim (by omega) _
    ·exact trim_get (getC_put (g2 _ eY)) (by omega)) C0 hC0 with ⟨e1,C,e2,e3⟩ | e
 ·refine .inl ⟨e1,trim L (frOf 140 [(0,.ref w 0 0),(2,.ref A.length 0 0),(4,Iz i),(6,Iz b),(16,v16),(17,Iz n17),(18,Iz n18),(35,v35),(36,Iz n36),(37,Iz n37),(50,cv),(51,Iz l.length),(52,Iz l.length),(53,bl false)]) C,?_,e3.trim (by omega) _⟩
  rw [cast0] at e2
  refine e2.trans ?_
  rw [itW_step]
  simp only [Iz,bl,a_f37,s_f37_l0_b,s_f37_l1_b,s_f37_l2_b,aa,reduceIte,reduceCtorEq,Nat.reduceEqDiff,Nat.reduceLT,Nat.reduceLeDiff,Nat.reduceBEq,Nat.reduceAdd,Nat.reduceMul,op_appR,Int.lt_irrefl]
 ·rw [cast0] at e
  exact .inr e
theorem bn_l1 (hT:BadT CT) (hN:ConT CT) (base:Nat) {A A1:Heap} {w sm:Nat} {fv0:V} {fs0:List FunD} (hc:NC A w sm fv0 fs0) (h1:Ext A A1) (hb:base≤A.length) (hg:getC A1 A.length 0=some [Iz 0,Iz 0,Iz 0]) {v16 bv:V} {i:Nat} {n17 n18:Int} {l:List BlkD} (hv:RdL 2 RdBlk A bv l) (hn:l.length < 2 ^ 20) (hnc:∀ b∈l,b.code.length < 2 ^ 20) (hxs:∀ b∈l,∀ x∈b.code,x.xs.length < 2 ^ 20) (hls:∀ b∈l,∀ x∈b.code,x.ls.length < 2 ^ 20) {L:Nat} (hL:A1.length≤L) (hA1:A.length < A1.length):
 ∀ C,Ext A1 C→(srch (bnBk i) l 0=none∧∃ C',itW (evC (callW CT) itW base s_f37_l1) [] L (frOf 140 [(0,.ref w 0 0),(2,.ref A.length 0 0),(4,Iz i),(16,v16),(17,Iz n17),(18,Iz n18),(35,bv),(36,Iz l.length),(37,Iz 0)]) C=some (.ext 2,frOf 140 [(0,.ref w 0 0),(2,.ref A.length 0 0),(4,Iz i),(16,v16),(17,Iz n17),(18,Iz n18),(35,bv),(36,Iz l.length),(37,Iz l.length),(38,bl false)],C')∧Ext A1 C')∨∃ t,srch (bnBk i) l 0=some t∧Found A 140 A.length t (itW (evC (callW CT) itW base s_f37_l1) [] L (frOf 140 [(0,.ref w 0 0),(2,.ref A.length 0 0),(4,Iz i),(16,v16),(17,Iz n17),(18,Iz n18),(35,bv),(36,Iz l.length),(37,Iz 0)]) C):=by
 intro C0 hC0
 rcases it_srch l blk0 (bnBk i) (fun _ C=>Ext A1 C) (fun k C=>itW (evC (callW CT) itW base s_f37_l1) [] L (frOf 140 [(0,.ref w 0 0),(2,.ref A.length 0 0),(4,Iz i),(16,v16),(17,Iz n17),(18,Iz n18),(35,bv),(36,Iz l.length),(37,Iz k)]) C) (Found A 140 A.length) (by
  intro k C hk hE
  have hlt':((k:Int) < (l.length:Int)):=by omega
  have hwk:=w64 (n:=k) (by omega)
  have hle:=hE.le
  have hkx:=some_getD hk blk0
  obtain ⟨x,hxe⟩:∃ x,l.getD k blk0=x:=⟨_,rfl⟩
  rw [hxe] at hkx ⊢
  have hmem:=List.mem_of_getElem? hkx
  obtain ⟨a,r,a1,hr,a2,_⟩:=hv.at2 hkx
  have hEA:=h1.trans hE
  have ld:=a2 C hEA
  have hbC:base≤C.length:=by omega
  have hgg:∀ c,getC (C ++ [Ob.cells 0 c]) C.length 0=some c:=fun c=>getC_new C 0 c
  have hss:∀ c d,(C ++ [c]).set C.length d=C ++ [d]:=fun c d=>set_snoc C c d
  have eC:∀ c,Ext C (C ++ [Ob.cells 0 c]):=fun c=>Ext.app _ _
  have g2:∀ D,Ext A1 D→getC D A.length 0=some [Iz 0,Iz 0,Iz 0]:=fun D h=>getC_ext hg h
  obtain ⟨cv,rfl,hcv⟩:=hr
  have hcl:=(rdI_ext hcv (hEA.trans (eC [Sb x.label,cv]))).len
  have hco:=hcv.one
  have hl2:(C ++ [Ob.cells 0 [Sb x.label,cv]]).length=C.length+1:=by simp
  have hcal:=fun D=>is_fun CT hT.is' x.label base D
  unfold bnBk
  cases hq:isName x.label with
  | false=>
    rw [hq] at hcal
    refine .inr ⟨(i,k,0),if_pos rfl,trim L (frOf 140 [(2,.ref A.length 0 0),(3,bl true)]) ((C ++ [Ob.cells 0 [Sb x.label,cv]]).set A.length (.cells 0 [Iz i,Iz k,Iz 0])),?_,?_,?_⟩
    ·have hgc:=g2 (C ++ [Ob.cells 0 [Sb x.label,cv]]) (hE.trans (eC _))
     rw [itW_step]
     simp only [Iz,bl] at hgc hcal
     simp only [Iz,bl,a_f37,s_f37_l0_b,s_f37_l1_b,s_f37_l2_b,aa,reduceIte,reduceCtorEq,Nat.reduceEqDiff,Nat.reduceLT,Nat.reduceLeDiff,Nat.reduceBEq,Nat.reduceAdd,Nat.reduceMul,op_appR,hlt',a1,ld,hbC,hgg,hss,hco,Bool.and_self,hcl,hcal,hgc,hb]
    ·exact ((hEA.trans (eC _)).set (Nat.le_refl _) _).trim (by omega) _
    ·exact trim_get (getC_put (g2 _ (hE.trans (eC _)))) (by omega)
  | true=>
    rw [hq] at hcal
    simp only [bl] at hcal
    rw [if_neg (show ¬ (!true)=true by decide)]
    have hin:=bn_l0 (CT:=CT) hT hN base hc h1 hb hg (v16:=v16) (v35:=bv) (i:=i) (b:=k) (n17:=n17) (n18:=n18) (n36:=l.length) (n37:=k) hcv (hnc x hmem) (hxs x hmem) (hls x hmem) (L:=(C ++ [Ob.cells 0 [Sb x.label,cv]]).length) (by rw [len_snoc];omega) hA1 (C ++ [Ob.cells 0 [Sb x.label,cv]]) (hE.trans (eC _))
    rw [hl2] at hin
    rcases hin with ⟨z1,C2,z2,z3⟩ | ⟨t,z1,D,z2,z3,z4⟩
    ·refine .inl ⟨z1,trim L (frOf 140 [(0,.ref w 0 0),(2,.ref A.length 0 0),(4,Iz i),(16,v16),(17,Iz n17),(18,Iz n18),(35,bv),(36,Iz l.length),(37,Iz (k+1:Nat))]) C2,?_,z3.trim (by omega) _⟩
     rw [itW_step]
     simp only [Iz,bl] at z2
     simp only [Iz,bl,a_f37,s_f37_l0_b,s_f37_l1_b,s_f37_l2_b,aa,reduceIte,reduceCtorEq,Nat.reduceEqDiff,Nat.reduceLT,Nat.reduceLeDiff,Nat.reduceBEq,Nat.reduceAdd,Nat.reduceMul,op_appR,hlt',a1,ld,hbC,hgg,hss,hco,Bool.and_self,hcl,hcal,hl2,z2,hwk]
    ·refine .inr ⟨t,z1,trim L (frOf 140 [(2,.ref A.length 0 0),(3,bl true)]) D,?_,z3.trim (by omega) _,trim_get z4 (by omega)⟩
     rw [itW_step]
     simp only [Iz,bl] at z2
     simp only [Iz,bl,a_f37,s_f37_l0_b,s_f37_l1_b,s_f37_l2_b,aa,reduceIte,reduceCtorEq,Nat.reduceEqDiff,Nat.reduceLT,Nat.reduceLeDiff,Nat.reduceBEq,Nat.reduceAdd,Nat.reduceMul,op_appR,hlt',a1,ld,hbC,hgg,hss,hco,Bool.and_self,hcl,hcal,hl2,z2]) C0 hC0 with ⟨e1,C,e2,e3⟩ | e
 ·refine .inl ⟨e1,trim L (frOf 140 [(0,.ref w 0 0),(2,.ref A.length 0 0),(4,Iz i),(16,v16),(17,Iz n17),(18,Iz n18),(35,bv),(36,Iz l.length),(37,Iz l.length),(38,bl false)]) C,?_,e3.trim (by omega) _⟩
  rw [cast0] at e2
  refine e2.trans ?_
  rw [itW_step]
  simp only [Iz,bl,a_f37,s_f37_l0_b,s_f37_l1_b,s_f37_l2_b,aa,reduceIte,reduceCtorEq,Nat.reduceEqDiff,Nat.reduceLT,Nat.reduceLeDiff,Nat.reduceBEq,Nat.reduceAdd,Nat.reduceMul,op_appR,Int.lt_irrefl]
 ·rw [cast0] at e
  exact .inr e
theorem bn_l2 (hT:BadT CT) (hN:ConT CT) (base:Nat) {A A1:Heap} {w sm:Nat} {fv0:V} {fs0:List FunD} (hc:NC A w sm fv0 fs0) (h1:Ext A A1) (hb:base≤A.length) (hg:getC A1 A.length 0=some [Iz 0,Iz 0,Iz 0]) {fv:V} {l:List FunD} (hv:RdL 3 RdFun A fv l) (hn:l.length < 2 ^ 20) (h1':CT k_f94=some (.code s_f94)) (hps:∀ f∈l,f.ps.length < 2 ^ 20) (hnb:∀ f∈l,f.blocks.length < 2 ^ 20) (hnc:∀ f∈l,∀ b∈f.blocks,b.code.length < 2 ^ 20) (hxs:∀ f∈l,∀ b∈f.blocks,∀ x∈b.code,x.xs.length < 2 ^ 20) (hls:∀ f∈l,∀ b∈f.blocks,∀ x∈b.code,x.ls.length < 2 ^ 20) {L:Nat} (hL:A1.length≤L) (hA1:A.length < A1.length):
 ∀ C,Ext A1 C→(srch (bnF) l 0=none∧∃ C',itW (evC (callW CT) itW base s_f37_l2) [] L (frOf 140 [(0,.ref w 0 0),(2,.ref A.length 0 0),(16,fv),(17,Iz l.length),(18,Iz 0)]) C=some (.ext 0,frOf 140 [(0,.ref w 0 0),(2,.ref A.length 0 0),(16,fv),(17,Iz l.length),(18,Iz l.length),(19,bl false)],C')∧Ext A1 C')∨∃ t,srch (bnF) l 0=some t∧Found A 140 A.length t (itW (evC (callW CT) itW base s_f37_l2) [] L (frOf 140 [(0,.ref w 0 0),(2,.ref A.length 0 0),(16,fv),(17,Iz l.length),(18,Iz 0)]) C):=by
 intro C0 hC0
 rcases it_srch l fun0 (bnF) (fun _ C=>Ext A1 C) (fun k C=>itW (evC (callW CT) itW base s_f37_l2) [] L (frOf 140 [(0,.ref w 0 0),(2,.ref A.length 0 0),(16,fv),(17,Iz l.length),(18,Iz k)]) C) (Found A 140 A.length) (by
  intro k C hk hE
  have hlt':((k:Int) < (l.length:Int)):=by omega
  have hwk:=w64 (n:=k) (by omega)
  have hle:=hE.le
  have hkx:=some_getD hk fun0
  obtain ⟨x,hxe⟩:∃ x,l.getD k fun0=x:=⟨_,rfl⟩
  rw [hxe] at hkx ⊢
  have hmem:=List.mem_of_getElem? hkx
  obtain ⟨a,r,a1,hr,a2,_⟩:=hv.at2 hkx
  have hEA:=h1.trans hE
  have ld:=a2 C hEA
  have hbC:base≤C.length:=by omega
  have hgg:∀ c,getC (C ++ [Ob.cells 0 c]) C.length 0=some c:=fun c=>getC_new C 0 c
  have hss:∀ c d,(C ++ [c]).set C.length d=C ++ [d]:=fun c d=>set_snoc C c d
  have eC:∀ c,Ext C (C ++ [Ob.cells 0 c]):=fun c=>Ext.app _ _
  have g2:∀ D,Ext A1 D→getC D A.length 0=some [Iz 0,Iz 0,Iz 0]:=fun D h=>getC_ext hg h
  obtain ⟨pv,bv,rfl,p1,p2,p3,hbv⟩:=hr
  have hpo:=p1.one
  have hbo:=hbv.one
  have hl2:(C ++ [Ob.cells 0 [Sb x.name,pv,bv]]).length=C.length+1:=by simp
  have hcal:=fun D=>is_fun CT hT.is' x.name base D
  unfold bnF
  cases hq:isName x.name with
  | false=>
    rw [hq] at hcal
    refine .inr ⟨(k,0,0),if_pos rfl,trim L (frOf 140 [(2,.ref A.length 0 0),(3,bl true)]) ((C ++ [Ob.cells 0 [Sb x.name,pv,bv]]).set A.length (.cells 0 [Iz k,Iz 0,Iz 0])),?_,?_,?_⟩
    ·have hgc:=g2 (C ++ [Ob.cells 0 [Sb x.name,pv,bv]]) (hE.trans (eC _))
     rw [itW_step]
     simp only [Iz,bl] at hgc hcal
     simp only [Iz,bl,a_f37,s_f37_l0_b,s_f37_l1_b,s_f37_l2_b,aa,reduceIte,reduceCtorEq,Nat.reduceEqDiff,Nat.reduceLT,Nat.reduceLeDiff,Nat.reduceBEq,Nat.reduceAdd,Nat.reduceMul,op_appR,hlt',a1,ld,hbC,hgg,hss,hpo,hbo,Bool.and_self,hcal,hgc,hb]
    ·exact ((hEA.trans (eC _)).set (Nat.le_refl _) _).trim (by omega) _
    ·exact trim_get (getC_put (g2 _ (hE.trans (eC _)))) (by omega)
  | true=>
    rw [hq] at hcal
    obtain ⟨C3,hcon,e3⟩:=conS_fun hT.con hT.idx base (C ++ [Ob.cells 0 [Sb x.name,pv,bv]]) (f:=.fn k_f94 [] []) (p:=fun s=>!isName s) (p1.ext (hEA.trans (eC _))) p2 (fun s _ D _=>⟨D,badName1_fun hT.is' h1' base D s,Ext.refl D⟩) (by have:=hps x hmem;omega)
    have hl3:=e3.le
    rw [hl2] at hl3
    have hgg3:=getC_ext (hgg [Sb x.name,pv,bv]) e3
    have hE3:=hE.trans ((eC _).trans e3)
    cases hq2:x.ps.any (fun s=>!isName s) with
    | true=>
      rw [hq2] at hcon
      refine .inr ⟨(k,0,0),if_pos rfl,trim L (frOf 140 [(2,.ref A.length 0 0),(3,bl true)]) (C3.set A.length (.cells 0 [Iz k,Iz 0,Iz 0])),?_,?_,?_⟩
      ·have hgc:=g2 C3 hE3
       rw [itW_step]
       simp only [Iz,bl] at hgc hcal hcon
       simp only [Iz,bl,a_f37,s_f37_l0_b,s_f37_l1_b,s_f37_l2_b,aa,reduceIte,reduceCtorEq,Nat.reduceEqDiff,Nat.reduceLT,Nat.reduceLeDiff,Nat.reduceBEq,Nat.reduceAdd,Nat.reduceMul,op_appR,hlt',a1,ld,hbC,hgg,hss,hpo,hbo,Bool.and_self,hcal,hcon,hgc,hb]
      ·exact ((h1.trans hE3).set (Nat.le_refl _) _).trim (by omega) _
      ·exact trim_get (getC_put (g2 _ hE3)) (by omega)
    | false=>
      rw [hq2] at hcon
      rw [if_neg (show ¬ (!true || false)=true by decide)]
      have hbl:=(rdB_ext hbv (h1.trans hE3)).len
      have hin:=bn_l1 (CT:=CT) hT hN base hc h1 hb hg (v16:=fv) (i:=k) (n17:=l.length) (n18:=k) hbv (hnb x hmem) (hnc x hmem) (hxs x hmem) (hls x hmem) (L:=C3.length) (by have:=hE3.le;omega) hA1 C3 hE3
      simp only [Iz,bl] at hcal hcon
      rcases hin with ⟨z1,C2,z2,z3⟩ | ⟨t,z1,D,z2,z3,z4⟩
      ·refine .inl ⟨z1,trim L (frOf 140 [(0,.ref w 0 0),(2,.ref A.length 0 0),(16,fv),(17,Iz l.length),(18,Iz (k+1:Nat))]) C2,?_,z3.trim (by omega) _⟩
       rw [itW_step]
       simp only [Iz,bl] at z2
       simp only [Iz,bl,a_f37,s_f37_l0_b,s_f37_l1_b,s_f37_l2_b,aa,reduceIte,reduceCtorEq,Nat.reduceEqDiff,Nat.reduceLT,Nat.reduceLeDiff,Nat.reduceBEq,Nat.reduceAdd,Nat.reduceMul,op_appR,hlt',a1,ld,hbC,hgg,hss,hpo,hbo,Bool.and_self,hcal,hcon,hgg3,hbl,z2,hwk]
      ·refine .inr ⟨t,z1,trim L (frOf 140 [(2,.ref A.length 0 0),(3,bl true)]) D,?_,z3.trim (by omega) _,trim_get z4 (by omega)⟩
       rw [itW_step]
       simp only [Iz,bl] at z2
       simp only [Iz,bl,a_f37,s_f37_l0_b,s_f37_l1_b,s_f37_l2_b,aa,reduceIte,reduceCtorEq,Nat.reduceEqDiff,Nat.reduceLT,Nat.reduceLeDiff,Nat.reduceBEq,Nat.reduceAdd,Nat.reduceMul,op_appR,hlt',a1,ld,hbC,hgg,hss,hpo,hbo,Bool.and_self,hcal,hcon,hgg3,hbl,z2]) C0 hC0 with ⟨e1,C,e2,e3⟩ | e
 ·refine .inl ⟨e1,trim L (frOf 140 [(0,.ref w 0 0),(2,.ref A.length 0 0),(16,fv),(17,Iz l.length),(18,Iz l.length),(19,bl false)]) C,?_,e3.trim (by omega) _⟩
  rw [cast0] at e2
  refine e2.trans ?_
  rw [itW_step]
  simp only [Iz,bl,a_f37,s_f37_l0_b,s_f37_l1_b,s_f37_l2_b,aa,reduceIte,reduceCtorEq,Nat.reduceEqDiff,Nat.reduceLT,Nat.reduceLeDiff,Nat.reduceBEq,Nat.reduceAdd,Nat.reduceMul,op_appR,Int.lt_irrefl]
 ·rw [cast0] at e
  exact .inr e
theorem badName_fun (hT:CT k_f37=some (.code s_f37)) (h1':CT k_f94=some (.code s_f94)) (hB:BadT CT) (hN:ConT CT) (base:Nat) {A:Heap} (hb:base≤A.length) {w sm:Nat} {fv:V} {fs:List FunD} (hc:NC A w sm fv fs):
 ∃ H',callW CT (.fn k_f37 [] []) [.ref w 0 0] base A=some (resP (srch bnF fs 0),H')∧Ext A H':=by
 have e1:Ext A (A ++ [Ob.cells 0 [Iz 0,Iz 0,Iz 0]]):=Ext.app _ _
 have x1:=hc.load e1
 have hl:=(hc.rd.ext e1).len
 have g1:getC (A ++ [Ob.cells 0 [Iz 0,Iz 0,Iz 0]]) A.length 0=some [Iz 0,Iz 0,Iz 0]:=getC_new A 0 _
 have hl1:(A ++ [Ob.cells 0 [Iz 0,Iz 0,Iz 0]]).length=A.length+1:=by simp
 rcases bn_l2 (CT:=CT) hB hN base hc e1 hb g1 hc.rd hc.sml.n h1' hc.sml.ps hc.sml.nb hc.sml.nc hc.sml.xs hc.sml.ls (L:=A.length+1) (by omega) (by omega) (A ++ [Ob.cells 0 [Iz 0,Iz 0,Iz 0]]) (Ext.refl _) with ⟨q1,C,q2,q3⟩ | ⟨⟨i,b,k⟩,q1,D,q2,q3,q4⟩
 ·have g2:=getC_ext g1 q3
  have g3:=getC_put (c':=[Iz 0,Iz 0,Iz 0]) g2
  refine ⟨C.set A.length (.cells 0 [Iz 0,Iz 0,Iz 0]),callW_fnA (c:=s_f37) (k:=1) hT rfl (by decide) s_f37_first ?_,(e1.trans q3).set (Nat.le_refl _) _⟩
  rw [q1]
  have xR:loadV (C.set A.length (.cells 0 [Iz 0,Iz 0,Iz 0])) true 3 (.ref A.length 0 0)=some (.agg [Iz 0,Iz 0,Iz 0]):=by
   show xLoad _ true 3 _=_
   rw [xo_ref,g3];rfl
  simp only [Iz,bl] at x1 hl hl1 q2 g2 xR
  simp only [Iz,s_f37,a_f37,s_f37_l0_b,s_f37_l1_b,s_f37_l2_b,aa,reduceIte,reduceCtorEq,Nat.reduceEqDiff,Nat.reduceLT,Nat.reduceLeDiff,Nat.reduceBEq,Nat.reduceAdd,Nat.reduceMul,op_appR,x1,hl,hl1,q2,g2,hb]
  rw [xR]
  rfl
 ·refine ⟨D,callW_fnA (c:=s_f37) (k:=1) hT rfl (by decide) s_f37_first ?_,q3⟩
  rw [q1]
  have xR:loadV D true 3 (.ref A.length 0 0)=some (.agg [Iz i,Iz b,Iz k]):=by
   show xLoad _ true 3 _=_
   rw [xo_ref,q4];rfl
  simp only [Iz,bl] at x1 hl hl1 q2 xR
  simp only [Iz,s_f37,a_f37,s_f37_l0_b,s_f37_l1_b,s_f37_l2_b,aa,reduceIte,reduceCtorEq,Nat.reduceEqDiff,Nat.reduceLT,Nat.reduceLeDiff,Nat.reduceBEq,Nat.reduceAdd,Nat.reduceMul,op_appR,x1,hl,hl1,q2]
  rw [xR]
  rfl
end
end Go.Proofs.YtngfpadeebpoeaaGreatDoor
set_option maxRecDepth 100000
namespace Go.Proofs.YtngfpadeebpoeaaGreatDoor
open Go.AM
section
variable {CT:Nat→Option CFun}
theorem badInstr_fun (hF:FindT CT) (hCl:CT k_f100=some (.code s_f100)) (hT1:CT k_f104=some (.code s_f104)) (hT:CT k_f44=some (.code s_f44)) (base:Nat) {A:Heap} (hb:base≤A.length) {w sm:Nat} {fv:V} {fs:List FunD} (hc:NC A w sm fv fs):
 ∃ H',callW CT (.fn k_f44 [] []) [.ref w 0 0] base A=some (resP (gSrch (fun _=>fun _ _ _ x=>biG x) fs),H')∧Ext A H':=by
 have e1:Ext A (A ++ [Ob.cells 0 [.ref w 0 0]]):=Ext.app _ _
 have e2:Ext (A ++ [Ob.cells 0 [.ref w 0 0]]) (A ++ [Ob.cells 0 [.ref w 0 0]] ++ [Ob.cells 0 [Iz 0,Iz 0,Iz 0]]):=Ext.app _ _
 have hw:getC (A ++ [Ob.cells 0 [.ref w 0 0]] ++ [Ob.cells 0 [Iz 0,Iz 0,Iz 0]]) A.length 0=some [.ref w 0 0]:=getC_ext (getC_new A 0 _) e2
 have hl:=len_snoc A (Ob.cells 0 [.ref w 0 0])
 have hb1:base≤A.length+1:=by omega
 have hb2:base≤(A ++ [Ob.cells 0 [.ref w 0 0]] ++ [Ob.cells 0 [Iz 0,Iz 0,Iz 0]]).length:=by rw [len_snoc,len_snoc];omega
 obtain ⟨H1,h1,h2⟩:=find_pure hF base hb2 (hc.ext (e1.trans e2)) (f:=.fn k_f104 [] [.ref A.length 0 0]) rfl (g:=fun _ _ _ x=>biG x) (fun i f1 hi b x hx k z r hz hr D hD=>badInstr1_fun hCl hT1 base hb2 (hc.ext (e1.trans e2)) hw hr D hD)
 have g2:getC H1 (A.length+1) 0=some [Iz 0,Iz 0,Iz 0]:=by
  have:=getC_new (A ++ [Ob.cells 0 [.ref w 0 0]]) 0 [Iz 0,Iz 0,Iz 0]
  rw [len_snoc] at this
  exact getC_ext this h2
 have hwx:=getC_load hw
 cases ho:gSrch (fun _=>fun _ _ _ x=>biG x) fs with
 | none=>
   rw [ho] at h1
   have g3:=getC_put (c':=[Iz 0,Iz 0,Iz 0]) g2
   refine ⟨H1.set (A.length+1) (.cells 0 [Iz 0,Iz 0,Iz 0]),callW_fnA (c:=s_f44) (k:=1) hT rfl (by decide) s_f44_first ?_,((e1.trans e2).trans h2).set (Nat.le_succ _) _⟩
   have xR:loadV (H1.set (A.length+1) (.cells 0 [Iz 0,Iz 0,Iz 0])) true 3 (.ref (A.length+1) 0 0)=some (.agg [Iz 0,Iz 0,Iz 0]):=by
    show xLoad _ true 3 _=_
    rw [xo_ref,g3];rfl
   simp only [resP,Iz,bl] at h1 g2 xR
   simp only [Iz,s_f44,a_f44,aa,reduceIte,reduceCtorEq,Nat.reduceEqDiff,Nat.reduceLT,Nat.reduceLeDiff,Nat.reduceBEq,Nat.reduceAdd,Nat.reduceMul,op_appR,xsub_mkFn,hl,hwx,h1,g2,hb1]
   rw [xR]
   rfl
 | some t=>
   obtain ⟨i,b,k⟩:=t
   rw [ho] at h1
   have g3:=getC_put (c':=[Iz i,Iz b,Iz k]) g2
   refine ⟨H1.set (A.length+1) (.cells 0 [Iz i,Iz b,Iz k]),callW_fnA (c:=s_f44) (k:=1) hT rfl (by decide) s_f44_first ?_,((e1.trans e2).trans h2).set (Nat.le_succ _) _⟩
   have xR:loadV (H1.set (A.length+1) (.cells 0 [Iz i,Iz b,Iz k])) true 3 (.ref (A.length+1) 0 0)=some (.agg [Iz i,Iz b,Iz k]):=by
    show xLoad _ true 3 _=_
    rw [xo_ref,g3];rfl
   simp only [resP,Iz,bl] at h1 g2 xR
   simp only [Iz,s_f44,a_f44,aa,reduceIte,reduceCtorEq,Nat.reduceEqDiff,Nat.reduceLT,Nat.reduceLeDiff,Nat.reduceBEq,Nat.reduceAdd,Nat.reduceMul,op_appR,xsub_mkFn,hl,hwx,h1,g2,hb1]
   rw [xR]
   rfl
end
end Go.Proofs.YtngfpadeebpoeaaGreatDoor
set_option maxRecDepth 100000
namespace Go.Proofs.YtngfpadeebpoeaaGreatDoor
open Go.AM
theorem callW_fst {CP:Nat→Option CFun} {k:Nat} {a:V} {args:List V} {base:Nat} {H:Heap} {r:V × Heap} (h:callW CP (.fn k [] []) (a :: args) base H=some r):callW CP (.fn k [a] []) args base H=some r:=by
 obtain ⟨n,hn⟩:=callW_ex h
 refine callW_of (n:=n) ?_
 rw [← hn]
 cases n <;> rfl
structure RulT (CT:Nat→Option CFun):Prop where
 F:FindT CT
 B:BadT CT
 N:ConT CT
 badName:CT k_f37=some (.code s_f37)
 badInstr:CT k_f44=some (.code s_f44)
 badInstr_1:CT k_f104=some (.code s_f104)
 badName_1:CT k_f94=some (.code s_f94)
 calls:CT k_f100=some (.code s_f100)
 shapes:CT k_f35=some (.code s_f35)
def firstN (fs:List FunD):Nat→Option Pt
 | 2=>srch bnF fs 0
 | 9=>gSrch (fun _=>fun _ _ _ x=>biG x) fs
 | _=>none
def fnT (w:Nat):List (Int × V):=[(1,.fn 36 [.ref w 0 0] []),(2,.fn 37 [.ref w 0 0] []),(3,.fn 38 [.ref w 0 0] []),(4,.fn 39 [.ref w 0 0] []),(5,.fn 40 [.ref w 0 0] []),(6,.fn 41 [.ref w 0 0] []),(7,.fn 42 [.ref w 0 0] []),(8,.fn 43 [.ref w 0 0] []),(9,.fn 44 [.ref w 0 0] []),(10,.fn 45 [.ref w 0 0] []),(11,.fn 46 [.ref w 0 0] []),(12,.fn 47 [.ref w 0 0] []),(13,.fn 48 [.ref w 0 0] []),(14,.fn 49 [.ref w 0 0] []),(15,.fn 50 [.ref w 0 0] []),(16,.fn 51 [.ref w 0 0] [])]
section
variable {CT:Nat→Option CFun}
theorem rule_fun (h:RulT CT) (base:Nat) {A:Heap} (hb:base≤A.length) {w sm:Nat} {fv:V} {fs:List FunD} (hc:NC A w sm fv fs) {r:Nat} (hr:r=2∨r=9):
 ∃ k H',lookI (fnT w) r=some (.fn k [.ref w 0 0] [])∧callW CT (.fn k [.ref w 0 0] []) [] base A=some (resP (firstN fs r),H')∧Ext A H':=by
 rcases hr with rfl | rfl
 ·obtain ⟨H',e1,e2⟩:=badName_fun h.badName h.badName_1 h.B h.N base hb hc
  exact ⟨_,H',rfl,callW_fst e1,e2⟩
 ·obtain ⟨H',e1,e2⟩:=badInstr_fun h.F h.calls h.badInstr_1 h.badInstr base hb hc
  exact ⟨_,H',rfl,callW_fst e1,e2⟩
theorem first_fun (h:RulT CT) (hT:CT k_f16=some (.code s_f16)) (base:Nat) {A:Heap} (hb:base≤A.length) {fv:V} {fs:List FunD} (hr:RdProg A fv fs) (hs:Small fs) {r:Nat} (hr2:r=2∨r=9):
 ∃ H',callW CT (.fn k_f16 [] []) [.agg [fv],.s (.int .u8 r)] base A=some (resP (firstN fs r),H')∧Ext A H':=by
 have hfo:=hr.one
 obtain ⟨A1,hA1⟩:∃ A1,A ++ [Ob.cells 0 [fv]]=A1:=⟨_,rfl⟩
 have l1:A1.length=A.length+1:=by rw [← hA1,len_snoc]
 obtain ⟨A2,hA2⟩:∃ A2,A1 ++ [Ob.cells 0 [Iz 0,Iz 0,Iz 0]]=A2:=⟨_,rfl⟩
 have l2:A2.length=A.length+2:=by rw [← hA2,len_snoc,l1]
 obtain ⟨A3,hA3⟩:∃ A3,A2 ++ [Ob.map (esI .u8 shT)]=A3:=⟨_,rfl⟩
 have l3:A3.length=A.length+3:=by rw [← hA3,len_snoc,l2]
 obtain ⟨A4,hA4⟩:∃ A4,A3 ++ [Ob.cells 0 [fv,.mp (A.length+2)]]=A4:=⟨_,rfl⟩
 have l4:A4.length=A.length+4:=by rw [← hA4,len_snoc,l3]
 have e1:Ext A A1:=hA1 ▸ Ext.app _ _
 have e2:Ext A1 A2:=hA2 ▸ Ext.app _ _
 have e3:Ext A2 A3:=hA3 ▸ Ext.app _ _
 have e4:Ext A3 A4:=hA4 ▸ Ext.app _ _
 obtain ⟨w,hw⟩:∃ w,A.length+3=w:=⟨_,rfl⟩
 obtain ⟨A5,hA5⟩:∃ A5,A4 ++ [Ob.map (esI .u8 (fnT w))]=A5:=⟨_,rfl⟩
 have l5:A5.length=A.length+5:=by rw [← hA5,len_snoc,l4]
 have e5:Ext A4 A5:=hA5 ▸ Ext.app _ _
 have x1:getC A1 A.length 0=some [fv]:=hA1 ▸ getC_new A 0 _
 have x2:getC A2 (A.length+1) 0=some [Iz 0,Iz 0,Iz 0]:=by rw [← l1,← hA2];exact getC_new A1 0 _
 have x2p:=getC_load (getC_ext x1 e2)
 have ld1:xLoad A2 true 1 (.ref A.length 0 0)=some (.agg [fv]):=by rw [xo_ref,getC_ext x1 e2];rfl
 have hsh:=shapes_fun h.shapes A2.length A2 (Nat.le_refl _)
 rw [hA3,l2] at hsh
 have hc:NC A5 w (A.length+2) fv fs:=by
  refine ⟨?_,hr.ext (e1.trans (e2.trans (e3.trans (e4.trans e5)))),hs,?_⟩
  ·rw [← hw,← l3]
   exact getC_ext (by rw [← hA4];exact getC_new A3 0 _) e5
  ·refine Ext.at' (e4.trans e5) ?_
   rw [← hA3,← l2]
   simp
 have hA5':A5[A.length+4]?=some (.map (esI .u8 (fnT w))):=by rw [← hA5,← l4];simp
 have hmg:=get_I .u8 hA5' (.s .nilFunc) false (r:Int)
 rw [if_neg Bool.false_ne_true] at hmg
 have hb4:base≤A4.length:=by omega
 have e0:(Ob.map []:Ob)=.map (esI .u8 []):=rfl
 have u1:=upd_I hb4 .u8 ((fnT w).take 0) 1 (.fn 36 [.ref w 0 0] []) (by rfl)
 have u2:=upd_I hb4 .u8 ((fnT w).take 1) 2 (.fn 37 [.ref w 0 0] []) (by rfl)
 have u3:=upd_I hb4 .u8 ((fnT w).take 2) 3 (.fn 38 [.ref w 0 0] []) (by rfl)
 have u4:=upd_I hb4 .u8 ((fnT w).take 3) 4 (.fn 39 [.ref w 0 0] []) (by rfl)
 have u5:=upd_I hb4 .u8 ((fnT w).take 4) 5 (.fn 40 [.ref w 0 0] []) (by rfl)
 have u6:=upd_I hb4 .u8 ((fnT w).take 5) 6 (.fn 41 [.ref w 0 0] []) (by rfl)
 have u7:=upd_I hb4 .u8 ((fnT w).take 6) 7 (.fn 42 [.ref w 0 0] []) (by rfl)
 have u8:=upd_I hb4 .u8 ((fnT w).take 7) 8 (.fn 43 [.ref w 0 0] []) (by rfl)
 have u9:=upd_I hb4 .u8 ((fnT w).take 8) 9 (.fn 44 [.ref w 0 0] []) (by rfl)
 have u10:=upd_I hb4 .u8 ((fnT w).take 9) 10 (.fn 45 [.ref w 0 0] []) (by rfl)
 have u11:=upd_I hb4 .u8 ((fnT w).take 10) 11 (.fn 46 [.ref w 0 0] []) (by rfl)
 have u12:=upd_I hb4 .u8 ((fnT w).take 11) 12 (.fn 47 [.ref w 0 0] []) (by rfl)
 have u13:=upd_I hb4 .u8 ((fnT w).take 12) 13 (.fn 48 [.ref w 0 0] []) (by rfl)
 have u14:=upd_I hb4 .u8 ((fnT w).take 13) 14 (.fn 49 [.ref w 0 0] []) (by rfl)
 have u15:=upd_I hb4 .u8 ((fnT w).take 14) 15 (.fn 50 [.ref w 0 0] []) (by rfl)
 have u16:=upd_I hb4 .u8 ((fnT w).take 15) 16 (.fn 51 [.ref w 0 0] []) (by rfl)
 rw [show (fnT w).take 15 ++ [(16,.fn 51 [.ref w 0 0] [])]=fnT w from rfl,hA5] at u16
 simp only [fnT,List.take_succ_cons,List.take_zero,List.cons_append,List.nil_append,l4] at u1
 simp only [fnT,List.take_succ_cons,List.take_zero,List.cons_append,List.nil_append,l4] at u2
 simp only [fnT,List.take_succ_cons,List.take_zero,List.cons_append,List.nil_append,l4] at u3
 simp only [fnT,List.take_succ_cons,List.take_zero,List.cons_append,List.nil_append,l4] at u4
 simp only [fnT,List.take_succ_cons,List.take_zero,List.cons_append,List.nil_append,l4] at u5
 simp only [fnT,List.take_succ_cons,List.take_zero,List.cons_append,List.nil_append,l4] at u6
 simp only [fnT,List.take_succ_cons,List.take_zero,List.cons_append,List.nil_append,l4] at u7
 simp only [fnT,List.take_succ_cons,List.take_zero,List.cons_append,List.nil_append,l4] at u8
 simp only [fnT,List.take_succ_cons,List.take_zero,List.cons_append,List.nil_append,l4] at u9
 simp only [fnT,List.take_succ_cons,List.take_zero,List.cons_append,List.nil_append,l4] at u10
 simp only [fnT,List.take_succ_cons,List.take_zero,List.cons_append,List.nil_append,l4] at u11
 simp only [fnT,List.take_succ_cons,List.take_zero,List.cons_append,List.nil_append,l4] at u12
 simp only [fnT,List.take_succ_cons,List.take_zero,List.cons_append,List.nil_append,l4] at u13
 simp only [fnT,List.take_succ_cons,List.take_zero,List.cons_append,List.nil_append,l4] at u14
 simp only [fnT,List.take_succ_cons,List.take_zero,List.cons_append,List.nil_append,l4] at u15
 simp only [fnT,List.take_succ_cons,List.take_zero,l4] at u16
 have x5:=getC_ext x2 (e3.trans (e4.trans e5))
 have hb1:base≤A.length+1:=by omega
 have hb4':base≤A.length+4:=by omega
 have ee:Ext A A5:=e1.trans (e2.trans (e3.trans (e4.trans e5)))
 have ea:Ext A A1:=e1
 simp only [Iz] at hA2 x5
 ·obtain ⟨k,H1,k1,k2,k3⟩:=rule_fun h base (A:=A5) (by omega) hc hr2
  rw [k1,Option.getD_some] at hmg
  have g2:=getC_ext x5 k3
  cases ho:firstN fs r with
  | none=>
    rw [ho] at k2
    have g3:=getC_put (c':=[Iz 0,Iz 0,Iz 0]) g2
    have xR:loadV (H1.set (A.length+1) (.cells 0 [Iz 0,Iz 0,Iz 0])) true 3 (.ref (A.length+1) 0 0)=some (.agg [Iz 0,Iz 0,Iz 0]):=by
     show xLoad _ true 3 _=_
     rw [xo_ref,g3];rfl
    refine ⟨H1.set (A.length+1) (.cells 0 [Iz 0,Iz 0,Iz 0]),callW_fnA (c:=s_f16) (k:=2) hT rfl (by decide) s_f16_first ?_,(ee.trans k3).set (Nat.le_succ _) _⟩
    simp only [resP,Iz,bl] at k2 g2 xR
    simp only [Iz,s_f16,a_f16,aa,reduceIte,reduceCtorEq,Nat.reduceEqDiff,Nat.reduceLT,Nat.reduceLeDiff,Nat.reduceBEq,Nat.reduceAdd,Nat.reduceMul,op_appR,op_mapNew,op_mapUpd,xsub_mkFn,hfo,Bool.and_self,hA1,l1,hA2,l2,ld1,hsh,l3,hA4,l4,hw,hb4',hb4,e0,u1,u2,u3,u4,u5,u6,u7,u8,u9,u10,u11,u12,u13,u14,u15,u16,hmg,k2,g2,hb1]
    rw [xR]
    rfl
  | some t=>
    obtain ⟨i,b,q⟩:=t
    rw [ho] at k2
    have g3:=getC_put (c':=[Iz i,Iz b,Iz q]) g2
    have xR:loadV (H1.set (A.length+1) (.cells 0 [Iz i,Iz b,Iz q])) true 3 (.ref (A.length+1) 0 0)=some (.agg [Iz i,Iz b,Iz q]):=by
     show xLoad _ true 3 _=_
     rw [xo_ref,g3];rfl
    refine ⟨H1.set (A.length+1) (.cells 0 [Iz i,Iz b,Iz q]),callW_fnA (c:=s_f16) (k:=2) hT rfl (by decide) s_f16_first ?_,(ee.trans k3).set (Nat.le_succ _) _⟩
    simp only [resP,Iz,bl] at k2 g2 xR
    simp only [Iz,s_f16,a_f16,aa,reduceIte,reduceCtorEq,Nat.reduceEqDiff,Nat.reduceLT,Nat.reduceLeDiff,Nat.reduceBEq,Nat.reduceAdd,Nat.reduceMul,op_appR,op_mapNew,op_mapUpd,xsub_mkFn,hfo,Bool.and_self,hA1,l1,hA2,l2,ld1,hsh,l3,hA4,l4,hw,hb4',hb4,e0,u1,u2,u3,u4,u5,u6,u7,u8,u9,u10,u11,u12,u13,u14,u15,u16,hmg,k2,g2,hb1]
    rw [xR]
    rfl
end
end Go.Proofs.YtngfpadeebpoeaaGreatDoor
set_option maxRecDepth 100000
namespace Go.Proofs.YtngfpadeebpoeaaGreatDoor
open Go.AM
section
variable {CT:Nat→Option CFun}
theorem len_fun (hT:CT k_f23=some (.code s_f23)) (base:Nat) {m b:Nat} {H:Heap} {txt:List UInt8} (hB:Bld m H b txt):callW CT (.fn k_f23 [] []) [.ref b 0 0] base H=some (Iz txt.length,H):=by
 refine callW_fn (c:=s_f23) hT (by simp [s_f23]) ?_
 obtain ⟨_,⟨rfl,hg⟩ | ⟨id,g,hg,_⟩⟩:=hB
 ·simp only [s_f23,a_f23,aa,reduceIte,reduceCtorEq,Nat.reduceEqDiff,Nat.reduceLT,Nat.reduceLeDiff,Nat.reduceBEq,Nat.reduceAdd,Nat.reduceMul,op_appR,hg]
 ·simp only [s_f23,a_f23,aa,reduceIte,reduceCtorEq,Nat.reduceEqDiff,Nat.reduceLT,Nat.reduceLeDiff,Nat.reduceBEq,Nat.reduceAdd,Nat.reduceMul,op_appR,hg]
  try rfl
theorem bst_fun (h:LibT CT) {base m b:Nat} (hb:base≤m) {H:Heap} {txt:List UInt8} (hB:Bld m H b txt) (hl:txt.length≤140737488355328):∃ H',callW CT (.fn k_f24 [] []) [.ref b 0 0] base H=some (.s (.string ⟨txt.toArray⟩),H')∧H.length≤H'.length∧∀ i,i < m→H'[i]?=H[i]?:=by
 obtain ⟨hm,⟨rfl,hg⟩ | ⟨id,g,hg,hH,hid,hne⟩⟩:=hB
 ·refine ⟨H,callW_eq ?_,Nat.le_refl _,fun _ _=>rfl⟩
  simp only [evCall,h.bst,bstG,List.nil_append,List.append_nil,hg]
 ·by_cases h0:txt.length=0
  ·have ht:txt=[]:=List.eq_nil_of_length_eq_zero h0
   exact absurd ht hne
  ·refine ⟨H.set id .dead,callW_eq ?_,by simp,fun i hi=>by rw [List.getElem?_set_ne (by omega)]⟩
   simp only [evCall,h.bst,bstG,List.nil_append,List.append_nil,hg,hH]
   rw [if_pos ⟨by omega,h0,hl⟩]
   simp only [and_self,if_true]
end
end Go.Proofs.YtngfpadeebpoeaaGreatDoor
set_option maxRecDepth 100000
namespace Go.Proofs.YtngfpadeebpoeaaGreatDoor
open Go.AM
section
variable {CT:Nat→Option CFun}
theorem rule_none (h:RulT CT) (hT:CT k_f16=some (.code s_f16)) (base:Nat) {A2:Heap} (hb:base≤A2.length) {p q:Nat} {fv:V} {fs:List FunD} (hr:RdProg A2 fv fs) (hs:Small fs) (hp:getC A2 p 0=some [fv]) (hq:getC A2 q 0=some [.s (.int .u8 2),.s (.int .u8 9)]) {i r:Nat} (hi:i=0∧r=2∨i=1∧r=9) (ho:firstN fs r=none) {C:Heap} (hE:Ext A2 C):
 ∃ C',itW (evC (callW CT) itW base s_f10_l0) [] A2.length (frOf 98 [(1,.ref p 0 0),(18,.sl q 0 0 2 1),(19,Iz 2),(20,Iz i)]) C=itW (evC (callW CT) itW base s_f10_l0) [] A2.length (frOf 98 [(1,.ref p 0 0),(18,.sl q 0 0 2 1),(19,Iz 2),(20,Iz ((i+1:Nat):Int))]) C'∧Ext A2 C':=by
 have hr2:r=2∨r=9:=by omega
 obtain ⟨D,h1,h2⟩:=first_fun h hT base (A:=C) (by have:=hE.le;omega) (hr.ext hE) hs hr2
 rw [ho] at h1
 have hpl:xLoad C true 1 (.ref p 0 0)=some (.agg [fv]):=by rw [xo_ref,getC_ext hp hE];rfl
 have hqc:=getC_ext hq hE
 have hss:∀ c d,(D ++ [c]).set D.length d=D ++ [d]:=fun c d=>set_snoc D c d
 have hgz:∀ c,getC (D ++ [Ob.cells 0 c]) D.length 0=some c:=fun c=>getC_new D 0 c
 have hbD:base≤D.length:=by have:=(hE.trans h2).le;omega
 refine ⟨trim A2.length (frOf 98 [(1,.ref p 0 0),(18,.sl q 0 0 2 1),(19,Iz 2),(20,Iz ((i+1:Nat):Int))]) (D ++ [Ob.cells 0 [Iz 0,Iz 0,Iz 0]]),?_,((hE.trans h2).trans (Ext.app _ _)).trim (Nat.le_refl _) _⟩
 have d0:decide ((0:Int) < 2)=true:=rfl
 have d1:decide ((1:Int) < 2)=true:=rfl
 have u0:((0:Int) < ((2:Nat):Int))=True:=eq_true (by decide)
 have u1:((1:Int) < ((2:Nat):Int))=True:=eq_true (by decide)
 have i0:xIndexAddr 1 (.sl q 0 0 2 1) (.s (.int .i64 ((0:Nat):Int)))=some (.ref q 0 0):=rfl
 have i1:xIndexAddr 1 (.sl q 0 0 2 1) (.s (.int .i64 ((1:Nat):Int)))=some (.ref q 0 1):=rfl
 have l0:xLoad C false 1 (.ref q 0 0)=some (.s (.int .u8 2)):=by rw [xo_ref,hqc];rfl
 have l1:xLoad C false 1 (.ref q 0 1)=some (.s (.int .u8 9)):=by rw [xo_ref,hqc];rfl
 rw [itW_step]
 rcases hi with ⟨rfl,rfl⟩ | ⟨rfl,rfl⟩
 ·simp only [resP,Iz,bl] at h1 hss hgz
  rw [show ((2:Nat):Int)=2 from rfl] at h1
  simp only [Iz,s_f10_l0_ev,a_f10,s_f10_l0_b,s_f10_l1_b,s_f10_l2_b,s_f10_l3_b,aa,reduceIte,reduceCtorEq,Nat.reduceEqDiff,Nat.reduceLT,Nat.reduceLeDiff,Nat.reduceBEq,Nat.reduceAdd,Nat.reduceMul,op_appR,hpl,d0,u0,i0,l0,h1,hss,hgz,hbD,if_true,cond_true,cond_false,w64 (show 0 < 2 ^ 62 by decide)]
  try rfl
 ·simp only [resP,Iz,bl] at h1 hss hgz
  rw [show ((9:Nat):Int)=9 from rfl] at h1
  simp only [Iz,s_f10_l0_ev,a_f10,s_f10_l0_b,s_f10_l1_b,s_f10_l2_b,s_f10_l3_b,aa,reduceIte,reduceCtorEq,Nat.reduceEqDiff,Nat.reduceLT,Nat.reduceLeDiff,Nat.reduceBEq,Nat.reduceAdd,Nat.reduceMul,op_appR,hpl,d1,u1,i1,l1,h1,hss,hgz,hbD,if_true,cond_true,cond_false,w64 (show 1 < 2 ^ 62 by decide)]
  try rfl
theorem rule_some (h:RulT CT) (hT:CT k_f16=some (.code s_f16)) (base:Nat) {A2:Heap} (hb:base≤A2.length) {p q:Nat} {fv:V} {fs:List FunD} (hr:RdProg A2 fv fs) (hs:Small fs) (hp:getC A2 p 0=some [fv]) (hq:getC A2 q 0=some [.s (.int .u8 2),.s (.int .u8 9)]) {i r:Nat} (hi:i=0∧r=2∨i=1∧r=9) {t:Pt} (ho:firstN fs r=some t) {C:Heap} (hE:Ext A2 C):
 ∃ C',itW (evC (callW CT) itW base s_f10_l0) [] A2.length (frOf 98 [(1,.ref p 0 0),(18,.sl q 0 0 2 1),(19,Iz 2),(20,Iz i)]) C=some (.ret,frOf 98 [(2,Sb ⟨#[]⟩),(3,Iz 5)],C')∧Ext A2 C':=by
 have hr2:r=2∨r=9:=by omega
 obtain ⟨D,h1,h2⟩:=first_fun h hT base (A:=C) (by have:=hE.le;omega) (hr.ext hE) hs hr2
 rw [ho] at h1
 have hpl:xLoad C true 1 (.ref p 0 0)=some (.agg [fv]):=by rw [xo_ref,getC_ext hp hE];rfl
 have hqc:=getC_ext hq hE
 have hss:∀ c d,(D ++ [c]).set D.length d=D ++ [d]:=fun c d=>set_snoc D c d
 have hgz:∀ c,getC (D ++ [Ob.cells 0 c]) D.length 0=some c:=fun c=>getC_new D 0 c
 have hbD:base≤D.length:=by have:=(hE.trans h2).le;omega
 obtain ⟨x1,x2,x3⟩:=t
 refine ⟨trim A2.length (frOf 98 [(2,Sb ⟨#[]⟩),(3,Iz 5)]) (D ++ [Ob.cells 0 [Iz x1,Iz x2,Iz x3]]),?_,((hE.trans h2).trans (Ext.app _ _)).trim (Nat.le_refl _) _⟩
 have d0:decide ((0:Int) < 2)=true:=rfl
 have d1:decide ((1:Int) < 2)=true:=rfl
 have u0:((0:Int) < ((2:Nat):Int))=True:=eq_true (by decide)
 have u1:((1:Int) < ((2:Nat):Int))=True:=eq_true (by decide)
 have i0:xIndexAddr 1 (.sl q 0 0 2 1) (.s (.int .i64 ((0:Nat):Int)))=some (.ref q 0 0):=rfl
 have i1:xIndexAddr 1 (.sl q 0 0 2 1) (.s (.int .i64 ((1:Nat):Int)))=some (.ref q 0 1):=rfl
 have l0:xLoad C false 1 (.ref q 0 0)=some (.s (.int .u8 2)):=by rw [xo_ref,hqc];rfl
 have l1:xLoad C false 1 (.ref q 0 1)=some (.s (.int .u8 9)):=by rw [xo_ref,hqc];rfl
 rw [itW_step]
 rcases hi with ⟨rfl,rfl⟩ | ⟨rfl,rfl⟩
 ·simp only [resP,Iz,bl] at h1 hss hgz
  rw [show ((2:Nat):Int)=2 from rfl] at h1
  simp only [Iz,s_f10_l0_ev,a_f10,s_f10_l0_b,s_f10_l1_b,s_f10_l2_b,s_f10_l3_b,aa,reduceIte,reduceCtorEq,Nat.reduceEqDiff,Nat.reduceLT,Nat.reduceLeDiff,Nat.reduceBEq,Nat.reduceAdd,Nat.reduceMul,op_appR,hpl,d0,u0,i0,l0,h1,hss,hgz,hbD,if_true,cond_true,cond_false,w64 (show 0 < 2 ^ 62 by decide)]
  try rfl
 ·simp only [resP,Iz,bl] at h1 hss hgz
  rw [show ((9:Nat):Int)=9 from rfl] at h1
  simp only [Iz,s_f10_l0_ev,a_f10,s_f10_l0_b,s_f10_l1_b,s_f10_l2_b,s_f10_l3_b,aa,reduceIte,reduceCtorEq,Nat.reduceEqDiff,Nat.reduceLT,Nat.reduceLeDiff,Nat.reduceBEq,Nat.reduceAdd,Nat.reduceMul,op_appR,hpl,d1,u1,i1,l1,h1,hss,hgz,hbD,if_true,cond_true,cond_false,w64 (show 1 < 2 ^ 62 by decide)]
  try rfl
end
end Go.Proofs.YtngfpadeebpoeaaGreatDoor
set_option maxRecDepth 100000
namespace Go.Proofs.YtngfpadeebpoeaaGreatDoor
open Go.AM
structure PriT (CT:Nat→Option CFun):Prop where
 P:PrT CT
 R:RulT CT
 first:CT k_f16=some (.code s_f16)
 forms:CT k_f17=some (.code s_f17)
 len:CT k_f23=some (.code s_f23)
 print:CT k_f10=some (.code s_f10)
section
variable {CT:Nat→Option CFun}
theorem print_bad (h:PriT CT) (base:Nat) {A:Heap} (hb:base≤A.length) {fv:V} {fs:List FunD} (hr:RdProg A fv fs) (hs:Small fs) (hbad:(firstN fs 2).isSome=true∨(firstN fs 9).isSome=true):
 ∃ H',callW CT (.fn k_f10 [] []) [.agg [fv]] base A=some (.tup [Sb ⟨#[]⟩,Iz 5],H')∧Ext A H':=by
 have hfo:=hr.one
 obtain ⟨A1,hA1⟩:∃ A1,A ++ [Ob.cells 0 [fv]]=A1:=⟨_,rfl⟩
 obtain ⟨A2,hA2⟩:∃ A2,A1 ++ [Ob.cells 0 [V.s (.int .u8 2),.s (.int .u8 9)]]=A2:=⟨_,rfl⟩
 have l1:A1.length=A.length+1:=by rw [← hA1,len_snoc]
 have l2:A2.length=A.length+2:=by rw [← hA2,len_snoc,l1]
 have e1:Ext A A1:=hA1 ▸ Ext.app _ _
 have e2:Ext A1 A2:=hA2 ▸ Ext.app _ _
 have x1:getC A2 A.length 0=some [fv]:=getC_ext (hA1 ▸ getC_new A 0 _) e2
 have x2:getC A2 (A.length+1) 0=some [V.s (.int .u8 2),.s (.int .u8 9)]:=by rw [← l1,← hA2];exact getC_new A1 0 _
 have hrun:∃ C',itW (evC (callW CT) itW base s_f10_l0) [] A2.length (frOf 98 [(1,.ref A.length 0 0),(18,.sl (A.length+1) 0 0 2 1),(19,Iz 2),(20,Iz ((0:Nat):Int))]) A2=some (.ret,frOf 98 [(2,Sb ⟨#[]⟩),(3,Iz 5)],C')∧Ext A2 C':=by
  cases h2:firstN fs 2 with
  | some t=>exact rule_some h.R h.first base (by omega) (hr.ext (e1.trans e2)) hs x1 x2 (.inl ⟨rfl,rfl⟩) h2 (Ext.refl _)
  | none=>
    obtain ⟨C,q1,q2⟩:=rule_none h.R h.first base (by omega) (hr.ext (e1.trans e2)) hs x1 x2 (.inl ⟨rfl,rfl⟩) h2 (Ext.refl _)
    cases h9:firstN fs 9 with
    | none=>rw [h2,h9] at hbad;simp at hbad
    | some t=>
      rw [q1]
      exact rule_some h.R h.first base (by omega) (hr.ext (e1.trans e2)) hs x1 x2 (.inr ⟨rfl,rfl⟩) h9 q2
 obtain ⟨C',q1,q2⟩:=hrun
 refine ⟨C',callW_fnA (c:=s_f10) (k:=1) h.print rfl (by decide) s_f10_first ?_,(e1.trans e2).trans q2⟩
 rw [l2,show ((0:Nat):Int)=0 from rfl] at q1
 simp only [Iz] at q1
 simp only [Iz,s_f10,a_f10,s_f10_l0_b,s_f10_l1_b,s_f10_l2_b,s_f10_l3_b,aa,reduceIte,reduceCtorEq,Nat.reduceEqDiff,Nat.reduceLT,Nat.reduceLeDiff,Nat.reduceBEq,Nat.reduceAdd,Nat.reduceMul,op_appR,hfo,Bool.and_self,hA1,l1,hA2,l2,show ((2:Nat):Int)=2 from rfl,q1]
 try rfl
theorem ext_keep {A H H':Heap} (hl:H.length≤H'.length) (hk:∀ i,i < A.length→H'[i]?=H[i]?) (k:Ext A H):Ext A H':=by
 refine ⟨H'.drop A.length,?_⟩
 apply List.ext_getElem?
 intro i
 by_cases hi:i < A.length
 ·rw [List.getElem?_append_left hi,hk i hi,k.get hi]
 ·rw [List.getElem?_append_right (by omega),List.getElem?_drop]
  congr 1
  omega
theorem print_ok (h:PriT CT) (base:Nat) {A:Heap} (hb:base≤A.length) {fv:V} {fs:List FunD} (hr:RdProg A fv fs) (hs:Small fs) (h2:firstN fs 2=none) (h9:firstN fs 9=none) (hsm:∀ f∈fs,SmF f) (hl:(progT fs).length≤140737488355328):
 ∃ H',callW CT (.fn k_f10 [] []) [.agg [fv]] base A=some (if 1048576 < (progT fs).length then .tup [Sb ⟨#[]⟩,Iz 2] else .tup [Sb ⟨(progT fs).toArray⟩,Iz 0],H')∧Ext A H':=by
 have hfo:=hr.one
 have hns:=hs.n
 obtain ⟨A1,hA1⟩:∃ A1,A ++ [Ob.cells 0 [fv]]=A1:=⟨_,rfl⟩
 obtain ⟨A2,hA2⟩:∃ A2,A1 ++ [Ob.cells 0 [V.s (.int .u8 2),.s (.int .u8 9)]]=A2:=⟨_,rfl⟩
 have l1:A1.length=A.length+1:=by rw [← hA1,len_snoc]
 have l2:A2.length=A.length+2:=by rw [← hA2,len_snoc,l1]
 have e1:Ext A A1:=hA1 ▸ Ext.app _ _
 have e2:Ext A1 A2:=hA2 ▸ Ext.app _ _
 have x1:getC A2 A.length 0=some [fv]:=getC_ext (hA1 ▸ getC_new A 0 _) e2
 have x2:getC A2 (A.length+1) 0=some [V.s (.int .u8 2),.s (.int .u8 9)]:=by rw [← l1,← hA2];exact getC_new A1 0 _
 have hr2:=hr.ext (e1.trans e2)
 obtain ⟨Ca,q1,q2⟩:=rule_none h.R h.first base (by omega) hr2 hs x1 x2 (.inl ⟨rfl,rfl⟩) h2 (Ext.refl _)
 obtain ⟨Cb,q3,q4⟩:=rule_none h.R h.first base (by omega) hr2 hs x1 x2 (.inr ⟨rfl,rfl⟩) h9 q2
 have q5:=q1.trans q3
 rw [l2,show ((0:Nat):Int)=0 from rfl,show ((1+1:Nat):Int)=2 from rfl] at q5
 obtain ⟨C0,hC0⟩:∃ C0,trim (A.length+2) (frOf 98 [(1,.ref A.length 0 0),(18,.sl (A.length+1) 0 0 2 1),(19,.s (.int .i64 2)),(20,.s (.int .i64 2)),(21,.s (.bool false))]) Cb=C0:=⟨_,rfl⟩
 have E0:Ext A2 C0:=hC0 ▸ q4.trim (by omega) _
 have hbC0:base≤C0.length:=by have:=E0.le;omega
 have hfm:=forms_fun h.forms base hbC0
 obtain ⟨A0,hA0⟩:∃ A0,C0 ++ [Ob.cells 0 [V.fn 52 [] []]] ++ [Ob.map (esI .u8 (foT C0.length))]=A0:=⟨_,rfl⟩
 have l0:A0.length=C0.length+2:=by rw [← hA0,len_snoc,len_snoc]
 have EA:Ext C0 A0:=hA0 ▸ (Ext.app C0 [Ob.cells 0 [V.fn 52 [] []]]).trans (Ext.app _ _)
 rw [hA0] at hfm
 have hn:getC A0 C0.length 0=some [.fn 52 [] []]:=hA0 ▸ getC_ext (getC_new C0 0 _) (Ext.app _ _)
 have hm:A0[C0.length+1]?=some (.map (esI .u8 (foT C0.length))):=by
  rw [← hA0,← len_snoc C0 (Ob.cells 0 [V.fn 52 [] []])]
  simp
 have hrA:=hr2.ext (E0.trans EA)
 obtain ⟨B0,hB0⟩:∃ B0,A0 ++ [Ob.cells 0 [V.unk,.s (.slice none 0 0)]]=B0:=⟨_,rfl⟩
 have EB:Ext A0 B0:=hB0 ▸ Ext.app _ _
 have lB:B0.length=A0.length+1:=by rw [← hB0,len_snoc]
 have hbA:base≤A0.length:=by omega
 obtain ⟨D,g1,g2,g3⟩:=fun_loop h.P base hbA hn hm hrA hsm (by omega) (L:=A0.length+1) (by omega) (txt:=[]) EB (⟨Nat.le_refl _,.inl ⟨rfl,hB0 ▸ getC_new A0 0 _⟩⟩) (by simp only [List.length_nil];omega)
 rw [show ((0:Nat):Int)=0 from rfl] at g1
 rw [List.nil_append] at g3
 obtain ⟨D1,hD1⟩:∃ D1,trim (A0.length+1) (frOf 98 [(8,.mp (C0.length+1)),(9,.ref A0.length 0 0),(10,.fn 18 [] [.ref A0.length 0 0]),(35,fv),(36,.s (.int .i64 fs.length)),(37,.s (.int .i64 fs.length)),(38,.s (.bool false))]) D=D1:=⟨_,rfl⟩
 have ED:Ext A0 D1:=hD1 ▸ g2.trim (by omega) _
 have BD:Bld A0.length D1 A0.length (progT fs):=hD1 ▸ g3.trim (by omega) _
 have hln:=len_fun h.len base BD
 obtain ⟨D2,hst,s1,s2⟩:=bst_fun h.P.F.W.L hbA BD hl
 have ET:Ext A A0:=(e1.trans e2).trans (E0.trans EA)
 have ES:Ext A D2:=ext_keep s1 (fun i hi=>s2 i (by have:=ET.le;omega)) (ET.trans ED)
 have x1C:=getC_load (getC_ext x1 (E0.trans (EA.trans EB)))
 have hll:=RdL.len (RdL.ext (P:=RdFun) RdFun.ext hrA EB)
 have hge:decide ((fs.length:Int) < (fs.length:Int))=false:=by simp
 have d2:decide ((2:Int) < 2)=false:=rfl
 have hz0:(∃ H',callW CT (.fn k_f10 [] []) [.agg [fv]] base A=some (if 1048576 < (progT fs).length then .tup [Sb ⟨#[]⟩,Iz 2] else .tup [Sb ⟨(progT fs).toArray⟩,Iz 0],H')∧Ext A H'):=by
  by_cases hbig:1048576 < (progT fs).length
  ·have hd:decide (((progT fs).length:Int) > 1048576)=true:=by rw [decide_eq_true_eq];omega
   refine ⟨D1,callW_fnA (c:=s_f10) (k:=1) h.print rfl (by decide) s_f10_first ?_,ET.trans ED⟩
   rw [if_pos hbig]
   simp only [Iz,nilS] at q5 g1 hll hln hD1 hB0 hC0
   simp only [Iz,s_f10,a_f10,s_f10_l0_b,s_f10_l1_b,s_f10_l2_b,s_f10_l3_b,aa,reduceIte,reduceCtorEq,Nat.reduceEqDiff,Nat.reduceLT,Nat.reduceLeDiff,Nat.reduceBEq,Nat.reduceAdd,Nat.reduceMul,op_appR,hfo,Bool.and_self,hA1,l1,hA2,l2,show ((2:Nat):Int)=2 from rfl,q5]
   rw [itW_step]
   simp only [Iz,s_f10_l0_ev,s_f10,a_f10,s_f10_l0_b,s_f10_l1_b,s_f10_l2_b,s_f10_l3_b,aa,reduceIte,reduceCtorEq,Nat.reduceEqDiff,Nat.reduceLT,Nat.reduceLeDiff,Nat.reduceBEq,Nat.reduceAdd,Nat.reduceMul,op_appR,d2,cond_false,hC0,hfm,xsub_mkFn,hB0,x1C,hll,lB,g1]
   rw [itW_step]
   simp only [Iz,s_f10_l3_ev,s_f10,a_f10,s_f10_l0_b,s_f10_l1_b,s_f10_l2_b,s_f10_l3_b,aa,reduceIte,reduceCtorEq,Nat.reduceEqDiff,Nat.reduceLT,Nat.reduceLeDiff,Nat.reduceBEq,Nat.reduceAdd,Nat.reduceMul,op_appR,hge,cond_false,cond_true,hD1,hln,hd,hst]
   try rfl
  ·have hd:decide (((progT fs).length:Int) > 1048576)=false:=by rw [decide_eq_false_iff_not];omega
   refine ⟨D2,callW_fnA (c:=s_f10) (k:=1) h.print rfl (by decide) s_f10_first ?_,ES⟩
   rw [if_neg hbig]
   simp only [Iz,nilS] at q5 g1 hll hln hD1 hB0 hC0
   simp only [Iz,s_f10,a_f10,s_f10_l0_b,s_f10_l1_b,s_f10_l2_b,s_f10_l3_b,aa,reduceIte,reduceCtorEq,Nat.reduceEqDiff,Nat.reduceLT,Nat.reduceLeDiff,Nat.reduceBEq,Nat.reduceAdd,Nat.reduceMul,op_appR,hfo,Bool.and_self,hA1,l1,hA2,l2,show ((2:Nat):Int)=2 from rfl,q5]
   rw [itW_step]
   simp only [Iz,s_f10_l0_ev,s_f10,a_f10,s_f10_l0_b,s_f10_l1_b,s_f10_l2_b,s_f10_l3_b,aa,reduceIte,reduceCtorEq,Nat.reduceEqDiff,Nat.reduceLT,Nat.reduceLeDiff,Nat.reduceBEq,Nat.reduceAdd,Nat.reduceMul,op_appR,d2,cond_false,hC0,hfm,xsub_mkFn,hB0,x1C,hll,lB,g1]
   rw [itW_step]
   simp only [Iz,s_f10_l3_ev,s_f10,a_f10,s_f10_l0_b,s_f10_l1_b,s_f10_l2_b,s_f10_l3_b,aa,reduceIte,reduceCtorEq,Nat.reduceEqDiff,Nat.reduceLT,Nat.reduceLeDiff,Nat.reduceBEq,Nat.reduceAdd,Nat.reduceMul,op_appR,hge,cond_false,cond_true,hD1,hln,hd,hst]
   try rfl
 exact hz0
end
end Go.Proofs.YtngfpadeebpoeaaGreatDoor
set_option maxRecDepth 100000
namespace Go.Proofs.YtngfpadeebpoeaaGreatDoor
open Go.AM
def Wd (l:List UInt8):Prop:=l≠[]∧∀ c∈l,33≤c.toNat∧c.toNat≤126
inductive GL:List UInt8→Prop
 | w {l:List UInt8} (h:Wd l):GL l
 | cat {a b:List UInt8} (ha:GL a) (hb:GL b):GL (a ++ b)
 | sp {a b:List UInt8} (ha:GL a) (hb:GL b):GL (a ++ 32 :: b)
structure GoodL (l:List UInt8):Prop where
 ne:l≠[]
 hd:l[0]?≠some 32
 la:l[l.length - 1]?≠some 32
 rng:∀ c∈l,32≤c.toNat∧c.toNat≤126
 dd:∀ j:Nat,l[j]?=some 32→l[j+1]?≠some 32
theorem not32 {c:UInt8} (h:33≤c.toNat):c≠32:=by
 intro e
 subst e
 exact absurd h (by decide)
theorem GL.goodL {l:List UInt8} (h:GL l):GoodL l:=by
 induction h with
 | w h=>
   rename_i l
   have hn:∀ j:Nat,l[j]?≠some 32:=fun j e=>not32 (h.2 _ (List.mem_of_getElem? e)).1 rfl
   exact ⟨h.1,hn _,hn _,fun c hc=>⟨by have:=(h.2 c hc).1;omega,(h.2 c hc).2⟩,fun j e=>absurd e (hn j)⟩
 | cat ha hb iha ihb=>
   rename_i a b
   have la:0 < a.length:=List.length_pos_iff.2 iha.ne
   have lb:0 < b.length:=List.length_pos_iff.2 ihb.ne
   refine ⟨by simp [iha.ne],by rw [List.getElem?_append_left la];exact iha.hd,?_,?_,?_⟩
   ·rw [List.length_append,List.getElem?_append_right (by omega),show a.length+b.length - 1 - a.length=b.length - 1 by omega]
    exact ihb.la
   ·intro c hc
    rcases List.mem_append.1 hc with h | h
    ·exact iha.rng c h
    ·exact ihb.rng c h
   ·intro j h1 h2
    by_cases c1:j+1 < a.length
    ·rw [List.getElem?_append_left (by omega)] at h1 h2
     exact iha.dd j h1 h2
    ·by_cases c2:j < a.length
     ·rw [List.getElem?_append_left c2] at h1
      obtain rfl:j=a.length - 1:=by omega
      exact iha.la h1
     ·rw [List.getElem?_append_right (by omega)] at h1 h2
      rw [show j+1 - a.length=j - a.length+1 by omega] at h2
      exact ihb.dd _ h1 h2
 | sp ha hb iha ihb=>
   rename_i a b
   have la:0 < a.length:=List.length_pos_iff.2 iha.ne
   have lb:0 < b.length:=List.length_pos_iff.2 ihb.ne
   refine ⟨by simp,by rw [List.getElem?_append_left la];exact iha.hd,?_,?_,?_⟩
   ·rw [List.length_append,List.length_cons,List.getElem?_append_right (by omega),show a.length+(b.length+1) - 1 - a.length=(b.length - 1)+1 by omega,List.getElem?_cons_succ]
    exact ihb.la
   ·intro c hc
    rcases List.mem_append.1 hc with h | h
    ·exact iha.rng c h
    ·rcases List.mem_cons.1 h with rfl | h
     ·decide
     ·exact ihb.rng c h
   ·intro j h1 h2
    by_cases c1:j+1 < a.length
    ·rw [List.getElem?_append_left (by omega)] at h1 h2
     exact iha.dd j h1 h2
    ·by_cases c2:j < a.length
     ·rw [List.getElem?_append_left c2] at h1
      obtain rfl:j=a.length - 1:=by omega
      exact iha.la h1
     ·rw [List.getElem?_append_right (by omega)] at h1 h2
      rw [show j+1 - a.length=(j - a.length)+1 by omega,List.getElem?_cons_succ] at h2
      by_cases c3:j=a.length
      ·subst c3
       rw [Nat.sub_self] at h2
       exact ihb.hd h2
      ·obtain ⟨k,hk⟩:∃ k,j - a.length=k+1:=⟨j - a.length - 1,by omega⟩
       rw [hk,List.getElem?_cons_succ] at h1
       rw [hk] at h2
       exact ihb.dd _ h1 h2
structure OkL (l:List UInt8):Prop where
 ne:l≠[]
 la:l[l.length - 1]?≠some 32
 rng:∀ c∈l,32≤c.toNat∧c.toNat≤126
 dd:∀ j:Nat,1≤j→l[j]?=some 32→l[j+1]?≠some 32
theorem GoodL.line {l:List UInt8} (h:GoodL l):OkL l:=⟨h.ne,h.la,h.rng,fun j _=>h.dd j⟩
theorem GoodL.line2 {l:List UInt8} (h:GoodL l):OkL (32 :: 32 :: l):=by
 have hl:0 < l.length:=List.length_pos_iff.2 h.ne
 refine ⟨by simp,?_,?_,?_⟩
 ·rw [show (32 :: 32 :: l).length - 1=(l.length - 1)+1+1 by simp only [List.length_cons];omega,List.getElem?_cons_succ,List.getElem?_cons_succ]
  exact h.la
 ·intro c hc
  rcases List.mem_cons.1 hc with rfl | hc
  ·decide
  ·rcases List.mem_cons.1 hc with rfl | hc
   ·decide
   ·exact h.rng c hc
 ·intro j hj h1 h2
  obtain ⟨k,rfl⟩:∃ k,j=k+1:=⟨j - 1,by omega⟩
  rw [List.getElem?_cons_succ] at h1 h2
  cases k with
  | zero=>
    rw [List.getElem?_cons_succ] at h2
    exact h.hd h2
  | succ k=>
    rw [List.getElem?_cons_succ] at h1 h2
    exact h.dd _ h1 h2
theorem cat_toList (a b:ByteArray):(a ++ b).data.toList=a.data.toList ++ b.data.toList:=by
 rw [ByteArray.data_append,Array.toList_append]
def GB (b:ByteArray):Prop:=GL b.data.toList
theorem GB.cat {a b:ByteArray} (ha:GB a) (hb:GB b):GB (a ++ b):=by
 unfold GB
 rw [cat_toList]
 exact .cat ha hb
theorem inter_two {α:Type} (s a b:List α) (l:List (List α)):s.intercalate (a :: b :: l)=a ++ (s ++ s.intercalate (b :: l)):=by
 simp [List.intercalate,List.intersperse]
theorem inter_one {α:Type} (s a:List α):s.intercalate [a]=a:=by
 simp [List.intercalate,List.intersperse]
theorem GL.words:∀ (xs:List (List UInt8)),xs≠[]→(∀ x∈xs,GL x)→GL ([32].intercalate xs):=by
 intro xs
 induction xs with
 | nil=>intro h;exact absurd rfl h
 | cons a xs ih=>
   intro _ h
   cases xs with
   | nil=>rw [inter_one];exact h a List.mem_cons_self
   | cons b xs=>
     rw [inter_two]
     exact .sp (h a List.mem_cons_self) (ih (by simp) fun x hx=>h x (List.mem_cons_of_mem _ hx))
theorem GL.commas:∀ (xs:List (List UInt8)),xs≠[]→(∀ x∈xs,GL x)→GL ([44,32].intercalate xs):=by
 intro xs
 induction xs with
 | nil=>intro h;exact absurd rfl h
 | cons a xs ih=>
   intro _ h
   cases xs with
   | nil=>rw [inter_one];exact h a List.mem_cons_self
   | cons b xs=>
     rw [inter_two,show a ++ ([44,32] ++ [44,32].intercalate (b :: xs))=(a ++ [44]) ++ 32 :: [44,32].intercalate (b :: xs) by simp]
     exact .sp (.cat (h a List.mem_cons_self) (.w (by unfold Wd;decide))) (ih (by simp) fun x hx=>h x (List.mem_cons_of_mem _ hx))
theorem GB.words {xs:List ByteArray} (hn:xs≠[]) (h:∀ x∈xs,GB x):GB (wordsT xs):=by
 unfold GB wordsT joinB Lib.join bSp
 rw [List.toList_toArray]
 refine GL.words _ (by simpa using hn) fun x hx=>?_
 obtain ⟨b,hb,rfl⟩:=List.mem_map.1 hx
 exact h b hb
theorem GB.commas {xs:List ByteArray} (hn:xs≠[]) (h:∀ x∈xs,GB x):GB (joinB xs bCm):=by
 unfold GB joinB Lib.join bCm
 rw [List.toList_toArray]
 refine GL.commas _ (by simpa using hn) fun x hx=>?_
 obtain ⟨b,hb,rfl⟩:=List.mem_map.1 hx
 exact h b hb
theorem join_nil (s:ByteArray):joinB [] s=⟨#[]⟩:=by simp [joinB,Lib.join,List.intercalate,List.intersperse]
theorem GB.args {xs:List ByteArray} (h:∀ x∈xs,GB x):GB (argsT xs):=by
 unfold argsT
 by_cases hn:xs=[]
 ·subst hn
  rw [join_nil]
  exact .w (by unfold Wd;decide)
 ·exact .cat (.cat (.w (by unfold Wd;decide)) (.commas hn h)) (.w (by unfold Wd;decide))
theorem GB.w {b:ByteArray} (h:Wd b.data.toList):GB b:=GL.w h
theorem badAt_rng {i:Nat} {c:UInt8} (h:badAt i c=false):33≤c.toNat∧c.toNat≤126:=by
 unfold badAt letter at h
 by_cases h1:c.toNat=46
 ·omega
 ·by_cases h2:48≤c.toNat∧c.toNat≤57
  ·omega
  ·by_cases h3:(c.toNat ≥ 97∧c.toNat≤122)∨(c.toNat ≥ 65∧c.toNat≤90)∨c.toNat=95
   ·omega
   ·exfalso
    have e1:(decide ((c.toNat:Int) ≥ 97) && decide ((c.toNat:Int)≤122))=false:=by
     rw [← Bool.decide_and,decide_eq_false_iff_not];omega
    have e2:(decide ((c.toNat:Int) ≥ 65) && decide ((c.toNat:Int)≤90))=false:=by
     rw [← Bool.decide_and,decide_eq_false_iff_not];omega
    have e3:((c.toNat:Int) == 95)=false:=by
     rw [beq_eq_false_iff_ne];omega
    have e4:(decide ((c.toNat:Int) < 48) || decide ((c.toNat:Int) > 57))=true:=by
     rw [← Bool.decide_or,decide_eq_true_iff];omega
    have e5:((c.toNat:Int) != 46)=true:=by
     rw [bne_iff_ne];omega
    rw [e1,e2,e3,e4,e5] at h
    simp at h
theorem okFrom_rng:∀ {l:List UInt8} {i:Nat},okFrom i l=true→∀ c∈l,33≤c.toNat∧c.toNat≤126:=by
 intro l
 induction l with
 | nil=>intro i _ c hc;cases hc
 | cons a l ih=>
   intro i h c hc
   rw [okFrom,Bool.and_eq_true,Bool.not_eq_true'] at h
   rcases List.mem_cons.1 hc with rfl | hc
   ·exact badAt_rng h.1
   ·exact ih h.2 c hc
theorem isName_wd {b:ByteArray} (h:isName b=true):Wd b.data.toList:=by
 unfold isName at h
 rw [Bool.and_eq_true,Bool.not_eq_true',Bool.or_eq_false_iff,Bool.or_eq_false_iff] at h
 exact ⟨by have:=h.1.1.1;simpa using this,okFrom_rng h.2⟩
theorem badS_wd {op:Bool} {b:ByteArray} (h:badS op b=false) (hn:b.data.toList≠[]):Wd b.data.toList:=by
 unfold badS emptyB at h
 have h0:(b.data.toList == [])=false:=by simpa using hn
 rw [h0] at h
 cases hi:isName b with
 | true=>exact isName_wd hi
 | false=>
   rw [hi] at h
   have:nullB b=true:=by
    cases op <;> simp at h
    exact h
   unfold nullB at this
   rw [beq_iff_eq] at this
   rw [this]
   unfold Wd;decide
theorem digit_rng:∀ n:Nat,n < 10→Wd (Lib.decDigits n)∧True:=by
 intro n hn
 rw [Lib.decDigits]
 split
 ·rename_i h
  refine ⟨⟨by simp,?_⟩,trivial⟩
  intro c hc
  simp at hc
  subst hc
  have:n=0∨n=1∨n=2∨n=3∨n=4∨n=5∨n=6∨n=7∨n=8∨n=9:=by omega
  rcases this with rfl | rfl | rfl | rfl | rfl | rfl | rfl | rfl | rfl | rfl <;> decide
 ·omega
theorem num_wd:∀ n:Nat,n < 100→Wd (Lib.decDigits n):=by
 intro n hn
 by_cases h:n < 10
 ·exact (digit_rng n h).1
 ·rw [Lib.decDigits]
  rw [dif_neg h]
  have h1:=(digit_rng (n / 10) (by omega)).1
  refine ⟨by simp,fun c hc=>?_⟩
  rcases List.mem_append.1 hc with hc | hc
  ·exact h1.2 c hc
  ·have h2:=(digit_rng (n % 10) (by omega)).1
   rw [Lib.decDigits,dif_pos (by omega)] at h2
   exact h2.2 c hc
end Go.Proofs.YtngfpadeebpoeaaGreatDoor
set_option maxRecDepth 100000
namespace Go.Proofs.YtngfpadeebpoeaaGreatDoor
open Go.AM
structure TI (x:InsD):Prop where
 fo:FormOk x
 d:x.d.data.toList≠[]→Wd x.d.data.toList
 a:x.op=5∨x.op=7∨x.op=8∨x.op=9∨x.op=11→Wd x.a.data.toList
 r:x.op=14→x.a.data.toList=[]∨Wd x.a.data.toList
 b:x.op=9→Wd x.b.data.toList
 f:x.op=4∨x.op=10→Wd x.f.data.toList
 xs:x.op=6∨x.op=10∨x.op=11→∀ s∈x.xs,Wd s.data.toList
 ls:x.op=6∨x.op=12∨x.op=13→∀ s∈x.ls,Wd s.data.toList
theorem hasE_no {l:List ByteArray} (h:hasE l=false):∀ s∈l,s.data.toList≠[]:=by
 intro s hs e
 have:=List.any_eq_false.1 h s hs
 rw [e] at this
 exact this rfl
theorem TI.of {x:InsD} (h1:bnB (bnA (shp x.op) x) (shp x.op) x=false) (h2:biG x=false):TI x:=by
 have fo:=formOk_of h2
 unfold bnB bnA at h1
 simp only [Bool.or_eq_false_iff] at h1
 obtain ⟨⟨⟨⟨⟨hd,hf⟩,ha⟩,hb⟩,hx⟩,hl⟩:=h1
 unfold biG bi1 bi2 at h2
 simp only [Bool.or_eq_false_iff] at h2
 obtain ⟨⟨⟨⟨⟨⟨⟨⟨_,id⟩,ia⟩,ib⟩,ik⟩,if'⟩,ix⟩,il⟩,⟨⟨⟨jd,ja⟩,jb⟩,jf⟩,_⟩:=h2
 have fd:x.d.data.toList≠[]→Wd x.d.data.toList:=fun hn=>by
  cases e:(shp x.op).d with
  | true=>rw [e] at hd;exact badS_wd (by simpa using hd) hn
  | false=>rw [e] at id;exact absurd (by simpa using id) hn
 have fa:(shp x.op).a=true→x.op≠14→Wd x.a.data.toList:=fun e h14=>by
  rw [e] at ha ja
  have h14':(x.op != 14)=true:=bne_iff_ne.2 h14
  rw [h14'] at ja
  exact badS_wd (by simpa using ha) (by simpa using ja)
 have fb:(shp x.op).b=true→Wd x.b.data.toList:=fun e=>by
  rw [e] at hb jb
  exact badS_wd (by simpa using hb) (by simpa using jb)
 have ff:(shp x.op).f=true→Wd x.f.data.toList:=fun e=>by
  rw [e] at hf jf
  exact badS_wd (by simpa using hf) (by simpa using jf)
 have fx:(shp x.op).xs=true→∀ s∈x.xs,Wd s.data.toList:=fun e s hs=>by
  rw [e,Bool.true_and,Bool.or_eq_false_iff] at hx
  exact badS_wd (by have:=List.any_eq_false.1 hx.1 s hs;simpa using this) (hasE_no hx.2 s hs)
 have fl:(shp x.op).ls=true→∀ s∈x.ls,Wd s.data.toList:=fun e s hs=>by
  rw [e,Bool.true_and,Bool.or_eq_false_iff] at hl
  exact badS_wd (by have:=List.any_eq_false.1 hl.1 s hs;simpa using this) (hasE_no hl.2 s hs)
 refine ⟨fo,fd,fun hh=>?_,fun hh=>?_,fun hh=>?_,fun hh=>?_,fun hh=>?_,fun hh=>?_⟩
 ·rcases hh with e | e | e | e | e <;> exact fa (by rw [e];rfl) (by rw [e];decide)
 ·by_cases hn:x.a.data.toList=[]
  ·exact .inl hn
  ·refine .inr (badS_wd (op:=true) ?_ hn)
   rw [hh] at ha
   simpa [shp] using ha
 ·exact fb (by rw [hh];rfl)
 ·rcases hh with e | e <;> exact ff (by rw [e];rfl)
 ·rcases hh with e | e | e <;> exact fx (by rw [e];rfl)
 ·rcases hh with e | e | e <;> exact fl (by rw [e];rfl)
theorem GB.two {a b:ByteArray} (ha:GB a) (hb:GB b):GB (wordsT [a,b]):=GB.words (by simp) fun x hx=>by
 simp only [List.mem_cons,List.not_mem_nil,or_false] at hx
 rcases hx with rfl | rfl <;> assumption
theorem GB.three {a b c:ByteArray} (ha:GB a) (hb:GB b) (hc:GB c):GB (wordsT [a,b,c]):=GB.words (by simp) fun x hx=>by
 simp only [List.mem_cons,List.not_mem_nil,or_false] at hx
 rcases hx with rfl | rfl | rfl <;> assumption
theorem GB.lit {b:ByteArray} (h:b.data.toList≠[]∧b.data.toList.all (fun c=>decide (33≤c.toNat) && decide (c.toNat≤126))=true):GB b:=.w ⟨h.1,fun c hc=>by
 have:=List.all_eq_true.1 h.2 c hc
 simpa using this⟩
theorem GB.num {n:Int} (h0:0≤n) (h1:n < 100):GB (itB n):=by
 unfold GB itB
 rw [List.toList_toArray]
 exact .w (num_wd _ (by omega))
theorem words_two (a b:ByteArray):(wordsT [a,b]).data.toList=a.data.toList ++ (32 :: b.data.toList):=by
 unfold wordsT joinB Lib.join bSp
 rw [List.toList_toArray,List.map_cons,List.map_cons,List.map_nil,inter_two,inter_one]
 rfl
theorem GB.ret {x:InsD} (h:x.a.data.toList=[]∨Wd x.a.data.toList):GB (retT x):=by
 unfold GB retT
 rw [List.toList_toArray]
 rcases h with h | h
 ·rw [words_two,h]
  exact .w (by unfold Wd Lib.trimSuffix Lib.hasSuffix bRet;decide)
 ·have hg:GB (wordsT [bRet,x.a]):=.two (.lit (by decide)) (.w h)
  have:Lib.trimSuffix (wordsT [bRet,x.a]).data.toList [32]=(wordsT [bRet,x.a]).data.toList:=by
   unfold Lib.trimSuffix
   rw [if_neg]
   intro hs
   unfold Lib.hasSuffix at hs
   obtain ⟨t,ht⟩:=List.isSuffixOf_iff_suffix.1 hs
   have hl:=(GL.goodL hg).la
   rw [← ht] at hl
   simp at hl
  rw [this]
  exact hg
theorem prL_mem {x:InsD} {i:Nat} (hi:i≤x.ls.length) (hj:i≤x.xs.length) {s:ByteArray} (h:s∈prL x i):∃ a∈x.ls,∃ b∈x.xs,s=pairT a b:=by
 unfold prL at h
 obtain ⟨j,hj',rfl⟩:=List.mem_map.1 h
 rw [List.mem_range] at hj'
 refine ⟨_,?_,_,?_,rfl⟩
 ·rw [List.getD_eq_getElem?_getD,List.getElem?_eq_getElem (by omega)];exact List.getElem_mem _
 ·rw [List.getD_eq_getElem?_getD,List.getElem?_eq_getElem (by omega)];exact List.getElem_mem _
theorem GB.pairs {x:InsD} (hl:x.xs.length=x.ls.length) (h1:∀ s∈x.xs,Wd s.data.toList) (h2:∀ s∈x.ls,Wd s.data.toList):GB (pairsT x):=by
 unfold pairsT
 by_cases hn:x.ls.length=0
 ·have:prL x x.ls.length=[]:=by rw [hn];rfl
  rw [this,join_nil]
  exact .lit (by decide)
 ·refine .cat (.cat (.lit (by decide)) (.commas (fun e=>hn (by have:=congrArg List.length e;rw [prL_len] at this;exact this)) fun s hs=>?_)) (.lit (by decide))
  obtain ⟨a,ha,b,hb,rfl⟩:=prL_mem (Nat.le_refl _) (by omega) hs
  unfold GB pairT
  rw [cat_toList,cat_toList]
  have e:a.data.toList ++ bCol.data.toList ++ b.data.toList=(a.data.toList ++ [58]) ++ 32 :: b.data.toList:=by
   rw [show bCol.data.toList=[58,32] from rfl]
   simp
  rw [e]
  exact .sp (.cat (.w (h2 a ha)) (.w (by unfold Wd;decide))) (.w (h1 b hb))
theorem GB.form {x:InsD} (h:TI x):GB (formT x):=by
 have hk:=h.fo.k
 have g0:∀ i,i < x.ls.length→(x.op=6∨x.op=12∨x.op=13)→GB (x.ls.getD i ⟨#[]⟩):=fun i hi ho=>by
  rw [List.getD_eq_getElem?_getD,List.getElem?_eq_getElem hi]
  exact .w (h.ls ho _ (List.getElem_mem _))
 rcases h.fo.op with e | e | e | e | e | e | e | e | e | e | e | e | e | e
 ·rw [show formT x=wordsT [bAlloca,itB x.k] by simp [formT,e]]
  exact .two (.lit (by decide)) (.num (hk (by omega)).1 (hk (by omega)).2)
 ·rw [show formT x=wordsT [bMalloc,itB x.k] by simp [formT,e]]
  exact .two (.lit (by decide)) (.num (hk (by omega)).1 (hk (by omega)).2)
 ·rw [show formT x=bNull by simp [formT,e]]
  exact .lit (by decide)
 ·rw [show formT x=wordsT [bAddr,x.f] by simp [formT,e]]
  exact .two (.lit (by decide)) (.w (h.f (by omega)))
 ·rw [show formT x=wordsT [bCopy,x.a] by simp [formT,e]]
  exact .two (.lit (by decide)) (.w (h.a (by omega)))
 ·rw [show formT x=wordsT [bPhi,pairsT x] by simp [formT,e]]
  exact .two (.lit (by decide)) (.pairs (h.fo.phi e) (h.xs (by omega)) (h.ls (by omega)))
 ·rw [show formT x=wordsT [bField,x.a,itB x.k] by simp [formT,e]]
  exact .three (.lit (by decide)) (.w (h.a (by omega))) (.num (hk (by omega)).1 (hk (by omega)).2)
 ·rw [show formT x=wordsT [bLoad,x.a] by simp [formT,e]]
  exact .two (.lit (by decide)) (.w (h.a (by omega)))
 ·rw [show formT x=wordsT [bStore,x.a ++ bComma,x.b] by simp [formT,e]]
  exact .three (.lit (by decide)) (.cat (.w (h.a (by omega))) (.lit (by decide))) (.w (h.b (by omega)))
 ·rw [show formT x=wordsT [bCall,x.f ++ argsT x.xs] by simp [formT,e]]
  exact .two (.lit (by decide)) (.cat (.w (h.f (by omega))) (.args fun s hs=>.w (h.xs (by omega) s hs)))
 ·rw [show formT x=wordsT [bICall,x.a ++ argsT x.xs] by simp [formT,e]]
  exact .two (.lit (by decide)) (.cat (.w (h.a (by omega))) (.args fun s hs=>.w (h.xs (by omega) s hs)))
 ·rw [show formT x=wordsT [bBr,x.ls.getD 0 ⟨#[]⟩,x.ls.getD 1 ⟨#[]⟩] by simp [formT,e]]
  have:=h.fo.br e
  exact .three (.lit (by decide)) (g0 0 (by omega) (by omega)) (g0 1 (by omega) (by omega))
 ·rw [show formT x=wordsT [bGoto,x.ls.getD 0 ⟨#[]⟩] by simp [formT,e]]
  have:=h.fo.go e
  exact .two (.lit (by decide)) (g0 0 (by omega) (by omega))
 ·rw [show formT x=retT x by simp [formT,e]]
  exact .ret (h.r e)
theorem GB.lineX {x:InsD} (h:TI x):GB (lineX x):=by
 unfold Go.Proofs.YtngfpadeebpoeaaGreatDoor.lineX
 split
 ·exact .form h
 ·rename_i hn
  refine .three (.w (h.d fun e=>hn ?_)) (.lit (by decide)) (.form h)
  have:x.d.data.toList.length=x.d.size:=rfl
  rw [e] at this
  exact this.symm
def ctI (x:InsD):List UInt8:=32 :: 32 :: (lineX x).data.toList
def ctB (b:BlkD):List UInt8:=b.label.data.toList ++ [58]
def linB (b:BlkD):List (List UInt8):=ctB b :: b.code.map ctI
def linF (f:FunD):List (List UInt8):=(headT f).data.toList :: (f.blocks.flatMap linB ++ [[125]])
def linP (fs:List FunD):List (List UInt8):=fs.flatMap linF
def outL (ls:List (List UInt8)):List UInt8:=ls.flatMap fun l=>l ++ [10]
theorem outL_app (a b:List (List UInt8)):outL (a ++ b)=outL a ++ outL b:=List.flatMap_append ..
theorem lineT_one (a:ByteArray):(lineT [a]).data.toList=a.data.toList ++ [10]:=by
 unfold lineT
 rw [cat_toList]
 unfold joinB Lib.join
 rw [List.toList_toArray,List.map_cons,List.map_nil,inter_one]
theorem lineT_two (a b:ByteArray):(lineT [a,b]).data.toList=(a.data.toList ++ b.data.toList) ++ [10]:=by
 unfold lineT
 rw [cat_toList]
 unfold joinB Lib.join
 rw [List.toList_toArray,List.map_cons,List.map_cons,List.map_nil,inter_two,inter_one]
 rfl
theorem codeT_out (l:List InsD):codeT l=outL (l.map ctI):=by
 unfold codeT outL
 rw [List.flatMap_map]
 apply congrArg (fun f=>List.flatMap f l)
 funext x
 unfold lnI
 rw [lineT_two]
 rfl
theorem blkT_out (b:BlkD):blkT b=outL (linB b):=by
 unfold blkT linB lnB
 rw [lineT_two,codeT_out]
 rfl
theorem blksT_out (l:List BlkD):blksT l=outL (l.flatMap linB):=by
 unfold blksT
 rw [show (blkT:BlkD→List UInt8)=fun b=>outL (linB b) from funext blkT_out]
 unfold outL
 rw [List.flatMap_assoc]
theorem funT_out (f:FunD):funT f=outL (linF f):=by
 unfold funT linF lnF lnE
 rw [lineT_one,lineT_one,blksT_out]
 show _=((headT f).data.toList ++ [10]) ++ outL (f.blocks.flatMap linB ++ [[125]])
 rw [outL_app]
 simp [outL]
theorem progT_out (fs:List FunD):progT fs=outL (linP fs):=by
 unfold progT
 rw [show (funT:FunD→List UInt8)=fun b=>outL (linF b) from funext funT_out]
 unfold outL linP
 rw [List.flatMap_assoc]
structure TF (f:FunD):Prop where
 n:Wd f.name.data.toList
 ps:∀ s∈f.ps,Wd s.data.toList
 b:∀ b∈f.blocks,Wd b.label.data.toList∧∀ x∈b.code,TI x
theorem giF_no {G:Nat→Nat→Nat→Nat→InsD→Bool} {fs:List FunD} (h:gSrch G fs=none) {i:Nat} {f:FunD} (hf:fs[i]?=some f) {b:Nat} {x:BlkD} (hb:f.blocks[b]?=some x) {k:Nat} {y:InsD} (hy:x.code[k]?=some y):G (cF (fs.take i)+cI (f.blocks.take b)+k) i b k y=false:=by
 have h1:=srch_none.1 h i f hf
 have h2:=srch_none.1 h1 b x hb
 have h3:=srch_none.1 h2 k y hy
 simp only [Nat.zero_add] at h3
 unfold giI at h3
 rw [ite_eq_right_iff] at h3
 cases e:G (cF (fs.take i)+cI (f.blocks.take b)+k) i b k y with
 | false=>rfl
 | true=>cases h3 e
theorem ite_no {c:Prop} [Decidable c] {t:Pt} {r:Option Pt} (h:(if c then some t else r)=none):¬ c∧r=none:=by
 split at h
 ·cases h
 ·exact ⟨by assumption,h⟩
theorem not_no {b:Bool} (h:¬ (!b)=true):b=true:=by cases b <;> simp_all
theorem TF.of {fs:List FunD} (h2:firstN fs 2=none) (h9:firstN fs 9=none):∀ f∈fs,TF f:=by
 intro f hf
 obtain ⟨i,hi⟩:=List.mem_iff_getElem?.1 hf
 have b1:=ite_no (by have:=srch_none.1 (show srch bnF fs 0=none from h2) i f hi;exact this)
 have hnp:=b1.1
 rw [Bool.or_eq_true,not_or] at hnp
 refine ⟨isName_wd (not_no hnp.1),fun s hs=>isName_wd ?_,fun b hb=>?_⟩
 ·cases e:isName s with
  | true=>rfl
  | false=>exact absurd (List.any_eq_true.2 ⟨s,hs,by rw [e];rfl⟩) hnp.2
 ·obtain ⟨j,hj⟩:=List.mem_iff_getElem?.1 hb
  have b2:=ite_no (srch_none.1 b1.2 j b hj)
  refine ⟨isName_wd (not_no b2.1),fun x hx=>?_⟩
  obtain ⟨k,hk⟩:=List.mem_iff_getElem?.1 hx
  have b3:=(ite_no (srch_none.1 b2.2 k x hk)).1
  exact .of (Bool.not_eq_true _ ▸ b3) (giF_no (show gSrch (fun _=>fun _ _ _ x=>biG x) fs=none from h9) hi hj hk)
theorem linP_ok {fs:List FunD} (h:∀ f∈fs,TF f):∀ l∈linP fs,OkL l:=by
 intro l hl
 obtain ⟨f,hf,hl⟩:=List.mem_flatMap.1 hl
 have t:=h f hf
 unfold linF at hl
 rcases List.mem_cons.1 hl with rfl | hl
 ·exact (GL.goodL (GB.three (.lit (by decide)) (.cat (.w t.n) (.args fun s hs=>.w (t.ps s hs))) (.lit (by decide)))).line
 ·rcases List.mem_append.1 hl with hl | hl
  ·obtain ⟨b,hb,hl⟩:=List.mem_flatMap.1 hl
   obtain ⟨t1,t2⟩:=t.b b hb
   unfold linB at hl
   rcases List.mem_cons.1 hl with rfl | hl
   ·exact (GL.goodL (.cat (.w t1) (.w (by unfold Wd;decide)))).line
   ·obtain ⟨x,hx,rfl⟩:=List.mem_map.1 hl
    exact (GL.goodL (GB.lineX (t2 x hx))).line2
  ·rw [List.mem_singleton] at hl
   subst hl
   exact (GL.goodL (.w (by unfold Wd;decide))).line
def wantB (b:BlkD):Nat:=1+b.code.length
def wantF (f:FunD):Nat:=2+(f.blocks.map wantB).sum
def wantP (fs:List FunD):Nat:=(fs.map wantF).sum
theorem linP_len (fs:List FunD):(linP fs).length=wantP fs:=by
 have e1:∀ b:BlkD,(linB b).length=wantB b:=fun b=>by simp [linB,wantB];omega
 have e2:∀ f:FunD,(linF f).length=wantF f:=fun f=>by
  simp only [linF,wantF,List.length_cons,List.length_append,List.length_flatMap,List.length_nil]
  rw [show (fun a=>(linB a).length)=wantB from funext e1]
  omega
 unfold linP wantP
 rw [List.length_flatMap,show (fun a=>(linF a).length)=wantF from funext e2]
end Go.Proofs.YtngfpadeebpoeaaGreatDoor
set_option maxRecDepth 100000
namespace Go.Proofs.YtngfpadeebpoeaaGreatDoor
open Go.AM
theorem it_scan {S T:Type} (n:Nat) (P:Nat→S→Prop) (Q:Nat→Prop) (X:Nat→S→T) (R:T→Prop) (step:∀ i s,i < n→P i s→(Q i∧∃ s',X i s=X (i+1) s'∧P (i+1) s')∨R (X i s)):∀ s,P 0 s→((∀ i,i < n→Q i)∧∃ s',X 0 s=X n s'∧P n s')∨R (X 0 s):=by
 have key:∀ d i s,i+d=n→P i s→(∀ j,j < i→Q j)→((∀ j,j < n→Q j)∧∃ s',X i s=X n s'∧P n s')∨R (X i s):=by
  intro d
  induction d with
  | zero=>
    intro i s hi hp hq
    obtain rfl:i=n:=by omega
    exact .inl ⟨hq,s,rfl,hp⟩
  | succ d ih=>
    intro i s hi hp hq
    rcases step i s (by omega) hp with ⟨h1,s1,h2,h3⟩ | h
    ·rw [h2]
     exact ih (i+1) s1 (by omega) h3 fun j hj=>by
      by_cases e:j=i
      ·rw [e];exact h1
      ·exact hq j (by omega)
    ·exact .inr h
 exact fun s hp=>key n 0 s (by omega) hp fun j hj=>absurd hj (Nat.not_lt_zero _)
def bigS (s:ByteArray):Bool:=decide ((s.size:Int) > 200)
def InsL (x:InsD):Prop:=x.d.size≤200∧x.a.size≤200∧x.b.size≤200∧x.f.size≤200∧x.xs.length≤20∧x.ls.length≤20∧(∀ s∈x.xs,s.size≤200)∧∀ s∈x.ls,s.size≤200
def BlkL (b:BlkD):Prop:=b.label.size≤200∧b.code.length≤200∧∀ x∈b.code,InsL x
def FunL (f:FunD):Prop:=f.name.size≤200∧f.ps.length≤20∧(∀ s∈f.ps,s.size≤200)∧f.blocks.length≤70∧∀ b∈f.blocks,BlkL b
structure Light (fs:List FunD):Prop where
 n:fs.length≤70
 f:∀ f∈fs,FunL f
 c:cF fs≤200
theorem Light.small {fs:List FunD} (h:Light fs):Small fs:=by
 refine ⟨by have:=h.n;omega,fun f hf=>?_,fun f hf=>?_,fun f hf b hb=>?_,fun f hf b hb x hx=>?_,fun f hf b hb x hx=>?_⟩
 ·have:=(h.f f hf).2.1;omega
 ·have:=(h.f f hf).2.2.2.1;omega
 ·have:=((h.f f hf).2.2.2.2 b hb).2.1;omega
 ·have:=(((h.f f hf).2.2.2.2 b hb).2.2 x hx).2.2.2.2.1;omega
 ·have:=(((h.f f hf).2.2.2.2 b hb).2.2 x hx).2.2.2.2.2.1;omega
theorem all_getD {α:Type} {l:List α} {d:α} {P:α→Prop} (h:∀ i,i < l.length→P (l.getD i d)):∀ x∈l,P x:=by
 intro x hx
 obtain ⟨i,hi⟩:=List.mem_iff_getElem?.1 hx
 have:=h i (List.getElem?_eq_some_iff.1 hi).1
 rwa [getD_some hi] at this
theorem bigS_no {l:List ByteArray} (h:l.any bigS=false):∀ s∈l,s.size≤200:=by
 intro s hs
 have:=List.any_eq_false.1 h s hs
 unfold bigS at this
 rw [decide_eq_true_iff] at this
 omega
section
variable {CT:Nat→Option CFun}
theorem long_fun (hT:CT k_f15=some (.code s_f15)) (base:Nat) (A:Heap) {v:V} {l:List ByteArray} (hv:Rd A v (l.map Sb)) (hw:Wide1 v) (hl:l.length < 2 ^ 63):
 callW CT (.fn k_f15 [] []) [v] base A=some (bl (l.any bigS),A):=by
 have hlen:=Sb_len hv
 have step:∀ i,i < l.length→bigS (l.getD i ⟨#[]⟩)=false→itW (evC (callW CT) itW base s_f15_l0) [] A.length (frOf 16 [(0,v),(3,Iz i)]) A=itW (evC (callW CT) itW base s_f15_l0) [] A.length (frOf 16 [(0,v),(3,Iz (i+1:Nat))]) A:=by
  intro i hi hp
  have hlt':((i:Int) < (l.length:Int)):=by omega
  have hwk:IntKind.i64.wrap ((i:Int)+1)=((i+1:Nat):Int):=by rw [IntKind.wrap_i64];omega
  obtain ⟨a,a1,a2⟩:=Sb_at hv hw hi
  unfold bigS at hp
  rw [itW_step]
  simp only [Iz,Sb,a_f15,s_f15_l0_b,aa,reduceIte,reduceCtorEq,Nat.reduceEqDiff,Nat.reduceLT,Nat.reduceLeDiff,Nat.reduceBEq,Nat.reduceAdd,Nat.reduceMul,op_appR,hlen,hlt',a1,a2,hp,hwk,trim_same rfl]
 refine callW_fn (c:=s_f15) hT (by simp [s_f15]) ?_
 rcases it_find l.length (fun i=>bigS (l.getD i ⟨#[]⟩)) (fun i=>itW (evC (callW CT) itW base s_f15_l0) [] A.length (frOf 16 [(0,v),(3,Iz i)]) A) step with ⟨h1,h2⟩ | ⟨i,hi,h1,h2,h3⟩
 ·have hall:l.any bigS=false:=by
   rw [List.any_eq_false]
   intro x hx
   have:=all_getD (P:=fun s=>bigS s=false) h1 x hx
   rw [this];decide
  rw [hall]
  have hend:itW (evC (callW CT) itW base s_f15_l0) [] A.length (frOf 16 [(0,v),(3,Iz l.length)]) A=some (.ext 0,frOf 16 [(0,v),(3,Iz l.length),(7,bl false)],A):=by
   rw [itW_step]
   simp only [Iz,Sb,bl,a_f15,s_f15_l0_b,aa,reduceIte,reduceCtorEq,Nat.reduceEqDiff,Nat.reduceLT,Nat.reduceLeDiff,Nat.reduceBEq,Nat.reduceAdd,Nat.reduceMul,op_appR,hlen,Int.lt_irrefl,trim_same rfl]
  have h4:=h2.trans hend
  simp only [Iz,Sb,bl,cast0] at h4
  simp only [Iz,Sb,s_f15,a_f15,s_f15_l0_b,aa,reduceIte,reduceCtorEq,Nat.reduceEqDiff,Nat.reduceLT,Nat.reduceLeDiff,Nat.reduceBEq,Nat.reduceAdd,Nat.reduceMul,op_appR,h4]
 ·have hany:l.any bigS=true:=List.any_eq_true.2 ⟨_,List.mem_of_getElem? (some_getD hi ⟨#[]⟩),h1⟩
  rw [hany]
  have hlt':((i:Int) < (l.length:Int)):=by omega
  obtain ⟨a,a1,a2⟩:=Sb_at hv hw hi
  have hend:itW (evC (callW CT) itW base s_f15_l0) [] A.length (frOf 16 [(0,v),(3,Iz i)]) A=some (.ret,frOf 16 [(2,bl true)],A):=by
   unfold bigS at h1
   rw [itW_step]
   simp only [Iz,Sb,bl,a_f15,s_f15_l0_b,aa,reduceIte,reduceCtorEq,Nat.reduceEqDiff,Nat.reduceLT,Nat.reduceLeDiff,Nat.reduceBEq,Nat.reduceAdd,Nat.reduceMul,op_appR,hlen,hlt',a1,a2,h1,trim_same rfl]
  have h4:=h3.trans hend
  simp only [Iz,Sb,bl,cast0] at h4
  simp only [Iz,Sb,s_f15,a_f15,s_f15_l0_b,aa,reduceIte,reduceCtorEq,Nat.reduceEqDiff,Nat.reduceLT,Nat.reduceLeDiff,Nat.reduceBEq,Nat.reduceAdd,Nat.reduceMul,op_appR,h4]
def Hv (A:Heap) (r:Option (Ex × List V × Heap)):Prop:=∃ D,r=some (.ret,frOf 133 [(2,bl true)],D)∧Ext A D
theorem hv_l0 (hL:CT k_f15=some (.code s_f15)) (base:Nat) {A A1:Heap} (h1:Ext A A1) (hb:base≤A1.length) {p q i b:Nat} {n3:Int} {cv:V} {l:List InsD} (hv:RdL 8 RdIns A cv l) (hn:l.length < 2 ^ 62) {L:Nat} (hL1:A1.length≤L):
 ∀ C,Ext A1 C→((∀ x∈l,InsL x)∧∃ C',itW (evC (callW CT) itW base s_f7_l0) [] L (frOf 133 [(1,.ref p 0 0),(3,Iz n3),(4,Iz i),(5,.ref q 0 0),(6,Iz b),(7,cv),(8,Iz 0)]) C=some (.ext 4,frOf 133 [(1,.ref p 0 0),(3,Iz n3),(4,Iz i),(5,.ref q 0 0),(6,Iz b),(7,cv),(8,Iz l.length),(82,bl false)],C')∧Ext A1 C')∨Hv A1 (itW (evC (callW CT) itW base s_f7_l0) [] L (frOf 133 [(1,.ref p 0 0),(3,Iz n3),(4,Iz i),(5,.ref q 0 0),(6,Iz b),(7,cv),(8,Iz 0)]) C):=by
 intro C0 hC0
 rcases it_scan l.length (fun _ C=>Ext A1 C) (fun k=>InsL (l.getD k ins0)) (fun k C=>itW (evC (callW CT) itW base s_f7_l0) [] L (frOf 133 [(1,.ref p 0 0),(3,Iz n3),(4,Iz i),(5,.ref q 0 0),(6,Iz b),(7,cv),(8,Iz k)]) C) (Hv A1) (by
  intro k C hk hE
  have hlt':((k:Int) < (l.length:Int)):=by omega
  have hwk:=w64 (n:=k) (by omega)
  have hkx:=some_getD hk ins0
  obtain ⟨x,hxe⟩:∃ x,l.getD k ins0=x:=⟨_,rfl⟩
  rw [hxe] at hkx ⊢
  obtain ⟨a,r,a1,hr,a2,_⟩:=hv.at2 hkx
  have hEA:=h1.trans hE
  have ld:=a2 C hEA
  have hbC:base≤C.length:=by have:=hE.le;omega
  have hcl:=(rdI_ext hv hEA).len
  obtain ⟨av,lv,rfl,q1,q2,q3,q4,q5,q6⟩:=hr
  have hav:=q1.one
  have hlv:=q3.one
  obtain ⟨D,hD⟩:∃ D,C ++ [Ob.cells 0 (insC x av lv)]=D:=⟨_,rfl⟩
  have eD:Ext C D:=hD ▸ Ext.app _ _
  have hgg:getC D C.length 0=some (insC x av lv):=hD ▸ getC_new C 0 _
  have hgg':∀ c,getC (C ++ [Ob.cells 0 c]) C.length 0=some c:=fun c=>getC_new C 0 c
  have hss:∀ c d,(C ++ [c]).set C.length d=C ++ [d]:=fun c d=>set_snoc C c d
  have hxl:=Sb_len (q1.ext (hEA.trans eD))
  have hll:=Sb_len (q3.ext (hEA.trans eD))
  have hca:=long_fun hL base D (q1.ext (hEA.trans eD)) q2 q5
  have hcb:=long_fun hL base D (q3.ext (hEA.trans eD)) q4 q6
  have eE:Ext A1 D:=hE.trans eD
  simp only [insC,Iz,bl] at ld hD hgg hca hcb
  cases g1:(((((decide ((x.d.size:Int) > 200) || decide ((x.a.size:Int) > 200)) || decide ((x.b.size:Int) > 200)) || decide ((x.f.size:Int) > 200)) || decide ((x.xs.length:Int) > 20)) || decide ((x.ls.length:Int) > 20)) with
  | true=>
    refine .inr ⟨trim L (frOf 133 [(2,bl true)]) D,?_,eE.trim hL1 _⟩
    rw [itW_step]
    simp only [insC,Iz,bl,a_f7,s_f7_l0_b,s_f7_l1_b,s_f7_l2_b,aa,reduceIte,reduceCtorEq,Nat.reduceEqDiff,Nat.reduceLT,Nat.reduceLeDiff,Nat.reduceBEq,Nat.reduceAdd,Nat.reduceMul,op_appR,hcl,hlt',a1,ld,hbC,hD,hgg,hgg',hss,hav,hlv,Bool.and_self,hxl,hll,g1]
  | false=>
    cases g2:x.xs.any bigS with
    | true=>
      rw [g2] at hca
      refine .inr ⟨trim L (frOf 133 [(2,bl true)]) D,?_,eE.trim hL1 _⟩
      rw [itW_step]
      simp only [insC,Iz,bl,a_f7,s_f7_l0_b,s_f7_l1_b,s_f7_l2_b,aa,reduceIte,reduceCtorEq,Nat.reduceEqDiff,Nat.reduceLT,Nat.reduceLeDiff,Nat.reduceBEq,Nat.reduceAdd,Nat.reduceMul,op_appR,hcl,hlt',a1,ld,hbC,hD,hgg,hgg',hss,hav,hlv,Bool.and_self,hxl,hll,g1,hca]
    | false=>
      rw [g2] at hca
      cases g3:x.ls.any bigS with
      | true=>
        rw [g3] at hcb
        refine .inr ⟨trim L (frOf 133 [(2,bl true)]) D,?_,eE.trim hL1 _⟩
        rw [itW_step]
        simp only [insC,Iz,bl,a_f7,s_f7_l0_b,s_f7_l1_b,s_f7_l2_b,aa,reduceIte,reduceCtorEq,Nat.reduceEqDiff,Nat.reduceLT,Nat.reduceLeDiff,Nat.reduceBEq,Nat.reduceAdd,Nat.reduceMul,op_appR,hcl,hlt',a1,ld,hbC,hD,hgg,hgg',hss,hav,hlv,Bool.and_self,hxl,hll,g1,hca,hcb]
      | false=>
        rw [g3] at hcb
        refine .inl ⟨?_,trim L (frOf 133 [(1,.ref p 0 0),(3,Iz n3),(4,Iz i),(5,.ref q 0 0),(6,Iz b),(7,cv),(8,Iz (k+1:Nat))]) D,?_,eE.trim hL1 _⟩
        ·simp only [Bool.or_eq_false_iff,decide_eq_false_iff_not] at g1
         obtain ⟨⟨⟨⟨⟨w1,w2⟩,w3⟩,w4⟩,w5⟩,w6⟩:=g1
         exact ⟨by omega,by omega,by omega,by omega,by omega,by omega,bigS_no g2,bigS_no g3⟩
        ·rw [itW_step]
         simp only [insC,Iz,bl,a_f7,s_f7_l0_b,s_f7_l1_b,s_f7_l2_b,aa,reduceIte,reduceCtorEq,Nat.reduceEqDiff,Nat.reduceLT,Nat.reduceLeDiff,Nat.reduceBEq,Nat.reduceAdd,Nat.reduceMul,op_appR,hcl,hlt',a1,ld,hbC,hD,hgg,hgg',hss,hav,hlv,Bool.and_self,hxl,hll,g1,hca,hcb,hwk]) C0 hC0 with ⟨e1,C,e2,e3⟩ | e
 ·refine .inl ⟨all_getD e1,trim L (frOf 133 [(1,.ref p 0 0),(3,Iz n3),(4,Iz i),(5,.ref q 0 0),(6,Iz b),(7,cv),(8,Iz l.length),(82,bl false)]) C,?_,e3.trim hL1 _⟩
  rw [cast0] at e2
  refine e2.trans ?_
  have hcl:=(rdI_ext hv (h1.trans e3)).len
  rw [itW_step]
  simp only [Iz,bl,a_f7,s_f7_l0_b,s_f7_l1_b,s_f7_l2_b,aa,reduceIte,reduceCtorEq,Nat.reduceEqDiff,Nat.reduceLT,Nat.reduceLeDiff,Nat.reduceBEq,Nat.reduceAdd,Nat.reduceMul,op_appR,hcl,Int.lt_irrefl]
 ·rw [cast0] at e
  exact .inr e
theorem hv_l1 (hL:CT k_f15=some (.code s_f15)) (base:Nat) {A A1:Heap} (h1:Ext A A1) (hb:base≤A1.length) {p q i:Nat} {nm:ByteArray} {pv bv:V} (hq:getC A1 q 0=some [Sb nm,pv,bv]) {l:List BlkD} (hv:RdL 2 RdBlk A bv l) (hn:l.length < 2 ^ 20) {L:Nat} (hL1:A1.length≤L) {n0:Nat} (hn0:n0≤200):
 ∀ C,Ext A1 C→(((∀ x∈l,BlkL x)∧n0+cI l≤200)∧∃ C',itW (evC (callW CT) itW base s_f7_l1) [] L (frOf 133 [(1,.ref p 0 0),(3,Iz n0),(4,Iz i),(5,.ref q 0 0),(6,Iz 0)]) C=some (.ext 2,frOf 133 [(1,.ref p 0 0),(3,Iz (n0+cI l:Nat)),(4,Iz i),(5,.ref q 0 0),(6,Iz l.length),(51,bl false)],C')∧Ext A1 C')∨Hv A1 (itW (evC (callW CT) itW base s_f7_l1) [] L (frOf 133 [(1,.ref p 0 0),(3,Iz n0),(4,Iz i),(5,.ref q 0 0),(6,Iz 0)]) C):=by
 intro C0 hC0
 rcases it_scan l.length (fun k (s:Heap)=>Ext A1 s∧n0+cI (l.take k)≤200) (fun k=>BlkL (l.getD k blk0)) (fun k (s:Heap)=>itW (evC (callW CT) itW base s_f7_l1) [] L (frOf 133 [(1,.ref p 0 0),(3,Iz (n0+cI (l.take k):Nat)),(4,Iz i),(5,.ref q 0 0),(6,Iz k)]) s) (Hv A1) (by
  intro k C hk ⟨hE,hsum⟩
  have hlt':((k:Int) < (l.length:Int)):=by omega
  have hwk:=w64 (n:=k) (by omega)
  have hkx:=some_getD hk blk0
  obtain ⟨x,hxe⟩:∃ x,l.getD k blk0=x:=⟨_,rfl⟩
  rw [hxe] at hkx ⊢
  have hct:=cI_take hkx
  obtain ⟨m,hm⟩:∃ m,n0+cI (l.take k)=m:=⟨_,rfl⟩
  have hm2:n0+cI (l.take (k+1))=m+x.code.length:=by omega
  rw [hm] at hsum
  rw [hm,hm2]
  obtain ⟨a,r,a1,hr,_,a3⟩:=hv.at2 hkx
  have hEA:=h1.trans hE
  have hbC:base≤C.length:=by have:=hE.le;omega
  have hgq:=getC_ext hq hE
  have hbl:=(rdB_ext hv hEA).len
  obtain ⟨cv,rfl,hcv⟩:=hr
  obtain ⟨b0,b1,b2⟩:=a3 0 _ rfl
  obtain ⟨c0,c1,c2⟩:=a3 1 _ rfl
  have b2':=b2 C hEA
  have c2':=c2 C hEA
  have hcl:=(rdI_ext hcv hEA).len
  have hw2:IntKind.i64.wrap (200 - (m:Int))=200 - (m:Int):=by rw [IntKind.wrap_i64];omega
  simp only [Iz,Sb] at hgq b2'
  cases g1:(decide ((x.code.length:Int) > 200 - (m:Int)) || decide ((x.label.size:Int) > 200)) with
  | true=>
    refine .inr ⟨trim L (frOf 133 [(2,bl true)]) C,?_,hE.trim hL1 _⟩
    rw [itW_step]
    simp only [Iz,bl,a_f7,s_f7_l0_b,s_f7_l1_b,s_f7_l2_b,aa,reduceIte,reduceCtorEq,Nat.reduceEqDiff,Nat.reduceLT,Nat.reduceLeDiff,Nat.reduceBEq,Nat.reduceAdd,Nat.reduceMul,op_appR,hgq,hbl,hlt',a1,b1,b2',c1,c2',hcl,hw2,g1]
  | false=>
    simp only [Bool.or_eq_false_iff,decide_eq_false_iff_not] at g1
    have g1':(decide ((x.code.length:Int) > 200 - (m:Int)) || decide ((x.label.size:Int) > 200))=false:=by simp only [Bool.or_eq_false_iff,decide_eq_false_iff_not];exact g1
    have hw3:IntKind.i64.wrap ((m:Int)+(x.code.length:Int))=((m+x.code.length:Nat):Int):=by rw [IntKind.wrap_i64];omega
    rcases hv_l0 hL base hEA hbC (p:=p) (q:=q) (i:=i) (b:=k) (n3:=(m+x.code.length:Nat)) hcv (by omega) (Nat.le_refl C.length) C (Ext.refl C) with ⟨z1,D,z2,z3⟩ | ⟨D,z2,z3⟩
    ·refine .inl ⟨⟨by omega,by omega,z1⟩,trim L (frOf 133 [(1,.ref p 0 0),(3,Iz (m+x.code.length:Nat)),(4,Iz i),(5,.ref q 0 0),(6,Iz (k+1:Nat))]) D,?_,(hE.trans z3).trim hL1 _,by omega⟩
     rw [itW_step]
     simp only [Iz,bl] at z2
     simp only [Iz,bl,a_f7,s_f7_l0_b,s_f7_l1_b,s_f7_l2_b,aa,reduceIte,reduceCtorEq,Nat.reduceEqDiff,Nat.reduceLT,Nat.reduceLeDiff,Nat.reduceBEq,Nat.reduceAdd,Nat.reduceMul,op_appR,hgq,hbl,hlt',a1,b1,b2',c1,c2',hcl,hw2,hw3,g1',z2,hwk]
    ·refine .inr ⟨trim L (frOf 133 [(2,bl true)]) D,?_,(hE.trans z3).trim hL1 _⟩
     rw [itW_step]
     simp only [Iz,bl] at z2
     simp only [Iz,bl,a_f7,s_f7_l0_b,s_f7_l1_b,s_f7_l2_b,aa,reduceIte,reduceCtorEq,Nat.reduceEqDiff,Nat.reduceLT,Nat.reduceLeDiff,Nat.reduceBEq,Nat.reduceAdd,Nat.reduceMul,op_appR,hgq,hbl,hlt',a1,b1,b2',c1,c2',hcl,hw2,hw3,g1',z2]) C0 ⟨hC0,by rw [List.take_zero];exact hn0⟩ with ⟨e1,C,e2,e3,e4⟩ | e
 ·rw [List.take_length] at e2 e4
  refine .inl ⟨⟨all_getD e1,e4⟩,trim L (frOf 133 [(1,.ref p 0 0),(3,Iz (n0+cI l:Nat)),(4,Iz i),(5,.ref q 0 0),(6,Iz l.length),(51,bl false)]) C,?_,e3.trim hL1 _⟩
  rw [cast0,List.take_zero,show n0+cI []=n0 from rfl] at e2
  refine e2.trans ?_
  have hcl:=(rdB_ext hv (h1.trans e3)).len
  have hgq:=getC_ext hq e3
  rw [itW_step]
  simp only [Iz,bl,Sb] at hgq
  simp only [Iz,bl,a_f7,s_f7_l0_b,s_f7_l1_b,s_f7_l2_b,aa,reduceIte,reduceCtorEq,Nat.reduceEqDiff,Nat.reduceLT,Nat.reduceLeDiff,Nat.reduceBEq,Nat.reduceAdd,Nat.reduceMul,op_appR,hgq,hcl,Int.lt_irrefl]
 ·rw [cast0,List.take_zero,show n0+cI []=n0 from rfl] at e
  exact .inr e
theorem hv_l2 (hL:CT k_f15=some (.code s_f15)) (base:Nat) {A A1:Heap} (h1:Ext A A1) (hb:base≤A1.length) {p:Nat} {fv:V} (hp:getC A1 p 0=some [fv]) {l:List FunD} (hv:RdL 3 RdFun A fv l) (hn:l.length≤70) {L:Nat} (hL1:A1.length≤L):
 ∀ C,Ext A1 C→(((∀ x∈l,FunL x)∧cF l≤200)∧∃ C',itW (evC (callW CT) itW base s_f7_l2) [] L (frOf 133 [(1,.ref p 0 0),(3,Iz 0),(4,Iz 0)]) C=some (.ext 0,frOf 133 [(1,.ref p 0 0),(3,Iz (cF l:Nat)),(4,Iz l.length),(18,bl false)],C')∧Ext A1 C')∨Hv A1 (itW (evC (callW CT) itW base s_f7_l2) [] L (frOf 133 [(1,.ref p 0 0),(3,Iz 0),(4,Iz 0)]) C):=by
 intro C0 hC0
 rcases it_scan l.length (fun k (s:Heap)=>Ext A1 s∧cF (l.take k)≤200) (fun k=>FunL (l.getD k fun0)) (fun k (s:Heap)=>itW (evC (callW CT) itW base s_f7_l2) [] L (frOf 133 [(1,.ref p 0 0),(3,Iz (cF (l.take k):Nat)),(4,Iz k)]) s) (Hv A1) (by
  intro k C hk ⟨hE,hsum⟩
  have hlt':((k:Int) < (l.length:Int)):=by omega
  have hwk:=w64 (n:=k) (by omega)
  have hkx:=some_getD hk fun0
  obtain ⟨x,hxe⟩:∃ x,l.getD k fun0=x:=⟨_,rfl⟩
  rw [hxe] at hkx ⊢
  have hct:=cF_take hkx
  obtain ⟨m,hm⟩:∃ m,cF (l.take k)=m:=⟨_,rfl⟩
  have hm2:cF (l.take (k+1))=m+cI x.blocks:=by omega
  rw [hm] at hsum
  rw [hm,hm2]
  obtain ⟨a,r,a1,hr,a2,_⟩:=hv.at2 hkx
  have hEA:=h1.trans hE
  have ld:=a2 C hEA
  have hbC:base≤C.length:=by have:=hE.le;omega
  have hgp:=getC_ext hp hE
  have hfl:=(RdProg.ext hv hEA).len
  obtain ⟨pv,bv,rfl,q1,q2,q3,hbv⟩:=hr
  have hpo:=q1.one
  have hbo:=hbv.one
  obtain ⟨D,hD⟩:∃ D,C ++ [Ob.cells 0 [Sb x.name,pv,bv]]=D:=⟨_,rfl⟩
  have eD:Ext C D:=hD ▸ Ext.app _ _
  have hlD:D.length=C.length+1:=by rw [← hD,len_snoc]
  have hgg:getC D C.length 0=some [Sb x.name,pv,bv]:=hD ▸ getC_new C 0 _
  have hgg':∀ c,getC (C ++ [Ob.cells 0 c]) C.length 0=some c:=fun c=>getC_new C 0 c
  have hss:∀ c d,(C ++ [c]).set C.length d=C ++ [d]:=fun c d=>set_snoc C c d
  have hpl:=Sb_len (q1.ext (hEA.trans eD))
  have hbl:=(rdB_ext hbv (hEA.trans eD)).len
  have hca:=long_fun hL base D (q1.ext (hEA.trans eD)) q2 q3
  have eE:Ext A1 D:=hE.trans eD
  simp only [Iz,bl,Sb] at ld hD hgg hca hgp
  cases g1:((decide ((x.name.size:Int) > 200) || decide ((x.ps.length:Int) > 20)) || decide ((x.blocks.length:Int) > 70)) with
  | true=>
    refine .inr ⟨trim L (frOf 133 [(2,bl true)]) D,?_,eE.trim hL1 _⟩
    rw [itW_step]
    simp only [Iz,bl,a_f7,s_f7_l0_b,s_f7_l1_b,s_f7_l2_b,aa,reduceIte,reduceCtorEq,Nat.reduceEqDiff,Nat.reduceLT,Nat.reduceLeDiff,Nat.reduceBEq,Nat.reduceAdd,Nat.reduceMul,op_appR,hgp,hfl,hlt',a1,ld,hbC,hD,hgg,hgg',hss,hpo,hbo,Bool.and_self,hpl,hbl,g1]
  | false=>
    simp only [Bool.or_eq_false_iff,decide_eq_false_iff_not] at g1
    have g1':((decide ((x.name.size:Int) > 200) || decide ((x.ps.length:Int) > 20)) || decide ((x.blocks.length:Int) > 70))=false:=by simp only [Bool.or_eq_false_iff,decide_eq_false_iff_not];exact g1
    cases g2:x.ps.any bigS with
    | true=>
      rw [g2] at hca
      refine .inr ⟨trim L (frOf 133 [(2,bl true)]) D,?_,eE.trim hL1 _⟩
      rw [itW_step]
      simp only [Iz,bl,a_f7,s_f7_l0_b,s_f7_l1_b,s_f7_l2_b,aa,reduceIte,reduceCtorEq,Nat.reduceEqDiff,Nat.reduceLT,Nat.reduceLeDiff,Nat.reduceBEq,Nat.reduceAdd,Nat.reduceMul,op_appR,hgp,hfl,hlt',a1,ld,hbC,hD,hgg,hgg',hss,hpo,hbo,Bool.and_self,hpl,hbl,g1',hca]
    | false=>
      rw [g2] at hca
      rcases hv_l1 hL base (hEA.trans eD) (by omega) (p:=p) (q:=C.length) (i:=k) (hD ▸ getC_new C 0 _) hbv (by omega) (Nat.le_refl D.length) hsum D (Ext.refl D) with ⟨⟨z0,z1⟩,E,z2,z3⟩ | ⟨E,z2,z3⟩
      ·refine .inl ⟨⟨by omega,by omega,bigS_no g2,by omega,z0⟩,trim L (frOf 133 [(1,.ref p 0 0),(3,Iz (m+cI x.blocks:Nat)),(4,Iz (k+1:Nat))]) E,?_,(eE.trans z3).trim hL1 _,by omega⟩
       rw [itW_step]
       simp only [Iz,bl,hlD] at z2
       simp only [Iz,bl,a_f7,s_f7_l0_b,s_f7_l1_b,s_f7_l2_b,aa,reduceIte,reduceCtorEq,Nat.reduceEqDiff,Nat.reduceLT,Nat.reduceLeDiff,Nat.reduceBEq,Nat.reduceAdd,Nat.reduceMul,op_appR,hgp,hfl,hlt',a1,ld,hbC,hD,hlD,hgg,hgg',hss,hpo,hbo,Bool.and_self,hpl,hbl,g1',hca,z2,hwk]
      ·refine .inr ⟨trim L (frOf 133 [(2,bl true)]) E,?_,(eE.trans z3).trim hL1 _⟩
       rw [itW_step]
       simp only [Iz,bl,hlD] at z2
       simp only [Iz,bl,a_f7,s_f7_l0_b,s_f7_l1_b,s_f7_l2_b,aa,reduceIte,reduceCtorEq,Nat.reduceEqDiff,Nat.reduceLT,Nat.reduceLeDiff,Nat.reduceBEq,Nat.reduceAdd,Nat.reduceMul,op_appR,hgp,hfl,hlt',a1,ld,hbC,hD,hlD,hgg,hgg',hss,hpo,hbo,Bool.and_self,hpl,hbl,g1',hca,z2]) C0 ⟨hC0,by rw [List.take_zero];exact Nat.zero_le _⟩ with ⟨e1,C,e2,e3,e4⟩ | e
 ·rw [List.take_length] at e2 e4
  refine .inl ⟨⟨all_getD e1,e4⟩,trim L (frOf 133 [(1,.ref p 0 0),(3,Iz (cF l:Nat)),(4,Iz l.length),(18,bl false)]) C,?_,e3.trim hL1 _⟩
  rw [List.take_zero,show cF []=0 from rfl,cast0] at e2
  refine e2.trans ?_
  have hcl:=(RdProg.ext hv (h1.trans e3)).len
  have hgp:=getC_ext hp e3
  rw [itW_step]
  simp only [Iz,bl,a_f7,s_f7_l0_b,s_f7_l1_b,s_f7_l2_b,aa,reduceIte,reduceCtorEq,Nat.reduceEqDiff,Nat.reduceLT,Nat.reduceLeDiff,Nat.reduceBEq,Nat.reduceAdd,Nat.reduceMul,op_appR,hgp,hcl,Int.lt_irrefl]
 ·rw [List.take_zero,show cF []=0 from rfl,cast0] at e
  exact .inr e
theorem heavy_fun (hL:CT k_f15=some (.code s_f15)) (hT:CT k_f7=some (.code s_f7)) (base:Nat) {A:Heap} (hb:base≤A.length) {fv:V} {fs:List FunD} (hr:RdProg A fv fs):
 ∃ b H',callW CT (.fn k_f7 [] []) [.agg [fv]] base A=some (.s (.bool b),H')∧Ext A H'∧(b=false→Light fs):=by
 have hfo:=hr.one
 obtain ⟨A1,hA1⟩:∃ A1,A ++ [Ob.cells 0 [fv]]=A1:=⟨_,rfl⟩
 have l1:A1.length=A.length+1:=by rw [← hA1,len_snoc]
 have e1:Ext A A1:=hA1 ▸ Ext.app _ _
 have x1:getC A1 A.length 0=some [fv]:=hA1 ▸ getC_new A 0 _
 have hfl:=(hr.ext e1).len
 by_cases h70:(fs.length:Int) > 70
 ·refine ⟨true,A1,callW_fnA (c:=s_f7) (k:=1) hT rfl (by decide) s_f7_first ?_,e1,fun e=>by cases e⟩
  simp only [Iz,bl,s_f7,a_f7,s_f7_l0_b,s_f7_l1_b,s_f7_l2_b,aa,reduceIte,reduceCtorEq,Nat.reduceEqDiff,Nat.reduceLT,Nat.reduceLeDiff,Nat.reduceBEq,Nat.reduceAdd,Nat.reduceMul,op_appR,hfo,Bool.and_self,hA1,x1,hfl,h70]
 ·rcases hv_l2 hL base e1 (by omega) (p:=A.length) x1 hr (by omega) (Nat.le_refl A1.length) A1 (Ext.refl A1) with ⟨⟨z0,z1⟩,E,z2,z3⟩ | ⟨E,z2,z3⟩
  ·refine ⟨false,E,callW_fnA (c:=s_f7) (k:=1) hT rfl (by decide) s_f7_first ?_,e1.trans z3,fun _=>⟨by omega,z0,z1⟩⟩
   simp only [Iz,bl,l1] at z2
   simp only [Iz,bl,s_f7,a_f7,s_f7_l0_b,s_f7_l1_b,s_f7_l2_b,aa,reduceIte,reduceCtorEq,Nat.reduceEqDiff,Nat.reduceLT,Nat.reduceLeDiff,Nat.reduceBEq,Nat.reduceAdd,Nat.reduceMul,op_appR,hfo,Bool.and_self,hA1,l1,x1,hfl,h70,z2]
  ·refine ⟨true,E,callW_fnA (c:=s_f7) (k:=1) hT rfl (by decide) s_f7_first ?_,e1.trans z3,fun e=>by cases e⟩
   simp only [Iz,bl,l1] at z2
   simp only [Iz,bl,s_f7,a_f7,s_f7_l0_b,s_f7_l1_b,s_f7_l2_b,aa,reduceIte,reduceCtorEq,Nat.reduceEqDiff,Nat.reduceLT,Nat.reduceLeDiff,Nat.reduceBEq,Nat.reduceAdd,Nat.reduceMul,op_appR,hfo,Bool.and_self,hA1,l1,x1,hfl,h70,z2]
end
end Go.Proofs.YtngfpadeebpoeaaGreatDoor
set_option maxRecDepth 100000
namespace Go.Proofs.YtngfpadeebpoeaaGreatDoor
open Go.AM
abbrev k_f4:Nat:=4
def K4_0:List Nat:=[0] ++ List.range' 2 123
def A4_0_0:=hQ K4_0 0
def A4_0_1:=hK K4_0 1
def A4_0_2:=hQ K4_0 2
def R4_0t1:LO:=[⟨some 2,.move (.c (.s (.bool false))),none⟩]
def R4_0p0:LO:=[⟨some 1,.box (.t 0),none⟩]
def R4_0:LO:=R4_0p0 ++ R4_0t1
def K4_0p0:List Nat:=[0] ++ List.range' 2 123
def A4_0p0_0:=hQ K4_0p0 0
def A4_0p0_1:=hK K4_0p0 1
def A4_0p0_2:=hQ K4_0p0 2
theorem X4_0 (call:CallF) (it:IterF) (base:Nat) (f:List V) (H:Heap):evC call it base (.region R4_0 [] K4_0) f H=thenC call it base (.region R4_0t1 [] K4_0) (opsC [] R4_0p0 K4_0p0 (evOps call base [⟨some 1,.box (.t 0),none⟩] f H)):=(row_op call it base R4_0p0 R4_0t1 (kc:=K4_0p0) (by kernel_rfl) f H).trans (by rw [row_ops];rfl)
def T4_0t1:=hT R4_0t1 K4_0 [] 3 [] [] [.cc (.s (.bool false))]
def X4_0t1:=hL R4_0t1 K4_0 []
def R4_1t1:LO:=[⟨some 13,.call (.c (.fn 7 [] [])) [.t 12],none⟩]
def R4_1p0:LO:=[⟨some 12,.load true 1 (.t 1),none⟩]
def R4_1:LO:=R4_1p0 ++ R4_1t1
def T4_1p0:=hT R4_1p0 [] [12] 13 [] [(12,.op (.load true 1 (.t 0)) [.t 1])] [sb []]
def X4_1:=hS R4_1 R4_1p0 R4_1t1 [] [12] [12]
def X4_1t1:=hX R4_1t1 [12] [⟨some 13,.call (.c (.fn 7 [] [])) [.t 12],none⟩]
def R4_2t1:LO:=[oM 2 14]
def R4_2:LO:=⟨some 14,.call (.c (.fn 8 [] [])) [],none⟩ :: R4_2t1
def X4_2:=hP R4_2 R4_2t1 [1,13] [1,13,14] ⟨some 14,.call (.c (.fn 8 [] [])) [],none⟩
def T4_2t1:=hT R4_2t1 [1,13,14] [2] 3 [] [(2,.t 14)] [.tt 14]
def X4_2t1:=hL R4_2t1 [1,13,14] [2]
def R4_3t2:LO:=[oM 15 17,⟨some 18,.extract (.t 15) 0,none⟩,⟨some 19,.extract (.t 15) 1,none⟩,oM 3 18,oM 4 19]
def R4_3t1:LO:=⟨some 17,.call (.c (.fn 10 [] [])) [.t 16],none⟩ :: R4_3t2
def R4_3p0:LO:=[⟨some 16,.load true 1 (.t 1),none⟩]
def R4_3:LO:=R4_3p0 ++ R4_3t1
def T4_3p0:=hT R4_3p0 [13] [16] 17 [] [(16,.op (.load true 1 (.t 0)) [.t 1])] [sb []]
def X4_3:=hS R4_3 R4_3p0 R4_3t1 [13] [16] [13,15,16,17,18,19]
def X4_3t1:=hP R4_3t1 R4_3t2 [16] [13,15,16,17,18,19] ⟨some 17,.call (.c (.fn 10 [] [])) [.t 16],none⟩
def T4_3t2:=hT R4_3t2 [13,15,16,17,18,19] [3,4] 20 [] [(3,.op (.extract (.t 0) 0) [.t 17]),(4,.op (.extract (.t 0) 1) [.t 17])] [.tt 17,sb [],.sub 1 [] [],sb [],.sub 1 [] []]
def X4_3t2:=hL R4_3t2 [13,15,16,17,18,19] [3,4]
def R4_4:LO:=[oM 20 4,⟨some 21,.bin .neq (.t 20) (.c (.s (.int .i64 0))),none⟩]
def T4_4:=hT R4_4 [4,20] [21] 22 [] [(21,.op (.bin .neq (.t 0) (.c (.s (.int .i64 0)))) [.t 4,.c (.s (.int .i64 0))])] [.tt 4,sb []]
def R4_5t2:LO:=[⟨some 26,.pick (.t 24) (.t 25) (.c (.s (.bool false))),none⟩,oM 2 26]
def R4_5t1:LO:=⟨some 25,.call (.c (.fn 8 [] [])) [],some (24,true)⟩ :: R4_5t2
def R4_5p0:LO:=[oM 22 3,⟨some 23,.bin .eql (.t 22) (.c (.s (.string ⟨#[]⟩))),none⟩,oM 24 23]
def R4_5:LO:=R4_5p0 ++ R4_5t1
def T4_5p0:=hT R4_5p0 [1,3,21,22,23] [24] 25 [] [(24,.op (.bin .eql (.t 0) (.c (.s (.string ⟨#[]⟩)))) [.t 3,.c (.s (.string ⟨#[]⟩))])] [.tt 3,sb [],sb []]
def X4_5:=hS R4_5 R4_5p0 R4_5t1 [1,3,21,22,23] [24] [1,3,21,22,23,24,25,26]
def X4_5t1:=hP R4_5t1 R4_5t2 [] [1,3,21,22,23,24,25,26] ⟨some 25,.call (.c (.fn 8 [] [])) [],some (24,true)⟩
def T4_5t2:=hT R4_5t2 [1,3,21,22,23,24,25,26] [2] 27 [] [(2,.pick (.t 24) (.t 25) (.c (.s (.bool false))))] [sb [],sb []]
def X4_5t2:=hL R4_5t2 [1,3,21,22,23,24,25,26] [2]
def R4_6:LO:=[⟨some 5,.move (.c (.s (.int .i64 0))),none⟩]
def T4_6:=hT R4_6 [21] [5] 6 [] [(5,.c (.s (.int .i64 0)))] [.cc (.s (.int .i64 0))]
def R4_7:LO:=[⟨some 6,.move (.c (.s (.int .i64 0))),none⟩]
def T4_7:=hT R4_7 [] [6] 7 [] [(6,.c (.s (.int .i64 0)))] [.cc (.s (.int .i64 0))]
def R4_8:LO:=[oM 27 6,oF 28 0 1,oL 29 28,⟨some 30,.lenS .s (.t 29),none⟩,⟨some 31,.bin .lss (.t 27) (.t 30),none⟩]
def T4_8:=hT R4_8 [27,28,29,30] [31] 32 [] [(31,.op (.bin .lss (.t 0) (.t 1)) [.t 6,.op (.lenS .s (.t 0)) [.op (.load false 1 (.t 0)) [.op (.fieldAddr 0 (.t 0)) [.t 1]]]])] [.tt 6,sb [1,0,0],sb [1,0],sb [1],sb []]
def R4_9:LO:=[oM 34 5,⟨some 35,.bin .add (.t 34) (.c (.s (.int .i64 2))),none⟩,oM 5 35]
def T4_9:=hT R4_9 [31,34,35] [5] 36 [] [(5,.op (.bin .add (.t 0) (.c (.s (.int .i64 2)))) [.t 5,.c (.s (.int .i64 2))])] [.tt 5,sb [],sb []]
def R4_10:LO:=[⟨some 7,.move (.c (.s (.int .i64 0))),none⟩]
def T4_10:=hT R4_10 [] [7] 8 [] [(7,.c (.s (.int .i64 0)))] [.cc (.s (.int .i64 0))]
def R4_11:LO:=[oM 36 7,oF 37 0 1,oL 38 37,oM 39 6,⟨some 40,.indexAddr 3 (.t 38) (.t 39),none⟩,oF 41 2 40,oL 42 41,⟨some 43,.lenS .s (.t 42),none⟩,⟨some 44,.bin .lss (.t 36) (.t 43),none⟩]
def T4_11:=hT R4_11 [36,37,38,39,40,41,42,43] [44] 45 [] [(44,.op (.bin .lss (.t 0) (.t 1)) [.t 7,.op (.lenS .s (.t 0)) [.op (.load false 1 (.t 0)) [.op (.fieldAddr 2 (.t 0)) [.op (.indexAddr 3 (.t 0) (.t 1)) [.op (.load false 1 (.t 0)) [.op (.fieldAddr 0 (.t 0)) [.t 1]],.t 6]]]]])] [.tt 7,sb [1,0,0,0,0,0],sb [1,0,0,0,0],.tt 6,sb [1,0,0,0],sb [1,0,0],sb [1,0],sb [1],sb []]
def R4_12:LO:=[oM 47 5,⟨some 48,.bin .add (.t 47) (.c (.s (.int .i64 1))),none⟩,oF 49 0 1,oL 50 49,oM 51 6,⟨some 52,.indexAddr 3 (.t 50) (.t 51),none⟩,oF 53 2 52,oL 54 53,oM 55 7,⟨some 56,.indexAddr 2 (.t 54) (.t 55),none⟩,oF 57 1 56,oL 58 57,⟨some 59,.lenS .s (.t 58),none⟩,⟨some 60,.bin .add (.t 48) (.t 59),none⟩,oM 5 60]
def T4_12:=hT R4_12 [44,47,48,49,50,51,52,53,54,55,56,57,58,59,60] [5] 61 [] [(5,.op (.bin .add (.t 0) (.t 1)) [.op (.bin .add (.t 0) (.c (.s (.int .i64 1)))) [.t 5,.c (.s (.int .i64 1))],.op (.lenS .s (.t 0)) [.op (.load false 1 (.t 0)) [.op (.fieldAddr 1 (.t 0)) [.op (.indexAddr 2 (.t 0) (.t 1)) [.op (.load false 1 (.t 0)) [.op (.fieldAddr 2 (.t 0)) [.op (.indexAddr 3 (.t 0) (.t 1)) [.op (.load false 1 (.t 0)) [.op (.fieldAddr 0 (.t 0)) [.t 1]],.t 6]]],.t 7]]]]])] [.tt 5,sb [0],sb [1,0,0,0,0,0,0,0,0],sb [1,0,0,0,0,0,0,0],.tt 6,sb [1,0,0,0,0,0,0],sb [1,0,0,0,0,0],sb [1,0,0,0,0],.tt 7,sb [1,0,0,0],sb [1,0,0],sb [1,0],sb [1],sb [],sb []]
def R4_13:LO:=[oM 45 7,⟨some 46,.bin .add (.t 45) (.c (.s (.int .i64 1))),none⟩,oM 7 46]
def T4_13:=hT R4_13 [45,46] [7] 47 [] [(7,.op (.bin .add (.t 0) (.c (.s (.int .i64 1)))) [.t 7,.c (.s (.int .i64 1))])] [.tt 7,sb [],sb []]
def s_f4_l0_b:ACode:=
 (.seq (.seq (.regionE R4_11 [36,37,38,39,40,41,42,43] [44])
 (.cond (.t 44)
 .skip
 (.exit 2)))
 (.seq (.block 3
 (.regionE R4_12 [44,47,48,49,50,51,52,53,54,55,56,57,58,59,60] [5]))
 (.regionE R4_13 [45,46] [7])))
def s_f4_l0:ACode:=s_f4_l0_b
def s_f4_l0_ev:=hE s_f4_l0 s_f4_l0_b
def R4_14:LO:=[oM 32 6,⟨some 33,.bin .add (.t 32) (.c (.s (.int .i64 1))),none⟩,oM 6 33]
def T4_14:=hT R4_14 [7,32,33,44] [6] 34 [] [(6,.op (.bin .add (.t 0) (.c (.s (.int .i64 1)))) [.t 6,.c (.s (.int .i64 1))])] [.tt 6,sb [],sb []]
def s_f4_l1_b:ACode:=
 (.seq (.seq (.regionE R4_8 [27,28,29,30] [31])
 (.cond (.t 31)
 .skip
 (.exit 0)))
 (.seq (.block 1
 (.seq (.regionE R4_9 [31,34,35] [5])
 (.seq (.regionE R4_10 [] [7])
 (.block 2
 (.loop [] s_f4_l0)))))
 (.regionE R4_14 [7,32,33,44] [6])))
def s_f4_l1:ACode:=s_f4_l1_b
def s_f4_l1_ev:=hE s_f4_l1 s_f4_l1_b
def R4_15:LO:=[⟨some 8,.move (.c (.s (.int .i64 0))),none⟩]
def T4_15:=hT R4_15 [1,6,31] [8] 9 [] [(8,.c (.s (.int .i64 0)))] [.cc (.s (.int .i64 0))]
def R4_16:LO:=[⟨some 9,.move (.c (.s (.int .i64 0))),none⟩]
def T4_16:=hT R4_16 [] [9] 10 [] [(9,.c (.s (.int .i64 0)))] [.cc (.s (.int .i64 0))]
def R4_17:LO:=[⟨some 10,.move (.c (.s (.int .i64 0))),none⟩]
def T4_17:=hT R4_17 [] [10] 11 [] [(10,.c (.s (.int .i64 0)))] [.cc (.s (.int .i64 0))]
def R4_18:LO:=[oM 61 10,oM 62 3,⟨some 63,.lenS .p (.t 62),none⟩,⟨some 64,.bin .lss (.t 61) (.t 63),none⟩]
def T4_18:=hT R4_18 [61,62,63] [64] 65 [] [(64,.op (.bin .lss (.t 0) (.t 1)) [.t 10,.op (.lenS .p (.t 0)) [.t 3]])] [.tt 10,.tt 3,sb [1],sb []]
def R4_19:LO:=[oM 67 3,oM 68 10,⟨some 69,.indexStr (.t 67) (.t 68),none⟩,oM 11 69]
def T4_19:=hT R4_19 [64,67,68,69] [11] 70 [] [(11,.op (.indexStr (.t 0) (.t 1)) [.t 3,.t 10])] [.tt 3,.tt 10,sb [],sb []]
def R4_20:LO:=[oM 70 11,⟨some 71,.bin .eql (.t 70) (.c (.s (.int .u8 10))),none⟩]
def T4_20:=hT R4_20 [70] [71] 72 [] [(71,.op (.bin .eql (.t 0) (.c (.s (.int .u8 10)))) [.t 11,.c (.s (.int .u8 10))])] [.tt 11,sb []]
def R4_21:LO:=[oM 72 8,⟨some 73,.bin .add (.t 72) (.c (.s (.int .i64 1))),none⟩,oM 8 73]
def T4_21:=hT R4_21 [11,71,72,73] [8] 74 [] [(8,.op (.bin .add (.t 0) (.c (.s (.int .i64 1)))) [.t 8,.c (.s (.int .i64 1))])] [.tt 8,sb [],sb []]
def R4_22:LO:=[oM 74 10,oM 75 9,⟨some 76,.bin .eql (.t 74) (.t 75),none⟩,oM 77 76,gM 78 3 77 false,gM 79 10 77 false,⟨some 80,.bin .sub (.t 79) (.c (.s (.int .i64 1))),some (77,false)⟩,⟨some 81,.indexStr (.t 78) (.t 80),some (77,false)⟩,⟨some 82,.bin .eql (.t 81) (.c (.s (.int .u8 32))),some (77,false)⟩,⟨some 83,.pick (.t 77) (.c (.s (.bool true))) (.t 82),none⟩]
def T4_22:=hT R4_22 [9,74,75,76,77,78,79,80,81,82] [83] 84 [] [(83,.pick (.op (.bin .eql (.t 0) (.t 1)) [.t 10,.t 9]) (.c (.s (.bool true))) (.op (.bin .eql (.t 0) (.c (.s (.int .u8 32)))) [.op (.indexStr (.t 0) (.t 1)) [.t 3,.op (.bin .sub (.t 0) (.c (.s (.int .i64 1)))) [.t 10,.c (.s (.int .i64 1))]],.c (.s (.int .u8 32))]))] [.tt 10,.tt 9,sb [0],sb [0],.sub 0 [2,0,0] [77],.sub 0 [2,0,1,0] [77],.sub 0 [2,0,1] [77],.sub 0 [2,0] [77],.sub 0 [2] [77],sb []]
def R4_23:LO:=[⟨some 2,.move (.c (.s (.bool false))),none⟩]
def T4_23:=hT R4_23 [3,5,8,10,83] [2] 3 [] [(2,.c (.s (.bool false)))] [.cc (.s (.bool false))]
def R4_24:LO:=[oM 84 10,⟨some 85,.bin .add (.t 84) (.c (.s (.int .i64 1))),none⟩,oM 9 85]
def T4_24:=hT R4_24 [83,84,85] [9] 86 [] [(9,.op (.bin .add (.t 0) (.c (.s (.int .i64 1)))) [.t 10,.c (.s (.int .i64 1))])] [.tt 10,sb [],sb []]
def R4_25:LO:=[oM 86 11,⟨some 87,.bin .neq (.t 86) (.c (.s (.int .u8 32))),none⟩,oM 88 87,gM 89 11 88 true,⟨some 90,.bin .lss (.t 89) (.c (.s (.int .u8 33))),some (88,true)⟩,gM 91 90 88 true,gM 92 11 91 false,⟨some 93,.bin .gtr (.t 92) (.c (.s (.int .u8 126))),some (91,false)⟩,⟨some 94,.pick (.t 91) (.c (.s (.bool true))) (.t 93),some (88,true)⟩,⟨some 95,.pick (.t 88) (.t 94) (.c (.s (.bool false))),none⟩,oM 96 95,gM 97 11 96 false,⟨some 98,.bin .eql (.t 97) (.c (.s (.int .u8 32))),some (96,false)⟩,gM 99 98 96 false,gM 100 10 99 true,gM 101 9 99 true,⟨some 102,.bin .add (.t 101) (.c (.s (.int .i64 1))),some (99,true)⟩,⟨some 103,.bin .gtr (.t 100) (.t 102),some (99,true)⟩,⟨some 104,.pick (.t 99) (.t 103) (.c (.s (.bool false))),some (96,false)⟩,gM 105 104 96 false,gM 106 3 105 true,gM 107 10 105 true,⟨some 108,.bin .sub (.t 107) (.c (.s (.int .i64 1))),some (105,true)⟩,⟨some 109,.indexStr (.t 106) (.t 108),some (105,true)⟩,⟨some 110,.bin .eql (.t 109) (.c (.s (.int .u8 32))),some (105,true)⟩,⟨some 111,.pick (.t 105) (.t 110) (.c (.s (.bool false))),some (96,false)⟩,⟨some 112,.pick (.t 96) (.c (.s (.bool true))) (.t 111),none⟩]
def T4_25:=hT R4_25 [11,71,86,87,88,89,90,91,92,93,94,95,96,97,98,99,100,101,102,103,104,105,106,107,108,109,110,111] [112] 113 [] [(112,.pick (.pick (.op (.bin .neq (.t 0) (.c (.s (.int .u8 32)))) [.t 11,.c (.s (.int .u8 32))]) (.pick (.op (.bin .lss (.t 0) (.c (.s (.int .u8 33)))) [.t 11,.c (.s (.int .u8 33))]) (.c (.s (.bool true))) (.op (.bin .gtr (.t 0) (.c (.s (.int .u8 126)))) [.t 11,.c (.s (.int .u8 126))])) (.c (.s (.bool false)))) (.c (.s (.bool true))) (.pick (.pick (.op (.bin .eql (.t 0) (.c (.s (.int .u8 32)))) [.t 11,.c (.s (.int .u8 32))]) (.op (.bin .gtr (.t 0) (.t 1)) [.t 10,.op (.bin .add (.t 0) (.c (.s (.int .i64 1)))) [.t 9,.c (.s (.int .i64 1))]]) (.c (.s (.bool false)))) (.op (.bin .eql (.t 0) (.c (.s (.int .u8 32)))) [.op (.indexStr (.t 0) (.t 1)) [.t 3,.op (.bin .sub (.t 0) (.c (.s (.int .i64 1)))) [.t 10,.c (.s (.int .i64 1))]],.c (.s (.int .u8 32))]) (.c (.s (.bool false)))))] [.tt 11,sb [0,0],sb [0,0],.sub 0 [0,1,0,0] [88],.sub 0 [0,1,0] [88],.sub 0 [0,1,0] [88],.sub 0 [0,1,2,0] [88,91],.sub 0 [0,1,2] [88,91],.sub 0 [0,1] [88],sb [0],sb [0],.sub 0 [2,0,0,0] [96],.sub 0 [2,0,0] [96],.sub 0 [2,0,0] [96],.sub 0 [2,0,1,0] [96,99],.sub 0 [2,0,1,1,0] [96,99],.sub 0 [2,0,1,1] [96,99],.sub 0 [2,0,1] [96,99],.sub 0 [2,0] [96],.sub 0 [2,0] [96],.sub 0 [2,1,0,0] [96,105],.sub 0 [2,1,0,1,0] [96,105],.sub 0 [2,1,0,1] [96,105],.sub 0 [2,1,0] [96,105],.sub 0 [2,1] [96,105],.sub 0 [2] [96],sb []]
def R4_26:LO:=[⟨some 2,.move (.c (.s (.bool false))),none⟩]
def T4_26:=hT R4_26 [3,5,8,9,10,112] [2] 3 [] [(2,.c (.s (.bool false)))] [.cc (.s (.bool false))]
def R4_27:LO:=[oM 65 10,⟨some 66,.bin .add (.t 65) (.c (.s (.int .i64 1))),none⟩,oM 10 66]
def T4_27:=hT R4_27 [65,66,112] [10] 67 [] [(10,.op (.bin .add (.t 0) (.c (.s (.int .i64 1)))) [.t 10,.c (.s (.int .i64 1))])] [.tt 10,sb [],sb []]
def s_f4_l2_b:ACode:=
 (.seq (.seq (.regionE R4_18 [61,62,63] [64])
 (.cond (.t 64)
 .skip
 (.exit 4)))
 (.seq (.block 5
 (.seq (.regionE R4_19 [64,67,68,69] [11])
 (.seq (.regionE R4_20 [70] [71])
 (.cond (.t 71)
 (.seq (.regionE R4_21 [11,71,72,73] [8])
 (.seq (.seq (.regionE R4_22 [9,74,75,76,77,78,79,80,81,82] [83])
 (.cond (.t 83)
 (.seq (.regionE R4_23 [3,5,8,10,83] [2])
 .ret)
 .skip))
 (.regionE R4_24 [83,84,85] [9])))
 (.seq (.regionE R4_25 [11,71,86,87,88,89,90,91,92,93,94,95,96,97,98,99,100,101,102,103,104,105,106,107,108,109,110,111] [112])
 (.cond (.t 112)
 (.seq (.regionE R4_26 [3,5,8,9,10,112] [2])
 .ret)
 .skip))))))
 (.regionE R4_27 [65,66,112] [10])))
def s_f4_l2:ACode:=s_f4_l2_b
def s_f4_l2_ev:=hE s_f4_l2 s_f4_l2_b
def R4_28t2:LO:=[⟨some 124,.pick (.t 122) (.t 123) (.c (.s (.bool false))),none⟩,oM 2 124]
def R4_28t1:LO:=⟨some 123,.call (.c (.fn 8 [] [])) [],some (122,true)⟩ :: R4_28t2
def R4_28p0:LO:=[oM 113 8,oM 114 5,⟨some 115,.bin .eql (.t 113) (.t 114),none⟩,oM 116 115,gM 117 9 116 true,gM 118 3 116 true,⟨some 119,.lenS .p (.t 118),some (116,true)⟩,⟨some 120,.bin .eql (.t 117) (.t 119),some (116,true)⟩,⟨some 121,.pick (.t 116) (.t 120) (.c (.s (.bool false))),none⟩,oM 122 121]
def R4_28:LO:=R4_28p0 ++ R4_28t1
def T4_28p0:=hT R4_28p0 [3,5,8,9,10,64,113,114,115,116,117,118,119,120,121] [122] 123 [] [(122,.pick (.op (.bin .eql (.t 0) (.t 1)) [.t 8,.t 5]) (.op (.bin .eql (.t 0) (.t 1)) [.t 9,.op (.lenS .p (.t 0)) [.t 3]]) (.c (.s (.bool false))))] [.tt 8,.tt 5,sb [0],sb [0],.sub 0 [1,0] [116],.sub 0 [1,1,0] [116],.sub 0 [1,1] [116],.sub 0 [1] [116],sb [],sb []]
def X4_28:=hS R4_28 R4_28p0 R4_28t1 [3,5,8,9,10,64,113,114,115,116,117,118,119,120,121] [122] [3,5,8,9,10,64,113,114,115,116,117,118,119,120,121,122,123,124]
def X4_28t1:=hP R4_28t1 R4_28t2 [] [3,5,8,9,10,64,113,114,115,116,117,118,119,120,121,122,123,124] ⟨some 123,.call (.c (.fn 8 [] [])) [],some (122,true)⟩
def T4_28t2:=hT R4_28t2 [3,5,8,9,10,64,113,114,115,116,117,118,119,120,121,122,123,124] [2] 125 [] [(2,.pick (.t 122) (.t 123) (.c (.s (.bool false))))] [sb [],sb []]
def X4_28t2:=hL R4_28t2 [3,5,8,9,10,64,113,114,115,116,117,118,119,120,121,122,123,124] [2]
def s_f4:ACFun:={ ntmps:=125,results:=[.tmp 2],body:=
 (.seq (.region R4_0 [] K4_0)
 (.seq (.seq (.region R4_1 [] [12])
 (.cond (.t 13)
 (.seq (.region R4_2 [] [1,13,14])
 .ret)
 .skip))
 (.seq (.region R4_3 [] [13,15,16,17,18,19])
 (.seq (.seq (.regionE R4_4 [4,20] [21])
 (.cond (.t 21)
 (.seq (.region R4_5 [] [1,3,21,22,23,24,25,26])
 .ret)
 .skip))
 (.seq (.regionE R4_6 [21] [5])
 (.seq (.seq (.regionE R4_7 [] [6])
 (.block 0
 (.loop [] s_f4_l1)))
 (.seq (.regionE R4_15 [1,6,31] [8])
 (.seq (.regionE R4_16 [] [9])
 (.seq (.seq (.regionE R4_17 [] [10])
 (.block 4
 (.loop [] s_f4_l2)))
 (.seq (.region R4_28 [] [3,5,8,9,10,64,113,114,115,116,117,118,119,120,121,122,123,124])
 .ret)))))))))) }
theorem s_f4_first:firstOk (List.range' 1 (s_f4.ntmps - 1)) s_f4.body=true:=by kernel_rfl
abbrev k_f8:Nat:=8
def K8_0:List Nat:=List.range' 0 23
theorem s_f8_r0_kT:killV K8_0 (startV 23 [] 0)=[]:=by kernel_rfl
def R8_0:LO:=[⟨some 0,.move (.c (.s (.bool false))),none⟩]
def T8_0:=hT R8_0 K8_0 [] 1 [] [] [.cc (.s (.bool false))]
def R8_1t11:LO:=[oM 3 14,⟨some 15,.extract (.t 3) 0,none⟩,⟨some 16,.extract (.t 3) 1,none⟩,oM 1 15,oM 2 16]
def R8_1t10:LO:=⟨some 14,.call (.c (.fn 10 [] [])) [.t 13],none⟩ :: R8_1t11
def R8_1p9:LO:=[⟨some 13,.build [.s (.slice none 0 0)] [(0,1)] [(0,.t 12)],none⟩]
def R8_1t9:LO:=R8_1p9 ++ R8_1t10
def R8_1t8:LO:=⟨some 12,.buildSl 3 1 [.s (.string ⟨#[]⟩),.s (.slice none 0 0),.s (.slice none 0 0)] [(0,.t 11)],none⟩ :: R8_1t9
def R8_1p7:LO:=[⟨some 11,.build [.s (.string ⟨#[]⟩),.s (.slice none 0 0),.s (.slice none 0 0)] [(0,1),(1,1),(2,1)] [(0,.c (.s (.string ⟨#[102]⟩))),(1,.t 4),(2,.t 10)],none⟩]
def R8_1t7:LO:=R8_1p7 ++ R8_1t8
def R8_1t6:LO:=⟨some 10,.buildSl 2 1 [.s (.string ⟨#[]⟩),.s (.slice none 0 0)] [(0,.t 9)],none⟩ :: R8_1t7
def R8_1p5:LO:=[⟨some 9,.build [.s (.string ⟨#[]⟩),.s (.slice none 0 0)] [(0,1),(1,1)] [(0,.c (.s (.string ⟨#[97]⟩))),(1,.t 8)],none⟩]
def R8_1t5:LO:=R8_1p5 ++ R8_1t6
def R8_1t4:LO:=⟨some 8,.buildSl 8 1 [.s (.int .u8 0),.s (.string ⟨#[]⟩),.s (.string ⟨#[]⟩),.s (.string ⟨#[]⟩),.s (.int .i64 0),.s (.string ⟨#[]⟩),.s (.slice none 0 0),.s (.slice none 0 0)] [(0,.t 7)],none⟩ :: R8_1t5
def R8_1p3:LO:=[⟨some 7,.build [.s (.int .u8 0),.s (.string ⟨#[]⟩),.s (.string ⟨#[]⟩),.s (.string ⟨#[]⟩),.s (.int .i64 0),.s (.string ⟨#[]⟩),.s (.slice none 0 0),.s (.slice none 0 0)] [(0,1),(1,1),(2,1),(3,1),(4,1),(5,1),(6,1),(7,1)] [(0,.c (.s (.int .u8 6))),(1,.c (.s (.string ⟨#[104]⟩))),(6,.t 5),(7,.t 6)],none⟩]
def R8_1t3:LO:=R8_1p3 ++ R8_1t4
def R8_1t2:LO:=⟨some 6,.buildSl 1 2 [.s (.string ⟨#[]⟩),.s (.string ⟨#[]⟩)] [(0,.c (.s (.string ⟨#[97]⟩))),(1,.c (.s (.string ⟨#[98]⟩)))],none⟩ :: R8_1t3
def R8_1t1:LO:=⟨some 5,.buildSl 1 2 [.s (.string ⟨#[]⟩),.s (.string ⟨#[]⟩)] [(0,.c (.s (.string ⟨#[120]⟩))),(1,.c (.s (.string ⟨#[110,117,108,108]⟩)))],none⟩ :: R8_1t2
def R8_1:LO:=⟨some 4,.buildSl 1 2 [.s (.string ⟨#[]⟩),.s (.string ⟨#[]⟩)] [(0,.c (.s (.string ⟨#[112]⟩))),(1,.c (.s (.string ⟨#[113]⟩)))],none⟩ :: R8_1t1
def X8_1:=hP R8_1 R8_1t1 [] [3,4,5,6,7,8,9,10,11,12,13,14,15,16] ⟨some 4,.buildSl 1 2 [.s (.string ⟨#[]⟩),.s (.string ⟨#[]⟩)] [(0,.c (.s (.string ⟨#[112]⟩))),(1,.c (.s (.string ⟨#[113]⟩)))],none⟩
def X8_1t1:=hP R8_1t1 R8_1t2 [] [3,4,5,6,7,8,9,10,11,12,13,14,15,16] ⟨some 5,.buildSl 1 2 [.s (.string ⟨#[]⟩),.s (.string ⟨#[]⟩)] [(0,.c (.s (.string ⟨#[120]⟩))),(1,.c (.s (.string ⟨#[110,117,108,108]⟩)))],none⟩
def X8_1t2:=hP R8_1t2 R8_1t3 [] [3,4,5,6,7,8,9,10,11,12,13,14,15,16] ⟨some 6,.buildSl 1 2 [.s (.string ⟨#[]⟩),.s (.string ⟨#[]⟩)] [(0,.c (.s (.string ⟨#[97]⟩))),(1,.c (.s (.string ⟨#[98]⟩)))],none⟩
def T8_1p3:=hT R8_1p3 [5,6] [7] 8 [] [(7,.op (.build [.s (.int .u8 0),.s (.string ⟨#[]⟩),.s (.string ⟨#[]⟩),.s (.string ⟨#[]⟩),.s (.int .i64 0),.s (.string ⟨#[]⟩),.s (.slice none 0 0),.s (.slice none 0 0)] [(0,1),(1,1),(2,1),(3,1),(4,1),(5,1),(6,1),(7,1)] [(0,.c (.s (.int .u8 6))),(1,.c (.s (.string ⟨#[104]⟩))),(6,.t 2),(7,.t 3)]) [.c (.s (.int .u8 6)),.c (.s (.string ⟨#[104]⟩)),.t 5,.t 6])] [sb []]
def X8_1t3:=hS R8_1t3 R8_1p3 R8_1t4 [5,6] [7] [3,4,5,6,7,8,9,10,11,12,13,14,15,16]
def X8_1t4:=hP R8_1t4 R8_1t5 [7] [3,4,5,6,7,8,9,10,11,12,13,14,15,16] ⟨some 8,.buildSl 8 1 [.s (.int .u8 0),.s (.string ⟨#[]⟩),.s (.string ⟨#[]⟩),.s (.string ⟨#[]⟩),.s (.int .i64 0),.s (.string ⟨#[]⟩),.s (.slice none 0 0),.s (.slice none 0 0)] [(0,.t 7)],none⟩
def T8_1p5:=hT R8_1p5 [8] [9] 10 [] [(9,.op (.build [.s (.string ⟨#[]⟩),.s (.slice none 0 0)] [(0,1),(1,1)] [(0,.c (.s (.string ⟨#[97]⟩))),(1,.t 1)]) [.c (.s (.string ⟨#[97]⟩)),.t 8])] [sb []]
def X8_1t5:=hS R8_1t5 R8_1p5 R8_1t6 [8] [9] [3,4,5,6,7,8,9,10,11,12,13,14,15,16]
def X8_1t6:=hP R8_1t6 R8_1t7 [9] [3,4,5,6,7,8,9,10,11,12,13,14,15,16] ⟨some 10,.buildSl 2 1 [.s (.string ⟨#[]⟩),.s (.slice none 0 0)] [(0,.t 9)],none⟩
def T8_1p7:=hT R8_1p7 [4,10] [11] 12 [] [(11,.op (.build [.s (.string ⟨#[]⟩),.s (.slice none 0 0),.s (.slice none 0 0)] [(0,1),(1,1),(2,1)] [(0,.c (.s (.string ⟨#[102]⟩))),(1,.t 1),(2,.t 2)]) [.c (.s (.string ⟨#[102]⟩)),.t 4,.t 10])] [sb []]
def X8_1t7:=hS R8_1t7 R8_1p7 R8_1t8 [4,10] [11] [3,4,5,6,7,8,9,10,11,12,13,14,15,16]
def X8_1t8:=hP R8_1t8 R8_1t9 [11] [3,4,5,6,7,8,9,10,11,12,13,14,15,16] ⟨some 12,.buildSl 3 1 [.s (.string ⟨#[]⟩),.s (.slice none 0 0),.s (.slice none 0 0)] [(0,.t 11)],none⟩
def T8_1p9:=hT R8_1p9 [12] [13] 14 [] [(13,.op (.build [.s (.slice none 0 0)] [(0,1)] [(0,.t 0)]) [.t 12])] [sb []]
def X8_1t9:=hS R8_1t9 R8_1p9 R8_1t10 [12] [13] [3,4,5,6,7,8,9,10,11,12,13,14,15,16]
def X8_1t10:=hP R8_1t10 R8_1t11 [13] [3,4,5,6,7,8,9,10,11,12,13,14,15,16] ⟨some 14,.call (.c (.fn 10 [] [])) [.t 13],none⟩
def T8_1t11:=hT R8_1t11 [3,4,5,6,7,8,9,10,11,12,13,14,15,16] [1,2] 17 [] [(1,.op (.extract (.t 0) 0) [.t 14]),(2,.op (.extract (.t 0) 1) [.t 14])] [.tt 14,sb [],.sub 1 [] [],sb [],.sub 1 [] []]
def X8_1t11:=hL R8_1t11 [3,4,5,6,7,8,9,10,11,12,13,14,15,16] [1,2]
def R8_2:LO:=[oM 17 2,⟨some 18,.bin .eql (.t 17) (.c (.s (.int .i64 0))),none⟩,oM 19 18,gM 20 1 19 true,⟨some 21,.bin .eql (.t 20) (.c (.s (.string ⟨#[102,117,110,99,32,102,40,112,44,32,113,41,32,123,10,97,58,10,32,32,104,32,61,32,112,104,105,32,91,97,58,32,120,44,32,98,58,32,110,117,108,108,93,10,125,10]⟩))),some (19,true)⟩,⟨some 22,.pick (.t 19) (.t 21) (.c (.s (.bool false))),none⟩,oM 0 22]
def T8_2:=hT R8_2 [1,2,17,18,19,20,21,22] [0] 23 [] [(0,.pick (.op (.bin .eql (.t 0) (.c (.s (.int .i64 0)))) [.t 2,.c (.s (.int .i64 0))]) (.op (.bin .eql (.t 0) (.c (.s (.string ⟨#[102,117,110,99,32,102,40,112,44,32,113,41,32,123,10,97,58,10,32,32,104,32,61,32,112,104,105,32,91,97,58,32,120,44,32,98,58,32,110,117,108,108,93,10,125,10]⟩)))) [.t 1,.c (.s (.string ⟨#[102,117,110,99,32,102,40,112,44,32,113,41,32,123,10,97,58,10,32,32,104,32,61,32,112,104,105,32,91,97,58,32,120,44,32,98,58,32,110,117,108,108,93,10,125,10]⟩))]) (.c (.s (.bool false))))] [.tt 2,sb [0],sb [0],.sub 0 [1,0] [19],.sub 0 [1] [19],sb [],sb []]
def s_f8:ACFun:={ ntmps:=23,results:=[.tmp 0],body:=
 (.seq (.regionE R8_0 K8_0 [])
 (.seq (.region R8_1 [] [3,4,5,6,7,8,9,10,11,12,13,14,15,16])
 (.seq (.regionE R8_2 [1,2,17,18,19,20,21,22] [0])
 .ret))) }
def a_f4:=ai A4_0p0_0 (ai A4_0p0_1 (ai A4_0p0_2 (ai X4_0 (ai T4_0t1 (ai X4_0t1 (ai A4_0_0 (ai A4_0_1 (ai A4_0_2 (ai T4_1p0 (ai X4_1 (ai X4_1t1 (ai X4_2 (ai T4_2t1 (ai X4_2t1 (ai T4_3p0 (ai X4_3 (ai X4_3t1 (ai T4_3t2 (ai X4_3t2 (ai T4_4 (ai T4_5p0 (ai X4_5 (ai X4_5t1 (ai T4_5t2 (ai X4_5t2 (ai T4_6 (ai T4_7 (ai T4_8 (ai T4_9 (ai T4_10 (ai T4_11 (ai T4_12 (ai T4_13 (ai s_f4_l0_ev (ai T4_14 (ai s_f4_l1_ev (ai T4_15 (ai T4_16 (ai T4_17 (ai T4_18 (ai T4_19 (ai T4_20 (ai T4_21 (ai T4_22 (ai T4_23 (ai T4_24 (ai T4_25 (ai T4_26 (ai T4_27 (ai s_f4_l2_ev (ai T4_28p0 (ai X4_28 (ai X4_28t1 (ai T4_28t2 (X4_28t2)))))))))))))))))))))))))))))))))))))))))))))))))))))))
def a_f8:=ai T8_0 (ai s_f8_r0_kT (ai X8_1 (ai X8_1t1 (ai X8_1t2 (ai T8_1p3 (ai X8_1t3 (ai X8_1t4 (ai T8_1p5 (ai X8_1t5 (ai X8_1t6 (ai T8_1p7 (ai X8_1t7 (ai X8_1t8 (ai T8_1p9 (ai X8_1t9 (ai X8_1t10 (ai T8_1t11 (ai X8_1t11 (T8_2)))))))))))))))))))
theorem SA4_4:compK Tryz.prog PX0 4=some (false,s_f4.ntmps,s_f4.results,s_f4.body.bare):=by kernel_rfl
theorem SA4_8:compK Tryz.prog PX0 8=some (false,s_f8.ntmps,s_f8.results,s_f8.body.bare):=by kernel_rfl
end Go.Proofs.YtngfpadeebpoeaaGreatDoor
set_option maxRecDepth 100000
namespace Go.Proofs.YtngfpadeebpoeaaGreatDoor
open Go.AM
def wBs (l:List BlkD):Nat:=(l.map wantB).sum
theorem wBs_take {l:List BlkD} {k:Nat} {x:BlkD} (h:l[k]?=some x):wBs (l.take (k+1))=wBs (l.take k)+(1+x.code.length):=by
 rw [wBs,List.take_add_one,h,List.map_append,List.sum_append]
 simp [wBs,wantB]
theorem wBs_le {l:List BlkD} (h:∀ b∈l,b.code.length≤200):wBs l≤201 * l.length:=by
 induction l with
 | nil=>simp [wBs]
 | cons b l ih=>
   have h1:=h b List.mem_cons_self
   have h2:=ih fun x hx=>h x (List.mem_cons_of_mem _ hx)
   simp only [wBs,List.map_cons,List.sum_cons,wantB,List.length_cons] at h2 ⊢
   omega
def wPs (l:List FunD):Nat:=(l.map wantF).sum
theorem wPs_take {l:List FunD} {k:Nat} {x:FunD} (h:l[k]?=some x):wPs (l.take (k+1))=wPs (l.take k)+(2+wBs x.blocks):=by
 rw [wPs,List.take_add_one,h,List.map_append,List.sum_append]
 simp [wPs,wantF,wBs]
theorem wPs_le {l:List FunD} (h:∀ f∈l,wBs f.blocks≤20000):wPs l≤20002 * l.length:=by
 induction l with
 | nil=>simp [wPs]
 | cons b l ih=>
   have h1:=h b List.mem_cons_self
   have h2:=ih fun x hx=>h x (List.mem_cons_of_mem _ hx)
   simp only [wPs,List.map_cons,List.sum_cons,wantF,wBs,List.length_cons] at h1 h2 ⊢
   omega
section
variable {CT:Nat→Option CFun}
theorem sl_l0 (base:Nat) {A1:Heap} {p i:Nat} {fv sv:V} {fs:List FunD} (hp:getC A1 p 0=some [fv]) (hv:RdProg A1 fv fs) {f:FunD} (hf:fs[i]?=some f) (hn:f.blocks.length≤70) (hc:∀ b∈f.blocks,b.code.length≤200) {n0:Nat} (hn0:n0≤2 ^ 40):
 itW (evC (callW CT) itW base s_f4_l0) [] A1.length (frOf 125 [(1,.ref p 0 0),(3,sv),(5,Iz n0),(6,Iz i),(7,Iz 0)]) A1=some (.ext 2,frOf 125 [(1,.ref p 0 0),(3,sv),(5,Iz (n0+wBs f.blocks:Nat)),(6,Iz i),(7,Iz f.blocks.length),(44,bl false)],A1):=by
 obtain ⟨a,r,a1,hr,_,a3⟩:=hv.at2 hf
 obtain ⟨pv,bv,rfl,q1,q2,q3,hbv⟩:=hr
 obtain ⟨b,b1,b2⟩:=a3 2 _ rfl
 have b2':=b2 A1 (Ext.refl _)
 have hbl:=hbv.len
 have h:=it_fun f.blocks.length (fun k=>itW (evC (callW CT) itW base s_f4_l0) [] A1.length (frOf 125 [(1,.ref p 0 0),(3,sv),(5,Iz (n0+wBs (f.blocks.take k):Nat)),(6,Iz i),(7,Iz k)]) A1) (fun k hk=>by
  have hlt':((k:Int) < (f.blocks.length:Int)):=by omega
  have hwk:=w64 (n:=k) (by omega)
  have hkx:=some_getD hk blk0
  obtain ⟨x,hxe⟩:∃ x,f.blocks.getD k blk0=x:=⟨_,rfl⟩
  rw [hxe] at hkx
  have hxm:=hc x (List.mem_of_getElem? hkx)
  have hct:=wBs_take hkx
  have hle:=wBs_le (l:=f.blocks.take k) (fun b hb=>hc b (List.mem_of_mem_take hb))
  have htl:(f.blocks.take k).length≤70:=by rw [List.length_take];omega
  obtain ⟨m,hm⟩:∃ m,n0+wBs (f.blocks.take k)=m:=⟨_,rfl⟩
  have hm2:n0+wBs (f.blocks.take (k+1))=m+1+x.code.length:=by omega
  simp only [hm,hm2]
  have hmb:m≤2 ^ 41:=by omega
  obtain ⟨c,rc,c1,hrc,_,c3⟩:=hbv.at2 hkx
  obtain ⟨cv,rfl,hcv⟩:=hrc
  obtain ⟨d,d1,d2⟩:=c3 1 _ rfl
  have d2':=d2 A1 (Ext.refl _)
  have hcl:=hcv.len
  have w1:IntKind.i64.wrap ((m:Int)+1)=((m+1:Nat):Int):=by rw [IntKind.wrap_i64];omega
  have w2:IntKind.i64.wrap (((m+1:Nat):Int)+(x.code.length:Int))=((m+1+x.code.length:Nat):Int):=by rw [IntKind.wrap_i64];omega
  rw [itW_step]
  simp only [Iz,bl,a_f4,s_f4_l0_b,s_f4_l1_b,s_f4_l2_b,aa,reduceIte,reduceCtorEq,Nat.reduceEqDiff,Nat.reduceLT,Nat.reduceLeDiff,Nat.reduceBEq,Nat.reduceAdd,Nat.reduceMul,op_appR,hp,a1,b1,b2',hbl,hlt',c1,d1,d2',hcl,w1,w2,hwk,trim_same rfl]) 0 (Nat.zero_le _)
 simp only [List.take_zero,List.take_length] at h
 rw [show n0+wBs []=n0 from rfl,cast0] at h
 refine h.trans ?_
 rw [itW_step]
 simp only [Iz,bl,a_f4,s_f4_l0_b,s_f4_l1_b,s_f4_l2_b,aa,reduceIte,reduceCtorEq,Nat.reduceEqDiff,Nat.reduceLT,Nat.reduceLeDiff,Nat.reduceBEq,Nat.reduceAdd,Nat.reduceMul,op_appR,hp,a1,b1,b2',hbl,Int.lt_irrefl,trim_same rfl]
theorem sl_l1 (base:Nat) {A1:Heap} {p:Nat} {fv sv:V} {fs:List FunD} (hp:getC A1 p 0=some [fv]) (hv:RdProg A1 fv fs) (hn:fs.length≤70) (hb:∀ f∈fs,f.blocks.length≤70∧∀ b∈f.blocks,b.code.length≤200):
 itW (evC (callW CT) itW base s_f4_l1) [] A1.length (frOf 125 [(1,.ref p 0 0),(3,sv),(5,Iz 0),(6,Iz 0)]) A1=some (.ext 0,frOf 125 [(1,.ref p 0 0),(3,sv),(5,Iz (wPs fs:Nat)),(6,Iz fs.length),(31,bl false)],A1):=by
 have hfl:=RdL.len (RdL.ext (P:=RdFun) RdFun.ext hv (Ext.refl _))
 have hwB:∀ f∈fs,wBs f.blocks≤20000:=fun f hf=>by
  have:=wBs_le (hb f hf).2
  have:=(hb f hf).1
  omega
 have h:=it_fun fs.length (fun k=>itW (evC (callW CT) itW base s_f4_l1) [] A1.length (frOf 125 [(1,.ref p 0 0),(3,sv),(5,Iz (wPs (fs.take k):Nat)),(6,Iz k)]) A1) (fun k hk=>by
  have hlt':((k:Int) < (fs.length:Int)):=by omega
  have hwk:=w64 (n:=k) (by omega)
  have hkx:=some_getD hk fun0
  obtain ⟨x,hxe⟩:∃ x,fs.getD k fun0=x:=⟨_,rfl⟩
  rw [hxe] at hkx
  have hxm:=hb x (List.mem_of_getElem? hkx)
  have hct:=wPs_take hkx
  have hle:=wPs_le (l:=fs.take k) (fun b hb'=>hwB b (List.mem_of_mem_take hb'))
  have htl:(fs.take k).length≤70:=by rw [List.length_take];omega
  obtain ⟨m,hm⟩:∃ m,wPs (fs.take k)=m:=⟨_,rfl⟩
  have hm2:wPs (fs.take (k+1))=m+2+wBs x.blocks:=by omega
  simp only [hm,hm2]
  have hmb:m≤2 ^ 30:=by omega
  have w1:IntKind.i64.wrap ((m:Int)+2)=((m+2:Nat):Int):=by rw [IntKind.wrap_i64];omega
  have hl0:=sl_l0 (CT:=CT) base (sv:=sv) hp hv hkx hxm.1 hxm.2 (n0:=m+2) (by omega)
  simp only [Iz,bl] at hl0
  rw [itW_step]
  simp only [Iz,bl,a_f4,s_f4_l0_b,s_f4_l1_b,s_f4_l2_b,aa,reduceIte,reduceCtorEq,Nat.reduceEqDiff,Nat.reduceLT,Nat.reduceLeDiff,Nat.reduceBEq,Nat.reduceAdd,Nat.reduceMul,op_appR,hp,hfl,hlt',w1,hl0,hwk,trim_same rfl]) 0 (Nat.zero_le _)
 simp only [List.take_zero,List.take_length] at h
 rw [show wPs []=0 from rfl,cast0] at h
 refine h.trans ?_
 rw [itW_step]
 simp only [Iz,bl,a_f4,s_f4_l0_b,s_f4_l1_b,s_f4_l2_b,aa,reduceIte,reduceCtorEq,Nat.reduceEqDiff,Nat.reduceLT,Nat.reduceLeDiff,Nat.reduceBEq,Nat.reduceAdd,Nat.reduceMul,op_appR,hp,hfl,Int.lt_irrefl,trim_same rfl]
theorem sl_char (base:Nat) {A:Heap} {t:ByteArray} {w g f i:Nat} (hi2:i < 2 ^ 40) (hf:f≤i) {c:UInt8} (hc:t.data.toList[i]?=some c) (h10:c≠10) (hr:32≤c.toNat∧c.toNat≤126) (hd:c=32→f+1 < i→t.data.toList[i - 1]?≠some 32):
 itW (evC (callW CT) itW base s_f4_l2) [] A.length (frOf 125 [(3,Sb t),(5,Iz w),(8,Iz g),(9,Iz f),(10,Iz i)]) A=itW (evC (callW CT) itW base s_f4_l2) [] A.length (frOf 125 [(3,Sb t),(5,Iz w),(8,Iz g),(9,Iz f),(10,Iz (i+1:Nat))]) A:=by
 have hlt:i < t.size:=(List.getElem?_eq_some_iff.1 hc).1
 have hi':((i:Int) < (t.size:Int)):=by omega
 have hwk:=w64 (n:=i) (by omega)
 have e10:((c.toNat:Int) == 10)=false:=by
  rw [beq_eq_false_iff_ne]
  intro e
  exact h10 (UInt8.toNat_inj.1 (by show c.toNat=10;omega))
 have hw1:IntKind.i64.wrap ((f:Int)+1)=((f+1:Nat):Int):=by rw [IntKind.wrap_i64];omega
 by_cases h32:c=32
 ·subst h32
  have d10:(((32:UInt8).toNat:Int) == 10)=false:=rfl
  have d32:(((32:UInt8).toNat:Int) == 32)=true:=rfl
  have d32n:(((32:UInt8).toNat:Int) != 32)=false:=rfl
  by_cases hgt:f+1 < i
  ·have hg':decide ((i:Int) > ((f+1:Nat):Int))=true:=by rw [decide_eq_true_iff];omega
   have hw2:IntKind.i64.wrap ((i:Int) - 1)=((i - 1:Nat):Int):=by rw [IntKind.wrap_i64];omega
   obtain ⟨d,hd1⟩:∃ d,t.data.toList[i - 1]?=some d:=⟨_,List.getElem?_eq_getElem (show i - 1 < t.data.toList.length by show i - 1 < t.size;omega)⟩
   have hd2:((d.toNat:Int) == 32)=false:=by
    rw [beq_eq_false_iff_ne]
    intro e
    refine hd rfl hgt ?_
    rw [hd1]
    congr 1
    exact UInt8.toNat_inj.1 (by show d.toNat=32;omega)
   rw [itW_step]
   simp only [Iz,Sb,bl,a_f4,s_f4_l0_b,s_f4_l1_b,s_f4_l2_b,aa,reduceIte,reduceCtorEq,Nat.reduceEqDiff,Nat.reduceLT,Nat.reduceLeDiff,Nat.reduceBEq,Nat.reduceAdd,Nat.reduceMul,op_appR,hi',hc,d10,d32,d32n,hw1,hg',hw2,hd1,hd2,hwk,trim_same rfl]
  ·have hg':decide ((i:Int) > ((f+1:Nat):Int))=false:=by rw [decide_eq_false_iff_not];omega
   rw [itW_step]
   simp only [Iz,Sb,bl,a_f4,s_f4_l0_b,s_f4_l1_b,s_f4_l2_b,aa,reduceIte,reduceCtorEq,Nat.reduceEqDiff,Nat.reduceLT,Nat.reduceLeDiff,Nat.reduceBEq,Nat.reduceAdd,Nat.reduceMul,op_appR,hi',hc,d10,d32,d32n,hw1,hg',hwk,trim_same rfl]
 ·have hne:c.toNat≠32:=fun e=>h32 (UInt8.toNat_inj.1 e)
  have d32:((c.toNat:Int) == 32)=false:=by rw [beq_eq_false_iff_ne];omega
  have d32n:((c.toNat:Int) != 32)=true:=by rw [bne_iff_ne];omega
  have d33:decide ((c.toNat:Int) < 33)=false:=by rw [decide_eq_false_iff_not];omega
  have d126:decide ((c.toNat:Int) > 126)=false:=by rw [decide_eq_false_iff_not];omega
  rw [itW_step]
  simp only [Iz,Sb,bl,a_f4,s_f4_l0_b,s_f4_l1_b,s_f4_l2_b,aa,reduceIte,reduceCtorEq,Nat.reduceEqDiff,Nat.reduceLT,Nat.reduceLeDiff,Nat.reduceBEq,Nat.reduceAdd,Nat.reduceMul,op_appR,hi',hc,e10,d32,d32n,d33,d126,hwk,trim_same rfl]
theorem sl_nl (base:Nat) {A:Heap} {t:ByteArray} {w g f i:Nat} (hi2:i < 2 ^ 40) (hg2:g < 2 ^ 40) (hf:f < i) (hc:t.data.toList[i]?=some 10) (hd:t.data.toList[i - 1]?≠some 32):
 itW (evC (callW CT) itW base s_f4_l2) [] A.length (frOf 125 [(3,Sb t),(5,Iz w),(8,Iz g),(9,Iz f),(10,Iz i)]) A=itW (evC (callW CT) itW base s_f4_l2) [] A.length (frOf 125 [(3,Sb t),(5,Iz w),(8,Iz (g+1:Nat)),(9,Iz (i+1:Nat)),(10,Iz (i+1:Nat))]) A:=by
 have hlt:i < t.size:=(List.getElem?_eq_some_iff.1 hc).1
 have hi':((i:Int) < (t.size:Int)):=by omega
 have hwk:=w64 (n:=i) (by omega)
 have hwg:=w64 (n:=g) (by omega)
 have d10:(((10:UInt8).toNat:Int) == 10)=true:=rfl
 have hif:((i:Int) == (f:Int))=false:=by rw [beq_eq_false_iff_ne];omega
 have hw2:IntKind.i64.wrap ((i:Int) - 1)=((i - 1:Nat):Int):=by rw [IntKind.wrap_i64];omega
 obtain ⟨d,hd1⟩:∃ d,t.data.toList[i - 1]?=some d:=⟨_,List.getElem?_eq_getElem (show i - 1 < t.data.toList.length by show i - 1 < t.size;omega)⟩
 have hd2:((d.toNat:Int) == 32)=false:=by
  rw [beq_eq_false_iff_ne]
  intro e
  refine hd ?_
  rw [hd1]
  congr 1
  exact UInt8.toNat_inj.1 (by show d.toNat=32;omega)
 rw [itW_step]
 simp only [Iz,Sb,bl,a_f4,s_f4_l0_b,s_f4_l1_b,s_f4_l2_b,aa,reduceIte,reduceCtorEq,Nat.reduceEqDiff,Nat.reduceLT,Nat.reduceLeDiff,Nat.reduceBEq,Nat.reduceAdd,Nat.reduceMul,op_appR,hi',hc,d10,hif,hw2,hd1,hd2,hwk,hwg,trim_same rfl]
theorem sl_line (base:Nat) {A:Heap} {t:ByteArray} {w g:Nat} {pre l post:List UInt8} (ht:t.data.toList=pre ++ ((l ++ [10]) ++ post)) (hl:OkL l) (hz:t.size < 2 ^ 39) (hg:g < 2 ^ 40):
 itW (evC (callW CT) itW base s_f4_l2) [] A.length (frOf 125 [(3,Sb t),(5,Iz w),(8,Iz g),(9,Iz pre.length),(10,Iz pre.length)]) A=itW (evC (callW CT) itW base s_f4_l2) [] A.length (frOf 125 [(3,Sb t),(5,Iz w),(8,Iz (g+1:Nat)),(9,Iz (pre ++ (l ++ [10])).length),(10,Iz (pre ++ (l ++ [10])).length)]) A:=by
 have hsz:t.data.toList.length=t.size:=rfl
 have htl:t.size=pre.length+(l.length+1+post.length):=by
  rw [← hsz,ht]
  simp only [List.length_append,List.length_cons,List.length_nil]
 have hlp:0 < l.length:=List.length_pos_iff.2 hl.ne
 have at1:∀ j,j < l.length→t.data.toList[pre.length+j]?=l[j]?:=fun j hj=>by
  rw [ht,List.getElem?_append_right (by omega),List.append_assoc,List.getElem?_append_left (by omega)]
  congr 1
  omega
 have at2:t.data.toList[pre.length+l.length]?=some 10:=by
  rw [ht,List.getElem?_append_right (by omega),List.append_assoc,List.getElem?_append_right (by omega),show pre.length+l.length - pre.length - l.length=0 by omega]
  rfl
 have h1:=it_fun l.length (fun k=>itW (evC (callW CT) itW base s_f4_l2) [] A.length (frOf 125 [(3,Sb t),(5,Iz w),(8,Iz g),(9,Iz pre.length),(10,Iz (pre.length+k:Nat))]) A) (fun k hk=>by
  obtain ⟨c,hc⟩:∃ c,l[k]?=some c:=⟨_,List.getElem?_eq_getElem hk⟩
  have hr:=hl.rng c (List.mem_of_getElem? hc)
  refine sl_char base (by omega) (by omega) ((at1 k hk).trans hc) (fun e=>by subst e;exact absurd hr.1 (by decide)) hr (fun e hlt=>?_)
  subst e
  obtain ⟨m,rfl⟩:∃ m,k=m+1:=⟨k - 1,by omega⟩
  rw [show pre.length+(m+1) - 1=pre.length+m by omega,at1 m (by omega)]
  intro h2
  exact hl.dd m (by omega) h2 hc) 0 (Nat.zero_le _)
 rw [Nat.add_zero] at h1
 refine h1.trans ?_
 have h2:=sl_nl (CT:=CT) (A:=A) base (w:=w) (g:=g) (f:=pre.length) (i:=pre.length+l.length) (t:=t) (by omega) hg (by omega) at2 (by
  rw [show pre.length+l.length - 1=pre.length+(l.length - 1) by omega,at1 _ (by omega)]
  exact hl.la)
 have hlen:(pre ++ (l ++ [10])).length=pre.length+l.length+1:=by simp only [List.length_append,List.length_cons,List.length_nil];omega
 rw [hlen]
 exact h2
theorem sl_l2 (base:Nat) {A:Heap} {t:ByteArray} {w:Nat} {ls:List (List UInt8)} (ht:t.data.toList=outL ls) (hl:∀ l∈ls,OkL l) (hz:t.size < 2 ^ 39) (hn:ls.length < 2 ^ 40):
 itW (evC (callW CT) itW base s_f4_l2) [] A.length (frOf 125 [(3,Sb t),(5,Iz w),(8,Iz 0),(9,Iz 0),(10,Iz 0)]) A=some (.ext 4,frOf 125 [(3,Sb t),(5,Iz w),(8,Iz ls.length),(9,Iz t.size),(10,Iz t.size),(64,bl false)],A):=by
 have h:=it_fun ls.length (fun k=>itW (evC (callW CT) itW base s_f4_l2) [] A.length (frOf 125 [(3,Sb t),(5,Iz w),(8,Iz k),(9,Iz (outL (ls.take k)).length),(10,Iz (outL (ls.take k)).length)]) A) (fun k hk=>by
  obtain ⟨l,hlk⟩:∃ l,ls[k]?=some l:=⟨_,List.getElem?_eq_getElem hk⟩
  have hsp:ls=ls.take k ++ l :: ls.drop (k+1):=by
   have hd:ls.drop k=l :: ls.drop (k+1):=by
    rw [List.drop_eq_getElem_cons hk]
    congr 1
    exact (List.getElem?_eq_some_iff.1 hlk).2
   rw [← hd,List.take_append_drop]
  have ht2:t.data.toList=outL (ls.take k) ++ ((l ++ [10]) ++ outL (ls.drop (k+1))):=by
   rw [ht]
   conv=>lhs;rw [hsp,outL_app]
   rfl
  have:=sl_line (CT:=CT) (A:=A) base (w:=w) (g:=k) ht2 (hl l (List.mem_of_getElem? hlk)) hz (by omega)
  rw [show outL (ls.take (k+1))=outL (ls.take k) ++ (l ++ [10]) by
   rw [List.take_add_one,hlk,outL_app]
   simp [outL]]
  exact this) 0 (Nat.zero_le _)
 simp only [List.take_zero,List.take_length] at h
 rw [show (outL ([]:List (List UInt8))).length=0 from rfl,cast0,← ht,show t.data.toList.length=t.size from rfl] at h
 refine h.trans ?_
 rw [itW_step]
 simp only [Iz,Sb,bl,a_f4,s_f4_l0_b,s_f4_l1_b,s_f4_l2_b,aa,reduceIte,reduceCtorEq,Nat.reduceEqDiff,Nat.reduceLT,Nat.reduceLeDiff,Nat.reduceBEq,Nat.reduceAdd,Nat.reduceMul,op_appR,Int.lt_irrefl,trim_same rfl]
end
end Go.Proofs.YtngfpadeebpoeaaGreatDoor
set_option maxRecDepth 100000
namespace Go.Proofs.YtngfpadeebpoeaaGreatDoor
open Go.AM
def teX:List ByteArray:=[⟨#[120]⟩,⟨#[110,117,108,108]⟩]
def teL:List ByteArray:=[⟨#[97]⟩,⟨#[98]⟩]
def teP:List ByteArray:=[⟨#[112]⟩,⟨#[113]⟩]
def teI:InsD:=⟨6,⟨#[104]⟩,⟨#[]⟩,⟨#[]⟩,0,⟨#[]⟩,teX,teL⟩
def teF:List FunD:=[⟨⟨#[102]⟩,teP,[⟨⟨#[97]⟩,[teI]⟩]⟩]
theorem teF_small:Small teF:=by
 refine ⟨by decide,fun f hf=>?_,fun f hf=>?_,fun f hf b hb=>?_,fun f hf b hb x hx=>?_,fun f hf b hb x hx=>?_⟩ <;> (obtain rfl:=List.mem_singleton.1 hf)
 ·decide
 ·decide
 ·obtain rfl:=List.mem_singleton.1 hb;decide
 ·obtain rfl:=List.mem_singleton.1 hb;obtain rfl:=List.mem_singleton.1 hx;decide
 ·obtain rfl:=List.mem_singleton.1 hb;obtain rfl:=List.mem_singleton.1 hx;decide
theorem teF_2:firstN teF 2=none:=by decide
theorem teF_9:firstN teF 9=none:=by decide
theorem teF_sm:∀ f∈teF,SmF f:=by
 intro f hf
 obtain rfl:=List.mem_singleton.1 hf
 refine ⟨by decide,by decide,by decide,fun b hb=>?_,by decide⟩
 obtain rfl:=List.mem_singleton.1 hb
 refine ⟨by decide,fun x hx=>?_,by decide⟩
 obtain rfl:=List.mem_singleton.1 hx
 exact ⟨⟨by decide,by decide,by decide,by decide,by decide,by decide,by decide,by decide⟩,formOk_of (by decide)⟩
def teT:List UInt8:=[102,117,110,99,32,102,40,112,44,32,113,41,32,123,10,97,58,10,32,32,104,32,61,32,112,104,105,32,91,97,58,32,120,44,32,98,58,32,110,117,108,108,93,10,125,10]
theorem teF_text:progT teF=teT:=by decide
section
variable {CT:Nat→Option CFun}
theorem tells_fun (h:PriT CT) (hT:CT k_f8=some (.code s_f8)) (base:Nat) {A:Heap} (hb:base≤A.length):
 ∃ H',callW CT (.fn k_f8 [] []) [] base A=some (.s (.bool true),H')∧Ext A H':=by
 obtain ⟨A1,hA1⟩:∃ A1,A ++ [Ob.cells 0 (teP.map Sb)]=A1:=⟨_,rfl⟩
 have l1:A1.length=A.length+1:=by rw [← hA1,len_snoc]
 obtain ⟨A2,hA2⟩:∃ A2,A1 ++ [Ob.cells 0 (teX.map Sb)]=A2:=⟨_,rfl⟩
 have l2:A2.length=A.length+2:=by rw [← hA2,len_snoc,l1]
 obtain ⟨A3,hA3⟩:∃ A3,A2 ++ [Ob.cells 0 (teL.map Sb)]=A3:=⟨_,rfl⟩
 have l3:A3.length=A.length+3:=by rw [← hA3,len_snoc,l2]
 obtain ⟨A4,hA4⟩:∃ A4,A3 ++ [Ob.cells 0 (insC teI (.sl (A.length+1) 0 0 2 1) (.sl (A.length+2) 0 0 2 1))]=A4:=⟨_,rfl⟩
 have l4:A4.length=A.length+4:=by rw [← hA4,len_snoc,l3]
 obtain ⟨A5,hA5⟩:∃ A5,A4 ++ [Ob.cells 0 [Sb ⟨#[97]⟩,.sl (A.length+3) 0 0 1 8]]=A5:=⟨_,rfl⟩
 have l5:A5.length=A.length+5:=by rw [← hA5,len_snoc,l4]
 obtain ⟨A6,hA6⟩:∃ A6,A5 ++ [Ob.cells 0 [Sb ⟨#[102]⟩,.sl A.length 0 0 2 1,.sl (A.length+4) 0 0 1 2]]=A6:=⟨_,rfl⟩
 have e1:Ext A A1:=hA1 ▸ Ext.app _ _
 have e2:Ext A1 A2:=hA2 ▸ Ext.app _ _
 have e3:Ext A2 A3:=hA3 ▸ Ext.app _ _
 have e4:Ext A3 A4:=hA4 ▸ Ext.app _ _
 have e5:Ext A4 A5:=hA5 ▸ Ext.app _ _
 have e6:Ext A5 A6:=hA6 ▸ Ext.app _ _
 have g1:getC A6 A.length 0=some (teP.map Sb):=getC_ext (hA1 ▸ getC_new A 0 _) (e2.trans (e3.trans (e4.trans (e5.trans e6))))
 have g2:getC A6 (A.length+1) 0=some (teX.map Sb):=getC_ext (by rw [← l1,← hA2];exact getC_new A1 0 _) (e3.trans (e4.trans (e5.trans e6)))
 have g3:getC A6 (A.length+2) 0=some (teL.map Sb):=getC_ext (by rw [← l2,← hA3];exact getC_new A2 0 _) (e4.trans (e5.trans e6))
 have g4:getC A6 (A.length+3) 0=some (insC teI (.sl (A.length+1) 0 0 2 1) (.sl (A.length+2) 0 0 2 1)):=getC_ext (by rw [← l3,← hA4];exact getC_new A3 0 _) (e5.trans e6)
 have g5:getC A6 (A.length+4) 0=some [Sb ⟨#[97]⟩,.sl (A.length+3) 0 0 1 8]:=getC_ext (by rw [← l4,← hA5];exact getC_new A4 0 _) e6
 have g6:getC A6 (A.length+5) 0=some [Sb ⟨#[102]⟩,.sl A.length 0 0 2 1,.sl (A.length+4) 0 0 1 2]:=by rw [← l5,← hA6];exact getC_new A5 0 _
 have r1:Rd A6 (.sl A.length 0 0 2 1) (teP.map Sb):=Rd.sl g1 (off:=0) (n:=2) (by simp [teP])
 have r2:Rd A6 (.sl (A.length+1) 0 0 2 1) (teX.map Sb):=Rd.sl g2 (off:=0) (n:=2) (by simp [teX])
 have r3:Rd A6 (.sl (A.length+2) 0 0 2 1) (teL.map Sb):=Rd.sl g3 (off:=0) (n:=2) (by simp [teL])
 have hI:RdL 8 RdIns A6 (.sl (A.length+3) 0 0 1 8) [teI]:=
  ⟨[insC teI (.sl (A.length+1) 0 0 2 1) (.sl (A.length+2) 0 0 2 1)],RdW.sl (R:=[insC teI (.sl (A.length+1) 0 0 2 1) (.sl (A.length+2) 0 0 2 1)]) (by rw [g4];rfl) (fun r hr=>by rw [List.mem_singleton.1 hr];rfl),rfl,by decide,fun i x hx=>by
   cases i with
   | zero=>cases hx;exact ⟨_,rfl,_,_,rfl,r2,trivial,r3,trivial,by decide⟩
   | succ i=>simp at hx⟩
 have hB:RdL 2 RdBlk A6 (.sl (A.length+4) 0 0 1 2) [⟨⟨#[97]⟩,[teI]⟩]:=
  ⟨[[Sb ⟨#[97]⟩,.sl (A.length+3) 0 0 1 8]],RdW.sl (R:=[[Sb ⟨#[97]⟩,.sl (A.length+3) 0 0 1 8]]) (by rw [g5];rfl) (fun r hr=>by rw [List.mem_singleton.1 hr];rfl),rfl,by decide,fun i x hx=>by
   cases i with
   | zero=>cases hx;exact ⟨_,rfl,_,rfl,hI⟩
   | succ i=>simp at hx⟩
 have hP:RdProg A6 (.sl (A.length+5) 0 0 1 3) teF:=
  ⟨[[Sb ⟨#[102]⟩,.sl A.length 0 0 2 1,.sl (A.length+4) 0 0 1 2]],RdW.sl (R:=[[Sb ⟨#[102]⟩,.sl A.length 0 0 2 1,.sl (A.length+4) 0 0 1 2]]) (by rw [g6];rfl) (fun r hr=>by rw [List.mem_singleton.1 hr];rfl),rfl,by decide,fun i x hx=>by
   cases i with
   | zero=>cases hx;exact ⟨_,rfl,_,_,rfl,r1,trivial,by decide,hB⟩
   | succ i=>exact absurd hx (by simp [teF])⟩
 have eA:Ext A A6:=e1.trans (e2.trans (e3.trans (e4.trans (e5.trans e6))))
 obtain ⟨H',hc,hE⟩:=print_ok h base (A:=A6) (by have:=eA.le;omega) hP teF_small teF_2 teF_9 teF_sm (by rw [teF_text];decide)
 rw [teF_text,if_neg (by decide)] at hc
 refine ⟨H',callW_fn (c:=s_f8) hT (by simp [s_f8]) ?_,eA.trans hE⟩
 simp only [Sb,Iz] at hc
 simp only [insC,teI,Sb,Iz,nilS,teP,teX,teL,List.map_cons,List.map_nil] at hA1 hA2 hA3 hA4 hA5 hA6
 have hq:(teT.toArray.toList == teT)=true:=by decide
 simp only [teT] at hc hq
 simp only [Iz,Sb,bl,nilS,s_f8,a_f8,aa,reduceIte,reduceCtorEq,Nat.reduceEqDiff,Nat.reduceLT,Nat.reduceLeDiff,Nat.reduceBEq,Nat.reduceAdd,Nat.reduceMul,op_appR,hA1,l1,hA2,l2,hA3,l3,hA4,l4,hA5,l5,hA6,hc,hq]
end
end Go.Proofs.YtngfpadeebpoeaaGreatDoor
set_option maxRecDepth 100000
namespace Go.Proofs.YtngfpadeebpoeaaGreatDoor
open Go.AM
theorem flat_le {α:Type} {f:α→List UInt8} {M:Nat}:∀ {l:List α},(∀ x∈l,(f x).length≤M)→(l.flatMap f).length≤M * l.length:=by
 intro l
 induction l with
 | nil=>intro _;simp
 | cons a l ih=>
   intro h
   have h1:=h a List.mem_cons_self
   have h2:=ih fun x hx=>h x (List.mem_cons_of_mem _ hx)
   rw [List.flatMap_cons,List.length_append,List.length_cons,Nat.mul_succ]
   omega
theorem SmI.of {x:InsD} (h:InsL x):SmI x:=⟨h.1,h.2.1,h.2.2.1,h.2.2.2.1,h.2.2.2.2.1,h.2.2.2.2.2.1,h.2.2.2.2.2.2.1,h.2.2.2.2.2.2.2⟩
theorem SmF.of {fs:List FunD} (h:Light fs) (ht:∀ f∈fs,TF f):∀ f∈fs,SmF f:=by
 intro f hf
 obtain ⟨h1,h2,h3,h4,h5⟩:=h.f f hf
 refine ⟨h1,h2,h3,fun b hb=>⟨(h5 b hb).1,fun x hx=>⟨.of ((h5 b hb).2.2 x hx),(((ht f hf).b b hb).2 x hx).fo⟩,by have:=(h5 b hb).2.1;omega⟩,by omega⟩
theorem data_len (b:ByteArray):b.data.toList.length=b.size:=rfl
theorem lnI_le {x:InsD} (hx:SmI x) (hf:FormOk x):(lnI x).data.toList.length≤90030:=by
 have:=lineX_size hx hf
 unfold lnI
 rw [lineT_two,List.length_append,List.length_append,data_len,data_len]
 have e:(⟨#[32,32]⟩:ByteArray).size=2:=rfl
 simp only [List.length_cons,List.length_nil]
 omega
theorem progT_small {fs:List FunD} (h:Light fs) (ht:∀ f∈fs,TF f):(progT fs).length≤140737488355328:=by
 have hs:=SmF.of h ht
 have h1:(progT fs).length≤2000000000 * fs.length:=flat_le fun f hf=>by
  have sf:=hs f hf
  have hz:=(head_size sf).2
  have hb:(blksT f.blocks).length≤20000000 * f.blocks.length:=flat_le fun b hb=>by
   have sb:=sf.b b hb
   have hc:(codeT b.code).length≤90030 * b.code.length:=flat_le fun x hx=>lnI_le (sb.x x hx).1 (sb.x x hx).2
   have hn:=(((h.f f hf).2.2.2.2 b hb)).2.1
   have hl:=sb.l
   unfold blkT lnB
   rw [lineT_two,List.length_append,List.length_append,List.length_append,data_len,data_len]
   have e:(⟨#[58]⟩:ByteArray).size=1:=rfl
   simp only [List.length_cons,List.length_nil]
   omega
  have hn:=(h.f f hf).2.2.2.1
  unfold funT lnF lnE
  rw [lineT_one,lineT_one,List.length_append,List.length_append,List.length_append,List.length_append,data_len,data_len]
  have e:(⟨#[125]⟩:ByteArray).size=1:=rfl
  simp only [List.length_cons,List.length_nil]
  omega
 have:=h.n
 omega
section
variable {CT:Nat→Option CFun}
structure LawT (CT:Nat→Option CFun):Prop where
 P:PriT CT
 tells:CT k_f8=some (.code s_f8)
 long:CT k_f15=some (.code s_f15)
 heavy:CT k_f7=some (.code s_f7)
theorem lines_law (h:LawT CT) (hT:CT k_f4=some (.code s_f4)) (base:Nat) {A:Heap} (hb:base≤A.length) {fv:V} {fs:List FunD} (hr:RdProg A fv fs):
 ∃ H',callW CT (.fn k_f4 [] []) [.agg [fv]] base A=some (.s (.bool true),H'):=by
 have hfo:=hr.one
 obtain ⟨A1,hA1⟩:∃ A1,A ++ [Ob.cells 0 [fv]]=A1:=⟨_,rfl⟩
 have l1:A1.length=A.length+1:=by rw [← hA1,len_snoc]
 have e1:Ext A A1:=hA1 ▸ Ext.app _ _
 have x1:getC A1 A.length 0=some [fv]:=hA1 ▸ getC_new A 0 _
 have ld:∀ {B:Heap},Ext A1 B→xLoad B true 1 (.ref A.length 0 0)=some (.agg [fv]):=fun e=>by rw [xo_ref,getC_ext x1 e];rfl
 have ld1:=ld (Ext.refl A1)
 obtain ⟨b,H1,hh,hE1,hlt⟩:=heavy_fun h.long h.heavy base (A:=A1) (by omega) (hr.ext e1)
 cases b with
 | true=>
   obtain ⟨H2,ht,hE2⟩:=tells_fun h.P h.tells base (A:=H1) (by have:=hE1.le;omega)
   refine ⟨H2,callW_fnA (c:=s_f4) (k:=1) hT rfl (by decide) s_f4_first ?_⟩
   simp only [Iz,bl,s_f4,a_f4,s_f4_l0_b,s_f4_l1_b,s_f4_l2_b,aa,reduceIte,reduceCtorEq,Nat.reduceEqDiff,Nat.reduceLT,Nat.reduceLeDiff,Nat.reduceBEq,Nat.reduceAdd,Nat.reduceMul,op_appR,hfo,Bool.and_self,hA1,ld1,hh,ht]
 | false=>
   have hL:=hlt rfl
   have hsm:=hL.small
   have ld2:=ld hE1
   have hrP:=hr.ext (e1.trans hE1)
   have hb1:base≤H1.length:=by have:=hE1.le;omega
   have fail:∀ (n:Int) (H2:Heap),((n != 0)=true)→callW CT (.fn k_f10 [] []) [.agg [fv]] base H1=some (.tup [Sb ⟨#[]⟩,Iz n],H2)→Ext H1 H2→∃ H',callW CT (.fn k_f4 [] []) [.agg [fv]] base A=some (.s (.bool true),H'):=fun n H2 hn hp hE2=>by
    obtain ⟨H3,ht,hE3⟩:=tells_fun h.P h.tells base (A:=H2) (by have:=hE2.le;omega)
    have hz:((⟨#[]⟩:ByteArray).data.toList == (⟨#[]⟩:ByteArray).data.toList)=true:=by decide
    refine ⟨H3,callW_fnA (c:=s_f4) (k:=1) hT rfl (by decide) s_f4_first ?_⟩
    simp only [Sb,Iz] at hp
    simp only [Iz,Sb,bl,s_f4,a_f4,s_f4_l0_b,s_f4_l1_b,s_f4_l2_b,aa,reduceIte,reduceCtorEq,Nat.reduceEqDiff,Nat.reduceLT,Nat.reduceLeDiff,Nat.reduceBEq,Nat.reduceAdd,Nat.reduceMul,op_appR,hfo,Bool.and_self,hA1,ld1,hh,ld2,hp,hn,hz,ht]
   by_cases hbad:(firstN fs 2).isSome=true∨(firstN fs 9).isSome=true
   ·obtain ⟨H2,hp,hE2⟩:=print_bad h.P base hb1 hrP hsm hbad
    exact fail 5 H2 (by decide) hp hE2
   ·have h2:firstN fs 2=none:=by
     cases e:firstN fs 2 with
     | none=>rfl
     | some t=>exact absurd (.inl (by rw [e];rfl)) hbad
    have h9:firstN fs 9=none:=by
     cases e:firstN fs 9 with
     | none=>rfl
     | some t=>exact absurd (.inr (by rw [e];rfl)) hbad
    have htf:=TF.of h2 h9
    obtain ⟨H2,hp,hE2⟩:=print_ok h.P base hb1 hrP hsm h2 h9 (SmF.of hL htf) (progT_small hL htf)
    by_cases hbig:1048576 < (progT fs).length
    ·rw [if_pos hbig] at hp
     exact fail 2 H2 (by decide) hp hE2
    ·rw [if_neg hbig] at hp
     obtain ⟨t,ht⟩:∃ t:ByteArray,(⟨(progT fs).toArray⟩:ByteArray)=t:=⟨_,rfl⟩
     have htl:t.data.toList=outL (linP fs):=by
      rw [← ht,← progT_out]
     have htz:t.size=(progT fs).length:=by rw [← data_len,htl,progT_out]
     rw [ht] at hp
     have hln:=linP_len fs
     have hwn:wPs fs≤20002 * fs.length:=wPs_le fun f hf=>by
      have:=wBs_le (l:=f.blocks) fun b hb=>((hL.f f hf).2.2.2.2 b hb).2.1
      have:=(hL.f f hf).2.2.2.1
      omega
     have hn70:=hL.n
     have q1:=sl_l1 (CT:=CT) base (sv:=Sb t) (A1:=H2) (getC_ext x1 (hE1.trans hE2)) (hrP.ext hE2) hL.n (fun f hf=>⟨(hL.f f hf).2.2.2.1,fun b hb=>((hL.f f hf).2.2.2.2 b hb).2.1⟩)
     have hwp:wantP fs=wPs fs:=rfl
     have q2:=sl_l2 (CT:=CT) base (A:=H2) (w:=wPs fs) htl (linP_ok htf) (by omega) (by omega)
     rw [hln,hwp] at q2
     obtain ⟨H3,hte,hE3⟩:=tells_fun h.P h.tells base (A:=H2) (by have:=hE2.le;omega)
     refine ⟨H3,callW_fnA (c:=s_f4) (k:=1) hT rfl (by decide) s_f4_first ?_⟩
     have e0:((0:Int) != 0)=false:=rfl
     have eq1:(((wPs fs:Nat):Int) == ((wPs fs:Nat):Int))=true:=beq_self_eq_true _
     have eq2:(((t.size:Nat):Int) == ((t.size:Nat):Int))=true:=beq_self_eq_true _
     simp only [Sb,Iz,bl] at hp q1 q2
     simp only [Iz,Sb,bl,s_f4,a_f4,s_f4_l0_b,s_f4_l1_b,s_f4_l2_b,aa,reduceIte,reduceCtorEq,Nat.reduceEqDiff,Nat.reduceLT,Nat.reduceLeDiff,Nat.reduceBEq,Nat.reduceAdd,Nat.reduceMul,op_appR,hfo,Bool.and_self,hA1,ld1,hh,ld2,hp,e0,q1,q2,eq1,eq2,hte]
end
end Go.Proofs.YtngfpadeebpoeaaGreatDoor
