/- Texts of the proof: DomL2, DomL3. -/
import Derived.Test.YtdmnenlpdeolaaaP0
import Derived.Test.YtdmnenlpdeolaaaP1
import Derived.Test.YtdmnenlpdeolaaaP2
import Derived.Test.YtdmnenlpdeolaaaP3
import Derived.Test.YtdmnenlpdeolaaaP4
import Derived.Test.YtdmnenlpdeolaaaP5
set_option linter.all false
set_option maxRecDepth 100000
namespace Go.Proofs.Ytdmnenlpdeolaaa
open Go.AM
section
variable {CT:Nat→Option CFun}
structure CL9 (CT:Nat→Option CFun):Prop where
 t:CT9 CT
 dom:CT k_f13=some (.code s_f13)
 great:CT k_f8=some (.code s_f8)
 wakes:∀ base H,callW CT (.fn k_f9 [] []) [] base H=some (.s (.bool true),H)
end
end Go.Proofs.Ytdmnenlpdeolaaa
set_option maxRecDepth 100000
namespace Go.Proofs.Ytdmnenlpdeolaaa
open Go.AM
theorem getD_set_self {G:List (List Int)} {a:Nat} (r:List Int) (ha:a < G.length):(G.set a r).getD a []=r:=by
 rw [List.getD,List.getElem?_set_self ha];rfl
theorem getD_set_ne {G:List (List Int)} {a p:Nat} (r:List Int) (h:a≠p):(G.set a r).getD p []=G.getD p []:=by
 rw [List.getD,List.getD,List.getElem?_set_ne h]
theorem rav_ne {G:List (List Int)} {q:Int} {a b:Nat} (h:RavG G q a b):a≠b:=by
 cases h with
 | root _ _ _ h=>exact h
 | step p b _ _ _ h=>exact Ne.symm h
theorem rav_cut {G:List (List Int)} {q:Int} {a b:Nat} (ha:a < G.length) (hab:a≠b) (haq:(a:Int)≠q):RavG G q a b↔Rch (G.set a []) [q] b:=by
 constructor
 ·intro h
  clear hab
  induction h with
  | root k h1 h2 h3=>exact .base k (by rw [h1];simp) (by rw [List.length_set];exact h2)
  | step p b h1 h2 h3 h4 ih=>exact .step p b ih (by rw [getD_set_ne _ (rav_ne h1)];exact h2) (by rw [List.length_set];exact h3)
 ·intro h
  induction h with
  | base k h1 h2=>exact .root k (List.mem_singleton.1 h1).symm (by rwa [List.length_set] at h2) (by omega)
  | step p b h1 h2 h3 ih=>
    have hp:a≠p:=fun e=>by
     rw [← e,getD_set_self _ ha] at h2
     cases h2
    rw [getD_set_ne _ hp] at h2
    rw [List.length_set] at h3
    exact .step p b (ih hp) h2 h3 (Ne.symm hab)
theorem rav_root {G:List (List Int)} {q a:Nat} {b:Nat} (h:RavG G (q:Int) a b):a≠q:=by
 induction h with
 | root k h1 _ h3=>omega
 | step _ _ _ _ _ _ ih=>exact ih
theorem TreeOk.must {G:List (List Int)} {q:Int} {T:List Int} {lvl:Nat→Nat} (h:TreeOk G q T lvl) {a b:Nat} (ha:a < G.length) (hb:b < G.length):
 domB T a b=(!(T.getD b 0 == -2) && (((a:Int) == (b:Int)) || ((a:Int) == q) || !leadsB (G.set a []) q b)):=by
 have hd:=h.dom (a:Int) (b:Int)
 have hun:T.getD b 0=-2↔¬ Rch G [q] b:=by
  constructor
  ·intro e hR
   by_cases eq:(b:Int)=q
   ·have:=h.rt b eq.symm hb;omega
   ·obtain ⟨d,e2,_⟩:=h.id b hR eq
    omega
  ·exact h.un b hb
 by_cases hR:Rch G [q] b
 ·have e1:(T.getD b 0 == -2)=false:=by rw [beq_eq_false_iff_ne];exact fun e=>hun.1 e hR
  rw [e1,Bool.eq_iff_iff,hd]
  have hdm:=h.dm a b hR
  by_cases hab:a=b
  ·subst hab
   simp only [beq_self_eq_true,Bool.true_or,Bool.not_false,Bool.and_self,iff_true]
   exact ⟨a,a,rfl,rfl,ha,hR,.refl a⟩
  ·have e2:((a:Int) == (b:Int))=false:=by rw [beq_eq_false_iff_ne];omega
   by_cases haq:(a:Int)=q
   ·have e3:((a:Int) == q)=true:=by rw [haq];simp
    rw [e2,e3]
    simp only [Bool.or_true,Bool.true_or,Bool.not_false,Bool.and_self,iff_true]
    refine ⟨a,b,rfl,rfl,ha,hR,hdm.2 fun k=>?_⟩
    rw [← haq] at k
    exact rav_root k rfl
   ·have e3:((a:Int) == q)=false:=by rw [beq_eq_false_iff_ne];exact haq
    have hc:=rav_cut (q:=q) ha hab haq
    rw [e2,e3]
    simp only [Bool.or_false,Bool.false_or,Bool.not_false,Bool.true_and,Bool.not_eq_true']
    rw [Bool.eq_false_iff,Ne,leadsB_nat,← hc,← hdm]
    exact ⟨fun ⟨x,y,p1,p2,_,_,k⟩=>by
     have p1:a=x:=by omega
     have p2:b=y:=by omega
     subst p1;subst p2;exact k,fun k=>⟨a,b,rfl,rfl,ha,hR,k⟩⟩
 ·have e1:(T.getD b 0 == -2)=true:=by rw [beq_iff_eq];exact hun.2 hR
  rw [e1,Bool.eq_iff_iff,hd]
  simp only [Bool.not_true,Bool.false_and,Bool.false_eq_true,iff_false]
  rintro ⟨x,y,_,p2,_,p3,_⟩
  have p2:b=y:=by omega
  subst p2
  exact hR p3
theorem TreeOk.up {G:List (List Int)} {q:Int} {T:List Int} {lvl:Nat→Nat} (h:TreeOk G q T lvl) {a b:Nat} (hb:b < G.length) (hab:(a:Int)≠(b:Int)) (h1:domB T a b=true) (h2:0≤T.getD b 0):domB T a (T.getD b 0)=true:=by
 rw [h.dom] at h1 ⊢
 obtain ⟨x,y,p1,p2,p3,p4,p5⟩:=h1
 have p1:a=x:=by omega
 have p2:b=y:=by omega
 subst p1;subst p2
 obtain ⟨d,hd⟩:=Int.eq_ofNat_of_zero_le h2
 cases p5 with
 | refl=>exact absurd rfl hab
 | up k1 k2=>
   rename_i e
   have k3:=getD_some k1 0
   rw [k3]
   exact ⟨a,e,rfl,rfl,p3,(h.nat k1).2.2.1,k2⟩
theorem cut_rows {H:Heap} {v:V} {G:List (List Int)} {base a:Nat} (hv:RdRows H v (rowsV G)) (ha:a < G.length) (hn:G.length < 2 ^ 18):
 ∃ vs:List V,vs.length=G.length∧appendV H base 1 24 (.s (.slice none 0 0)) v=some (.sl H.length 0 0 G.length 1,H ++ [.cells 0 vs])∧RdRows (H ++ [.cells 0 (vs.set a (.s (.slice none 0 0)))]) (.sl H.length 0 0 G.length 1) (rowsV (G.set a [])):=by
 obtain ⟨vs,h1,h2,h3,h4⟩:=hv
 rw [rowsV_len] at h3
 have ho:vs.all V.one=true:=by
  rw [List.all_eq_true]
  intro x hx
  obtain ⟨i,hi⟩:=List.mem_iff_getElem?.1 hx
  have hi2:i < G.length:=by rw [← h3];exact (List.getElem?_eq_some_iff.1 hi).1
  obtain ⟨y,e,k,_⟩:=h4 i _ (rowsV_get (some_getD hi2 []))
  rw [hi] at e
  rw [Option.some.inj e]
  exact k.one
 have hap:=appendV_nil (base:=base) (bytes:=24) h1 ho (by omega)
 rw [if_neg (by omega),h3] at hap
 have hRd:Rd (H ++ [.cells 0 (vs.set a (.s (.slice none 0 0)))]) (.sl H.length 0 0 G.length 1) (vs.set a (.s (.slice none 0 0))):=by
  have:=getC_sl (getC_new H 0 (vs.set a (.s (.slice none 0 0))))
  rwa [List.length_set,h3] at this
 refine ⟨vs,h3,hap,vs.set a (.s (.slice none 0 0)),hRd,trivial,by rw [List.length_set,rowsV_len,List.length_set];exact h3,fun i r hr=>?_⟩
 by_cases hi:a=i
 ·subst hi
  rw [rowsV_get (show (G.set a [])[a]?=some [] by rw [List.getElem?_set_self ha])] at hr
  obtain rfl:=Option.some.inj hr
  exact ⟨nilS,by rw [List.getElem?_set_self (by omega)];rfl,Rd.nil _,trivial⟩
 ·have hr':(rowsV G)[i]?=some r:=by
   rw [rowsV,List.getElem?_map] at hr ⊢
   rwa [List.getElem?_set_ne hi] at hr
  obtain ⟨x,e,k1,k2⟩:=h4 i r hr'
  exact ⟨x,by rw [List.getElem?_set_ne hi];exact e,k1.ext (Ext.app _ _),k2⟩
section
variable {CT:Nat→Option CFun}
theorem ways_r14 (base:Nat) (H:Heap) (v tv:V) (q a b:Int):origRow (callW CT) itW base s_f7_r14t14 [8,60,61,62,63,64,65,66,67,68,69,70,71,72,73,74,75,76,77,78,79,80,81] (frOf 112 [(0,v),(1,V.s (Value.int IntKind.i64 q)),(5,tv),(6,V.s (Value.int IntKind.i64 b)),(7,V.s (Value.int IntKind.i64 a)),(65,V.s (Value.bool false)),(74,und),(78,und)]) H=some (.nrm,frOf 112 [(0,v),(1,V.s (Value.int IntKind.i64 q)),(5,tv),(6,V.s (Value.int IntKind.i64 b)),(7,V.s (Value.int IntKind.i64 a)),(9,V.s (Value.bool false))],H):=by
 simp only [origRow,s_f7_r14t14,aa,bl,i64,reduceIte,reduceCtorEq,Nat.reduceEqDiff,Nat.reduceLT,Nat.reduceLeDiff,Nat.reduceBEq,Nat.reduceAdd,fillA,splice,Nat.reduceMul,amY,op_eqP,evC_ops,evOps_nil,evOps_cons,evOps_guard,opK_bool,wantV_bool,wantV_und,put_some,evOp_pick,pickR,op_move,op_un,ev_t,ev_c,resK_some]
theorem taleR_false (fr:List V) (H:Heap) (os:List (Nat × E)) (kill:List Nat):taleR fr H os kill false=none:=rfl
theorem segL_none (H:Heap) (o:Option St):segL H none o=o:=rfl
theorem reqB_und (b r:Bool):reqB (some und) b r=false:=rfl
theorem ways_l0 (h:CL9 CT) (hLd:CT k_f22=some (.code s_f22)) (hR:CT k_f21=some (.code s_f21)) (hT:CT k_f38=some (.code s_f38)) (base:Nat) {A:Heap} {v tv:V} {G:List (List Int)} {q:Int} {T:List Int} {lvl:Nat→Nat} (ok:TreeOk G q T lvl) (hb:base≤A.length) (hv:RdRows A v (rowsV G)) (ht:Rd A tv (T.map iV)) (htw:Wide1 tv) (hn:G.length < 2 ^ 18) (hr:∀ r∈G,r.length < 2 ^ 62) {b:Nat} (hbn:b < G.length):
 ∃ C,itW (evC (callW CT) itW base s_f7_l0) [] A.length (frOf 112 [(0,v),(1,.s (.int .i64 q)),(5,tv),(6,.s (.int .i64 b)),(7,.s (.int .i64 0))]) A=some (.ext 2,frOf 112 [(0,v),(1,.s (.int .i64 q)),(5,tv),(6,.s (.int .i64 b)),(7,.s (.int .i64 G.length)),(52,bl false)],C)∧Ext A C:=by
 have hvl:=rows_lenV hv
 have hlen:=ok.len
 obtain ⟨C,e1,a1⟩:=it_rel G.length (fun _ (C:Heap)=>Ext A C) (fun k C=>itW (evC (callW CT) itW base s_f7_l0) [] A.length (frOf 112 [(0,v),(1,.s (.int .i64 q)),(5,tv),(6,.s (.int .i64 b)),(7,.s (.int .i64 k))]) C) (by
  intro a C ha hA
  have hlt':((a:Int) < (G.length:Int)):=by omega
  have hwk:=w64 (n:=a) (by omega)
  have hle:=hA.le
  obtain ⟨vs,v1,v2,v3⟩:=cut_rows (base:=base) (hv.ext hA) ha hn
  obtain ⟨C2,p1,p2⟩:=leads_fun hLd hR hT base (C ++ [.cells 0 (vs.set a (.s (.slice none 0 0)))]) (.sl C.length 0 0 G.length 1) (G.set a []) q (b:Int) (by simp;omega) v3 (by rw [List.length_set];omega) (fun r hr'=>by
   rcases List.mem_or_eq_of_mem_set hr' with h | h
   ·exact hr r h
   ·rw [h];simp)
  have st:=storeV_at (v:=.s (.slice none 0 0)) (base:=base) (getC_new C 0 vs) (by omega) rfl (off:=a) (by omega)
  rw [set_snoc] at st
  have eA1:Ext A (C ++ [.cells 0 (vs.set a (.s (.slice none 0 0)))]):=hA.trans (Ext.app _ _)
  have eA2:=eA1.trans p2
  have hixb:(0≤(a:Int)∧(a:Int) < (G.length:Int)∧1=1):=by omega
  have hm:=ok.must ha hbn
  have hup:=fun (e:(a:Int)≠(b:Int))=>ok.up (a:=a) hbn e
  have hget:∀ H',Ext A H'→∃ ad,xIndexAddr 1 tv (.s (.int .i64 b))=some ad∧xLoad H' false 1 ad=some (.s (.int .i64 (T.getD b 0))):=fun H' e=>iV_get (ht.ext e) htw (by omega)
  have hdom:=fun H' (e:Ext A H') x y=>dom_fun h.dom base H' tv T x y (ht.ext e) htw (by omega)
  obtain ⟨ad,x1,x2⟩:=hget _ eA1
  obtain ⟨ad',y1,y2⟩:=hget _ eA2
  rw [x1] at y1
  obtain rfl:=Option.some.inj y1
  obtain ⟨d,hd⟩:∃ d,T.getD b 0=d:=⟨_,rfl⟩
  rw [hd] at hm hup x2 y2
  cases e1:(d == (-2:Int)) with
  | true=>
    have d1:=hdom _ eA1 (a:Int) (b:Int)
    rw [hm,e1] at d1
    have e1':(d != (-2:Int))=false:=by rw [bne,e1];rfl
    refine ⟨_,?_,eA1.trim (Nat.le_refl _) (frOf 112 [(0,v),(1,.s (.int .i64 q)),(5,tv),(6,.s (.int .i64 b)),(7,.s (.int .i64 (a+1:Nat)))])⟩
    rw [itW_step]
    simp only [a_f7,s_f7_l0_b,s_f7_l1_b,aa,bl,i64,reduceIte,reduceCtorEq,Nat.reduceEqDiff,Nat.reduceLT,Nat.reduceLeDiff,Nat.reduceBEq,Nat.reduceAdd,fillA,splice,Nat.reduceMul,amY,op_eqP,hvl,hlt',v2,hixb,st,x1,x2,e1',d1,hwk,Bool.not_true,Bool.false_and,ways_r14,reqB_und,taleR_false,segL_none]
  | false=>
    have e1':(d != (-2:Int))=true:=by rw [bne,e1];rfl
    cases e2:((a:Int) == (b:Int)) with
    | true=>
      have e2':((a:Int) != (b:Int))=false:=by rw [bne,e2];rfl
      have d1:=hdom _ eA1 (a:Int) (b:Int)
      rw [hm,e1,e2] at d1
      refine ⟨_,?_,eA1.trim (Nat.le_refl _) (frOf 112 [(0,v),(1,.s (.int .i64 q)),(5,tv),(6,.s (.int .i64 b)),(7,.s (.int .i64 (a+1:Nat)))])⟩
      rw [itW_step]
      simp only [a_f7,s_f7_l0_b,s_f7_l1_b,aa,bl,i64,reduceIte,reduceCtorEq,Nat.reduceEqDiff,Nat.reduceLT,Nat.reduceLeDiff,Nat.reduceBEq,Nat.reduceAdd,fillA,splice,Nat.reduceMul,amY,op_eqP,hvl,hlt',v2,hixb,st,x1,x2,e1',e2,e2',d1,hwk,Bool.not_false,Bool.true_and,Bool.true_or]
    | false=>
      have e2':((a:Int) != (b:Int))=true:=by rw [bne,e2];rfl
      have hne:(a:Int)≠(b:Int):=by rw [beq_eq_false_iff_ne] at e2;exact e2
      cases e3:((a:Int) == q) with
      | true=>
        have d1:=hdom _ eA1 (a:Int) (b:Int)
        have hmt:domB T a b=true:=by rw [hm,e1,e2,e3];rfl
        rw [hmt] at d1
        refine ⟨_,?_,eA1.trim (Nat.le_refl _) (frOf 112 [(0,v),(1,.s (.int .i64 q)),(5,tv),(6,.s (.int .i64 b)),(7,.s (.int .i64 (a+1:Nat)))])⟩
        rw [itW_step]
        by_cases e4:d ≥ 0
        ·have d2:=hdom _ eA1 (a:Int) d
         rw [hup hne hmt e4] at d2
         simp only [a_f7,s_f7_l0_b,s_f7_l1_b,aa,bl,i64,reduceIte,reduceCtorEq,Nat.reduceEqDiff,Nat.reduceLT,Nat.reduceLeDiff,Nat.reduceBEq,Nat.reduceAdd,fillA,splice,Nat.reduceMul,amY,op_eqP,hvl,hlt',v2,hixb,st,x1,x2,e1',e2,e2',e3,e4,d1,d2,hwk]
        ·simp only [a_f7,s_f7_l0_b,s_f7_l1_b,aa,bl,i64,reduceIte,reduceCtorEq,Nat.reduceEqDiff,Nat.reduceLT,Nat.reduceLeDiff,Nat.reduceBEq,Nat.reduceAdd,fillA,splice,Nat.reduceMul,amY,op_eqP,hvl,hlt',v2,hixb,st,x1,x2,e1',e2,e2',e3,e4,d1,hwk]
      | false=>
        have d1:=hdom _ eA2 (a:Int) (b:Int)
        rw [e1,e2,e3] at hm
        cases e5:leadsB (G.set a []) q (b:Int) with
        | true=>
          have hmt:domB T a b=false:=by rw [hm,e5];rfl
          rw [hmt] at d1
          rw [e5] at p1
          refine ⟨_,?_,eA2.trim (Nat.le_refl _) (frOf 112 [(0,v),(1,.s (.int .i64 q)),(5,tv),(6,.s (.int .i64 b)),(7,.s (.int .i64 (a+1:Nat)))])⟩
          rw [itW_step]
          simp only [a_f7,s_f7_l0_b,s_f7_l1_b,aa,bl,i64,reduceIte,reduceCtorEq,Nat.reduceEqDiff,Nat.reduceLT,Nat.reduceLeDiff,Nat.reduceBEq,Nat.reduceAdd,fillA,splice,Nat.reduceMul,amY,op_eqP,hvl,hlt',v2,hixb,st,x1,x2,y2,e1',e2,e2',e3,p1,d1,hwk]
        | false=>
          have hmt:domB T a b=true:=by rw [hm,e5];rfl
          rw [hmt] at d1
          rw [e5] at p1
          refine ⟨_,?_,eA2.trim (Nat.le_refl _) (frOf 112 [(0,v),(1,.s (.int .i64 q)),(5,tv),(6,.s (.int .i64 b)),(7,.s (.int .i64 (a+1:Nat)))])⟩
          rw [itW_step]
          by_cases e4:d ≥ 0
          ·have d2:=hdom _ eA2 (a:Int) d
           rw [hup hne hmt e4] at d2
           simp only [a_f7,s_f7_l0_b,s_f7_l1_b,aa,bl,i64,reduceIte,reduceCtorEq,Nat.reduceEqDiff,Nat.reduceLT,Nat.reduceLeDiff,Nat.reduceBEq,Nat.reduceAdd,fillA,splice,Nat.reduceMul,amY,op_eqP,hvl,hlt',v2,hixb,st,x1,x2,y2,e1',e2,e2',e3,e4,p1,d1,d2,hwk]
          ·simp only [a_f7,s_f7_l0_b,s_f7_l1_b,aa,bl,i64,reduceIte,reduceCtorEq,Nat.reduceEqDiff,Nat.reduceLT,Nat.reduceLeDiff,Nat.reduceBEq,Nat.reduceAdd,fillA,splice,Nat.reduceMul,amY,op_eqP,hvl,hlt',v2,hixb,st,x1,x2,y2,e1',e2,e2',e3,e4,p1,d1,hwk]) 0 A (Nat.zero_le _) (Ext.refl A)
 rw [cast0] at e1
 refine ⟨_,e1.trans ?_,a1.trim (Nat.le_refl _) (frOf 112 [(0,v),(1,.s (.int .i64 q)),(5,tv),(6,.s (.int .i64 b)),(7,.s (.int .i64 G.length)),(52,bl false)])⟩
 rw [itW_step]
 simp only [bl,a_f7,s_f7_l0_b,s_f7_l1_b,aa,bl,i64,reduceIte,reduceCtorEq,Nat.reduceEqDiff,Nat.reduceLT,Nat.reduceLeDiff,Nat.reduceBEq,Nat.reduceAdd,fillA,splice,Nat.reduceMul,amY,op_eqP,hvl,Int.lt_irrefl]
theorem ways_l1 (h:CL9 CT) (hLd:CT k_f22=some (.code s_f22)) (hR:CT k_f21=some (.code s_f21)) (hT:CT k_f38=some (.code s_f38)) (base:Nat) {A:Heap} {v tv:V} {G:List (List Int)} {q:Int} {T:List Int} {lvl:Nat→Nat} (ok:TreeOk G q T lvl) (hb:base≤A.length) (hv:RdRows A v (rowsV G)) (ht:Rd A tv (T.map iV)) (htw:Wide1 tv) (hn:G.length < 2 ^ 18) (hr:∀ r∈G,r.length < 2 ^ 62):
 ∃ C,itW (evC (callW CT) itW base s_f7_l1) [] A.length (frOf 112 [(0,v),(1,.s (.int .i64 q)),(5,tv),(6,.s (.int .i64 0))]) A=some (.ext 0,frOf 112 [(0,v),(1,.s (.int .i64 q)),(5,tv),(6,.s (.int .i64 G.length)),(24,bl false)],C)∧Ext A C:=by
 have hvl:=rows_lenV hv
 have hlen:=ok.len
 obtain ⟨C,e1,a1⟩:=it_rel G.length (fun _ (C:Heap)=>Ext A C) (fun k C=>itW (evC (callW CT) itW base s_f7_l1) [] A.length (frOf 112 [(0,v),(1,.s (.int .i64 q)),(5,tv),(6,.s (.int .i64 k))]) C) (by
  intro b C hbn hA
  have hlt':((b:Int) < (G.length:Int)):=by omega
  have hwk:=w64 (n:=b) (by omega)
  have hle:=hA.le
  obtain ⟨C2,p1,p2⟩:=leads_fun hLd hR hT C.length C v G q (b:Int) (Nat.le_refl _) (hv.ext hA) (by omega) hr
  have eA2:=hA.trans p2
  obtain ⟨C3,l0,p3⟩:=ways_l0 h hLd hR hT base (A:=C2) ok (by have:=eA2.le;omega) (hv.ext eA2) (ht.ext eA2) htw hn hr hbn
  have eA3:=eA2.trans p3
  obtain ⟨ad,x1,x2⟩:=iV_get (ht.ext hA) htw (k:=b) (by omega)
  obtain ⟨ad',y1,y2⟩:=iV_get (ht.ext eA2) htw (k:=b) (by omega)
  rw [x1] at y1
  obtain rfl:=Option.some.inj y1
  simp only [bl] at l0
  refine ⟨_,?_,eA3.trim (Nat.le_refl _) (frOf 112 [(0,v),(1,.s (.int .i64 q)),(5,tv),(6,.s (.int .i64 (b+1:Nat)))])⟩
  by_cases hR':Rch G [q] b
  ·rw [(leadsB_nat G q b).2 hR'] at p1
   by_cases hbq:(b:Int)=q
   ·have hd:T.getD b 0=-1:=ok.rt b hbq.symm hbn
    have e3:((b:Int) == q)=true:=by rw [hbq];simp
    have z1:((-1:Int) == -2)=false:=rfl
    have z2:((-1:Int) == -1)=true:=rfl
    rw [hd] at x2 y2
    rw [itW_step]
    simp only [a_f7,s_f7_l0_b,s_f7_l1_b,aa,bl,i64,reduceIte,reduceCtorEq,Nat.reduceEqDiff,Nat.reduceLT,Nat.reduceLeDiff,Nat.reduceBEq,Nat.reduceAdd,fillA,splice,Nat.reduceMul,amY,op_eqP,hvl,hlt',p1,x1,x2,y2,z1,z2,e3,l0,hwk]
   ·obtain ⟨d,hd,_⟩:=ok.id b hR' hbq
    have e3:((b:Int) == q)=false:=by rw [beq_eq_false_iff_ne];exact hbq
    have z1:((d:Int) == -2)=false:=by rw [beq_eq_false_iff_ne];omega
    have z2:((d:Int) == -1)=false:=by rw [beq_eq_false_iff_ne];omega
    rw [hd] at x2 y2
    rw [itW_step]
    simp only [a_f7,s_f7_l0_b,s_f7_l1_b,aa,bl,i64,reduceIte,reduceCtorEq,Nat.reduceEqDiff,Nat.reduceLT,Nat.reduceLeDiff,Nat.reduceBEq,Nat.reduceAdd,fillA,splice,Nat.reduceMul,amY,op_eqP,hvl,hlt',p1,x1,x2,y2,z1,z2,e3,l0,hwk]
  ·have hf:leadsB G q b=false:=by rw [Bool.eq_false_iff];exact fun k=>hR' ((leadsB_nat G q b).1 k)
   rw [hf] at p1
   have hd:=ok.un b hbn hR'
   have hbq:(b:Int)≠q:=fun e=>by have:=ok.rt b e.symm hbn;omega
   have e3:((b:Int) == q)=false:=by rw [beq_eq_false_iff_ne];exact hbq
   have z1:((-2:Int) == -2)=true:=rfl
   have z2:((-2:Int) == -1)=false:=rfl
   rw [hd] at x2 y2
   rw [itW_step]
   simp only [a_f7,s_f7_l0_b,s_f7_l1_b,aa,bl,i64,reduceIte,reduceCtorEq,Nat.reduceEqDiff,Nat.reduceLT,Nat.reduceLeDiff,Nat.reduceBEq,Nat.reduceAdd,fillA,splice,Nat.reduceMul,amY,op_eqP,hvl,hlt',p1,x1,x2,y2,z1,z2,e3,l0,hwk]) 0 A (Nat.zero_le _) (Ext.refl A)
 rw [cast0] at e1
 refine ⟨_,e1.trans ?_,a1.trim (Nat.le_refl _) (frOf 112 [(0,v),(1,.s (.int .i64 q)),(5,tv),(6,.s (.int .i64 G.length)),(24,bl false)])⟩
 rw [itW_step]
 simp only [bl,a_f7,s_f7_l0_b,s_f7_l1_b,aa,bl,i64,reduceIte,reduceCtorEq,Nat.reduceEqDiff,Nat.reduceLT,Nat.reduceLeDiff,Nat.reduceBEq,Nat.reduceAdd,fillA,splice,Nat.reduceMul,amY,op_eqP,hvl,Int.lt_irrefl]
theorem ways_law (h:CL9 CT) (hLd:CT k_f22=some (.code s_f22)) (hR:CT k_f21=some (.code s_f21)) (hT:CT k_f38=some (.code s_f38)) (hL:CT k_f7=some (.code s_f7)) (base:Nat) (H:Heap) (hb:base≤H.length) (v:V) (G:List (List Int)) (q:Int) (hv:RdRows H v (rowsV G)):
 ∃ H',callW CT (.fn k_f7 [] []) [v,.s (.int .i64 q)] base H=some (.s (.bool true),H'):=by
 have hg:=great9_fun h.great base H v G hv
 cases hgr:great9 G with
 | true=>
   rw [hgr] at hg
   have hw:=h.wakes base H
   refine ⟨H,callW_fn (c:=s_f7) hL (by simp [s_f7]) ?_⟩
   simp only [s_f7,a_f7,s_f7_l0_b,s_f7_l1_b,aa,bl,i64,reduceIte,reduceCtorEq,Nat.reduceEqDiff,Nat.reduceLT,Nat.reduceLeDiff,Nat.reduceBEq,Nat.reduceAdd,fillA,splice,Nat.reduceMul,amY,op_eqP,hg,hw]
 | false=>
   rw [hgr] at hg
   obtain ⟨hn,hr⟩:=great9_small hgr
   obtain ⟨tv,H1,T,lvl,a1,a2,a3,a4⟩:=tree_f h.t base H v G q hv hb (by omega) (fun r h=>by have:=hr r h;omega)
   obtain ⟨H2,p,_⟩:=ways_l1 h hLd hR hT base a4 (by have:=a2.le;omega) (hv.ext a2) a3.rd a3.wide (by omega) (fun r h=>by have:=hr r h;omega)
   have hw:=h.wakes base H2
   have hvl:=rows_lenV hv
   have htl:=iV_len a3.rd
   rw [a4.len] at htl
   have hne:((G.length:Int) != (G.length:Int))=false:=by simp
   simp only [bl] at p
   refine ⟨H2,callW_fn (c:=s_f7) hL (by simp [s_f7]) ?_⟩
   simp only [s_f7,a_f7,s_f7_l0_b,s_f7_l1_b,aa,bl,i64,reduceIte,reduceCtorEq,Nat.reduceEqDiff,Nat.reduceLT,Nat.reduceLeDiff,Nat.reduceBEq,Nat.reduceAdd,fillA,splice,Nat.reduceMul,amY,op_eqP,hg,a1,hvl,htl,hne,p,hw]
end
end Go.Proofs.Ytdmnenlpdeolaaa
