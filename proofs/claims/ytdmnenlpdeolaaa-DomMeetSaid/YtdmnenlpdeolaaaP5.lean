/- Texts of the proof: DomT3, DomT4, AmU2, DomT5, DomS5, DomL1. -/
import Derived.Test.YtdmnenlpdeolaaaP0
import Derived.Test.YtdmnenlpdeolaaaP1
import Derived.Test.YtdmnenlpdeolaaaP2
import Derived.Test.YtdmnenlpdeolaaaP3
import Derived.Test.YtdmnenlpdeolaaaP4
set_option linter.all false
set_option maxRecDepth 100000
namespace Go.Proofs.Ytdmnenlpdeolaaa
open Go.AM
open Chk (Anc OutOk Inv Nca)
def valM (P:List Int) (out:Chk.Out) (x:Nat):Nat:=match out x with
 | some d=>P.idxOf (d:Int)
 | none=>P.length
def sumM (P:List Int) (out:Chk.Out):Nat:=Tar.cntN P.length fun t=>if t < P.length then valM P out (P.getD t 0).toNat else 0
theorem sumM_lt {G:List (List Int)} {q:Nat} {P:List Int} (tg:TG G q P) {out:Chk.Out} {t b d:Nat} (ht:P[t]?=some (b:Int)) (hlt:P.idxOf (d:Int) < valM P out b):sumM P (Chk.upd out b d) < sumM P out:=by
 have htl:=(List.getElem?_eq_some_iff.1 ht).1
 have hg:P.getD t 0=(b:Int):=getD_some ht 0
 have e1:(if t < P.length then valM P (Chk.upd out b d) (P.getD t 0).toNat else 0)=P.idxOf (d:Int):=by
  rw [if_pos htl,hg,Int.toNat_natCast]
  unfold valM Chk.upd
  rw [if_pos rfl]
 have e2:(if t < P.length then valM P out (P.getD t 0).toNat else 0)=valM P out b:=by rw [if_pos htl,hg,Int.toNat_natCast]
 have h:=Tar.cntN_upd (n:=P.length) (k:=t) (f:=fun t=>if t < P.length then valM P out (P.getD t 0).toNat else 0) (g:=fun t=>if t < P.length then valM P (Chk.upd out b d) (P.getD t 0).toNat else 0) htl (fun v hv=>by
  by_cases hvl:v < P.length
  ·have hx:=some_getD hvl (0:Int)
   obtain ⟨k,hk,_⟩:=tg.nat _ (List.mem_of_getElem? hx)
   have hne:k≠b:=fun e=>hv (by
    rw [hk,e] at hx
    have h1:=idxOf_nodup tg.nd hx
    have h2:=idxOf_nodup tg.nd ht
    omega)
   rw [if_pos hvl,if_pos hvl,hk,Int.toNat_natCast]
   unfold valM Chk.upd
   rw [if_neg hne]
  ·rw [if_neg hvl,if_neg hvl])
 rw [e1,e2] at h
 unfold sumM
 omega
structure PInv (G:List (List Int)) (q:Nat) (P:List Int) (out0:Chk.Out) (t:Nat) (out:Chk.Out) (tn:Bool):Prop where
 inv:Chk.Inv (domGr G q P) out t
 same:tn=false→out=out0∧∀ s,1≤s→s < t→∀ x:Nat,P[s]?=some (x:Int)→∀ d,out x=some d→Nca (domGr G q P) out x d
 less:tn=true→sumM P out < sumM P out0
section
variable {CT:Nat→Option CFun}
theorem pass_step {G:List (List Int)} {q:Nat} {P:List Int} (tg:TG G q P) {out0 out:Chk.Out} {t:Nat} {tn:Bool} (h:PInv G q P out0 t out tn) (h1:1≤t) {b:Nat} (hb:P[t]?=some (b:Int)) {D:Option Nat} (hD:Over (domGr G q P) out ((domGr G q P).pred b) D):
 ∃ d,D=some d∧d < G.length∧(out b=some d→PInv G q P out0 (t+1) out tn)∧(out b≠some d→PInv G q P out0 (t+1) (Chk.upd out b d) true):=by
 have hbP:(b:Int)∈P:=List.mem_of_getElem? hb
 have hbi:P.idxOf (b:Int)=t:=idxOf_nodup tg.nd hb
 have hbr:b≠q:=fun e=>by
  rw [e,tg.i0] at hbi
  omega
 obtain ⟨p1,p2,p3⟩:=tg.ok.par1 b hbP hbr
 have hpn:=h.inv.p0 _ p1 (by show _ < t;rw [← hbi];exact p3)
 cases D with
 | none=>exact absurd (hD _ p2) hpn
 | some d=>
   have hn:Nca (domGr G q P) out b d:=hD
   obtain ⟨hdi,hdR⟩:=Chk.nca_idx tg.ok h.inv hbP hbr hbi hn
   have st:=Chk.inv_step tg.ok h.inv hbP hbr hbi hn
   refine ⟨d,rfl,tg.lt d hdR,fun e=>?_,fun e=>?_⟩
   ·have hu:Chk.upd out b d=out:=by
     funext x
     unfold Chk.upd
     split
     ·rename_i hx;rw [hx,e]
     ·rfl
    rw [hu] at st
    refine ⟨st,fun ht=>?_,h.less⟩
    obtain ⟨s1,s2⟩:=h.same ht
    refine ⟨s1,fun s hs1 hs2 x hx d' hd'=>?_⟩
    by_cases est:s=t
    ·subst est
     rw [hb] at hx
     have:b=x:=by simp only [Option.some.injEq] at hx;omega
     subst this
     rw [e] at hd'
     cases hd'
     exact hn
    ·exact s2 s hs1 (by omega) x hx d' hd'
   ·have hlt:P.idxOf (d:Int) < valM P out b:=by
     unfold valM
     cases ho:out b with
     | none=>
       show P.idxOf (d:Int) < P.length
       exact List.idxOf_lt_length_of_mem hdR
     | some d0=>
       show P.idxOf (d:Int) < P.idxOf (d0:Int)
       have hu:=(Chk.nca_up tg.ok h.inv hbP hbr hbi hn ho).2
       change P.idxOf (d:Int)≤P.idxOf (d0:Int) at hu
       rcases Nat.lt_or_ge (P.idxOf (d:Int)) (P.idxOf (d0:Int)) with hl | hl
       ·exact hl
       ·exfalso
        have hd0:=(h.inv.ok.o2 b d0 ho).2.1
        have:=tg.ok.inj d d0 hdR hd0 (by show P.idxOf (d:Int)=P.idxOf (d0:Int);omega)
        rw [this,ho] at e
        exact e rfl
    have hs:=sumM_lt tg hb hlt
    refine ⟨st,fun ht=>(by cases ht),fun _=>?_⟩
    cases htn:tn with
    | false=>rw [(h.same htn).1] at hs ⊢;exact hs
    | true=>exact Nat.lt_trans hs (h.less htn)
theorem tree_l2 (hT:CT k_f26=some (.code s_f26)) (base:Nat) {bo o ba a:Nat} {A:Heap} {G:List (List Int)} {q:Nat} {P:List Int} {out0:Chk.Out} (hb:base≤o) (s:∀ out,DS bo o ba a G.length (A.set o (.cells 0 ((outL G.length out).map iV))) P out) (tg:TG G q P) {pv kv sv:V} (hkv:∀ ob,RdRows (A.set o ob) kv (rowsV (backG G))) (hsv:∀ ob,Rd (A.set o ob) sv ((P.drop 1).map iV)) (hsw:Wide1 sv) (hn:G.length < 2 ^ 20) (hPl:P.length≤G.length) (h0:PInv G q P out0 1 out0 false):
 ∃ out tn,itW (evC (callW CT) itW base s_f10_l2) [] A.length (frOf 98 [(1,.s (.int .i64 q)),(5,.ref bo 0 0),(6,pv),(10,kv),(11,.fn k_f26 [] [.ref ba 0 0,.ref bo 0 0]),(12,.s (.bool false)),(53,sv),(54,.s (.int .i64 (P.drop 1).length)),(55,.s (.int .i64 0))]) (A.set o (.cells 0 ((outL G.length out0).map iV)))=some (.ext 4,frOf 98 [(1,.s (.int .i64 q)),(5,.ref bo 0 0),(6,pv),(10,kv),(11,.fn k_f26 [] [.ref ba 0 0,.ref bo 0 0]),(12,.s (.bool tn)),(53,sv),(54,.s (.int .i64 (P.drop 1).length)),(55,.s (.int .i64 (P.drop 1).length)),(56,bl false)],A.set o (.cells 0 ((outL G.length out).map iV)))∧PInv G q P out0 ((P.drop 1).length+1) out tn:=by
 have ts:∀ (fr:List V) (ob:Ob),Go.AM.trim A.length fr (A.set o ob)=A.set o ob:=fun fr ob=>trim_same (by simp)
 have hbl:=backG_len G
 obtain ⟨⟨out,tn⟩,e1,hP⟩:=it_rel (P.drop 1).length (fun j (x:Chk.Out × Bool)=>PInv G q P out0 (j+1) x.1 x.2) (fun j x=>itW (evC (callW CT) itW base s_f10_l2) [] A.length (frOf 98 [(1,.s (.int .i64 q)),(5,.ref bo 0 0),(6,pv),(10,kv),(11,.fn k_f26 [] [.ref ba 0 0,.ref bo 0 0]),(12,.s (.bool x.2)),(53,sv),(54,.s (.int .i64 (P.drop 1).length)),(55,.s (.int .i64 j))]) (A.set o (.cells 0 ((outL G.length x.1).map iV)))) (by
  rintro j ⟨out,tn⟩ hj hP
  simp only at hP ⊢
  have hdl:(P.drop 1).length=P.length - 1:=List.length_drop ..
  have hlt':((j:Int) < ((P.drop 1).length:Int)):=by omega
  have hwk:=w64 (n:=j) (by omega)
  have hxj:=some_getD (show j+1 < P.length by omega) (0:Int)
  obtain ⟨b,hbq,hbn⟩:=tg.nat _ (List.mem_of_getElem? hxj)
  rw [hbq] at hxj
  have hdj:(P.drop 1)[j]?=some (b:Int):=by rw [List.getElem?_drop,show 1+j=j+1 by omega];exact hxj
  have hs:=s out
  obtain ⟨x1,x2,x3⟩:=iV_at (hsv (.cells 0 ((outL G.length out).map iV))) hsw hdj
  obtain ⟨ra,rv,r1,r2,r3,r4⟩:=rows_at (hkv (.cells 0 ((outL G.length out).map iV))) (some_getD (show b < (backG G).length by omega) [])
  have hrl:=iV_len r3
  obtain ⟨D,l1,hD⟩:=tree_l1 hT base hs tg hP.inv.ok (pv:=pv) (kv:=kv) (sv:=sv) (tn:=tn) (L:=(P.drop 1).length) (j:=j) hbn r3 r4 hn
  obtain ⟨d,rfl,hdn,k1,k2⟩:=pass_step tg hP (by omega) hxj hD
  obtain ⟨c1,c2⟩:=hs.out hbn
  have hbo:=hs.hbo
  have hlen:(A.set o (.cells 0 ((outL G.length out).map iV))).length=A.length:=by simp
  rw [hlen] at l1
  by_cases he:out b=some d
  ·have hoz:oZ out b=(d:Int):=by unfold oZ;rw [he]
   rw [hoz] at c2
   have hz:(((d:Nat):Int) != ((d:Nat):Int))=false:=bne_self_eq_false _
   refine ⟨(out,tn),?_,k1 he⟩
   rw [itW_step]
   simp only [bl,dZ] at l1
   simp only [bl,a_f10,s_f10_l0_b,s_f10_l1_b,s_f10_l2_b,s_f10_l3_b,aa,bl,i64,reduceIte,reduceCtorEq,Nat.reduceEqDiff,Nat.reduceLT,Nat.reduceLeDiff,Nat.reduceBEq,Nat.reduceAdd,fillA,splice,Nat.reduceMul,amY,op_eqP,hlt',x2,x3,r1,r2,hrl,hlen,l1,hbo,c1,c2,hz,hwk,ts]
  ·have hz:(oZ out b != ((d:Nat):Int))=true:=by
    rw [bne_iff_ne]
    unfold oZ
    cases ho:out b with
    | none=>show (-2:Int)≠_;omega
    | some d0=>
      intro e0
      have:d0=d:=by have:((d0:Nat):Int)=d:=e0;omega
      rw [ho,this] at he
      exact he rfl
   have st:=storeV_at (v:=iV (d:Int)) (base:=base) hs.ho hb rfl (off:=b) (by rw [List.length_map,outL_len];exact hbn)
   rw [List.set_set,← List.map_set,outL_set out d hbn] at st
   refine ⟨(Chk.upd out b d,true),?_,k2 he⟩
   rw [itW_step]
   simp only [iV] at st
   simp only [bl,dZ] at l1
   simp only [bl,a_f10,s_f10_l0_b,s_f10_l1_b,s_f10_l2_b,s_f10_l3_b,aa,bl,i64,reduceIte,reduceCtorEq,Nat.reduceEqDiff,Nat.reduceLT,Nat.reduceLeDiff,Nat.reduceBEq,Nat.reduceAdd,fillA,splice,Nat.reduceMul,amY,op_eqP,hlt',x2,x3,r1,r2,hrl,hlen,l1,hbo,c1,c2,hz,st,hwk,ts]
   skip) 0 (out0,false) (Nat.zero_le _) h0
 simp only at e1 hP
 refine ⟨out,tn,e1.trans ?_,hP⟩
 rw [itW_step]
 simp only [bl,a_f10,s_f10_l0_b,s_f10_l1_b,s_f10_l2_b,s_f10_l3_b,aa,bl,i64,reduceIte,reduceCtorEq,Nat.reduceEqDiff,Nat.reduceLT,Nat.reduceLeDiff,Nat.reduceBEq,Nat.reduceAdd,fillA,splice,Nat.reduceMul,amY,op_eqP,Int.lt_irrefl,ts]
theorem tree_l3 (hT:CT k_f26=some (.code s_f26)) (base:Nat) {bo o ba a:Nat} {A:Heap} {G:List (List Int)} {q:Nat} {P:List Int} (hb:base≤o) (s:∀ out,DS bo o ba a G.length (A.set o (.cells 0 ((outL G.length out).map iV))) P out) (tg:TG G q P) {pv kv sv:V} (hkv:∀ ob,RdRows (A.set o ob) kv (rowsV (backG G))) (hcut:xSlice 1 pv (some (.s (.int .i64 1))) none=some sv) (hsv:∀ ob,Rd (A.set o ob) sv ((P.drop 1).map iV)) (hsw:Wide1 sv) (hn:G.length < 2 ^ 20) (hPl:P.length≤G.length):
 ∀ (m:Nat) (out0:Chk.Out),sumM P out0≤m→Chk.Inv (domGr G q P) out0 1→
 ∃ out,itW (evC (callW CT) itW base s_f10_l3) [53,54,55,56] A.length (frOf 98 [(1,.s (.int .i64 q)),(5,.ref bo 0 0),(6,pv),(10,kv),(11,.fn k_f26 [] [.ref ba 0 0,.ref bo 0 0]),(12,.s (.bool true))]) (A.set o (.cells 0 ((outL G.length out0).map iV)))=some (.ext 2,frOf 98 [(1,.s (.int .i64 q)),(5,.ref bo 0 0),(6,pv),(10,kv),(11,.fn k_f26 [] [.ref ba 0 0,.ref bo 0 0]),(51,bl false)],A.set o (.cells 0 ((outL G.length out).map iV)))∧Chk.Inv (domGr G q P) out P.length∧∀ b d:Nat,(b:Int)∈P→b≠q→out b=some d→Nca (domGr G q P) out b d:=by
 have ts:∀ (fr:List V) (ob:Ob),Go.AM.trim A.length fr (A.set o ob)=A.set o ob:=fun fr ob=>trim_same (by simp)
 have hP0:0 < P.length:=by
  have:=tg.hd
  have:=(List.getElem?_eq_some_iff.1 this).1
  exact this
 have hdl:(P.drop 1).length+1=P.length:=by rw [List.length_drop];omega
 intro m
 induction m with
 | zero=>
   intro out0 hm hinv
   obtain ⟨out,tn,l2,hP⟩:=tree_l2 hT base hb s tg (pv:=pv) (kv:=kv) (sv:=sv) hkv hsv hsw hn hPl (out0:=out0) ⟨hinv,fun _=>⟨rfl,fun s h1 h2=>by omega⟩,fun h=>(by cases h)⟩
   rw [hdl] at hP
   have htn:tn=false:=by
    cases ht:tn with
    | false=>rfl
    | true=>have:=hP.less ht;omega
   subst htn
   have hsl:=iV_len (hsv (.cells 0 ((outL G.length out0).map iV)))
   have hlen:(A.set o (.cells 0 ((outL G.length out0).map iV))).length=A.length:=by simp
   refine ⟨out,?_,hP.inv,fun b d hbP hbq ho=>?_⟩
   ·rw [itW_step]
    simp only [bl] at l2
    simp only [bl,a_f10,s_f10_l0_b,s_f10_l1_b,s_f10_l2_b,s_f10_l3_b,aa,bl,i64,reduceIte,reduceCtorEq,Nat.reduceEqDiff,Nat.reduceLT,Nat.reduceLeDiff,Nat.reduceBEq,Nat.reduceAdd,fillA,splice,Nat.reduceMul,amY,op_eqP,hcut,hsl,hlen,l2,ts]
    rw [itW_step]
    simp only [bl,a_f10,s_f10_l0_b,s_f10_l1_b,s_f10_l2_b,s_f10_l3_b,aa,bl,i64,reduceIte,reduceCtorEq,Nat.reduceEqDiff,Nat.reduceLT,Nat.reduceLeDiff,Nat.reduceBEq,Nat.reduceAdd,fillA,splice,Nat.reduceMul,amY,op_eqP,ts]
   ·have hil:=List.idxOf_lt_length_of_mem hbP
    have hib:P[P.idxOf (b:Int)]?=some (b:Int):=by rw [List.getElem?_eq_getElem hil,List.getElem_idxOf hil]
    have h0:0 < P.idxOf (b:Int):=by
     rcases Nat.eq_zero_or_pos (P.idxOf (b:Int)) with e | e
     ·rw [e,tg.hd] at hib
      simp only [Option.some.injEq] at hib
      omega
     ·exact e
    exact (hP.same rfl).2 _ h0 (by omega) b hib d ho
 | succ m ih=>
   intro out0 hm hinv
   obtain ⟨out,tn,l2,hP⟩:=tree_l2 hT base hb s tg (pv:=pv) (kv:=kv) (sv:=sv) hkv hsv hsw hn hPl (out0:=out0) ⟨hinv,fun _=>⟨rfl,fun s h1 h2=>by omega⟩,fun h=>(by cases h)⟩
   rw [hdl] at hP
   have hsl:=iV_len (hsv (.cells 0 ((outL G.length out0).map iV)))
   have hlen:(A.set o (.cells 0 ((outL G.length out0).map iV))).length=A.length:=by simp
   cases htn:tn with
   | false=>
     subst htn
     refine ⟨out,?_,hP.inv,fun b d hbP hbq ho=>?_⟩
     ·rw [itW_step]
      simp only [bl] at l2
      simp only [bl,a_f10,s_f10_l0_b,s_f10_l1_b,s_f10_l2_b,s_f10_l3_b,aa,bl,i64,reduceIte,reduceCtorEq,Nat.reduceEqDiff,Nat.reduceLT,Nat.reduceLeDiff,Nat.reduceBEq,Nat.reduceAdd,fillA,splice,Nat.reduceMul,amY,op_eqP,hcut,hsl,hlen,l2,ts]
      rw [itW_step]
      simp only [bl,a_f10,s_f10_l0_b,s_f10_l1_b,s_f10_l2_b,s_f10_l3_b,aa,bl,i64,reduceIte,reduceCtorEq,Nat.reduceEqDiff,Nat.reduceLT,Nat.reduceLeDiff,Nat.reduceBEq,Nat.reduceAdd,fillA,splice,Nat.reduceMul,amY,op_eqP,ts]
     ·have hil:=List.idxOf_lt_length_of_mem hbP
      have hib:P[P.idxOf (b:Int)]?=some (b:Int):=by rw [List.getElem?_eq_getElem hil,List.getElem_idxOf hil]
      have h0:0 < P.idxOf (b:Int):=by
       rcases Nat.eq_zero_or_pos (P.idxOf (b:Int)) with e | e
       ·rw [e,tg.hd] at hib
        simp only [Option.some.injEq] at hib
        omega
       ·exact e
      exact (hP.same rfl).2 _ h0 (by omega) b hib d ho
   | true=>
     subst htn
     have hless:=hP.less rfl
     have hall:∀ b,(domGr G q P).R b→out b≠none:=fun b hb=>hP.inv.p0 b hb (List.idxOf_lt_length_of_mem (show (b:Int)∈P from hb))
     obtain ⟨out2,p1,p2,p3⟩:=ih out (by omega) (Chk.inv_again hP.inv hall)
     refine ⟨out2,?_,p2,p3⟩
     rw [itW_step]
     simp only [bl] at l2 p1
     simp only [bl,a_f10,s_f10_l0_b,s_f10_l1_b,s_f10_l2_b,s_f10_l3_b,aa,bl,i64,reduceIte,reduceCtorEq,Nat.reduceEqDiff,Nat.reduceLT,Nat.reduceLeDiff,Nat.reduceBEq,Nat.reduceAdd,fillA,splice,Nat.reduceMul,amY,op_eqP,hcut,hsl,hlen,l2,ts,p1]
end
end Go.Proofs.Ytdmnenlpdeolaaa
set_option maxRecDepth 100000
namespace Go.Proofs.Ytdmnenlpdeolaaa
open Go.AM
open Chk (Anc OutOk Nca)
inductive RavG (G:List (List Int)) (q:Int) (x:Nat):Nat→Prop
 | root (k:Nat):q=(k:Int)→k < G.length→x≠k→RavG G q x k
 | step (p b:Nat):RavG G q x p→(b:Int)∈G.getD p []→b < G.length→b≠x→RavG G q x b
theorem ravG_rch {G:List (List Int)} {q:Int} {x b:Nat} (h:RavG G q x b):Rch G [q] b:=by
 induction h with
 | root k h1 h2 _=>exact .base k (by rw [h1];simp) h2
 | step p b _ h2 h3 _ ih=>exact .step p b ih h2 h3
theorem rav_iff {G:List (List Int)} {q:Nat} (hq:q < G.length) {P:List Int} {x b:Nat}:Chk.Rav (domGr G q P) x b↔RavG G (q:Int) x b:=by
 constructor
 ·intro h
  induction h with
  | root hne=>exact .root q rfl hq hne
  | step h1 h2 h3 ih=>
    rename_i p b
    by_cases hb:b < G.length
    ·have:=(pred_mem G P q hb).1 h2
     exact .step p b ih this.1 hb h3
    ·exfalso
     have:(backG G).getD b []=[]:=by rw [List.getD,List.getElem?_eq_none (by rw [backG_len];omega)];rfl
     change p∈((backG G).getD b []).map Int.toNat at h2
     rw [this] at h2
     cases h2
 ·intro h
  induction h with
  | root k h1 h2 h3=>
    have:k=q:=by omega
    subst this
    exact .root (g:=domGr G k P) h3
  | step p b h1 h2 h3 h4 ih=>
    have hp:=rch_lt (ravG_rch h1)
    exact .step ih ((pred_mem G P q h3).2 ⟨h2,hp⟩) h4
inductive AncT (T:List Int):Nat→Nat→Prop
 | refl (b:Nat):AncT T b b
 | up {b d a:Nat}:T[b]?=some (d:Int)→AncT T d a→AncT T b a
structure TreeOk (G:List (List Int)) (q:Int) (T:List Int) (lvl:Nat→Nat):Prop where
 len:T.length=G.length
 un:∀ b,b < G.length→¬ Rch G [q] b→T.getD b 0=-2
 rt:∀ k:Nat,q=(k:Int)→k < G.length→T.getD k 0=-1
 id:∀ b,Rch G [q] b→(b:Int)≠q→∃ d:Nat,T.getD b 0=(d:Int)∧Rch G [q] d∧lvl d < lvl b
 lv:∀ b,Rch G [q] b→lvl b < G.length
 dm:∀ a b,Rch G [q] b→(AncT T b a↔¬ RavG G q a b)
theorem tree_out (G:List (List Int)) (q:Int) (hq:q < 0∨(G.length:Int)≤q):TreeOk G q (List.replicate G.length (-2)) (fun _=>0):=by
 have no:∀ b,¬ Rch G [q] b:=by
  intro b h
  induction h with
  | base k h1 h2=>simp only [List.mem_singleton] at h1;omega
  | step i k _ _ _ ih=>exact ih
 refine ⟨by simp,fun b hb _=>by simp [hb],fun k h1 h2=>by omega,fun b h=>absurd h (no b),fun b h=>absurd h (no b),fun a b h=>absurd h (no b)⟩
theorem domGr_root {G:List (List Int)} {q:Nat} {P:List Int} (tg:TG G q P):(q:Int)∈P:=List.mem_of_getElem? tg.hd
theorem tree_in {G:List (List Int)} {q:Nat} (hq:q < G.length) {P:List Int} (tg:TG G q P) (hr:∀ k:Nat,(k:Int)∈P↔Rch G [(q:Int)] k) (hPl:P.length≤G.length) {out:Chk.Out} (h:Chk.Inv (domGr G q P) out P.length) (hfix:∀ b d:Nat,(b:Int)∈P→b≠q→out b=some d→Nca (domGr G q P) out b d):TreeOk G (q:Int) ((outL G.length out).set q (-1)) (fun b=>P.idxOf (b:Int)):=by
 have hall:∀ b,(domGr G q P).R b→out b≠none:=fun b hb=>h.p0 b hb (List.idxOf_lt_length_of_mem (show (b:Int)∈P from hb))
 have hg:∀ b,b < G.length→b≠q→((outL G.length out).set q (-1)).getD b 0=oZ out b:=fun b hb hbq=>by
  rw [List.getD,List.getElem?_set_ne (Ne.symm hbq),outL_get out hb];rfl
 have hgq:((outL G.length out).set q (-1)).getD q 0=-1:=by rw [List.getD,List.getElem?_set_self (by rw [outL_len];exact hq)];rfl
 have up1:∀ b d,out b=some d→(b:Int)∈P∧(d:Int)∈P:=fun b d hd=>⟨(h.ok.o2 b d hd).1,(h.ok.o2 b d hd).2.1⟩
 refine ⟨by simp [outL],fun b hb hn=>?_,fun k hk _=>?_,fun b hb hbq=>?_,fun b hb=>?_,fun a b hb=>?_⟩
 ·have hbq:b≠q:=fun e=>hn ((hr b).1 (by rw [e];exact (domGr_root tg)))
  rw [hg b hb hbq]
  unfold oZ
  cases ho:out b with
  | none=>rfl
  | some d=>exact absurd ((hr b).1 (up1 b d ho).1) hn
 ·have:k=q:=by omega
  rw [this];exact hgq
 ·have hbP:=(hr b).2 hb
  have hbq':b≠q:=fun e=>hbq (by rw [e])
  obtain ⟨d,hd⟩:=Chk.some_of (hall b hbP)
  refine ⟨d,?_,(hr d).1 (up1 b d hd).2,(h.ok.o2 b d hd).2.2.2 hbq'⟩
  rw [hg b (tg.lt b hbP) hbq']
  unfold oZ
  rw [hd]
 ·have:=List.idxOf_lt_length_of_mem ((hr b).2 hb)
  show P.idxOf (b:Int) < G.length
  omega
 ·have hbP:=(hr b).2 hb
  rw [← rav_iff hq (P:=P)]
  show _↔Chk.Dm (domGr G q P) a b
  rw [← Chk.anc_dm tg.ok h hall (fun b d h1 h2 h3=>hfix b d h1 h2 h3) (show (domGr G q P).R b from hbP)]
  constructor
  ·intro k
   clear hb hbP
   induction k with
   | refl=>exact .refl _
   | up k1 k2 ih=>
     rename_i b d a
     have hbn:=(List.getElem?_eq_some_iff.1 k1).1
     rw [List.length_set,outL_len] at hbn
     have k1:=getD_some k1 0
     by_cases hbq:b=q
     ·rw [hbq,hgq] at k1;omega
     ·rw [hg b hbn hbq] at k1
      have:out b=some d:=by
       unfold oZ at k1
       cases ho:out b with
       | none=>rw [ho] at k1;exact absurd k1 (by show ¬ ((-2:Int)=_);omega)
       | some e=>
         rw [ho] at k1
         have:((e:Nat):Int)=d:=k1
         have:e=d:=by omega
         rw [this]
      exact .up this hbq ih
  ·intro k
   induction k with
   | refl=>exact .refl _
   | up k1 k2 k3 ih=>
     rename_i b d a
     have hbd:=up1 b d k1
     refine .up ?_ (ih ((hr d).1 hbd.2) hbd.2)
     rw [some_getD (l:=(outL G.length out).set q (-1)) (by rw [List.length_set,outL_len];exact tg.lt b hbd.1) 0,hg b (tg.lt b hbd.1) k2]
     unfold oZ
     rw [k1]
end Go.Proofs.Ytdmnenlpdeolaaa
namespace Go.AM
section
variable {κ:Type} [DecidableEq κ]
def esG (enc:κ→Value) (ks:List κ) (f:κ→V):List (Value × V):=ks.map fun k=>(enc k,f k)
theorem findA_g {kd:TypeDesc} {enc:κ→Value} (hs:∀ a b,Instr.sameNow kd (enc a) (enc b)=some (decide (a=b))) (f:κ→V) (k:κ):∀ (ks:List κ) (i:Nat),findA kd (enc k) (esG enc ks f) i=some (if k∈ks then some (i+ks.idxOf k,f k) else none):=by
 intro ks
 induction ks with
 | nil=>intro i;rfl
 | cons x ks ih=>
   intro i
   have e:esG enc (x :: ks) f=(enc x,f x) :: esG enc ks f:=rfl
   rw [e]
   simp only [findA,hs]
   by_cases h:k=x
   ·subst h
    simp
   ·have h2:(x == k)=false:=by simpa using Ne.symm h
    rw [decide_eq_false h]
    simp only [ih]
    by_cases hk:k∈ks
    ·rw [if_pos hk,if_pos (List.mem_cons_of_mem _ hk),List.idxOf_cons,h2]
     simp only [cond_false]
     congr 3
     omega
    ·rw [if_neg hk,if_neg (by simp [h,hk])]
theorem get_g {H:Heap} {j:Nat} {kd:TypeDesc} {enc:κ→Value} (hs:∀ a b,Instr.sameNow kd (enc a) (enc b)=some (decide (a=b))) (hko:∀ a,keyOk kd (enc a)=true) {ks:List κ} {f:κ→V} (hH:H[j]?=some (.map (esG enc ks f))) (z:V) (ok:Bool) (k:κ):
 xMapGet H kd z ok (.mp j) (.s (enc k))=some (if ok then .tup [if k∈ks then f k else z,bl (decide (k∈ks))] else if k∈ks then f k else z):=by
 have hf:=findA_g hs f k ks 0
 simp only [xMapGet,evOp,ev,List.getD_cons_zero,List.getD_cons_succ,hko,if_true,hH,hf]
 by_cases hk:k∈ks
 ·simp only [if_pos hk,decide_eq_true hk,Option.map_some]
 ·simp only [if_neg hk,decide_eq_false hk,Option.map_some]
theorem upd_g {H:Heap} {base j:Nat} {kd:TypeDesc} {enc:κ→Value} (hs:∀ a b,Instr.sameNow kd (enc a) (enc b)=some (decide (a=b))) (hko:∀ a,keyOk kd (enc a)=true) (hb:base≤j) {ks:List κ} {f:κ→V} (hH:H[j]?=some (.map (esG enc ks f))) (k:κ) (v:V):
 updMV H base kd (.mp j) (.s (enc k)) v=some (und,H.set j (.map (if k∈ks then (esG enc ks f).set (ks.idxOf k) (enc k,v) else esG enc ks f ++ [(enc k,v)]))):=by
 have hf:=findA_g hs f k ks 0
 simp only [updMV,hb,hko,and_self,if_true,hH,hf]
 by_cases hk:k∈ks
 ·simp only [if_pos hk,Nat.zero_add]
 ·simp only [if_neg hk]
theorem len_g {H:Heap} {j:Nat} {enc:κ→Value} {ks:List κ} {f:κ→V} (hH:H[j]?=some (.map (esG enc ks f))):xLen H .m (.mp j)=some (.s (.int .i64 ks.length)):=by
 simp only [xLen,hH,esG,List.length_map,i64]
end
theorem same_i64 (a b:Int):Instr.sameNow (.int .i64) (.int .i64 a) (.int .i64 b)=some (decide (a=b)):=by rw [sameNow_int];rfl
theorem key_i64 (a:Int):keyOk (.int .i64) (.int .i64 a)=true:=by simp [keyOk]
end Go.AM
set_option maxRecDepth 100000
namespace Go.Proofs.Ytdmnenlpdeolaaa
open Go.AM
open Chk (Anc OutOk Nca)
theorem set_two (A:Heap) (m o x:Ob):(A ++ [m] ++ [o]).set A.length x=A ++ [x] ++ [o]:=by simp
theorem get_in2 (A:Heap) (c:List V) (o:Ob):getC (A ++ [.cells 0 c] ++ [o]) A.length 0=some c:=getC_app (getC_new _ _ _)
theorem get_in2' (A:Heap) (o:Ob) (c:List V):getC (A ++ [o] ++ [.cells 0 c]) (A.length+1) 0=some c:=by
 have:=getC_new (A ++ [o]) 0 c
 rwa [List.length_append] at this
def atPre (n:Nat) (P:List Int) (i:Nat):List Int:=(List.range n).map fun (b:Nat)=>if (b:Int)∈P.take i then ((P.idxOf (b:Int):Nat):Int) else 0
theorem atPre_len (n:Nat) (P:List Int) (i:Nat):(atPre n P i).length=n:=by simp [atPre]
theorem atPre_set {n:Nat} {P:List Int} {i b:Nat} (hd:P.Nodup) (hb:P[i]?=some (b:Int)) (hbn:b < n):(atPre n P i).set b (i:Int)=atPre n P (i+1):=by
 have htk:P.take (i+1)=P.take i ++ [(b:Int)]:=take_snoc hb
 apply List.ext_getElem?
 intro j
 rw [List.getElem?_set,atPre_len]
 unfold atPre
 rw [htk]
 by_cases hj:j < n
 ·rw [List.getElem?_map,List.getElem?_map,List.getElem?_range hj]
  by_cases e:b=j
  ·subst e
   simp [hbn,idxOf_nodup hd hb]
  ·have:((j:Int)∈P.take i ++ [(b:Int)])↔(j:Int)∈P.take i:=by
    rw [List.mem_append,List.mem_singleton]
    exact ⟨fun h=>h.resolve_right (by omega),.inl⟩
   simp only [if_neg e,Option.map_some,this]
 ·rw [List.getElem?_eq_none (by simp;omega),List.getElem?_eq_none (by simp;omega),if_neg (by omega)]
theorem atPre_nil (n:Nat) (P:List Int):atPre n P 0=List.replicate n 0:=by
 unfold atPre
 rw [show (fun (b:Nat)=>if (b:Int)∈P.take 0 then ((P.idxOf (b:Int):Nat):Int) else 0)=fun _=>0 by funext b;simp,List.map_const',List.length_range]
theorem atPre_all (n:Nat) (P:List Int):atPre n P P.length=atL n P:=by unfold atPre atL;rw [List.take_length]
section
variable {CT:Nat→Option CFun}
structure CT9 (CT:Nat→Option CFun):Prop where
 g:CG CT
 tree:CT k_f10=some (.code s_f10)
 tree1:CT k_f26=some (.code s_f26)
 rep:CT k_f24=some (.code s_f24)
 mul:CT k_f39=some (.code s_f39)
 mul64:CT k_f51=some (.code s_f51)
 post:CT k_f25=some (.code s_f25)
 post1:CT k_f41=some (.code s_f41)
 rev:CT k_f42=some (.code s_f42)
theorem post_out (hF:CT k_f25=some (.code s_f25)) (base:Nat) (H:Heap) (v:V) (G:List (List Int)) (q:Int) (hv:RdRows H v (rowsV G)) (hq:q < 0∨(G.length:Int)≤q):
 callW CT (.fn k_f25 [] []) [v,.s (.int .i64 q)] base H=some (nilS,H):=by
 have hlen:=rows_lenV hv
 refine callW_fn (c:=s_f25) hF (by simp [s_f25]) ?_
 by_cases h0:q < 0
 ·simp only [s_f25,a_f25,s_f25_l0_b,aa,bl,i64,reduceIte,reduceCtorEq,Nat.reduceEqDiff,Nat.reduceLT,Nat.reduceLeDiff,Nat.reduceBEq,Nat.reduceAdd,fillA,splice,Nat.reduceMul,amY,op_eqP,hlen,h0,nilS]
 ·have h1:(G.length:Int)≤q:=by omega
  simp only [s_f25,a_f25,s_f25_l0_b,aa,bl,i64,reduceIte,reduceCtorEq,Nat.reduceEqDiff,Nat.reduceLT,Nat.reduceLeDiff,Nat.reduceBEq,Nat.reduceAdd,fillA,splice,Nat.reduceMul,amY,op_eqP,hlen,h0,ge_iff_le,h1,nilS]
theorem tree_l0 (base:Nat) {A:Heap} {v pv bv:V} {q:Nat} {n:Nat} {P:List Int} (hb:base≤A.length) (hp:Rd A pv (P.map iV)) (hpw:Wide1 pv) (hnat:∀ x∈P,∃ k:Nat,x=k∧k < n) (hnd:P.Nodup) (hn:P.length < 2 ^ 40):
 itW (evC (callW CT) itW base s_f10_l0) [] (A.length+2) (frOf 98 [(0,v),(1,.s (.int .i64 q)),(5,bv),(6,pv),(7,.ref (A.length+1) 0 0),(32,pv),(33,.s (.int .i64 P.length)),(34,.s (.int .i64 0))]) (A ++ [.cells 0 (List.replicate n (.s (.int .i64 0)))] ++ [.cells 0 [.sl A.length 0 0 n 1]])=some (.ext 0,frOf 98 [(0,v),(1,.s (.int .i64 q)),(5,bv),(6,pv),(7,.ref (A.length+1) 0 0),(32,pv),(33,.s (.int .i64 P.length)),(34,.s (.int .i64 P.length)),(35,bl false)],A ++ [.cells 0 ((atL n P).map iV)] ++ [.cells 0 [.sl A.length 0 0 n 1]]):=by
 have ts:∀ (fr:List V) (m o:Ob),Go.AM.trim (A.length+2) fr (A ++ [m] ++ [o])=A ++ [m] ++ [o]:=fun fr m o=>trim_same (by simp)
 have hst:∀ i,i < P.length→itW (evC (callW CT) itW base s_f10_l0) [] (A.length+2) (frOf 98 [(0,v),(1,.s (.int .i64 q)),(5,bv),(6,pv),(7,.ref (A.length+1) 0 0),(32,pv),(33,.s (.int .i64 P.length)),(34,.s (.int .i64 i))]) (A ++ [.cells 0 ((atPre n P i).map iV)] ++ [.cells 0 [.sl A.length 0 0 n 1]])=itW (evC (callW CT) itW base s_f10_l0) [] (A.length+2) (frOf 98 [(0,v),(1,.s (.int .i64 q)),(5,bv),(6,pv),(7,.ref (A.length+1) 0 0),(32,pv),(33,.s (.int .i64 P.length)),(34,.s (.int .i64 (i+1:Nat)))]) (A ++ [.cells 0 ((atPre n P (i+1)).map iV)] ++ [.cells 0 [.sl A.length 0 0 n 1]]):=by
  intro i hi
  have hlt':((i:Int) < (P.length:Int)):=by omega
  have hwk:=w64 (n:=i) (by omega)
  have hpi:=some_getD hi (0:Int)
  obtain ⟨b,hbq,hbn⟩:=hnat _ (List.mem_of_getElem? hpi)
  rw [hbq] at hpi
  have hps:=atPre_set hnd hpi hbn
  obtain ⟨M,hM⟩:∃ M,atPre n P i=M:=⟨_,rfl⟩
  have hMl:M.length=n:=by rw [← hM,atPre_len]
  rw [hM] at hps
  rw [hM,← hps]
  obtain ⟨x1,x2,x3⟩:=iV_at ((hp.ext (Ext.app A [.cells 0 (M.map iV)])).ext (Ext.app _ [.cells 0 [.sl A.length 0 0 n 1]])) hpw hpi
  have g1:=get_in2 A (M.map iV) (.cells 0 [.sl A.length 0 0 n 1])
  have g2:=get_in2' A (.cells 0 (M.map iV)) [.sl A.length 0 0 n 1]
  have hixb:(0≤(b:Int)∧(b:Int) < (n:Int)∧1=1):=by omega
  have st:=storeV_at (v:=iV (i:Int)) (base:=base) g1 hb rfl (off:=b) (by rw [List.length_map];omega)
  rw [set_two,← List.map_set] at st
  rw [itW_step]
  simp only [iV] at st
  simp only [a_f10,s_f10_l0_b,s_f10_l1_b,s_f10_l2_b,s_f10_l3_b,aa,bl,i64,reduceIte,reduceCtorEq,Nat.reduceEqDiff,Nat.reduceLT,Nat.reduceLeDiff,Nat.reduceBEq,Nat.reduceAdd,fillA,splice,Nat.reduceMul,amY,op_eqP,hlt',x2,x3,g2,hixb,st,hwk,ts]
 have h2:=it_fun P.length (fun i=>itW (evC (callW CT) itW base s_f10_l0) [] (A.length+2) (frOf 98 [(0,v),(1,.s (.int .i64 q)),(5,bv),(6,pv),(7,.ref (A.length+1) 0 0),(32,pv),(33,.s (.int .i64 P.length)),(34,.s (.int .i64 i))]) (A ++ [.cells 0 ((atPre n P i).map iV)] ++ [.cells 0 [.sl A.length 0 0 n 1]])) hst 0 (Nat.zero_le _)
 have hz:(atPre n P 0).map iV=List.replicate n (.s (.int .i64 0)):=by rw [atPre_nil,List.map_replicate];rfl
 rw [hz,cast0] at h2
 refine h2.trans ?_
 rw [itW_step,atPre_all]
 simp only [bl,a_f10,s_f10_l0_b,s_f10_l1_b,s_f10_l2_b,s_f10_l3_b,aa,bl,i64,reduceIte,reduceCtorEq,Nat.reduceEqDiff,Nat.reduceLT,Nat.reduceLeDiff,Nat.reduceBEq,Nat.reduceAdd,fillA,splice,Nat.reduceMul,amY,op_eqP,Int.lt_irrefl,ts]
theorem tree_f (h:CT9 CT) (base:Nat) (H:Heap) (v:V) (G:List (List Int)) (q:Int) (hv:RdRows H v (rowsV G)) (hb:base≤H.length) (hn:G.length < 2 ^ 18) (hr:∀ r∈G,r.length < 2 ^ 18):
 ∃ (v':V) (H':Heap) (T:List Int) (lvl:Nat→Nat),callW CT (.fn k_f10 [] []) [v,.s (.int .i64 q)] base H=some (v',H')∧Ext H H'∧OwnN H.length H' v' (T.map iV)∧TreeOk G q T lvl:=by
 have hr20:∀ r∈G,r.length < 2 ^ 20:=fun r h=>by have:=hr r h;omega
 have hr40:∀ r∈G,r.length < 2 ^ 40:=fun r h=>by have:=hr r h;omega
 have hvl:=rows_lenV hv
 have hrp:=repeat_fun h.rep h.mul h.mul64 base (H ++ [.cells 0 [iV (-2)]]) (.sl H.length 0 0 1 1) (one_rd H (iV (-2))) G.length (by omega) (by simp;omega)
 have e1:∀ ob:Ob,(H ++ [ob]).length=H.length+1:=fun ob=>by simp
 rw [e1] at hrp
 have e2:∀ ob ob2:Ob,(H ++ [ob] ++ [ob2]).length=H.length+2:=fun ob ob2=>by simp
 have hb1:base≤H.length+2:=by omega
 have hset:∀ a b c c':List V,(H ++ [Ob.cells 0 a] ++ [Ob.cells 0 b] ++ [Ob.cells 0 c]).set (H.length+2) (.cells 0 c')=H ++ [Ob.cells 0 a] ++ [Ob.cells 0 b] ++ [Ob.cells 0 c']:=fun a b c c'=>by
  have:=set_snoc (H ++ [Ob.cells 0 a] ++ [Ob.cells 0 b]) (Ob.cells 0 c) (.cells 0 c')
  rwa [e2] at this
 obtain ⟨A,hA⟩:∃ A:Heap,H ++ [.cells 0 [iV (-2)]] ++ [.cells 0 (List.replicate G.length (iV (-2)))] ++ [.cells 0 [.sl (H.length+1) 0 0 G.length 1]]=A:=⟨_,rfl⟩
 have hAl:A.length=H.length+3:=by rw [← hA];simp
 have hHA:Ext H A:=by rw [← hA];exact ((Ext.app _ _).trans (Ext.app _ _)).trans (Ext.app _ _)
 have gA1:getC A (H.length+1) 0=some (List.replicate G.length (iV (-2))):=by
  rw [← hA]
  have:=getC_new (H ++ [Ob.cells 0 [iV (-2)]]) 0 (List.replicate G.length (iV (-2)))
  rw [e1] at this
  exact getC_app this
 have gA2:getC A (H.length+2) 0=some [.sl (H.length+1) 0 0 G.length 1]:=by
  rw [← hA]
  have:=getC_new (H ++ [Ob.cells 0 [iV (-2)]] ++ [Ob.cells 0 (List.replicate G.length (iV (-2)))]) 0 [.sl (H.length+1) 0 0 G.length 1]
  rwa [e2] at this
 by_cases hq:q < 0∨(G.length:Int)≤q
 ·have hp:=post_out h.post base A v G q (hv.ext hHA) hq
  refine ⟨.sl (H.length+1) 0 0 G.length 1,A,List.replicate G.length (-2),fun _=>0,callW_fn (c:=s_f10) h.tree (by simp [s_f10]) ?_,hHA,?_,tree_out G q hq⟩
  ·simp only [iV,nilS] at hrp hp hset hA gA2
   have hz:((0:Int) == 0)=true:=rfl
   simp only [s_f10,a_f10,s_f10_l0_b,s_f10_l1_b,s_f10_l2_b,s_f10_l3_b,aa,bl,i64,reduceIte,reduceCtorEq,Nat.reduceEqDiff,Nat.reduceLT,Nat.reduceLeDiff,Nat.reduceBEq,Nat.reduceAdd,fillA,splice,Nat.reduceMul,amY,op_eqP,hvl,e1,hrp,e2,hb1,hset,hA,hp,hz,gA2]
   trace_state
  ·refine .inr ⟨H.length+1,0,List.replicate G.length (iV (-2)),by simp,gA1,by simp,by simp,by omega⟩
 ·obtain ⟨k,hk⟩:=Int.eq_ofNat_of_zero_le (show 0≤q by omega)
  subst hk
  have hkn:k < G.length:=by omega
  have hcn:=cntF_set (List.replicate G.length false) k (by simp [List.getElem?_replicate,hkn])
  rw [cntF_rep] at hcn
  obtain ⟨s',l',hd⟩:=dfs_ex (normG G) (fun r hrr x hx=>by rw [normG_len];exact normG_in hrr hx) G.length ((normG G).getD k []) ((List.replicate G.length false).set k true) [] (by omega) (by simp [normG_len]) (fun x hx=>by rw [normG_len];exact normG_in (getD_mem (by rw [normG_len];exact hkn)) hx)
  have hw:=walked hkn hd
  have hok:=domGr_ok hkn hd
  have hpc:=dfs_cnt hd
  simp only [List.length_nil] at hpc
  have hPl:((k:Int) :: l').length≤G.length:=by rw [List.length_cons];omega
  obtain ⟨pv,A1,p1,p2,p3,p4,p5⟩:=post_f h.g h.post h.rev h.post1 h.g.idx base A v G k (by omega) (hv.ext hHA) (by omega) hr40 hkn hd
  have hne:((k:Int) :: l').length≠0:=by simp
  generalize hPe:(k:Int) :: l'=P at hw hok hPl p3 p5 hne
  have tg:TG G k P:=⟨hok,fun x hx=>by obtain ⟨j,e,hj⟩:=hw.nat _ hx;omega,hw.nat,by rw [← hPe];simp,hw.nodup,hw.head⟩
  have l1:=p2.le
  have hmk:=make_n (H:=A1) (zero:=[.s (.int .i64 0)]) (sz:=1) (bytes:=8) (k:=.i64) (k':=.i64) (n:=G.length) (by omega)
  rw [flat_one] at hmk
  have t0:=tree_l0 (CT:=CT) base (A:=A1) (v:=v) (pv:=pv) (bv:=.ref (H.length+2) 0 0) (q:=k) (n:=G.length) (by omega) p3 p4 tg.nat tg.nd (by omega)
  have hpl:=iV_len p3
  have hple:∀ ob ob2:Ob,xLen (A1 ++ [ob] ++ [ob2]) .s pv=some (.s (.int .i64 P.length)):=fun ob ob2=>iV_len ((p3.ext (Ext.app _ _)).ext (Ext.app _ _))
  have hple1:∀ ob:Ob,xLen (A1 ++ [ob]) .s pv=some (.s (.int .i64 P.length)):=fun ob=>iV_len (p3.ext (Ext.app _ _))
  obtain ⟨A3,hA3⟩:∃ A3:Heap,A1 ++ [.cells 0 ((atL G.length P).map iV)] ++ [.cells 0 [.sl A1.length 0 0 G.length 1]]=A3:=⟨_,rfl⟩
  have hA13:Ext A1 A3:=by rw [← hA3];exact (Ext.app _ _).trans (Ext.app _ _)
  have hA3l:A3.length=A1.length+2:=by rw [← hA3];simp
  have ga:getC A3 A1.length 0=some ((atL G.length P).map iV):=by rw [← hA3];exact get_in2 _ _ _
  have gba:getC A3 (A1.length+1) 0=some [.sl A1.length 0 0 G.length 1]:=by rw [← hA3];exact get_in2' _ _ _
  obtain ⟨kv,A4,b1,b2,b3,b4⟩:=back_f h.g base A3 v G (hv.ext ((hHA.trans p2).trans hA13)) (by omega) (by omega) hr20
  have l2:=b2.le
  have e34:Ext A1 A4:=hA13.trans b2
  have gA41:=(getC_ext gA1 (p2.trans e34))
  have gA42:=(getC_ext gA2 (p2.trans e34))
  have hout0:(List.replicate G.length (-2:Int)).set k (k:Int)=outL G.length (Chk.out0 (domGr G k P)):=by
   apply List.ext_getElem?
   intro j
   by_cases hj:j < G.length
   ·rw [outL_get _ hj,List.getElem?_set]
    unfold oZ Chk.out0
    by_cases e:k=j
    ·subst e
     simp [hkn,domGr]
    ·simp [e,hj,domGr,Ne.symm e,List.getElem?_replicate]
   ·rw [List.getElem?_eq_none (by simp;omega),List.getElem?_eq_none (by rw [outL_len];omega)]
  have hDS:∀ out,DS (H.length+2) (H.length+1) (A1.length+1) A1.length G.length (A4.set (H.length+1) (.cells 0 ((outL G.length out).map iV))) P out:=fun out=>
   ⟨getC_set gA41 0,by rw [getC_set_ne _ (by omega)];exact gA42,by rw [getC_set_ne _ (by omega)];exact getC_ext ga b2,by rw [getC_set_ne _ (by omega)];exact getC_ext gba b2⟩
  have hmn:((P.length - 1:Nat):Nat)=P.length - 1:=rfl
  obtain ⟨sv,c1,c2,c3⟩:=(p5.ext e34).rd.slice p4 (lo:=some (.s (.int .i64 1))) (hi:=none) (a:=1) (b:=P.length) rfl (by rw [List.length_map];rfl) (by omega) (by simp)
  have hsv:∀ ob,Rd (A4.set (H.length+1) ob) sv ((P.drop 1).map iV):=fun ob=>by
   obtain ⟨sw,d1,d2,d3⟩:=((p5.ext e34).set (id:=H.length+1) (by omega) ob).rd.slice p4 (lo:=some (.s (.int .i64 1))) (hi:=none) (a:=1) (b:=P.length) rfl (by rw [List.length_map];rfl) (by omega) (by simp)
   rw [c1] at d1
   obtain rfl:=Option.some.inj d1
   rwa [List.map_drop,← List.take_of_length_le (l:=(P.map iV).drop 1) (i:=P.length - 1) (by simp)]
  have hkv:∀ ob,RdRows (A4.set (H.length+1) ob) kv (rowsV (backG G)):=fun ob=>b4 _ ob (by omega)
  obtain ⟨out,q1,q2,q3⟩:=tree_l3 h.tree1 base (bo:=H.length+2) (o:=H.length+1) (ba:=A1.length+1) (a:=A1.length) (A:=A4) (G:=G) (q:=k) (P:=P) (by omega) hDS tg hkv c1 hsv c3 (by omega) hPl _ (Chk.out0 (domGr G k P)) (Nat.le_refl _) (Chk.inv_start hok)
  have hrepV:(List.replicate G.length (iV (-2)))=(List.replicate G.length (-2)).map iV:=by simp
  have st1:=storeV_at (v:=iV (k:Int)) (base:=base) gA41 (by omega) rfl (off:=k) (by simp;exact hkn)
  rw [hrepV,← List.map_set,hout0] at st1
  have st2:=storeV_at (v:=iV (-1)) (base:=base) (hDS out).ho (by omega) rfl (off:=k) (by rw [List.length_map,outL_len];exact hkn)
  rw [List.set_set,← List.map_set] at st2
  have gb3:∀ out,getC (A4.set (H.length+1) (.cells 0 ((outL G.length out).map iV))) (H.length+2) 0=some [.sl (H.length+1) 0 0 G.length 1]:=fun out=>(hDS out).hbo
  have gb4:∀ ob,getC (A4.set (H.length+1) ob) (H.length+2) 0=some [.sl (H.length+1) 0 0 G.length 1]:=fun ob=>by rw [getC_set_ne _ (by omega)];exact gA42
  have hb2:base≤A1.length+1:=by omega
  have e3:∀ ob ob2:Ob,(A1 ++ [ob] ++ [ob2]).length=A1.length+2:=fun ob ob2=>by simp
  have hdn:(0≤(k:Int)∧(k:Int) < (G.length:Int)∧1=1):=by omega
  have hz:((P.length:Int) == 0)=false:=by rw [beq_eq_false_iff_ne];omega
  refine ⟨.sl (H.length+1) 0 0 G.length 1,A4.set (H.length+1) (.cells 0 (((outL G.length out).set k (-1)).map iV)),(outL G.length out).set k (-1),fun b=>P.idxOf (b:Int),callW_fn (c:=s_f10) h.tree (by simp [s_f10]) ?_,((hHA.trans p2).trans e34).set (by omega) _,?_,tree_in hkn tg hw.rch hPl q2 q3⟩
  ·simp only [iV,nilS] at hrp p1 hset hA gA2 hmk t0 gA42 q1 st1 st2 gb3 gb4 hA3 b1
   simp only [s_f10,a_f10,s_f10_l0_b,s_f10_l1_b,s_f10_l2_b,s_f10_l3_b,aa,bl,i64,reduceIte,reduceCtorEq,Nat.reduceEqDiff,Nat.reduceLT,Nat.reduceLeDiff,Nat.reduceBEq,Nat.reduceAdd,fillA,splice,Nat.reduceMul,amY,op_eqP,hvl,e1,hrp,e2,hb1,hset,hA,p1,hb2,e3,xsub_mkFn,hz,hpl,hple,hple1,op_mkSl,hmk,t0,hA3,b1,gA42,hdn,st1,q1,gb3,st2,gb4]
   trace_state
  ·refine .inr ⟨H.length+1,0,((outL G.length out).set k (-1)).map iV,by simp [outL_len],getC_set gA41 0,by simp,List.take_of_length_le (by simp),by omega⟩
end
end Go.Proofs.Ytdmnenlpdeolaaa
set_option maxRecDepth 100000
namespace Go.Proofs.Ytdmnenlpdeolaaa
open Go.AM
abbrev k_f8:Nat:=8
def s_f8_r0_k:List Nat:=[1,2,3,4,5,6,7,8,9,10,11,12,13,14,15,16,17,18]
theorem s_f8_r0_kT:killV s_f8_r0_k (startV 19 [] 1)=[]:=by kernel_rfl
theorem s_f8_r0_kA0:s_f8_r0_k.contains 0=false:=by kernel_rfl
def s_f8_r0:List AOper:=[
 ⟨some 2,(.move (.c (.s (.bool false)))),none⟩]
def s_f8_r0_tale:=hT s_f8_r0 s_f8_r0_k [] 3 [] [] [.cc (.s (.bool false))] (by kernel_rfl) (by kernel_rfl)
def s_f8_r1:List AOper:=[
 ⟨some 4,(.move (.t 0)),none⟩,
 ⟨some 5,(.lenS .s (.t 4)),none⟩,
 ⟨some 6,(.bin .gtr (.t 5) (.c (.s (.int .i64 20)))),none⟩]
def s_f8_r1_tale:=hT s_f8_r1 [4,5] [6] 7 [] [(6,(.op (.bin .gtr (.t 0) (.c (.s (.int .i64 20)))) [(.op (.lenS .s (.t 0)) [(.t 0)]),(.c (.s (.int .i64 20)))]))] [.tt 0,.sub 0 [0] [],.sub 0 [] []] (by kernel_rfl) (by kernel_rfl)
def s_f8_r2:List AOper:=[
 ⟨some 2,(.move (.c (.s (.bool true)))),none⟩]
def s_f8_r2_tale:=hT s_f8_r2 [0,6] [2] 3 [] [(2,(.c (.s (.bool true))))] [.cc (.s (.bool true))] (by kernel_rfl) (by kernel_rfl)
def s_f8_r3:List AOper:=[
 ⟨some 3,(.move (.c (.s (.int .i64 0)))),none⟩]
def s_f8_r3_tale:=hT s_f8_r3 [6] [3] 4 [] [(3,(.c (.s (.int .i64 0))))] [.cc (.s (.int .i64 0))] (by kernel_rfl) (by kernel_rfl)
def s_f8_r4:List AOper:=[
 ⟨some 7,(.move (.t 3)),none⟩,
 ⟨some 8,(.move (.t 0)),none⟩,
 ⟨some 9,(.lenS .s (.t 8)),none⟩,
 ⟨some 10,(.bin .lss (.t 7) (.t 9)),none⟩]
def s_f8_r4_tale:=hT s_f8_r4 [7,8,9] [10] 11 [] [(10,(.op (.bin .lss (.t 0) (.t 1)) [(.t 3),(.op (.lenS .s (.t 0)) [(.t 0)])]))] [.tt 3,.tt 0,.sub 0 [1] [],.sub 0 [] []] (by kernel_rfl) (by kernel_rfl)
def s_f8_r5:List AOper:=[
 ⟨some 13,(.move (.t 0)),none⟩,
 ⟨some 14,(.move (.t 3)),none⟩,
 ⟨some 15,(.indexAddr 1 (.t 13) (.t 14)),none⟩,
 ⟨some 16,(.load false 1 (.t 15)),none⟩,
 ⟨some 17,(.lenS .s (.t 16)),none⟩,
 ⟨some 18,(.bin .gtr (.t 17) (.c (.s (.int .i64 20)))),none⟩]
def s_f8_r5_tale:=hT s_f8_r5 [10,13,14,15,16,17] [18] 19 [] [(18,(.op (.bin .gtr (.t 0) (.c (.s (.int .i64 20)))) [(.op (.lenS .s (.t 0)) [(.op (.load false 1 (.t 0)) [(.op (.indexAddr 1 (.t 0) (.t 1)) [(.t 0),(.t 3)])])]),(.c (.s (.int .i64 20)))]))] [.tt 0,.tt 3,.sub 0 [0,0,0] [],.sub 0 [0,0] [],.sub 0 [0] [],.sub 0 [] []] (by kernel_rfl) (by kernel_rfl)
def s_f8_r6:List AOper:=[
 ⟨some 2,(.move (.c (.s (.bool true)))),none⟩]
def s_f8_r6_tale:=hT s_f8_r6 [0,3,18] [2] 3 [] [(2,(.c (.s (.bool true))))] [.cc (.s (.bool true))] (by kernel_rfl) (by kernel_rfl)
def s_f8_r7:List AOper:=[
 ⟨some 11,(.move (.t 3)),none⟩,
 ⟨some 12,(.bin .add (.t 11) (.c (.s (.int .i64 1)))),none⟩,
 ⟨some 3,(.move (.t 12)),none⟩]
def s_f8_r7_tale:=hT s_f8_r7 [11,12,18] [3] 13 [] [(3,(.op (.bin .add (.t 0) (.c (.s (.int .i64 1)))) [(.t 3),(.c (.s (.int .i64 1)))]))] [.tt 3,.sub 0 [] [],.sub 0 [] []] (by kernel_rfl) (by kernel_rfl)
def s_f8_l0_b:ACode:=
 (.seq (.seq (.regionE s_f8_r4 [7,8,9] [10])
 (.cond (.t 10)
 .skip
 (.exit 0)))
 (.seq (.block 1
 (.seq (.regionE s_f8_r5 [10,13,14,15,16,17] [18])
 (.cond (.t 18)
 (.seq (.regionE s_f8_r6 [0,3,18] [2])
 .ret)
 .skip)))
 (.regionE s_f8_r7 [11,12,18] [3])))
def s_f8_l0:ACode:=s_f8_l0_b
def s_f8_l0_ev:=hE s_f8_l0 s_f8_l0_b rfl
def s_f8_r8:List AOper:=[
 ⟨some 2,(.move (.c (.s (.bool false)))),none⟩]
def s_f8_r8_tale:=hT s_f8_r8 [0,3,10] [2] 3 [] [(2,(.c (.s (.bool false))))] [.cc (.s (.bool false))] (by kernel_rfl) (by kernel_rfl)
def s_f8:ACFun:={ ntmps:=19,results:=[(.tmp 2)],body:=
 (.seq (.regionE s_f8_r0 s_f8_r0_k [])
 (.seq (.seq (.regionE s_f8_r1 [4,5] [6])
 (.cond (.t 6)
 (.seq (.regionE s_f8_r2 [0,6] [2])
 .ret)
 .skip))
 (.seq (.seq (.regionE s_f8_r3 [6] [3])
 (.block 0
 (.loop [] s_f8_l0)))
 (.seq (.regionE s_f8_r8 [0,3,10] [2])
 .ret)))) }
abbrev k_f9:Nat:=9
def a_f8:=ai @s_f8_r0_tale (ai @s_f8_r0_kT (ai @s_f8_r0_kA0 (ai @s_f8_r1_tale (ai @s_f8_r2_tale (ai @s_f8_r3_tale (ai @s_f8_r4_tale (ai @s_f8_r5_tale (ai @s_f8_r6_tale (ai @s_f8_r7_tale (ai @s_f8_l0_ev (@s_f8_r8_tale)))))))))))
theorem DA5_8:compK Try.prog PX0 8=some (false,s_f8.ntmps,s_f8.results,s_f8.body.bare):=by kernel_rfl
end Go.Proofs.Ytdmnenlpdeolaaa
set_option maxRecDepth 100000
namespace Go.Proofs.Ytdmnenlpdeolaaa
open Go.AM
def great9 (G:List (List Int)):Bool:=decide (G.length > 20) || G.any fun r=>decide (r.length > 20)
theorem great9_small {G:List (List Int)} (h:great9 G=false):G.length≤20∧∀ r∈G,r.length≤20:=by
 unfold great9 at h
 rw [Bool.or_eq_false_iff] at h
 refine ⟨by have:=of_decide_eq_false h.1;omega,fun r hr=>?_⟩
 have:=h.2
 rw [List.any_eq_false] at this
 have:=this r hr
 simp at this
 exact this
section
variable {CT:Nat→Option CFun}
theorem great9_fun (hT:CT k_f8=some (.code s_f8)) (base:Nat) (H:Heap) (v:V) (G:List (List Int)) (hv:RdRows H v (rowsV G)):
 callW CT (.fn k_f8 [] []) [v] base H=some (.s (.bool (great9 G)),H):=by
 have hvl:=rows_lenV hv
 refine callW_fn (c:=s_f8) hT (by simp [s_f8]) ?_
 by_cases hn:G.length > 20
 ·have h0:decide ((G.length:Int) > 20)=true:=by rw [decide_eq_true_iff];omega
  have h1:great9 G=true:=by unfold great9;rw [decide_eq_true hn,Bool.true_or]
  simp only [s_f8,a_f8,s_f8_l0_b,aa,bl,i64,reduceIte,reduceCtorEq,Nat.reduceEqDiff,Nat.reduceLT,Nat.reduceLeDiff,Nat.reduceBEq,Nat.reduceAdd,fillA,splice,Nat.reduceMul,amY,op_eqP,hvl,h0,h1]
 ·have h0:decide ((G.length:Int) > 20)=false:=by rw [decide_eq_false_iff_not];omega
  have step:∀ i,i < G.length→decide ((G.getD i []).length > 20)=false→itW (evC (callW CT) itW base s_f8_l0) [] H.length (frOf 19 [(0,v),(3,.s (.int .i64 i))]) H=itW (evC (callW CT) itW base s_f8_l0) [] H.length (frOf 19 [(0,v),(3,.s (.int .i64 (i+1:Nat)))]) H:=by
   intro i hi hs
   have hlt':((i:Int) < (G.length:Int)):=by omega
   have hwk:=w64 (n:=i) (by omega)
   obtain ⟨ra,rx,r1,r2,r3,r4⟩:=rows_at hv (some_getD hi [])
   have hl:=iV_len r3
   have hs':decide (((G.getD i []).length:Int) > 20)=false:=by have:=of_decide_eq_false hs;rw [decide_eq_false_iff_not];omega
   rw [itW_step]
   simp only [a_f8,s_f8_l0_b,aa,bl,i64,reduceIte,reduceCtorEq,Nat.reduceEqDiff,Nat.reduceLT,Nat.reduceLeDiff,Nat.reduceBEq,Nat.reduceAdd,fillA,splice,Nat.reduceMul,amY,op_eqP,hvl,hlt',r1,r2,hl,hs',hwk,trim_same rfl]
  rcases it_find G.length (fun i=>decide ((G.getD i []).length > 20)) (fun i=>itW (evC (callW CT) itW base s_f8_l0) [] H.length (frOf 19 [(0,v),(3,.s (.int .i64 i))]) H) step with ⟨h1,h2⟩ | ⟨i,hi,h1,_,h3⟩
  ·have hg:great9 G=false:=by
    unfold great9
    rw [decide_eq_false hn,Bool.false_or,List.any_eq_false]
    intro r hr
    obtain ⟨i,hi⟩:=List.mem_iff_getElem?.1 hr
    have:=h1 i (List.getElem?_eq_some_iff.1 hi).1
    rw [getD_some hi []] at this
    rw [this];simp
   have hend:itW (evC (callW CT) itW base s_f8_l0) [] H.length (frOf 19 [(0,v),(3,.s (.int .i64 G.length))]) H=some (.ext 0,frOf 19 [(0,v),(3,.s (.int .i64 G.length)),(10,bl false)],H):=by
    rw [itW_step]
    simp only [bl,a_f8,s_f8_l0_b,aa,bl,i64,reduceIte,reduceCtorEq,Nat.reduceEqDiff,Nat.reduceLT,Nat.reduceLeDiff,Nat.reduceBEq,Nat.reduceAdd,fillA,splice,Nat.reduceMul,amY,op_eqP,hvl,Int.lt_irrefl,trim_same rfl]
   have h4:=h2.trans hend
   simp only [bl,cast0] at h4
   simp only [s_f8,a_f8,s_f8_l0_b,aa,bl,i64,reduceIte,reduceCtorEq,Nat.reduceEqDiff,Nat.reduceLT,Nat.reduceLeDiff,Nat.reduceBEq,Nat.reduceAdd,fillA,splice,Nat.reduceMul,amY,op_eqP,hvl,h0,h4,hg]
  ·have hg:great9 G=true:=by
    unfold great9
    rw [Bool.or_eq_true,List.any_eq_true]
    exact .inr ⟨_,List.mem_of_getElem? (some_getD hi []),h1⟩
   have hlt':((i:Int) < (G.length:Int)):=by omega
   obtain ⟨ra,rx,r1,r2,r3,r4⟩:=rows_at hv (some_getD hi [])
   have hl:=iV_len r3
   have hs':decide (((G.getD i []).length:Int) > 20)=true:=by have:=of_decide_eq_true h1;rw [decide_eq_true_iff];omega
   have hend:itW (evC (callW CT) itW base s_f8_l0) [] H.length (frOf 19 [(0,v),(3,.s (.int .i64 i))]) H=some (.ret,frOf 19 [(2,bl true)],H):=by
    rw [itW_step]
    simp only [bl,a_f8,s_f8_l0_b,aa,bl,i64,reduceIte,reduceCtorEq,Nat.reduceEqDiff,Nat.reduceLT,Nat.reduceLeDiff,Nat.reduceBEq,Nat.reduceAdd,fillA,splice,Nat.reduceMul,amY,op_eqP,hvl,hlt',r1,r2,hl,hs']
   have h4:=h3.trans hend
   simp only [bl,cast0] at h4
   simp only [s_f8,a_f8,s_f8_l0_b,aa,bl,i64,reduceIte,reduceCtorEq,Nat.reduceEqDiff,Nat.reduceLT,Nat.reduceLeDiff,Nat.reduceBEq,Nat.reduceAdd,fillA,splice,Nat.reduceMul,amY,op_eqP,hvl,h0,h4,hg]
def domR (T:List Int) (a:Int):Nat→Nat→Bool
 | 0,_=>false
 | m+1,b=>if a=(b:Int) then true else if T.getD b 0 < 0∨(T.length:Int)≤T.getD b 0 then false else domR T a m (T.getD b 0).toNat
def domB (T:List Int) (a b:Int):Bool:=if a < 0∨b < 0∨(T.length:Int)≤a∨(T.length:Int)≤b then false else if T.getD b.toNat 0=-2 then false else domR T a (T.length+1) b.toNat
theorem dom_loop (base:Nat) (H:Heap) (v:V) (T:List Int) (a:Int) (hv:Rd H v (T.map iV)) (hw:Wide1 v) (hn:T.length < 2 ^ 40):∀ (m b j:Nat),j+m=T.length+1→b < T.length→
 (domR T a m b=true∧itW (evC (callW CT) itW base s_f13_l0) [] H.length (frOf 53 [(0,v),(1,.s (.int .i64 a)),(2,.s (.int .i64 b)),(34,.s (.int .i64 (T.length+1:Nat))),(35,.s (.int .i64 j))]) H=some (.ret,frOf 53 [(6,bl true)],H))∨
 (domR T a m b=false∧(itW (evC (callW CT) itW base s_f13_l0) [] H.length (frOf 53 [(0,v),(1,.s (.int .i64 a)),(2,.s (.int .i64 b)),(34,.s (.int .i64 (T.length+1:Nat))),(35,.s (.int .i64 j))]) H=some (.ret,frOf 53 [(6,bl false)],H)∨∃ c:Nat,itW (evC (callW CT) itW base s_f13_l0) [] H.length (frOf 53 [(0,v),(1,.s (.int .i64 a)),(2,.s (.int .i64 b)),(34,.s (.int .i64 (T.length+1:Nat))),(35,.s (.int .i64 j))]) H=some (.ext 0,frOf 53 [(0,v),(1,.s (.int .i64 a)),(2,.s (.int .i64 c)),(34,.s (.int .i64 (T.length+1:Nat))),(35,.s (.int .i64 (T.length+1:Nat))),(36,bl false)],H))):=by
 intro m
 induction m with
 | zero=>
   intro b j hj hb
   obtain rfl:j=T.length+1:=by omega
   refine .inr ⟨rfl,.inr ⟨b,?_⟩⟩
   rw [itW_step]
   simp only [a_f13,s_f13_l0_b,aa,bl,i64,reduceIte,reduceCtorEq,Nat.reduceEqDiff,Nat.reduceLT,Nat.reduceLeDiff,Nat.reduceBEq,Nat.reduceAdd,fillA,splice,Nat.reduceMul,amY,op_eqP,Int.lt_irrefl,trim_same rfl,bl]
 | succ m ih=>
   intro b j hj hb
   have hlt':(j:Int) < ((T.length+1:Nat):Int):=by omega
   have hwk:=w64 (n:=j) (by omega)
   have hvl:=iV_len hv
   obtain ⟨ad,x1,x2⟩:=iV_at hv hw (some_getD hb (0:Int))
   by_cases hab:a=(b:Int)
   ·have e:(a == (b:Int))=true:=by rw [hab];simp
    refine .inl ⟨by rw [domR,if_pos hab],?_⟩
    rw [itW_step]
    simp only [a_f13,s_f13_l0_b,aa,bl,i64,reduceIte,reduceCtorEq,Nat.reduceEqDiff,Nat.reduceLT,Nat.reduceLeDiff,Nat.reduceBEq,Nat.reduceAdd,fillA,splice,Nat.reduceMul,amY,op_eqP,hlt',e,bl]
   ·have e:(a == (b:Int))=false:=by rw [beq_eq_false_iff_ne];exact hab
    by_cases h1:T.getD b 0 < 0
    ·refine .inr ⟨by rw [domR,if_neg hab,if_pos (.inl h1)],.inl ?_⟩
     rw [itW_step]
     simp only [a_f13,s_f13_l0_b,aa,bl,i64,reduceIte,reduceCtorEq,Nat.reduceEqDiff,Nat.reduceLT,Nat.reduceLeDiff,Nat.reduceBEq,Nat.reduceAdd,fillA,splice,Nat.reduceMul,amY,op_eqP,hlt',e,bl,x1,x2,h1]
    ·by_cases h2:(T.length:Int)≤T.getD b 0
     ·refine .inr ⟨by rw [domR,if_neg hab,if_pos (.inr h2)],.inl ?_⟩
      rw [itW_step]
      simp only [a_f13,s_f13_l0_b,aa,bl,i64,reduceIte,reduceCtorEq,Nat.reduceEqDiff,Nat.reduceLT,Nat.reduceLeDiff,Nat.reduceBEq,Nat.reduceAdd,fillA,splice,Nat.reduceMul,amY,op_eqP,hlt',e,bl,x1,x2,h1,hvl,ge_iff_le,h2]
     ·obtain ⟨d,hd⟩:=Int.eq_ofNat_of_zero_le (show 0≤T.getD b 0 by omega)
      have hst:itW (evC (callW CT) itW base s_f13_l0) [] H.length (frOf 53 [(0,v),(1,.s (.int .i64 a)),(2,.s (.int .i64 b)),(34,.s (.int .i64 (T.length+1:Nat))),(35,.s (.int .i64 j))]) H=itW (evC (callW CT) itW base s_f13_l0) [] H.length (frOf 53 [(0,v),(1,.s (.int .i64 a)),(2,.s (.int .i64 d)),(34,.s (.int .i64 (T.length+1:Nat))),(35,.s (.int .i64 (j+1:Nat)))]) H:=by
       conv=>lhs;rw [itW_step]
       simp only [hd] at x2 h1 h2
       simp only [a_f13,s_f13_l0_b,aa,bl,i64,reduceIte,reduceCtorEq,Nat.reduceEqDiff,Nat.reduceLT,Nat.reduceLeDiff,Nat.reduceBEq,Nat.reduceAdd,fillA,splice,Nat.reduceMul,amY,op_eqP,hlt',e,x1,x2,h1,hvl,ge_iff_le,h2,hwk,trim_same rfl]
      have hr:domR T a (m+1) b=domR T a m d:=by rw [domR,if_neg hab,if_neg (by omega),hd];rfl
      rw [hst,hr]
      exact ih d (j+1) (by omega) (by omega)
theorem dom_fun (hT:CT k_f13=some (.code s_f13)) (base:Nat) (H:Heap) (v:V) (T:List Int) (a b:Int) (hv:Rd H v (T.map iV)) (hw:Wide1 v) (hn:T.length < 2 ^ 40):
 callW CT (.fn k_f13 [] []) [v,.s (.int .i64 a),.s (.int .i64 b)] base H=some (.s (.bool (domB T a b)),H):=by
 have hvl:=iV_len hv
 refine callW_fn (c:=s_f13) hT (by simp [s_f13]) ?_
 by_cases h1:a < 0
 ·have hf:domB T a b=false:=by rw [domB,if_pos (.inl h1)]
  simp only [s_f13,a_f13,s_f13_l0_b,aa,bl,i64,reduceIte,reduceCtorEq,Nat.reduceEqDiff,Nat.reduceLT,Nat.reduceLeDiff,Nat.reduceBEq,Nat.reduceAdd,fillA,splice,Nat.reduceMul,amY,op_eqP,h1,hf]
 by_cases h2:b < 0
 ·have hf:domB T a b=false:=by rw [domB,if_pos (.inr (.inl h2))]
  simp only [s_f13,a_f13,s_f13_l0_b,aa,bl,i64,reduceIte,reduceCtorEq,Nat.reduceEqDiff,Nat.reduceLT,Nat.reduceLeDiff,Nat.reduceBEq,Nat.reduceAdd,fillA,splice,Nat.reduceMul,amY,op_eqP,h1,h2,hf]
 by_cases h3:(T.length:Int)≤a
 ·have hf:domB T a b=false:=by rw [domB,if_pos (.inr (.inr (.inl h3)))]
  simp only [s_f13,a_f13,s_f13_l0_b,aa,bl,i64,reduceIte,reduceCtorEq,Nat.reduceEqDiff,Nat.reduceLT,Nat.reduceLeDiff,Nat.reduceBEq,Nat.reduceAdd,fillA,splice,Nat.reduceMul,amY,op_eqP,h1,h2,hvl,ge_iff_le,h3,hf]
 by_cases h4:(T.length:Int)≤b
 ·have hf:domB T a b=false:=by rw [domB,if_pos (.inr (.inr (.inr h4)))]
  simp only [s_f13,a_f13,s_f13_l0_b,aa,bl,i64,reduceIte,reduceCtorEq,Nat.reduceEqDiff,Nat.reduceLT,Nat.reduceLeDiff,Nat.reduceBEq,Nat.reduceAdd,fillA,splice,Nat.reduceMul,amY,op_eqP,h1,h2,hvl,ge_iff_le,h3,h4,hf]
 obtain ⟨k,rfl⟩:=Int.eq_ofNat_of_zero_le (show 0≤b by omega)
 have hk:k < T.length:=by omega
 obtain ⟨ad,x1,x2⟩:=iV_at hv hw (some_getD hk (0:Int))
 have hb0:domB T a k=if T.getD k 0=-2 then false else domR T a (T.length+1) k:=by
  rw [domB,if_neg (by omega),Int.toNat_natCast]
 by_cases h5:T.getD k 0=-2
 ·have e:(T.getD k 0 == -2)=true:=by rw [h5];rfl
  rw [hb0,if_pos h5]
  simp only [s_f13,a_f13,s_f13_l0_b,aa,bl,i64,reduceIte,reduceCtorEq,Nat.reduceEqDiff,Nat.reduceLT,Nat.reduceLeDiff,Nat.reduceBEq,Nat.reduceAdd,fillA,splice,Nat.reduceMul,amY,op_eqP,h1,h2,hvl,ge_iff_le,h3,h4,x1,x2,e]
 ·have e:(T.getD k 0 == -2)=false:=by rw [beq_eq_false_iff_ne];exact h5
  have hwk:=w64 (n:=T.length) (by omega)
  rw [hb0,if_neg h5]
  rcases dom_loop (CT:=CT) base H v T a hv hw hn (T.length+1) k 0 (by omega) hk with ⟨d1,d2⟩ | ⟨d1,d2 | ⟨c,d2⟩⟩
  all_goals
   rw [d1]
   simp only [bl,cast0] at d2
   simp only [s_f13,a_f13,s_f13_l0_b,aa,bl,i64,reduceIte,reduceCtorEq,Nat.reduceEqDiff,Nat.reduceLT,Nat.reduceLeDiff,Nat.reduceBEq,Nat.reduceAdd,fillA,splice,Nat.reduceMul,amY,op_eqP,h1,h2,hvl,ge_iff_le,h3,h4,x1,x2,e,hwk,d2]
theorem domR_anc {T:List Int} {lvl:Nat→Nat} (hlv:∀ b d:Nat,T[b]?=some (d:Int)→lvl d < lvl b) (hlt:∀ b d:Nat,T[b]?=some (d:Int)→d < T.length) {a:Nat}:∀ (m b:Nat),b < T.length→lvl b < m→(domR T a m b=true↔AncT T b a):=by
 intro m
 induction m with
 | zero=>intro b _ h;omega
 | succ m ih=>
   intro b hb hm
   rw [domR]
   by_cases hab:(a:Int)=(b:Int)
   ·have:a=b:=by omega
    rw [if_pos hab,this]
    exact ⟨fun _=>.refl _,fun _=>rfl⟩
   ·rw [if_neg hab]
    have hT:=some_getD hb (0:Int)
    by_cases h1:T.getD b 0 < 0∨(T.length:Int)≤T.getD b 0
    ·rw [if_pos h1]
     refine ⟨fun h=>absurd h (by simp),fun h=>?_⟩
     cases h with
     | refl=>exact absurd rfl hab
     | up h2 h3=>
       rename_i d
       rw [hT] at h2
       have:=hlt b d (hT.trans h2)
       have:=Option.some.inj h2
       omega
    ·rw [if_neg h1]
     obtain ⟨d,hd⟩:=Int.eq_ofNat_of_zero_le (show 0≤T.getD b 0 by omega)
     rw [hd] at hT ⊢
     have:=hlv b d hT
     rw [Int.toNat_natCast,ih d (hlt b d hT) (by omega)]
     refine ⟨fun h=>.up hT h,fun h=>?_⟩
     cases h with
     | refl=>exact absurd rfl hab
     | up h2 h3=>
       rw [hT] at h2
       have:=Option.some.inj h2
       rename_i e
       have:d=e:=by omega
       rwa [this]
theorem TreeOk.nat {G:List (List Int)} {q:Int} {T:List Int} {lvl:Nat→Nat} (h:TreeOk G q T lvl) {b d:Nat} (hb:T[b]?=some (d:Int)):Rch G [q] b∧(b:Int)≠q∧Rch G [q] d∧lvl d < lvl b:=by
 have hbn:=(List.getElem?_eq_some_iff.1 hb).1
 have hT:=getD_some hb 0
 rw [h.len] at hbn
 have hR:Rch G [q] b:=Classical.byContradiction fun hc=>by
  have:=h.un b hbn hc
  omega
 have hq:(b:Int)≠q:=fun e=>by have:=h.rt b e.symm hbn;omega
 obtain ⟨d',e,h1,h2⟩:=h.id b hR hq
 have:d'=d:=by omega
 subst this
 exact ⟨hR,hq,h1,h2⟩
theorem TreeOk.dom {G:List (List Int)} {q:Int} {T:List Int} {lvl:Nat→Nat} (h:TreeOk G q T lvl) (a b:Int):domB T a b=true↔∃ x y:Nat,a=x∧b=y∧x < G.length∧Rch G [q] y∧AncT T y x:=by
 have hlen:=h.len
 unfold domB
 by_cases h1:a < 0∨b < 0∨(T.length:Int)≤a∨(T.length:Int)≤b
 ·rw [if_pos h1]
  refine ⟨fun k=>absurd k (by simp),fun ⟨x,y,e1,e2,h2,h3,_⟩=>?_⟩
  have:=rch_lt h3
  omega
 ·rw [if_neg h1]
  obtain ⟨x,rfl⟩:=Int.eq_ofNat_of_zero_le (show 0≤a by omega)
  obtain ⟨y,rfl⟩:=Int.eq_ofNat_of_zero_le (show 0≤b by omega)
  rw [Int.toNat_natCast]
  by_cases hR:Rch G [q] y
  ·have hT:¬ T.getD y 0=-2:=by
    by_cases e:(y:Int)=q
    ·rw [h.rt y e.symm (by omega)];omega
    ·obtain ⟨d,e,_⟩:=h.id y hR e
     omega
   have:=h.lv y hR
   rw [if_neg hT,domR_anc (lvl:=lvl) (fun b d hb=>(h.nat hb).2.2.2) (fun b d hb=>by rw [hlen];exact rch_lt (h.nat hb).2.2.1) _ y (by omega) (by omega)]
   exact ⟨fun k=>⟨x,y,rfl,rfl,by omega,hR,k⟩,fun ⟨x',y',e1,e2,_,_,k⟩=>by
    have e1:x=x':=by omega
    have e2:y=y':=by omega
    subst e1;subst e2;exact k⟩
  ·rw [if_pos (h.un y (by omega) hR)]
   refine ⟨fun k=>absurd k (by simp),fun ⟨x',y',e1,e2,h2,h3,_⟩=>?_⟩
   have e2:y=y':=by omega
   subst e2
   exact absurd h3 hR
theorem anc_trans {T:List Int} {a b c:Nat} (h:AncT T a b) (k:AncT T b c):AncT T a c:=by
 induction h with
 | refl=>exact k
 | up h1 _ ih=>exact .up h1 (ih k)
theorem anc_lin {T:List Int} {a b c:Nat} (h:AncT T a b) (k:AncT T a c):AncT T b c∨AncT T c b:=by
 induction h with
 | refl=>exact .inl k
 | up h1 h2 ih=>
   cases k with
   | refl=>exact .inr (.up h1 h2)
   | up k1 k2=>
     rw [h1] at k1
     have:=Option.some.inj k1
     rename_i d _ e
     have:d=e:=by omega
     subst this
     exact ih k2
theorem anc_lvl {T:List Int} {lvl:Nat→Nat} (hlv:∀ b d:Nat,T[b]?=some (d:Int)→lvl d < lvl b) {a b:Nat} (h:AncT T a b):lvl b≤lvl a∧(a≠b→lvl b < lvl a):=by
 induction h with
 | refl=>exact ⟨Nat.le_refl _,fun h=>absurd rfl h⟩
 | up h1 _ ih=>have:=hlv _ _ h1;exact ⟨by omega,fun _=>by omega⟩
theorem TreeOk.lin {G:List (List Int)} {q:Int} {T:List Int} {lvl:Nat→Nat} (h:TreeOk G q T lvl) {a b c:Int} (h1:domB T a b=true) (h2:domB T c b=true):domB T a c=true∨domB T c a=true:=by
 rw [h.dom] at h1 h2 ⊢
 rw [h.dom]
 obtain ⟨x,y,rfl,rfl,p1,p2,p3⟩:=h1
 obtain ⟨z,y',rfl,e,q1,q2,q3⟩:=h2
 have e:y=y':=by omega
 subst e
 have up:∀ {y x:Nat},Rch G [q] y→AncT T y x→Rch G [q] x:=fun {y x} hR k=>by
  induction k with
  | refl=>exact hR
  | up k1 _ ih=>exact ih (h.nat k1).2.2.1
 rcases anc_lin p3 q3 with k | k
 ·exact .inr ⟨z,x,rfl,rfl,q1,up p2 p3,k⟩
 ·exact .inl ⟨x,z,rfl,rfl,p1,up q2 q3,k⟩
theorem TreeOk.tra {G:List (List Int)} {q:Int} {T:List Int} {lvl:Nat→Nat} (h:TreeOk G q T lvl) {a b c:Int} (h1:domB T a c=true) (h2:domB T c b=true):domB T a b=true:=by
 rw [h.dom] at h1 h2 ⊢
 obtain ⟨x,y,rfl,rfl,p1,p2,p3⟩:=h1
 obtain ⟨z,y',e,rfl,q1,q2,q3⟩:=h2
 have e:y=z:=by omega
 subst e
 exact ⟨x,y',rfl,rfl,p1,q2,anc_trans q3 p3⟩
theorem TreeOk.anti {G:List (List Int)} {q:Int} {T:List Int} {lvl:Nat→Nat} (h:TreeOk G q T lvl) {a b:Int} (h1:domB T a b=true) (h2:domB T b a=true):a=b:=by
 rw [h.dom] at h1 h2
 obtain ⟨x,y,rfl,rfl,p1,p2,p3⟩:=h1
 obtain ⟨z,y',e1,e2,q1,q2,q3⟩:=h2
 have e1:y=z:=by omega
 have e2:x=y':=by omega
 subst e1;subst e2
 have k1:=anc_lvl (lvl:=lvl) (fun b d hb=>(h.nat hb).2.2.2) p3
 have k2:=anc_lvl (lvl:=lvl) (fun b d hb=>(h.nat hb).2.2.2) q3
 by_cases e:x=y
 ·rw [e]
 ·have:=k1.2 (Ne.symm e)
  omega
end
end Go.Proofs.Ytdmnenlpdeolaaa
