/- Texts of the proof: DomL2, DomL3, DomR1, DomF1, DomF2, DomF3, DomF4, DomQ1, DomR2, DomR3, DomR4, DomI1, DomI2, DomR5, DomR6, DomR7, DomS6, DomL4. -/
import Derived.Test.YtdmnenlpdeolaaaP0
import Derived.Test.YtdmnenlpdeolaaaP1
import Derived.Test.YtdmnenlpdeolaaaP2
import Derived.Test.YtdmnenlpdeolaaaP3
import Derived.Test.YtdmnenlpdeolaaaP4
import Derived.Test.YtdmnenlpdeolaaaP5
set_option linter.all false
set_option maxRecDepth 100000
namespace Go.Proofs.Ytdmnenlpdeolaaa
open Go.AM
section
variable {CT:Nat→Option CFun}
structure CL9 (CT:Nat→Option CFun):Prop where
 t:CT9 CT
 dom:CT k_f13=some (.code s_f13)
 great:CT k_f8=some (.code s_f8)
 wakes:∀ base H,callW CT (.fn k_f9 [] []) [] base H=some (.s (.bool true),H)
end
end Go.Proofs.Ytdmnenlpdeolaaa
set_option maxRecDepth 100000
namespace Go.Proofs.Ytdmnenlpdeolaaa
open Go.AM
theorem getD_set_self {G:List (List Int)} {a:Nat} (r:List Int) (ha:a < G.length):(G.set a r).getD a []=r:=by
 rw [List.getD,List.getElem?_set_self ha];rfl
theorem getD_set_ne {G:List (List Int)} {a p:Nat} (r:List Int) (h:a≠p):(G.set a r).getD p []=G.getD p []:=by
 rw [List.getD,List.getD,List.getElem?_set_ne h]
theorem rav_ne {G:List (List Int)} {q:Int} {a b:Nat} (h:RavG G q a b):a≠b:=by
 cases h with
 | root _ _ _ h=>exact h
 | step p b _ _ _ h=>exact Ne.symm h
theorem rav_cut {G:List (List Int)} {q:Int} {a b:Nat} (ha:a < G.length) (hab:a≠b) (haq:(a:Int)≠q):RavG G q a b↔Rch (G.set a []) [q] b:=by
 constructor
 ·intro h
  clear hab
  induction h with
  | root k h1 h2 h3=>exact .base k (by rw [h1];simp) (by rw [List.length_set];exact h2)
  | step p b h1 h2 h3 h4 ih=>exact .step p b ih (by rw [getD_set_ne _ (rav_ne h1)];exact h2) (by rw [List.length_set];exact h3)
 ·intro h
  induction h with
  | base k h1 h2=>exact .root k (List.mem_singleton.1 h1).symm (by rwa [List.length_set] at h2) (by omega)
  | step p b h1 h2 h3 ih=>
    have hp:a≠p:=fun e=>by
     rw [← e,getD_set_self _ ha] at h2
     cases h2
    rw [getD_set_ne _ hp] at h2
    rw [List.length_set] at h3
    exact .step p b (ih hp) h2 h3 (Ne.symm hab)
theorem rav_root {G:List (List Int)} {q a:Nat} {b:Nat} (h:RavG G (q:Int) a b):a≠q:=by
 induction h with
 | root k h1 _ h3=>omega
 | step _ _ _ _ _ _ ih=>exact ih
theorem TreeOk.must {G:List (List Int)} {q:Int} {T:List Int} {lvl:Nat→Nat} (h:TreeOk G q T lvl) {a b:Nat} (ha:a < G.length) (hb:b < G.length):
 domB T a b=(!(T.getD b 0 == -2) && (((a:Int) == (b:Int)) || ((a:Int) == q) || !leadsB (G.set a []) q b)):=by
 have hd:=h.dom (a:Int) (b:Int)
 have hun:T.getD b 0=-2↔¬ Rch G [q] b:=by
  constructor
  ·intro e hR
   by_cases eq:(b:Int)=q
   ·have:=h.rt b eq.symm hb;omega
   ·obtain ⟨d,e2,_⟩:=h.id b hR eq
    omega
  ·exact h.un b hb
 by_cases hR:Rch G [q] b
 ·have e1:(T.getD b 0 == -2)=false:=by rw [beq_eq_false_iff_ne];exact fun e=>hun.1 e hR
  rw [e1,Bool.eq_iff_iff,hd]
  have hdm:=h.dm a b hR
  by_cases hab:a=b
  ·subst hab
   simp only [beq_self_eq_true,Bool.true_or,Bool.not_false,Bool.and_self,iff_true]
   exact ⟨a,a,rfl,rfl,ha,hR,.refl a⟩
  ·have e2:((a:Int) == (b:Int))=false:=by rw [beq_eq_false_iff_ne];omega
   by_cases haq:(a:Int)=q
   ·have e3:((a:Int) == q)=true:=by rw [haq];simp
    rw [e2,e3]
    simp only [Bool.or_true,Bool.true_or,Bool.not_false,Bool.and_self,iff_true]
    refine ⟨a,b,rfl,rfl,ha,hR,hdm.2 fun k=>?_⟩
    rw [← haq] at k
    exact rav_root k rfl
   ·have e3:((a:Int) == q)=false:=by rw [beq_eq_false_iff_ne];exact haq
    have hc:=rav_cut (q:=q) ha hab haq
    rw [e2,e3]
    simp only [Bool.or_false,Bool.false_or,Bool.not_false,Bool.true_and,Bool.not_eq_true']
    rw [Bool.eq_false_iff,Ne,leadsB_nat,← hc,← hdm]
    exact ⟨fun ⟨x,y,p1,p2,_,_,k⟩=>by
     have p1:a=x:=by omega
     have p2:b=y:=by omega
     subst p1;subst p2;exact k,fun k=>⟨a,b,rfl,rfl,ha,hR,k⟩⟩
 ·have e1:(T.getD b 0 == -2)=true:=by rw [beq_iff_eq];exact hun.2 hR
  rw [e1,Bool.eq_iff_iff,hd]
  simp only [Bool.not_true,Bool.false_and,Bool.false_eq_true,iff_false]
  rintro ⟨x,y,_,p2,_,p3,_⟩
  have p2:b=y:=by omega
  subst p2
  exact hR p3
theorem TreeOk.up {G:List (List Int)} {q:Int} {T:List Int} {lvl:Nat→Nat} (h:TreeOk G q T lvl) {a b:Nat} (hb:b < G.length) (hab:(a:Int)≠(b:Int)) (h1:domB T a b=true) (h2:0≤T.getD b 0):domB T a (T.getD b 0)=true:=by
 rw [h.dom] at h1 ⊢
 obtain ⟨x,y,p1,p2,p3,p4,p5⟩:=h1
 have p1:a=x:=by omega
 have p2:b=y:=by omega
 subst p1;subst p2
 obtain ⟨d,hd⟩:=Int.eq_ofNat_of_zero_le h2
 cases p5 with
 | refl=>exact absurd rfl hab
 | up k1 k2=>
   rename_i e
   have k3:=getD_some k1 0
   rw [k3]
   exact ⟨a,e,rfl,rfl,p3,(h.nat k1).2.2.1,k2⟩
theorem cut_rows {H:Heap} {v:V} {G:List (List Int)} {base a:Nat} (hv:RdRows H v (rowsV G)) (ha:a < G.length) (hn:G.length < 2 ^ 18):
 ∃ vs:List V,vs.length=G.length∧appendV H base 1 24 (.s (.slice none 0 0)) v=some (.sl H.length 0 0 G.length 1,H ++ [.cells 0 vs])∧RdRows (H ++ [.cells 0 (vs.set a (.s (.slice none 0 0)))]) (.sl H.length 0 0 G.length 1) (rowsV (G.set a [])):=by
 obtain ⟨vs,h1,h2,h3,h4⟩:=hv
 rw [rowsV_len] at h3
 have ho:vs.all V.one=true:=by
  rw [List.all_eq_true]
  intro x hx
  obtain ⟨i,hi⟩:=List.mem_iff_getElem?.1 hx
  have hi2:i < G.length:=by rw [← h3];exact (List.getElem?_eq_some_iff.1 hi).1
  obtain ⟨y,e,k,_⟩:=h4 i _ (rowsV_get (some_getD hi2 []))
  rw [hi] at e
  rw [Option.some.inj e]
  exact k.one
 have hap:=appendV_nil (base:=base) (bytes:=24) h1 ho (by omega)
 rw [if_neg (by omega),h3] at hap
 have hRd:Rd (H ++ [.cells 0 (vs.set a (.s (.slice none 0 0)))]) (.sl H.length 0 0 G.length 1) (vs.set a (.s (.slice none 0 0))):=by
  have:=getC_sl (getC_new H 0 (vs.set a (.s (.slice none 0 0))))
  rwa [List.length_set,h3] at this
 refine ⟨vs,h3,hap,vs.set a (.s (.slice none 0 0)),hRd,trivial,by rw [List.length_set,rowsV_len,List.length_set];exact h3,fun i r hr=>?_⟩
 by_cases hi:a=i
 ·subst hi
  rw [rowsV_get (show (G.set a [])[a]?=some [] by rw [List.getElem?_set_self ha])] at hr
  obtain rfl:=Option.some.inj hr
  exact ⟨nilS,by rw [List.getElem?_set_self (by omega)];rfl,Rd.nil _,trivial⟩
 ·have hr':(rowsV G)[i]?=some r:=by
   rw [rowsV,List.getElem?_map] at hr ⊢
   rwa [List.getElem?_set_ne hi] at hr
  obtain ⟨x,e,k1,k2⟩:=h4 i r hr'
  exact ⟨x,by rw [List.getElem?_set_ne hi];exact e,k1.ext (Ext.app _ _),k2⟩
section
variable {CT:Nat→Option CFun}
end
end Go.Proofs.Ytdmnenlpdeolaaa
set_option maxRecDepth 100000
namespace Go.Proofs.Ytdmnenlpdeolaaa
open Go.AM
section
variable {CT:Nat→Option CFun}
theorem without_fun (hW:CT k_f44=some (.code s_f44)) (base:Nat) {H:Heap} {v:V} {G:List (List Int)} {a:Nat} (hb:base≤H.length) (hv:RdRows H v (rowsV G)) (ha:a < G.length) (hn:G.length < 2 ^ 18):
 ∃ v' H',callW CT (.fn k_f44 [] []) [v,.s (.int .i64 a)] base H=some (v',H')∧Ext H H'∧RdRows H' v' (rowsV (G.set a [])):=by
 obtain ⟨vs,v1,v2,v3⟩:=cut_rows (base:=base) hv ha hn
 have st:=storeV_at (v:=.s (.slice none 0 0)) (base:=base) (getC_new H 0 vs) (by omega) rfl (off:=a) (by omega)
 rw [set_snoc] at st
 have hix:(0≤(a:Int)∧(a:Int) < (G.length:Int)∧1=1):=by omega
 refine ⟨_,_,callW_fn (c:=s_f44) hW (by simp [s_f44]) ?_,Ext.app _ _,v3⟩
 simp only [s_f44,a_f44,aa,bl,i64,reduceIte,reduceCtorEq,Nat.reduceEqDiff,Nat.reduceLT,Nat.reduceLeDiff,Nat.reduceBEq,Nat.reduceAdd,fillA,splice,Nat.reduceMul,amY,op_eqP,v2,hix,st]
theorem dominates_fun (h:CR CT) (hW:CT k_f44=some (.code s_f44)) (hD:CT k_f28=some (.code s_f28)) (base:Nat) {H:Heap} {v:V} {G:List (List Int)} {q:Int} {T:List Int} {lvl:Nat→Nat} (ok:TreeOk G q T lvl) {a b:Nat} (hb:base≤H.length) (hv:RdRows H v (rowsV G)) (ha:a < G.length) (hbn:b < G.length) (hn:G.length < 2 ^ 18) (hr:∀ r∈G,r.length < 2 ^ 39):
 ∃ H',callW CT (.fn k_f28 [] []) [v,.s (.int .i64 q),.s (.int .i64 a),.s (.int .i64 b)] base H=some (.s (.bool (domB T a b)),H')∧Ext H H':=by
 have hm:=ok.must ha hbn
 have hun:T.getD b 0=-2↔¬ Rch G [q] b:=by
  constructor
  ·intro e hR
   by_cases eq:(b:Int)=q
   ·have:=ok.rt b eq.symm hbn;omega
   ·obtain ⟨d,e2,_⟩:=ok.id b hR eq
    omega
  ·exact ok.un b hbn
 obtain ⟨H1,p1,p2⟩:=rleads_fun h base H v G q b hb hv (by omega) hr
 by_cases hR:Rch G [q] b
 ·have e1:(T.getD b 0 == -2)=false:=by rw [beq_eq_false_iff_ne];exact fun e=>hun.1 e hR
  rw [(leadsB_nat G q b).2 hR] at p1
  cases e2:((a:Int) == (b:Int)) with
  | true=>
    rw [e1,e2] at hm
    refine ⟨H1,callW_fn (c:=s_f28) hD (by simp [s_f28]) ?_,p2⟩
    rw [hm]
    simp only [s_f28,a_f28,aa,bl,i64,reduceIte,reduceCtorEq,Nat.reduceEqDiff,Nat.reduceLT,Nat.reduceLeDiff,Nat.reduceBEq,Nat.reduceAdd,fillA,splice,Nat.reduceMul,amY,op_eqP,p1,e2]
  | false=>
    cases e3:((a:Int) == q) with
    | true=>
      rw [e1,e2,e3] at hm
      refine ⟨H1,callW_fn (c:=s_f28) hD (by simp [s_f28]) ?_,p2⟩
      rw [hm]
      simp only [s_f28,a_f28,aa,bl,i64,reduceIte,reduceCtorEq,Nat.reduceEqDiff,Nat.reduceLT,Nat.reduceLeDiff,Nat.reduceBEq,Nat.reduceAdd,fillA,splice,Nat.reduceMul,amY,op_eqP,p1,e2,e3]
    | false=>
      rw [e1,e2,e3] at hm
      obtain ⟨w,H2,q1,q2,q3⟩:=without_fun hW base (a:=a) (by have:=p2.le;omega) (hv.ext p2) ha hn
      obtain ⟨H3,r1,r2⟩:=rleads_fun h base H2 w (G.set a []) q b (by have:=(p2.trans q2).le;omega) q3 (by rw [List.length_set];omega) (fun r hr'=>by
       rcases List.mem_or_eq_of_mem_set hr' with h | h
       ·exact hr r h
       ·rw [h];simp)
      refine ⟨H3,callW_fn (c:=s_f28) hD (by simp [s_f28]) ?_,(p2.trans q2).trans r2⟩
      rw [hm]
      simp only [s_f28,a_f28,aa,bl,i64,reduceIte,reduceCtorEq,Nat.reduceEqDiff,Nat.reduceLT,Nat.reduceLeDiff,Nat.reduceBEq,Nat.reduceAdd,fillA,splice,Nat.reduceMul,amY,op_eqP,p1,e2,e3,q1,r1]
 ·have e1:(T.getD b 0 == -2)=true:=by rw [beq_iff_eq];exact hun.2 hR
  have hf:leadsB G q b=false:=by rw [Bool.eq_false_iff];exact fun k=>hR ((leadsB_nat G q b).1 k)
  rw [hf] at p1
  rw [e1] at hm
  refine ⟨H1,callW_fn (c:=s_f28) hD (by simp [s_f28]) ?_,p2⟩
  rw [hm]
  simp only [s_f28,a_f28,aa,bl,i64,reduceIte,reduceCtorEq,Nat.reduceEqDiff,Nat.reduceLT,Nat.reduceLeDiff,Nat.reduceBEq,Nat.reduceAdd,fillA,splice,Nat.reduceMul,amY,op_eqP,p1,Bool.not_true,Bool.false_and]
theorem rdom_loop (base:Nat) (H:Heap) (v:V) (T:List Int) (a:Int) (hv:Rd H v (T.map iV)) (hw:Wide1 v) (hn:T.length < 2 ^ 40):∀ (m b j:Nat),j+m=T.length+1→b < T.length→
 (domR T a m b=true∧itW (evC (callW CT) itW base s_f14_l0) [] H.length (frOf 54 [(0,v),(1,.s (.int .i64 a)),(2,.s (.int .i64 b)),(7,.s (.int .i64 j))]) H=some (.ret,frOf 54 [(6,bl true)],H))∨
 (domR T a m b=false∧(itW (evC (callW CT) itW base s_f14_l0) [] H.length (frOf 54 [(0,v),(1,.s (.int .i64 a)),(2,.s (.int .i64 b)),(7,.s (.int .i64 j))]) H=some (.ret,frOf 54 [(6,bl false)],H)∨∃ c:Nat,itW (evC (callW CT) itW base s_f14_l0) [] H.length (frOf 54 [(0,v),(1,.s (.int .i64 a)),(2,.s (.int .i64 b)),(7,.s (.int .i64 j))]) H=some (.ext 0,frOf 54 [(0,v),(1,.s (.int .i64 a)),(2,.s (.int .i64 c)),(7,.s (.int .i64 (T.length+1:Nat))),(36,bl false)],H))):=by
 intro m
 induction m with
 | zero=>
   intro b j hj hb
   obtain rfl:j=T.length+1:=by omega
   refine .inr ⟨rfl,.inr ⟨b,?_⟩⟩
   have hle:¬ (((T.length+1:Nat):Int)≤(T.length:Int)):=by omega
   have hvl:=iV_len hv
   rw [itW_step]
   simp only [a_f14,s_f14_l0_b,aa,bl,i64,reduceIte,reduceCtorEq,Nat.reduceEqDiff,Nat.reduceLT,Nat.reduceLeDiff,Nat.reduceBEq,Nat.reduceAdd,fillA,splice,Nat.reduceMul,amY,op_eqP,hvl,hle,trim_same rfl,bl]
 | succ m ih=>
   intro b j hj hb
   have hlt':(j:Int)≤(T.length:Int):=by omega
   have hwk:=w64 (n:=j) (by omega)
   have hvl:=iV_len hv
   obtain ⟨ad,x1,x2⟩:=iV_at hv hw (some_getD hb (0:Int))
   by_cases hab:a=(b:Int)
   ·have e:(a == (b:Int))=true:=by rw [hab];simp
    refine .inl ⟨by rw [domR,if_pos hab],?_⟩
    rw [itW_step]
    simp only [a_f14,s_f14_l0_b,aa,bl,i64,reduceIte,reduceCtorEq,Nat.reduceEqDiff,Nat.reduceLT,Nat.reduceLeDiff,Nat.reduceBEq,Nat.reduceAdd,fillA,splice,Nat.reduceMul,amY,op_eqP,hvl,hlt',e,bl]
   ·have e:(a == (b:Int))=false:=by rw [beq_eq_false_iff_ne];exact hab
    by_cases h1:T.getD b 0 < 0
    ·refine .inr ⟨by rw [domR,if_neg hab,if_pos (.inl h1)],.inl ?_⟩
     rw [itW_step]
     simp only [a_f14,s_f14_l0_b,aa,bl,i64,reduceIte,reduceCtorEq,Nat.reduceEqDiff,Nat.reduceLT,Nat.reduceLeDiff,Nat.reduceBEq,Nat.reduceAdd,fillA,splice,Nat.reduceMul,amY,op_eqP,hvl,hlt',e,bl,x1,x2,h1]
    ·by_cases h2:(T.length:Int)≤T.getD b 0
     ·refine .inr ⟨by rw [domR,if_neg hab,if_pos (.inr h2)],.inl ?_⟩
      rw [itW_step]
      simp only [a_f14,s_f14_l0_b,aa,bl,i64,reduceIte,reduceCtorEq,Nat.reduceEqDiff,Nat.reduceLT,Nat.reduceLeDiff,Nat.reduceBEq,Nat.reduceAdd,fillA,splice,Nat.reduceMul,amY,op_eqP,hvl,hlt',e,bl,x1,x2,h1,ge_iff_le,h2]
     ·obtain ⟨d,hd⟩:=Int.eq_ofNat_of_zero_le (show 0≤T.getD b 0 by omega)
      have hst:itW (evC (callW CT) itW base s_f14_l0) [] H.length (frOf 54 [(0,v),(1,.s (.int .i64 a)),(2,.s (.int .i64 b)),(7,.s (.int .i64 j))]) H=itW (evC (callW CT) itW base s_f14_l0) [] H.length (frOf 54 [(0,v),(1,.s (.int .i64 a)),(2,.s (.int .i64 d)),(7,.s (.int .i64 (j+1:Nat)))]) H:=by
       conv=>lhs;rw [itW_step]
       simp only [hd] at x2 h1 h2
       simp only [a_f14,s_f14_l0_b,aa,bl,i64,reduceIte,reduceCtorEq,Nat.reduceEqDiff,Nat.reduceLT,Nat.reduceLeDiff,Nat.reduceBEq,Nat.reduceAdd,fillA,splice,Nat.reduceMul,amY,op_eqP,hvl,hlt',e,x1,x2,h1,ge_iff_le,h2,hwk,trim_same rfl]
      have hr:domR T a (m+1) b=domR T a m d:=by rw [domR,if_neg hab,if_neg (by omega),hd];rfl
      rw [hst,hr]
      exact ih d (j+1) (by omega) (by omega)
theorem rdom_fun (hT:CT k_f14=some (.code s_f14)) (base:Nat) (H:Heap) (v:V) (T:List Int) (a b:Int) (hv:Rd H v (T.map iV)) (hw:Wide1 v) (hn:T.length < 2 ^ 40):
 callW CT (.fn k_f14 [] []) [v,.s (.int .i64 a),.s (.int .i64 b)] base H=some (.s (.bool (domB T a b)),H):=by
 have hvl:=iV_len hv
 refine callW_fn (c:=s_f14) hT (by simp [s_f14]) ?_
 by_cases h1:a < 0
 ·have hf:domB T a b=false:=by rw [domB,if_pos (.inl h1)]
  simp only [s_f14,a_f14,s_f14_l0_b,aa,bl,i64,reduceIte,reduceCtorEq,Nat.reduceEqDiff,Nat.reduceLT,Nat.reduceLeDiff,Nat.reduceBEq,Nat.reduceAdd,fillA,splice,Nat.reduceMul,amY,op_eqP,h1,hf]
 by_cases h2:b < 0
 ·have hf:domB T a b=false:=by rw [domB,if_pos (.inr (.inl h2))]
  simp only [s_f14,a_f14,s_f14_l0_b,aa,bl,i64,reduceIte,reduceCtorEq,Nat.reduceEqDiff,Nat.reduceLT,Nat.reduceLeDiff,Nat.reduceBEq,Nat.reduceAdd,fillA,splice,Nat.reduceMul,amY,op_eqP,h1,h2,hf]
 by_cases h3:(T.length:Int)≤a
 ·have hf:domB T a b=false:=by rw [domB,if_pos (.inr (.inr (.inl h3)))]
  simp only [s_f14,a_f14,s_f14_l0_b,aa,bl,i64,reduceIte,reduceCtorEq,Nat.reduceEqDiff,Nat.reduceLT,Nat.reduceLeDiff,Nat.reduceBEq,Nat.reduceAdd,fillA,splice,Nat.reduceMul,amY,op_eqP,h1,h2,hvl,ge_iff_le,h3,hf]
 by_cases h4:(T.length:Int)≤b
 ·have hf:domB T a b=false:=by rw [domB,if_pos (.inr (.inr (.inr h4)))]
  simp only [s_f14,a_f14,s_f14_l0_b,aa,bl,i64,reduceIte,reduceCtorEq,Nat.reduceEqDiff,Nat.reduceLT,Nat.reduceLeDiff,Nat.reduceBEq,Nat.reduceAdd,fillA,splice,Nat.reduceMul,amY,op_eqP,h1,h2,hvl,ge_iff_le,h3,h4,hf]
 obtain ⟨k,rfl⟩:=Int.eq_ofNat_of_zero_le (show 0≤b by omega)
 have hk:k < T.length:=by omega
 obtain ⟨ad,x1,x2⟩:=iV_at hv hw (some_getD hk (0:Int))
 have hb0:domB T a k=if T.getD k 0=-2 then false else domR T a (T.length+1) k:=by
  rw [domB,if_neg (by omega),Int.toNat_natCast]
 by_cases h5:T.getD k 0=-2
 ·have e:(T.getD k 0 == -2)=true:=by rw [h5];rfl
  rw [hb0,if_pos h5]
  simp only [s_f14,a_f14,s_f14_l0_b,aa,bl,i64,reduceIte,reduceCtorEq,Nat.reduceEqDiff,Nat.reduceLT,Nat.reduceLeDiff,Nat.reduceBEq,Nat.reduceAdd,fillA,splice,Nat.reduceMul,amY,op_eqP,h1,h2,hvl,ge_iff_le,h3,h4,x1,x2,e]
 ·have e:(T.getD k 0 == -2)=false:=by rw [beq_eq_false_iff_ne];exact h5
  have hwk:=w64 (n:=T.length) (by omega)
  rw [hb0,if_neg h5]
  rcases rdom_loop (CT:=CT) base H v T a hv hw hn (T.length+1) k 0 (by omega) hk with ⟨d1,d2⟩ | ⟨d1,d2 | ⟨c,d2⟩⟩
  all_goals
   rw [d1]
   simp only [bl,cast0] at d2
   simp only [s_f14,a_f14,s_f14_l0_b,aa,bl,i64,reduceIte,reduceCtorEq,Nat.reduceEqDiff,Nat.reduceLT,Nat.reduceLeDiff,Nat.reduceBEq,Nat.reduceAdd,fillA,splice,Nat.reduceMul,amY,op_eqP,h1,h2,hvl,ge_iff_le,h3,h4,x1,x2,e,d2]
end
end Go.Proofs.Ytdmnenlpdeolaaa
set_option maxRecDepth 100000
namespace Go.Proofs.Ytdmnenlpdeolaaa
open Go.AM
def Touch (v v':V) (H H':Heap):Prop:=(H'=H∧v'=v)∨∃ id g n n' ob,v=.sl id g 0 n 1∧v'=.sl id g 0 n' 1∧H'=H.set id ob
theorem Touch.same (v:V) (H:Heap):Touch v v H H:=.inl ⟨rfl,rfl⟩
theorem Touch.put (id g n n':Nat) (ob:Ob) (H:Heap):Touch (.sl id g 0 n 1) (.sl id g 0 n' 1) H (H.set id ob):=.inr ⟨id,g,n,n',ob,rfl,rfl,rfl⟩
theorem Touch.trans {v v' v2:V} {H H' H2:Heap} (h:Touch v v' H H') (k:Touch v' v2 H' H2):Touch v v2 H H2:=by
 rcases h with ⟨rfl,rfl⟩ | ⟨id,g,n,n',ob,rfl,rfl,rfl⟩
 ·exact k
 ·rcases k with ⟨rfl,rfl⟩ | ⟨id',g',m,m',ob',e,rfl,rfl⟩
  ·exact .inr ⟨id,g,n,n',ob,rfl,rfl,rfl⟩
  ·cases e
   exact .inr ⟨id,g,n,m',ob',rfl,rfl,by rw [List.set_set]⟩
theorem compact_own2 {CT:Nat→Option CFun} (hT:CT k_f30=some (.code s_f30)) (base m:Nat) (H:Heap) (v:V) (l:List Int) (hv:OwnN m H v (l.map iV)) (hb:base≤m) (hn:l.length < 2 ^ 62):
 ∃ v' H',callW CT (.fn k_f30 [] []) [v] base H=some (v',H')∧OwnN m H' v' ((compactZ l).map iV)∧Touch v v' H H':=by
 by_cases h2:l.length < 2
 ·refine ⟨v,H,?_,?_,Touch.same _ _⟩
  ·refine callW_fn (c:=s_f30) hT (by simp [s_f30]) ?_
   have h2':((l.length:Nat):Int) < 2:=by omega
   simp only [s_f30,a_f30,s_f30_l0_b,s_f30_l1_b,aa,bl,i64,reduceIte,reduceCtorEq,Nat.reduceEqDiff,Nat.reduceLT,Nat.reduceLeDiff,Nat.reduceBEq,Nat.reduceAdd,fillA,splice,Nat.reduceMul,amY,op_eqP,hv.rd.len,List.length_map,h2']
  ·match l,h2 with
   | [],_=>exact hv
   | [x],_=>exact hv
 ·rcases hv with ⟨h,_⟩ | ⟨id,g,c,rfl,hc,hl,ht,hid⟩
  ·have:=congrArg List.length h
   simp at this
   subst this
   simp at h2
  ·rw [List.length_map] at hl ht ⊢
   have hr:∀ j,j < l.length→c[j]?=some (iV (l.getD j 0)):=fun j hj=>by
    rw [← map_get hj,← ht,List.getElem?_take_of_lt hj]
   have hlt:=getC_lt hc
   match l,h2,hr,hl,ht,hn with
   | [],h2,_,_,_,_=>simp at h2
   | x :: r,h2,hr,hl,ht,hn=>
     have ho:=compact_outer (callW CT) base id g (x :: r).length (x :: r) rfl (by omega) hn H hlt c hl hc hr r 1 rfl (Nat.le_refl _) (by simp)
     have e0:(x :: r).getD (1 - 1) 0=x:=rfl
     rw [e0] at ho
     have c1:((1:Nat):Int)=1:=rfl
     rw [c1,List.length_cons] at ho
     have h2':¬ ((r.length+1:Nat):Int) < 2:=by simp at h2;omega
     rcases ho with ⟨q,hq⟩ | ⟨c',q,q2,q3⟩
     ·refine ⟨.sl id g 0 (x :: r).length 1,H,?_,?_,Touch.same _ _⟩
      ·refine callW_fn (c:=s_f30) hT (by simp [s_f30]) ?_
       simp only [s_f30,a_f30,s_f30_l0_b,s_f30_l1_b,aa,bl,i64,reduceIte,reduceCtorEq,Nat.reduceEqDiff,Nat.reduceLT,Nat.reduceLeDiff,Nat.reduceBEq,Nat.reduceAdd,fillA,splice,Nat.reduceMul,amY,op_eqP,h2',q]
      ·rw [show compactZ (x :: r)=x :: r by simp only [compactZ,hq]]
       exact .inr ⟨id,g,c,by rw [List.length_map],hc,by rw [List.length_map];exact hl,by rw [List.length_map];exact ht,hid⟩
     ·refine ⟨.sl id g 0 (1+(chg x r).length) 1,H.set id (.cells g c'),?_,?_,Touch.put _ _ _ _ _ _⟩
      ·refine callW_fn (c:=s_f30) hT (by simp [s_f30]) ?_
       simp only [s_f30,a_f30,s_f30_l0_b,s_f30_l1_b,aa,bl,i64,reduceIte,reduceCtorEq,Nat.reduceEqDiff,Nat.reduceLT,Nat.reduceLeDiff,Nat.reduceBEq,Nat.reduceAdd,fillA,splice,Nat.reduceMul,amY,op_eqP,h2',q]
      ·have hcl:=chg_len r x
       refine .inr ⟨id,g,c',?_,getC_put hc,?_,?_,hid⟩
       ·simp [compactZ];omega
       ·simp [compactZ] at hl ⊢;omega
       ·have:((compactZ (x :: r)).map iV).length=1+(chg x r).length:=by simp [compactZ];omega
        rw [this,q3];rfl
theorem sort_own2 {CT:Nat→Option CFun} (hT:CT k_f29=some (.prim sortG)) (base m:Nat) (H:Heap) (v:V) (l:List Int) (hv:OwnN m H v (l.map iV)) (hb:base≤m) (hn:l.length < 2 ^ 62):
 ∃ H',callW CT (.fn k_f29 [] []) [v] base H=some (und,H')∧OwnN m H' v ((sortZ l).map iV)∧Touch v v H H':=by
 have hp:∀ r,sortG [v] base H=some r→callW CT (.fn k_f29 [] []) [v] base H=some r:=fun r hr=>callW_eq (by simp only [evCall,hT,List.nil_append,List.append_nil];exact hr)
 have hsl:(sortZ l).length=l.length:=by rw [sortZ,List.length_mergeSort]
 have hnil:l=[]→sortZ l=[]:=fun h=>by subst h;simp [sortZ]
 rcases hv with ⟨h,hv⟩ | ⟨id,g,c,rfl,hc,hl,ht,hid⟩
 ·have h':l=[]:=by simpa using h
  refine ⟨H,hp _ ?_,.inl ⟨by rw [hnil h'];rfl,hv⟩,Touch.same _ _⟩
  rcases hv with rfl | rfl <;> rfl
 ·rw [List.length_map] at hl ht
  by_cases h0:l.length=0
  ·have h':l=[]:=List.eq_nil_of_length_eq_zero h0
   refine ⟨H,hp _ ?_,.inr ⟨id,g,c,by simp [hsl],hc,by simp [hsl];exact hl,by simp [hnil h'],hid⟩,Touch.same _ _⟩
   simp only [sortG,List.length_map,h0,if_true]
  ·refine ⟨H.set id (.cells g (splice c 0 ((sortZ l).map iV))),hp _ ?_,.inr ⟨id,g,_,by simp [hsl],getC_put hc,?_,?_,hid⟩,Touch.put _ _ _ _ _ _⟩
   ·have h1:base≤id∧1=1∧l.length < 4611686018427387904:=⟨by omega,rfl,hn⟩
    have h3:0+l.length≤c.length:=by omega
    simp only [sortG,List.length_map,h0,if_false,h1,and_self,if_true,hc,List.drop_zero,ht,intsOf_map,h3]
   ·simp [splice,hsl]
   ·simp [splice,hsl]
def BagO (m:Nat) (H:Heap) (vs:List V) (R:List (List V)):Prop:=
 vs.length=R.length∧(∀ (j:Nat) (r:List V),R[j]?=some r→∃ x,vs[j]?=some x∧OwnN m H x r)∧
 ∀ (j k id g n id' g' n':Nat),j≠k→vs[j]?=some (.sl id g 0 n 1)→vs[k]?=some (.sl id' g' 0 n' 1)→id≠id'
theorem bag_own {m:Nat} {H:Heap} {vs:List V} {R:List (List V)} (h:Bag m H vs R):BagO m H vs R:=by
 refine ⟨h.1,fun j r hr=>?_,h.2.2⟩
 obtain ⟨x,h1,h2⟩:=h.2.1 j r hr
 refine ⟨x,h1,?_⟩
 rcases h2 with ⟨rfl,rfl⟩ | ⟨id,g,rfl,hc,hm⟩
 ·exact .inl ⟨rfl,.inl rfl⟩
 ·exact .inr ⟨id,g,r,rfl,hc,Nat.le_refl _,by simp,hm⟩
theorem BagO.trim {m L o:Nat} {H:Heap} {vs:List V} {R:List (List V)} (h:BagO m H vs R) (hc:getC H o 0=some vs) (ho:o < L) (fr:List V):BagO m (trim L fr H) vs R:=
 ⟨h.1,fun j r hr=>by obtain ⟨x,h1,h2⟩:=h.2.1 j r hr;exact ⟨x,h1,h2.trim hc ho (List.mem_of_getElem? h1) fr⟩,h.2.2⟩
theorem BagO.rows {m o:Nat} {H:Heap} {vs:List V} {R:List (List V)} (h:BagO m H vs R) (hc:getC H o 0=some vs):RdRows H (.sl o 0 0 R.length 1) R:=
 ⟨vs,by rw [← h.1];exact getC_sl hc,trivial,h.1,fun i r hr=>by obtain ⟨x,h1,h2⟩:=h.2.1 i r hr;exact ⟨x,h1,h2.rd,h2.wide⟩⟩
theorem BagO.touch {m o i:Nat} {H H':Heap} {vs:List V} {R:List (List V)} {x x':V} {r':List V} (h:BagO m H vs R) (ho:o < m) (hc:getC H o 0=some vs) (hx:vs[i]?=some x) (ht:Touch x x' H H') (hid:∀ id g n,x=.sl id g 0 n 1→m≤id) (hx':OwnN m H' x' r'):
 getC H' o 0=some vs∧BagO m (H'.set o (.cells 0 (vs.set i x'))) (vs.set i x') (R.set i r')∧(∀ H0,H0.length≤m→Ext H0 H→Ext H0 H'):=by
 have hi:=(List.getElem?_eq_some_iff.1 hx).1
 rcases ht with ⟨rfl,rfl⟩ | ⟨id,g,n,n',ob,rfl,rfl,rfl⟩
 ·have hs:vs.set i x'=vs:=by
   apply List.ext_getElem?
   intro j
   by_cases e:i=j
   ·subst e;rw [List.getElem?_set_self hi,hx]
   ·rw [List.getElem?_set_ne e]
  rw [hs]
  refine ⟨hc,⟨by rw [List.length_set];exact h.1,fun j r hr=>?_,h.2.2⟩,fun _ _ k=>k⟩
  by_cases e:i=j
  ·subst e
   rw [List.getElem?_set_self (by rw [← h.1];exact hi)] at hr
   obtain rfl:=Option.some.inj hr
   exact ⟨x',hx,hx'.set ho _⟩
  ·rw [List.getElem?_set_ne e] at hr
   obtain ⟨y,h1,h2⟩:=h.2.1 j r hr
   exact ⟨y,h1,h2.set ho _⟩
 ·have hidm:=hid id g n rfl
  refine ⟨by rw [getC_set_ne _ (by omega)];exact hc,⟨by rw [List.length_set,List.length_set];exact h.1,fun j r hr=>?_,fun j k a b c a' b' c' hjk hj hk=>?_⟩,fun H0 h0 k=>k.set (by omega) _⟩
  ·by_cases e:i=j
   ·subst e
    rw [List.getElem?_set_self (by rw [← h.1];exact hi)] at hr
    obtain rfl:=Option.some.inj hr
    exact ⟨_,List.getElem?_set_self hi,hx'.set ho _⟩
   ·rw [List.getElem?_set_ne e] at hr
    obtain ⟨y,h1,h2⟩:=h.2.1 j r hr
    refine ⟨y,by rw [List.getElem?_set_ne e];exact h1,OwnN.set ?_ ho _⟩
    rcases h2 with h2 | ⟨id2,g2,c2,rfl,k1,k2,k3,k4⟩
    ·exact .inl h2
    ·have hne:=h.2.2 i j _ _ _ _ _ _ e hx h1
     exact .inr ⟨id2,g2,c2,rfl,by rw [getC_set_ne _ (Ne.symm hne)];exact k1,k2,k3,k4⟩
  ·by_cases e:i=j
   ·subst e
    rw [List.getElem?_set_self hi] at hj
    rw [List.getElem?_set_ne hjk] at hk
    cases hj
    exact h.2.2 i k _ _ _ _ _ _ hjk hx hk
   ·rw [List.getElem?_set_ne e] at hj
    by_cases e2:i=k
    ·subst e2
     rw [List.getElem?_set_self hi] at hk
     cases hk
     exact h.2.2 j i _ _ _ _ _ _ hjk hj hx
    ·rw [List.getElem?_set_ne e2] at hk
     exact h.2.2 j k _ _ _ _ _ _ hjk hj hk
end Go.Proofs.Ytdmnenlpdeolaaa
set_option maxRecDepth 100000
namespace Go.Proofs.Ytdmnenlpdeolaaa
open Go.AM
def fin (r:List Int):List Int:=compactZ (sortZ r)
def finTo (i:Nat) (R:List (List Int)):List (List Int):=(List.range R.length).map fun j=>if j < i then fin (R.getD j []) else R.getD j []
theorem finTo_len (i:Nat) (R:List (List Int)):(finTo i R).length=R.length:=by simp [finTo]
theorem finTo_get {i j:Nat} {R:List (List Int)} (hj:j < R.length):(finTo i R)[j]?=some (if j < i then fin (R.getD j []) else R.getD j []):=by
 unfold finTo
 rw [List.getElem?_map,List.getElem?_range hj];rfl
theorem finTo_zero (R:List (List Int)):finTo 0 R=R:=by
 apply List.ext_getElem?
 intro j
 by_cases hj:j < R.length
 ·rw [finTo_get hj,some_getD hj []];simp
 ·rw [List.getElem?_eq_none (by rw [finTo_len];omega),List.getElem?_eq_none (by omega)]
theorem finTo_step {i:Nat} {R:List (List Int)} (hi:i < R.length):(finTo i R).set i (fin (R.getD i []))=finTo (i+1) R:=by
 apply List.ext_getElem?
 intro j
 by_cases hj:j < R.length
 ·rw [finTo_get hj]
  by_cases e:i=j
  ·subst e
   rw [List.getElem?_set_self (by rw [finTo_len];exact hi),if_pos (by omega)]
  ·rw [List.getElem?_set_ne e,finTo_get hj]
   have:(j < i+1)=(j < i):=by rw [eq_iff_iff];omega
   simp only [this]
 ·rw [List.getElem?_eq_none (by rw [List.length_set,finTo_len];omega),List.getElem?_eq_none (by rw [finTo_len];omega)]
theorem finTo_all (R:List (List Int)):finTo R.length R=R.map fin:=by
 apply List.ext_getElem?
 intro j
 by_cases hj:j < R.length
 ·rw [finTo_get hj,if_pos hj,List.getElem?_map,some_getD hj []];rfl
 ·rw [List.getElem?_eq_none (by rw [finTo_len];omega),List.getElem?_eq_none (by simp;omega)]
theorem rowsV_put (R:List (List Int)) (k:Nat) (r:List Int):rowsV (R.set k r)=(rowsV R).set k (r.map iV):=by
 simp [rowsV,List.map_set]
theorem own_at {m:Nat} {H:Heap} {v:V} {l:List V} (h:OwnN m H v l):∀ id g n,v=.sl id g 0 n 1→m≤id:=by
 intro id g n e
 rcases h with ⟨_,rfl | rfl⟩ | ⟨_,_,_,rfl,_,_,_,k⟩
 ·cases e
 ·cases e
 ·cases e;exact k
theorem Touch.get {x x':V} {H H':Heap} (h:Touch x x' H H') {m o:Nat} (ho:o < m) (hid:∀ id g n,x=.sl id g 0 n 1→m≤id) (g:Nat):getC H' o g=getC H o g:=by
 rcases h with ⟨rfl,rfl⟩ | ⟨id,g',n,n',ob,rfl,rfl,rfl⟩
 ·rfl
 ·have:=hid id g' n rfl
  exact getC_set_ne _ (by omega)
theorem Touch.len {x x':V} {H H':Heap} (h:Touch x x' H H'):H'.length=H.length:=by
 rcases h with ⟨rfl,rfl⟩ | ⟨id,g',n,n',ob,rfl,rfl,rfl⟩
 ·rfl
 ·exact List.length_set ..
section
variable {CT:Nat→Option CFun}
theorem fr_l3 (hS:CT k_f29=some (.prim sortG)) (hK:CT k_f30=some (.code s_f30)) (base m o L:Nat) (A:Heap) (hA:A.length=m) (R:List (List Int)) (ho:o < m) (hb:base≤o) (hL:m≤L) (hn:R.length < 2 ^ 40) (hr:∀ r∈R,r.length < 2 ^ 60):
 ∀ (k i:Nat) (H:Heap) (vs:List V),i+k=R.length→L≤H.length→Ext (A.set o (.cells 0 vs)) H→getC H o 0=some vs→BagO m H vs (rowsV (finTo i R))→
 ∃ H' vs',itW (evC (callW CT) itW base s_f16_l3) [] L (frOf 89 [(6,.sl o 0 0 R.length 1),(70,.s (.int .i64 R.length)),(71,.s (.int .i64 i))]) H=some (.ext 6,frOf 89 [(6,.sl o 0 0 R.length 1),(70,.s (.int .i64 R.length)),(71,.s (.int .i64 R.length)),(72,bl false)],H')∧L≤H'.length∧Ext (A.set o (.cells 0 vs')) H'∧getC H' o 0=some vs'∧BagO m H' vs' (rowsV (R.map fin)):=by
 intro k
 induction k with
 | zero=>
   intro i H vs hi hLH he hc hB
   obtain rfl:i=R.length:=by omega
   rw [finTo_all] at hB
   refine ⟨trim L (frOf 89 [(6,.sl o 0 0 R.length 1),(70,.s (.int .i64 R.length)),(71,.s (.int .i64 R.length)),(72,bl false)]) H,vs,?_,trim_le hLH,he.trim (by rw [List.length_set];omega) _,trim_get hc (by omega),hB.trim hc (by omega) _⟩
   rw [itW_step]
   simp only [a_f16,s_f16_l0_b,s_f16_l1_b,s_f16_l2_b,s_f16_l3_b,aa,bl,i64,reduceIte,reduceCtorEq,Nat.reduceEqDiff,Nat.reduceLT,Nat.reduceLeDiff,Nat.reduceBEq,Nat.reduceAdd,fillA,splice,Nat.reduceMul,amY,op_eqP,Int.lt_irrefl,bl]
 | succ k ih=>
   intro i H vs hi hLH he hc hB
   have hiR:i < R.length:=by omega
   have hlt':(i:Int) < (R.length:Int):=by omega
   have hwk:=w64 (n:=i) (by omega)
   have hgi:(rowsV (finTo i R))[i]?=some ((R.getD i []).map iV):=by
    have:=rowsV_get (finTo_get (i:=i) hiR)
    rwa [if_neg (by omega)] at this
   have hrl:=hr _ (List.mem_of_getElem? (some_getD hiR []))
   obtain ⟨x,hx,hox⟩:=hB.2.1 i _ hgi
   obtain ⟨H1,s1,s2,s3⟩:=sort_own2 hS base m H x _ hox (by omega) (by omega)
   have hsl:(sortZ (R.getD i [])).length=(R.getD i []).length:=by rw [sortZ,List.length_mergeSort]
   obtain ⟨v',H2,c1,c2,c3⟩:=compact_own2 hK base m H1 x _ s2 (by omega) (by omega)
   have hc1:getC H1 o 0=some vs:=by rw [s3.get ho (own_at hox)];exact hc
   have hT:=s3.trans c3
   obtain ⟨hc2,hB2,hE⟩:=hB.touch (r':=(fin (R.getD i [])).map iV) ho hc hx hT (own_at hox) c2
   rw [← rowsV_put,finTo_step hiR] at hB2
   obtain ⟨a1,a2⟩:=at_sl hc hiR hx
   obtain ⟨b1,b2⟩:=at_sl hc1 hiR hx
   have hvl:vs.length=R.length:=by rw [hB.1,rowsV_len,finTo_len]
   have hst:=storeV_at (v:=v') (base:=base) hc2 hb c2.one (off:=i) (by omega)
   have he1:=hE _ (by rw [List.length_set];omega) he
   have he2:=he1.set_both (o:=o) (by rw [List.length_set];omega) (.cells 0 (vs.set i v'))
   rw [List.set_set] at he2
   have hc3:=getC_put (c':=vs.set i v') hc2
   have hl2:=hT.len
   obtain ⟨H',vs',p1,p2,p3,p4,p5⟩:=ih (i+1) (trim L (frOf 89 [(6,.sl o 0 0 R.length 1),(70,.s (.int .i64 R.length)),(71,.s (.int .i64 (i+1:Nat)))]) (H2.set o (.cells 0 (vs.set i v')))) (vs.set i v') (by omega) (trim_le (by rw [List.length_set];omega)) (he2.trim (by rw [List.length_set];omega) _) (trim_get hc3 (by omega)) (hB2.trim hc3 (by omega) _)
   refine ⟨H',vs',?_,p2,p3,p4,p5⟩
   have hixb:(0≤(i:Int)∧(i:Int) < (R.length:Int)∧1=1):=by omega
   rw [itW_step]
   simp only [a_f16,s_f16_l0_b,s_f16_l1_b,s_f16_l2_b,s_f16_l3_b,aa,bl,i64,reduceIte,reduceCtorEq,Nat.reduceEqDiff,Nat.reduceLT,Nat.reduceLeDiff,Nat.reduceBEq,Nat.reduceAdd,fillA,splice,Nat.reduceMul,amY,op_eqP,hlt',hwk,a1,a2,b1,b2,s1,c1,hst]
   exact p1
end
end Go.Proofs.Ytdmnenlpdeolaaa
set_option maxRecDepth 100000
namespace Go.Proofs.Ytdmnenlpdeolaaa
open Go.AM
def runR (T:List Int) (y:Int):Nat→Int→List (List Int)→List (List Int)
 | 0,_,R=>R
 | m+1,r,R=>if r < 0 then R else if r=y∨domB T r y=false then runR T y m (T.getD r.toNat 0) (bump y R r) else R
theorem runR_neg (T:List Int) (y:Int) (f:Nat) {r:Int} (R:List (List Int)) (h:r < 0):runR T y f r R=R:=by
 cases f with
 | zero=>rfl
 | succ f=>rw [runR,if_pos h]
theorem runR_len (T:List Int) (y:Int):∀ (f:Nat) (r:Int) (R:List (List Int)),(runR T y f r R).length=R.length:=by
 intro f
 induction f with
 | zero=>intro r R;rfl
 | succ f ih=>
   intro r R
   rw [runR]
   split
   ·rfl
   ·split
    ·rw [ih,bump_len]
    ·rfl
def UpR (G:List (List Int)) (q:Int) (lvl:Nat→Nat) (f:Nat) (r:Int):Prop:=r < 0∨∃ k:Nat,r=k∧Rch G [q] k∧lvl k < f
theorem TreeOk.next {G:List (List Int)} {q:Int} {T:List Int} {lvl:Nat→Nat} (h:TreeOk G q T lvl) {f k:Nat} (hk:Rch G [q] k) (hf:lvl k < f+1):UpR G q lvl f (T.getD k 0):=by
 by_cases e:(k:Int)=q
 ·rw [h.rt k e.symm (rch_lt hk)];exact .inl (by omega)
 ·obtain ⟨d,hd,h1,h2⟩:=h.id k hk e
  exact .inr ⟨d,hd,h1,by omega⟩
theorem taleR_no (fr:List V) (H:Heap) (os:List (Nat × E)) (kill:List Nat):taleR fr H os kill false=none:=rfl
theorem segL_no (H:Heap) (o:Option St):segL H none o=o:=rfl
theorem reqB_no (b r:Bool):reqB (some und) b r=false:=rfl
section
variable {CT:Nat→Option CFun}
theorem fr_r11 (base:Nat) (H:Heap) (a5 a6 a7 a10 a11 a20 a21 a22 a32 a33 a34:V):origRow (callW CT) itW base s_f16_r11t9 [39,40,41,42,43,44,45,46,47,48,49,50,51] (frOf 89 [(5,a5),(6,a6),(7,a7),(10,a10),(11,a11),(20,a20),(21,a21),(22,a22),(32,a32),(33,a33),(34,a34),(41,V.s (Value.bool false)),(45,und),(49,und)]) H=some (.nrm,frOf 89 [(5,a5),(6,a6),(7,a7),(10,a10),(11,a11),(20,a20),(21,a21),(22,a22),(32,a32),(33,a33),(34,a34),(52,V.s (Value.bool false))],H):=by
 simp only [origRow,s_f16_r11t9,aa,bl,i64,reduceIte,reduceCtorEq,Nat.reduceEqDiff,Nat.reduceLT,Nat.reduceLeDiff,Nat.reduceBEq,Nat.reduceAdd,fillA,splice,Nat.reduceMul,amY,op_eqP,evC_ops,evOps_nil,evOps_cons,evOps_guard,opK_bool,wantV_bool,wantV_und,put_some,evOp_pick,pickR,op_move,op_un,ev_t,ev_c,resK_some]
theorem fr_l0 (hD:CT k_f13=some (.code s_f13)) (base m o L:Nat) (A:Heap) (hA:A.length=m) {G:List (List Int)} {q:Int} {T:List Int} {lvl:Nat→Nat} (ok:TreeOk G q T lvl) {tv:V} (hT0:∀ ob,Rd (A.set o ob) tv (T.map iV)) (htw:Wide1 tv) (ho:o < m) (hb:base≤o) (hL:m≤L) (hn:G.length < 2 ^ 18) (y:Int) {x j rl:Nat} {nv row:V}:
 ∀ (f:Nat) (r:Int) (H:Heap) (vs:List V) (R:List (List Int)),UpR G q lvl f r→L≤H.length→Ext (A.set o (.cells 0 vs)) H→getC H o 0=some vs→Bag m H vs (rowsV R)→R.length=G.length→(∀ q∈R,q.length+f≤2 ^ 43)→
 ∃ H' vs' r',itW (evC (callW CT) itW base s_f16_l0) [] L (frOf 89 [(5,tv),(6,.sl o 0 0 G.length 1),(7,.s (.int .i64 x)),(10,.s (.int .i64 y)),(11,.s (.int .i64 r)),(20,nv),(21,.s (.int .i64 G.length)),(22,.s (.int .i64 x)),(32,row),(33,.s (.int .i64 rl)),(34,.s (.int .i64 j))]) H=
   some (.ext 4,frOf 89 [(5,tv),(6,.sl o 0 0 G.length 1),(7,.s (.int .i64 x)),(10,.s (.int .i64 y)),(11,.s (.int .i64 r')),(20,nv),(21,.s (.int .i64 G.length)),(22,.s (.int .i64 x)),(32,row),(33,.s (.int .i64 rl)),(34,.s (.int .i64 j)),(52,bl false)],H')∧L≤H'.length∧Ext (A.set o (.cells 0 vs')) H'∧getC H' o 0=some vs'∧Bag m H' vs' (rowsV (runR T y f r R)):=by
 intro f
 have hlen:=ok.len
 have stop:∀ (r:Int) (H:Heap) (vs:List V) (R:List (List Int)),L≤H.length→Ext (A.set o (.cells 0 vs)) H→getC H o 0=some vs→Bag m H vs (rowsV R)→∀ (fr:List V),L≤(trim L fr H).length∧Ext (A.set o (.cells 0 vs)) (trim L fr H)∧getC (trim L fr H) o 0=some vs∧Bag m (trim L fr H) vs (rowsV R):=fun r H vs R hLH he hc hB fr=>
  ⟨trim_le hLH,he.trim (by rw [List.length_set];omega) _,trim_get hc (by omega),hB.trim hc (by omega) _⟩
 have hneg:∀ (r:Int) (H:Heap) (vs:List V) (R:List (List Int)),r < 0→L≤H.length→Ext (A.set o (.cells 0 vs)) H→getC H o 0=some vs→Bag m H vs (rowsV R)→
  ∃ H' vs' r',itW (evC (callW CT) itW base s_f16_l0) [] L (frOf 89 [(5,tv),(6,.sl o 0 0 G.length 1),(7,.s (.int .i64 x)),(10,.s (.int .i64 y)),(11,.s (.int .i64 r)),(20,nv),(21,.s (.int .i64 G.length)),(22,.s (.int .i64 x)),(32,row),(33,.s (.int .i64 rl)),(34,.s (.int .i64 j))]) H=
    some (.ext 4,frOf 89 [(5,tv),(6,.sl o 0 0 G.length 1),(7,.s (.int .i64 x)),(10,.s (.int .i64 y)),(11,.s (.int .i64 r')),(20,nv),(21,.s (.int .i64 G.length)),(22,.s (.int .i64 x)),(32,row),(33,.s (.int .i64 rl)),(34,.s (.int .i64 j)),(52,bl false)],H')∧L≤H'.length∧Ext (A.set o (.cells 0 vs')) H'∧getC H' o 0=some vs'∧Bag m H' vs' (rowsV R):=by
  intro r H vs R h0 hLH he hc hB
  have h0':¬ (0≤r):=by omega
  have st:=stop r H vs R hLH he hc hB (frOf 89 [(5,tv),(6,.sl o 0 0 G.length 1),(7,.s (.int .i64 x)),(10,.s (.int .i64 y)),(11,.s (.int .i64 r)),(20,nv),(21,.s (.int .i64 G.length)),(22,.s (.int .i64 x)),(32,row),(33,.s (.int .i64 rl)),(34,.s (.int .i64 j)),(52,bl false)])
  refine ⟨_,vs,r,?_,st⟩
  rw [itW_step]
  simp only [a_f16,s_f16_l0_b,s_f16_l1_b,s_f16_l2_b,s_f16_l3_b,aa,bl,i64,reduceIte,reduceCtorEq,Nat.reduceEqDiff,Nat.reduceLT,Nat.reduceLeDiff,Nat.reduceBEq,Nat.reduceAdd,fillA,splice,Nat.reduceMul,amY,op_eqP,ge_iff_le,h0',reqB_no,taleR_no,segL_no,fr_r11,bl]
 induction f with
 | zero=>
   intro r H vs R hu hLH he hc hB hR hq
   rcases hu with h0 | ⟨k,_,_,h⟩
   ·exact hneg r H vs R h0 hLH he hc hB
   ·omega
 | succ f ih=>
   intro r H vs R hu hLH he hc hB hR hq
   rcases hu with h0 | ⟨k,rfl,hk,hf⟩
   ·rw [runR_neg _ _ _ _ h0]
    exact hneg r H vs R h0 hLH he hc hB
   have hkn:=rch_lt hk
   have h0:¬ ((k:Int) < 0):=by omega
   have hge:(0:Int)≤(k:Int):=by omega
   have hdom:=dom_fun hD base H tv T (k:Int) y ((hT0 _).ext he) htw (by omega)
   have hrun:runR T y (f+1) (k:Int) R=if (k:Int)=y∨domB T (k:Int) y=false then runR T y f (T.getD k 0) (bump y R (k:Int)) else R:=by rw [runR,if_neg h0];rfl
   by_cases hgo:(k:Int)=y∨domB T (k:Int) y=false
   ·rw [hrun,if_pos hgo]
    have hRj:R[k]?=some (R.getD k []):=some_getD (by omega) []
    have hqj:=hq _ (List.mem_of_getElem? hRj)
    have hAH:=he.le
    rw [List.length_set] at hAH
    obtain ⟨w,v',H1,hw1,happ,hv1,hc1,hm1,hB1,hE1⟩:=hB.append (base:=base) (bytes:=8) (x:=iV y) hc ho (by omega) (by omega) (rowsV_get hRj) rfl (by rw [List.length_map];omega)
    obtain ⟨hb1,hb2⟩:=at_sl hc hkn hw1
    have hvl:vs.length=G.length:=by rw [hB.1,rowsV_len];exact hR
    have hst:=storeV_at (v:=v') (base:=base) hc1 hb hv1 (off:=k) (by omega)
    have he1:=hE1 _ (by rw [List.length_set];omega) he
    have he2:=he1.set_both (o:=o) (by rw [List.length_set];omega) (.cells 0 (vs.set k v'))
    rw [List.set_set] at he2
    have hc2:=getC_put (c':=vs.set k v') hc1
    rw [← rowsV_set] at hB1
    obtain ⟨ta,t1,t2⟩:=iV_get ((hT0 _).ext he2) htw (k:=k) (by omega)
    obtain ⟨d,hd⟩:∃ d,T.getD k 0=d:=⟨_,rfl⟩
    have hnx:=ok.next hk hf
    rw [hd] at t2 hnx ⊢
    have hkn':(k:Int) < (G.length:Int):=by omega
    have hix:(0≤(k:Int)∧(k:Int) < (G.length:Int)∧1=1):=by omega
    obtain ⟨H',vs',r',p1,p2,p3,p4,p5⟩:=ih d (trim L (frOf 89 [(5,tv),(6,.sl o 0 0 G.length 1),(7,.s (.int .i64 x)),(10,.s (.int .i64 y)),(11,.s (.int .i64 d)),(20,nv),(21,.s (.int .i64 G.length)),(22,.s (.int .i64 x)),(32,row),(33,.s (.int .i64 rl)),(34,.s (.int .i64 j))]) (H1.set o (.cells 0 (vs.set k v')))) (vs.set k v') (bump y R (k:Int)) hnx (trim_le (by rw [List.length_set];omega)) (he2.trim (by rw [List.length_set];omega) _) (trim_get hc2 (by omega)) (hB1.trim hc2 (by omega) _) (by rw [bump_len];exact hR) (by
     intro q hqm
     have:=bump_le (i:=y) (R:=R) (k:=(k:Int)) (B:=2 ^ 43 - f) (fun q hq1=>by have:=hq q hq1;omega) (by rw [Int.toNat_natCast];omega) q hqm
     omega)
    refine ⟨H',vs',r',?_,p2,p3,p4,p5⟩
    unfold iV at happ
    rw [itW_step]
    by_cases hy:(k:Int)=y
    ·have e1:((k:Int) == y)=true:=by rw [hy];simp
     simp only [a_f16,s_f16_l0_b,s_f16_l1_b,s_f16_l2_b,s_f16_l3_b,aa,bl,i64,reduceIte,reduceCtorEq,Nat.reduceEqDiff,Nat.reduceLT,Nat.reduceLeDiff,Nat.reduceBEq,Nat.reduceAdd,fillA,splice,Nat.reduceMul,amY,op_eqP,ge_iff_le,hge,e1,hb1,hb2,happ,hst,t1,t2]
     exact p1
    ·have e1:((k:Int) == y)=false:=by rw [beq_eq_false_iff_ne];exact hy
     rw [hgo.resolve_left hy] at hdom
     simp only [a_f16,s_f16_l0_b,s_f16_l1_b,s_f16_l2_b,s_f16_l3_b,aa,bl,i64,reduceIte,reduceCtorEq,Nat.reduceEqDiff,Nat.reduceLT,Nat.reduceLeDiff,Nat.reduceBEq,Nat.reduceAdd,fillA,splice,Nat.reduceMul,amY,op_eqP,ge_iff_le,hge,e1,hdom,hb1,hb2,happ,hst,t1,t2]
     exact p1
   ·rw [hrun,if_neg hgo]
    have hgo':=not_or.1 hgo
    have e1:((k:Int) == y)=false:=by rw [beq_eq_false_iff_ne];exact hgo'.1
    have e2:domB T (k:Int) y=true:=by have:=hgo'.2;cases h:domB T (k:Int) y <;> simp_all
    rw [e2] at hdom
    have st:=stop (k:Int) H vs R hLH he hc hB (frOf 89 [(5,tv),(6,.sl o 0 0 G.length 1),(7,.s (.int .i64 x)),(10,.s (.int .i64 y)),(11,.s (.int .i64 k)),(20,nv),(21,.s (.int .i64 G.length)),(22,.s (.int .i64 x)),(32,row),(33,.s (.int .i64 rl)),(34,.s (.int .i64 j)),(52,bl false)])
    refine ⟨_,vs,(k:Int),?_,st⟩
    rw [itW_step]
    simp only [a_f16,s_f16_l0_b,s_f16_l1_b,s_f16_l2_b,s_f16_l3_b,aa,bl,i64,reduceIte,reduceCtorEq,Nat.reduceEqDiff,Nat.reduceLT,Nat.reduceLeDiff,Nat.reduceBEq,Nat.reduceAdd,fillA,splice,Nat.reduceMul,amY,op_eqP,ge_iff_le,hge,e1,hdom,bl]
end
end Go.Proofs.Ytdmnenlpdeolaaa
set_option maxRecDepth 100000
namespace Go.Proofs.Ytdmnenlpdeolaaa
open Go.AM
theorem bump_le2 {i:Int} {R:List (List Int)} {k:Int} {B:Nat} (h:∀ q∈R,q.length+1≤B):∀ q∈bump i R k,q.length≤B:=by
 by_cases hk:k.toNat < R.length
 ·exact bump_le h hk
 ·intro q hq
  have:bump i R k=R:=by unfold bump;exact List.set_eq_of_length_le (by omega)
  rw [this] at hq
  have:=h q hq
  omega
theorem runR_le (T:List Int) (y:Int):∀ (f:Nat) (r:Int) (R:List (List Int)) (B:Nat),(∀ q∈R,q.length+f≤B)→∀ q∈runR T y f r R,q.length≤B:=by
 intro f
 induction f with
 | zero=>intro r R B h q hq;have:=h q hq;omega
 | succ f ih=>
   intro r R B h q hq
   rw [runR] at hq
   split at hq
   ·have:=h q hq;omega
   ·split at hq
    ·by_cases hB:f≤B
     ·refine ih _ (bump y R r) B (fun q hq=>?_) q hq
      have:=bump_le2 (i:=y) (R:=R) (k:=r) (B:=B - f) (fun q hq=>by have:=h q hq;omega) q hq
      omega
     ·match R,h,hq with
      | [],_,hq=>
        have:bump y [] r=[]:=rfl
        rw [this] at hq
        have hl:=runR_len T y f (T.getD r.toNat 0) []
        rw [List.eq_nil_of_length_eq_zero hl] at hq
        cases hq
      | q0 :: _,h,_=>have:=h q0 List.mem_cons_self;omega
    ·have:=h q hq;omega
def rowR (T:List Int) (n:Nat) (x:Int) (row:List Int) (R:List (List Int)):List (List Int):=row.foldl (fun R y=>runR T y n x R) R
theorem rowR_len (T:List Int) (n:Nat) (x:Int):∀ (row:List Int) (R:List (List Int)),(rowR T n x row R).length=R.length:=by
 intro row
 induction row with
 | nil=>intro R;rfl
 | cons y row ih=>intro R;show (rowR T n x row (runR T y n x R)).length=_;rw [ih,runR_len]
theorem rowR_le (T:List Int) (n:Nat) (x:Int):∀ (row:List Int) (R:List (List Int)) (B:Nat),(∀ q∈R,q.length+row.length * n≤B)→∀ q∈rowR T n x row R,q.length≤B:=by
 intro row
 induction row with
 | nil=>intro R B h q hq;have:=h q hq;simp at this;exact this
 | cons y row ih=>
   intro R B h q hq
   have hs:(y :: row).length * n=row.length * n+n:=by rw [List.length_cons,Nat.succ_mul]
   refine ih (runR T y n x R) B (fun q hq=>?_) q hq
   by_cases hB:row.length * n≤B
   ·have:=runR_le T y n x R (B - row.length * n) (fun q hq=>by have:=h q hq;omega) q hq
    omega
   ·match R,h,hq with
    | [],_,hq=>
      rw [List.eq_nil_of_length_eq_zero (runR_len T y n x [])] at hq
      cases hq
    | q0 :: _,h,_=>have:=h q0 List.mem_cons_self;omega
def frFrom (T:List Int) (n:Nat):Nat→List (List Int)→List (List Int)→List (List Int)
 | _,[],R=>R
 | x,r :: N,R=>frFrom T n (x+1) N (if T.getD x 0=-2 then R else rowR T n x r R)
theorem frFrom_len (T:List Int) (n:Nat):∀ (N:List (List Int)) (x:Nat) (R:List (List Int)),(frFrom T n x N R).length=R.length:=by
 intro N
 induction N with
 | nil=>intro x R;rfl
 | cons r N ih=>
   intro x R
   rw [frFrom,ih]
   split
   ·rfl
   ·exact rowR_len ..
theorem frFrom_le (T:List Int) (n:Nat):∀ (N:List (List Int)) (x:Nat) (R:List (List Int)) (B:Nat),(∀ q∈R,q.length+sumLen N * n≤B)→∀ q∈frFrom T n x N R,q.length≤B:=by
 intro N
 induction N with
 | nil=>intro x R B h q hq;have:=h q hq;omega
 | cons r N ih=>
   intro x R B h q hq
   have hs:sumLen (r :: N) * n=r.length * n+sumLen N * n:=by rw [show sumLen (r :: N)=r.length+sumLen N from rfl,Nat.add_mul]
   refine ih (x+1) _ B (fun q hq=>?_) q hq
   by_cases hB:sumLen N * n≤B
   ·split at hq
    ·have:=h q hq;omega
    ·have:=rowR_le T n x r R (B - sumLen N * n) (fun q hq=>by have:=h q hq;omega) q hq
     omega
   ·have hne:R≠[]:=fun e=>by
     subst e
     split at hq
     ·cases hq
     ·rw [List.eq_nil_of_length_eq_zero (rowR_len T n x r [])] at hq
      cases hq
    match R,h,hne with
    | [],_,hne=>exact absurd rfl hne
    | q0 :: _,h,_=>have:=h q0 List.mem_cons_self;omega
section
variable {CT:Nat→Option CFun}
theorem fr_l1 (hD:CT k_f13=some (.code s_f13)) (base m o L:Nat) (A:Heap) (hA:A.length=m) {G:List (List Int)} {q:Int} {T:List Int} {lvl:Nat→Nat} (ok:TreeOk G q T lvl) {tv:V} (hT0:∀ ob,Rd (A.set o ob) tv (T.map iV)) (htw:Wide1 tv) (ho:o < m) (hb:base≤o) (hL:m≤L) (hn:G.length < 2 ^ 18) {x:Nat} (hx:Rch G [q] x) {nv rv:V} {row:List Int} (hrow:∀ ob,Rd (A.set o ob) rv (row.map iV)) (hrw:Wide1 rv) (hrl:row.length < 2 ^ 40):
 ∀ (rest:List Int) (j:Nat) (H:Heap) (vs:List V) (R:List (List Int)),row.drop j=rest→j≤row.length→L≤H.length→Ext (A.set o (.cells 0 vs)) H→getC H o 0=some vs→Bag m H vs (rowsV R)→R.length=G.length→(∀ q∈R,q.length+rest.length * G.length≤2 ^ 43)→
 ∃ H' vs',itW (evC (callW CT) itW base s_f16_l1) [] L (frOf 89 [(5,tv),(6,.sl o 0 0 G.length 1),(7,.s (.int .i64 x)),(20,nv),(21,.s (.int .i64 G.length)),(22,.s (.int .i64 x)),(32,rv),(33,.s (.int .i64 row.length)),(34,.s (.int .i64 j))]) H=
   some (.ext 2,frOf 89 [(5,tv),(6,.sl o 0 0 G.length 1),(7,.s (.int .i64 x)),(20,nv),(21,.s (.int .i64 G.length)),(22,.s (.int .i64 x)),(32,rv),(33,.s (.int .i64 row.length)),(34,.s (.int .i64 row.length)),(35,bl false)],H')∧L≤H'.length∧Ext (A.set o (.cells 0 vs')) H'∧getC H' o 0=some vs'∧Bag m H' vs' (rowsV (rowR T G.length x rest R)):=by
 intro rest
 induction rest with
 | nil=>
   intro j H vs R hd hj hLH he hc hB hR hq
   obtain rfl:=drop_nil hd hj
   refine ⟨_,vs,?_,trim_le hLH,he.trim (by rw [List.length_set];omega) _,trim_get hc (by omega),hB.trim hc (by omega) (frOf 89 [(5,tv),(6,.sl o 0 0 G.length 1),(7,.s (.int .i64 x)),(20,nv),(21,.s (.int .i64 G.length)),(22,.s (.int .i64 x)),(32,rv),(33,.s (.int .i64 row.length)),(34,.s (.int .i64 row.length)),(35,bl false)])⟩
   rw [itW_step]
   simp only [a_f16,s_f16_l0_b,s_f16_l1_b,s_f16_l2_b,s_f16_l3_b,aa,bl,i64,reduceIte,reduceCtorEq,Nat.reduceEqDiff,Nat.reduceLT,Nat.reduceLeDiff,Nat.reduceBEq,Nat.reduceAdd,fillA,splice,Nat.reduceMul,amY,op_eqP,Int.lt_irrefl,bl]
 | cons y rest ih=>
   intro j H vs R hd hj hLH he hc hB hR hq
   obtain ⟨hy,hlt,hd'⟩:=drop_cons hd
   have hlt':(j:Int) < (row.length:Int):=by omega
   have hwk:=w64 (n:=j) (by omega)
   have hs:(y :: rest).length * G.length=rest.length * G.length+G.length:=by rw [List.length_cons,Nat.succ_mul]
   obtain ⟨a,a1,a2⟩:=iV_at ((hrow _).ext he) hrw hy
   obtain ⟨H1,vs1,r1,p1,p2,p3,p4,p5⟩:=fr_l0 hD base m o H.length A hA ok hT0 htw ho hb (by omega) hn y (x:=x) (j:=j) (rl:=row.length) (nv:=nv) (row:=rv) G.length (x:Int) H vs R (.inr ⟨x,rfl,hx,ok.lv x hx⟩) (Nat.le_refl _) he hc hB hR (fun q hq1=>by have:=hq q hq1;omega)
   obtain ⟨H',vs',q1,q2,q3,q4,q5⟩:=ih (j+1) (trim L (frOf 89 [(5,tv),(6,.sl o 0 0 G.length 1),(7,.s (.int .i64 x)),(20,nv),(21,.s (.int .i64 G.length)),(22,.s (.int .i64 x)),(32,rv),(33,.s (.int .i64 row.length)),(34,.s (.int .i64 (j+1:Nat)))]) H1) vs1 (runR T y G.length x R) hd' (by omega) (trim_le (by omega)) (p3.trim (by rw [List.length_set];omega) _) (trim_get p4 (by omega)) (p5.trim p4 (by omega) _) (by rw [runR_len];exact hR) (fun q hqm=>by
    have h0:rest.length * G.length≤2 ^ 43:=by
     match R,hR,hq with
     | [],h,_=>simp only [List.length_nil] at h;rw [← h];simp
     | q0 :: _,_,hq=>have:=hq q0 List.mem_cons_self;omega
    have:=runR_le T y G.length x R (2 ^ 43 - rest.length * G.length) (fun q hq1=>by have:=hq q hq1;omega) q hqm
    omega)
   refine ⟨H',vs',?_,q2,q3,q4,q5⟩
   simp only [bl] at p1
   rw [itW_step]
   simp only [a_f16,s_f16_l0_b,s_f16_l1_b,s_f16_l2_b,s_f16_l3_b,aa,bl,i64,reduceIte,reduceCtorEq,Nat.reduceEqDiff,Nat.reduceLT,Nat.reduceLeDiff,Nat.reduceBEq,Nat.reduceAdd,fillA,splice,Nat.reduceMul,amY,op_eqP,hlt',hwk,a1,a2,p1]
   exact q1
theorem fr_l2 (hD:CT k_f13=some (.code s_f13)) (base m o L:Nat) (A:Heap) (hA:A.length=m) {G:List (List Int)} {q:Int} {T:List Int} {lvl:Nat→Nat} (ok:TreeOk G q T lvl) {tv:V} (hT0:∀ ob,Rd (A.set o ob) tv (T.map iV)) (htw:Wide1 tv) (ho:o < m) (hb:base≤o) (hL:m≤L) (hn:G.length < 2 ^ 18) {nv:V} {N:List (List Int)} (hnv:OwnRows (o+1) A nv (rowsV N)) (hN:N.length=G.length) (hr:∀ r∈N,r.length < 2 ^ 40):
 ∀ (rest:List (List Int)) (x:Nat) (H:Heap) (vs:List V) (R:List (List Int)),N.drop x=rest→x≤N.length→L≤H.length→Ext (A.set o (.cells 0 vs)) H→getC H o 0=some vs→Bag m H vs (rowsV R)→R.length=G.length→(∀ q∈R,q.length+sumLen rest * G.length≤2 ^ 43)→
 ∃ H' vs',itW (evC (callW CT) itW base s_f16_l2) [] L (frOf 89 [(5,tv),(6,.sl o 0 0 G.length 1),(20,nv),(21,.s (.int .i64 G.length)),(22,.s (.int .i64 x))]) H=
   some (.ext 0,frOf 89 [(5,tv),(6,.sl o 0 0 G.length 1),(20,nv),(21,.s (.int .i64 G.length)),(22,.s (.int .i64 G.length)),(23,bl false)],H')∧L≤H'.length∧Ext (A.set o (.cells 0 vs')) H'∧getC H' o 0=some vs'∧Bag m H' vs' (rowsV (frFrom T G.length x rest R)):=by
 intro rest
 have hlen:=ok.len
 induction rest with
 | nil=>
   intro x H vs R hd hx hLH he hc hB hR hq
   have hxn:=drop_nil hd hx
   rw [hN] at hxn
   subst hxn
   refine ⟨_,vs,?_,trim_le hLH,he.trim (by rw [List.length_set];omega) _,trim_get hc (by omega),hB.trim hc (by omega) (frOf 89 [(5,tv),(6,.sl o 0 0 G.length 1),(20,nv),(21,.s (.int .i64 G.length)),(22,.s (.int .i64 G.length)),(23,bl false)])⟩
   rw [itW_step]
   simp only [a_f16,s_f16_l0_b,s_f16_l1_b,s_f16_l2_b,s_f16_l3_b,aa,bl,i64,reduceIte,reduceCtorEq,Nat.reduceEqDiff,Nat.reduceLT,Nat.reduceLeDiff,Nat.reduceBEq,Nat.reduceAdd,fillA,splice,Nat.reduceMul,amY,op_eqP,Int.lt_irrefl,bl]
 | cons r rest ih=>
   intro x H vs R hd hx hLH he hc hB hR hq
   obtain ⟨hxr,hxn,hd'⟩:=drop_cons hd
   rw [hN] at hxn
   have hlt':(x:Int) < (G.length:Int):=by omega
   have hwk:=w64 (n:=x) (by omega)
   have hs:sumLen (r :: rest) * G.length=r.length * G.length+sumLen rest * G.length:=by rw [show sumLen (r :: rest)=r.length+sumLen rest from rfl,Nat.add_mul]
   obtain ⟨t,t1,t2⟩:=iV_get ((hT0 _).ext he) htw (k:=x) (by omega)
   obtain ⟨nid,ng,nvs,hnve,hnc,hnm,hnl,hnr⟩:=hnv
   obtain ⟨rv,hx1,hx2⟩:=hnr x _ (rowsV_get hxr)
   have hni:nid≠o:=by omega
   have hAH:=he.le
   rw [List.length_set] at hAH
   have hnc':getC H nid ng=some nvs:=getC_ext (by rw [getC_other hni];exact hnc) he
   obtain ⟨a1,a2⟩:=at_sl hnc' (n:=N.length) (by omega) hx1
   rw [rowsV_len] at hnve
   rw [← hnve] at a1
   have hxl:xLen H .s rv=some (.s (.int .i64 r.length)):=by
    have:=((hx2.set (by omega) (.cells 0 vs)).ext he).rd.len
    rwa [List.length_map] at this
   have hnvs:OwnRows (o+1) A nv (rowsV N):=⟨nid,ng,nvs,by rw [rowsV_len];exact hnve,hnc,hnm,hnl,hnr⟩
   by_cases e2:T.getD x 0=-2
   ·have e3:(T.getD x 0 == -2)=true:=by rw [e2];rfl
    obtain ⟨H',vs',q1,q2,q3,q4,q5⟩:=ih (x+1) (trim L (frOf 89 [(5,tv),(6,.sl o 0 0 G.length 1),(20,nv),(21,.s (.int .i64 G.length)),(22,.s (.int .i64 (x+1:Nat)))]) H) vs R hd' (by omega) (trim_le (by omega)) (he.trim (by rw [List.length_set];omega) _) (trim_get hc (by omega)) (hB.trim hc (by omega) _) hR (fun q hqm=>by have:=hq q hqm;omega)
    refine ⟨H',vs',?_,q2,q3,q4,by rw [frFrom,if_pos e2];exact q5⟩
    rw [itW_step]
    simp only [a_f16,s_f16_l0_b,s_f16_l1_b,s_f16_l2_b,s_f16_l3_b,aa,bl,i64,reduceIte,reduceCtorEq,Nat.reduceEqDiff,Nat.reduceLT,Nat.reduceLeDiff,Nat.reduceBEq,Nat.reduceAdd,fillA,splice,Nat.reduceMul,amY,op_eqP,hlt',hwk,t1,t2,a1,a2,e3]
    exact q1
   ·have e3:(T.getD x 0 == -2)=false:=by rw [beq_eq_false_iff_ne];exact e2
    have hR':Rch G [q] x:=Classical.byContradiction fun hcn=>e2 (ok.un x hxn hcn)
    obtain ⟨H1,vs1,p1,p2,p3,p4,p5⟩:=fr_l1 hD base m o H.length A hA ok hT0 htw ho hb (by omega) hn hR' (nv:=nv) (rv:=rv) (row:=r) (fun ob=>(hx2.set (by omega) ob).rd) hx2.wide (hr r (List.mem_of_getElem? hxr)) r 0 H vs R rfl (Nat.zero_le _) (Nat.le_refl _) he hc hB hR (fun q hqm=>by have:=hq q hqm;omega)
    rw [cast0] at p1
    obtain ⟨H',vs',q1,q2,q3,q4,q5⟩:=ih (x+1) (trim L (frOf 89 [(5,tv),(6,.sl o 0 0 G.length 1),(20,nv),(21,.s (.int .i64 G.length)),(22,.s (.int .i64 (x+1:Nat)))]) H1) vs1 (rowR T G.length x r R) hd' (by omega) (trim_le (by omega)) (p3.trim (by rw [List.length_set];omega) _) (trim_get p4 (by omega)) (p5.trim p4 (by omega) _) (by rw [rowR_len];exact hR) (fun q hqm=>by
     have h0:sumLen rest * G.length≤2 ^ 43:=by
      match R,hR,hq with
      | [],h,_=>simp only [List.length_nil] at h;rw [← h];simp
      | q0 :: _,_,hq=>have:=hq q0 List.mem_cons_self;omega
     have:=rowR_le T G.length x r R (2 ^ 43 - sumLen rest * G.length) (fun q hq1=>by have:=hq q hq1;omega) q hqm
     omega)
    refine ⟨H',vs',?_,q2,q3,q4,by rw [frFrom,if_neg e2];exact q5⟩
    simp only [bl] at p1
    rw [itW_step]
    simp only [a_f16,s_f16_l0_b,s_f16_l1_b,s_f16_l2_b,s_f16_l3_b,aa,bl,i64,reduceIte,reduceCtorEq,Nat.reduceEqDiff,Nat.reduceLT,Nat.reduceLeDiff,Nat.reduceBEq,Nat.reduceAdd,fillA,splice,Nat.reduceMul,amY,op_eqP,hlt',hwk,t1,t2,a1,a2,e3,hxl,p1]
    exact q1
def frG (T:List Int) (G:List (List Int)):List (List Int):=(frFrom T G.length 0 (normG G) (List.replicate G.length [])).map fin
theorem frG_len (T:List Int) (G:List (List Int)):(frG T G).length=G.length:=by unfold frG;rw [List.length_map,frFrom_len,List.length_replicate]
theorem frontier_f (h:CT9 CT) (hD:CT k_f13=some (.code s_f13)) (hF:CT k_f16=some (.code s_f16)) (base:Nat) (H:Heap) (v:V) (G:List (List Int)) (q:Int) (hv:RdRows H v (rowsV G)) (hb:base≤H.length) (hn:G.length < 2 ^ 10) (hr:∀ r∈G,r.length < 2 ^ 10):
 ∃ (v':V) (H':Heap) (T:List Int) (lvl:Nat→Nat),callW CT (.fn k_f16 [] []) [v,.s (.int .i64 q)] base H=some (v',H')∧Ext H H'∧RdRows H' v' (rowsV (frG T G))∧TreeOk G q T lvl:=by
 have hvl:=rows_lenV hv
 obtain ⟨tv,A0,T,lvl,a1,a2,a3,a4⟩:=tree_f h base H v G q hv hb (by omega) (fun r h=>by have:=hr r h;omega)
 have l0:=a2.le
 have hmk:=make_n (H:=A0) (zero:=[nilS]) (sz:=1) (bytes:=24) (k:=.i64) (k':=.i64) (n:=G.length) (by omega)
 rw [flat_one] at hmk
 obtain ⟨nv,A,p1,p2,p3⟩:=norm_f h.g base (A0 ++ [.cells 0 (List.replicate G.length nilS)]) v G ((hv.ext a2).ext (Ext.app _ _)) (by simp;omega) (by omega) (fun r hr'=>by have:=hr r hr';omega)
 have hAl:=p2.le
 rw [len_snoc] at p3 hAl
 have hc:getC A A0.length 0=some (List.replicate G.length nilS):=getC_ext (getC_new A0 0 _) p2
 have hN:=normG_len G
 have e0A:Ext A0 A:=(Ext.app _ _).trans p2
 have hsum:=sumLen_le (b:=2 ^ 10) (normG G) (fun r hr'=>Nat.le_of_lt (normG_small hr r hr'))
 rw [hN] at hsum
 have hs2:G.length * 2 ^ 10≤2 ^ 10 * 2 ^ 10:=Nat.mul_le_mul_right _ (by omega)
 have hs3:sumLen (normG G) * G.length≤2 ^ 20 * 2 ^ 10:=Nat.mul_le_mul (by omega) (by omega)
 have hT0:∀ ob,Rd (A.set A0.length ob) tv (T.map iV):=fun ob=>a3.rd.ext (e0A.set (Nat.le_refl _) ob)
 obtain ⟨H1,vs1,q1,q2,q3,q4,q5⟩:=fr_l2 hD base A.length A0.length A.length A rfl a4 hT0 a3.wide (by omega) (by omega) (Nat.le_refl _) (by omega) p3 hN (fun r hr'=>Nat.lt_of_lt_of_le (normG_small hr r hr') (by omega)) (normG G) 0 A (List.replicate G.length nilS) (List.replicate G.length []) rfl (Nat.zero_le _) (Nat.le_refl _) (by rw [getC_same hc];exact Ext.refl A) hc (by have:=Bag.start A.length A G.length;rwa [show rowsV (List.replicate G.length [])=List.replicate G.length [] by simp [rowsV]]) (by simp) (fun q hq=>by
  rw [List.mem_replicate] at hq
  rw [hq.2]
  simp only [List.length_nil]
  omega)
 rw [cast0] at q1
 obtain ⟨R,hR⟩:∃ R,frFrom T G.length 0 (normG G) (List.replicate G.length [])=R:=⟨_,rfl⟩
 have hRl:R.length=G.length:=by rw [← hR,frFrom_len,List.length_replicate]
 have hRb:∀ r∈R,r.length≤2 ^ 43:=fun r hr'=>by
  rw [← hR] at hr'
  exact frFrom_le T G.length (normG G) 0 (List.replicate G.length []) (2 ^ 43) (fun q hq=>by
   rw [List.mem_replicate] at hq
   rw [hq.2]
   simp only [List.length_nil]
   omega) r hr'
 have hfr:frG T G=R.map fin:=by unfold frG;rw [hR]
 rw [hR] at q5
 have l2:=q3.le
 rw [List.length_set] at l2
 obtain ⟨H2,vs2,s1,s2,s3,s4,s5⟩:=fr_l3 h.g.sort h.g.comp base A.length A0.length H1.length A rfl R (by omega) (by omega) (by omega) (by omega) (fun r hr'=>by have:=hRb r hr';omega) R.length 0 H1 vs1 (by omega) (Nat.le_refl _) q3 q4 (by rw [finTo_zero];exact bag_own q5)
 rw [cast0,hRl] at s1
 have hnl:∀ H',xLen H' .s nv=some (.s (.int .i64 G.length)):=by
  have:=rows_lenV (G:=normG G) p3.rd
  rwa [hN] at this
 have hfl:∀ H',xLen H' .s (.sl A0.length 0 0 G.length 1)=some (.s (.int .i64 G.length)):=fun H'=>rfl
 refine ⟨.sl A0.length 0 0 G.length 1,H2,T,lvl,callW_fn (c:=s_f16) hF (by simp [s_f16]) ?_,?_,?_,a4⟩
 ·simp only [nilS,bl] at hmk p1 q1 s1
  simp only [s_f16,a_f16,s_f16_l0_b,s_f16_l1_b,s_f16_l2_b,s_f16_l3_b,aa,bl,i64,reduceIte,reduceCtorEq,Nat.reduceEqDiff,Nat.reduceLT,Nat.reduceLeDiff,Nat.reduceBEq,Nat.reduceAdd,fillA,splice,Nat.reduceMul,amY,op_eqP,a1,hvl,op_mkSl,hmk,p1,hnl,q1,s1]
 ·exact (a2.trans (e0A.set (Nat.le_refl _) _)).trans s3
 ·rw [hfr]
  have:=s5.rows s4
  rwa [rowsV_len,List.length_map,hRl] at this
end
end Go.Proofs.Ytdmnenlpdeolaaa
set_option maxRecDepth 100000
namespace Go.Proofs.Ytdmnenlpdeolaaa
open Go.AM
theorem fin_up (r:List Int):Up (fin r)∧∀ x,x∈fin r↔x∈r:=by
 have hs:(sortZ r).Pairwise (·≤·):=by
  have:=List.pairwise_mergeSort (le:=fun x y:Int=>decide (x≤y)) (by intro a b c;simp only [decide_eq_true_eq];omega) (by intro a b;simp only [Bool.or_eq_true,decide_eq_true_eq];omega) r
  simp only [decide_eq_true_eq] at this
  exact this
 have hm:∀ x,x∈sortZ r↔x∈r:=fun x=>by rw [sortZ,List.mem_mergeSort]
 unfold fin
 cases hz:sortZ r with
 | nil=>rw [hz] at hm;exact ⟨trivial,hm⟩
 | cons p l=>
   rw [hz] at hm hs
   obtain ⟨q1,q2⟩:=chg_up l p hs
   exact ⟨q1,fun x=>by rw [← hm x];exact q2 x⟩
inductive Run (T:List Int) (y:Int):Int→Nat→Prop
 | here (k:Nat):(k:Int)=y∨domB T (k:Int) y=false→Run T y (k:Int) k
 | up (k a:Nat):(k:Int)=y∨domB T (k:Int) y=false→Run T y (T.getD k 0) a→Run T y (k:Int) a
theorem bump_get2 (y:Int) (R:List (List Int)) (k a:Nat) (ha:a < R.length):(bump y R (k:Int)).getD a []=if k=a then R.getD a [] ++ [y] else R.getD a []:=by
 unfold bump
 rw [Int.toNat_natCast]
 by_cases e:k=a
 ·subst e
  rw [if_pos rfl,List.getD,List.getElem?_set_self ha];rfl
 ·rw [if_neg e,List.getD,List.getElem?_set_ne e];rfl
theorem run_nat {T:List Int} {y r:Int} {a:Nat} (h:Run T y r a):0≤r:=by
 cases h with
 | here k _=>omega
 | up k _ _ _=>omega
theorem runR_mem {G:List (List Int)} {q:Int} {T:List Int} {lvl:Nat→Nat} (ok:TreeOk G q T lvl) (y:Int) {a:Nat} (ha:a < G.length) (z:Int):∀ (f:Nat) (r:Int) (R:List (List Int)),UpR G q lvl f r→R.length=G.length→(z∈(runR T y f r R).getD a []↔z∈R.getD a []∨(z=y∧Run T y r a)):=by
 intro f
 induction f with
 | zero=>
   intro r R hu hR
   rcases hu with h0 | ⟨k,_,_,h⟩
   ·rw [runR_neg _ _ _ _ h0]
    exact ⟨.inl,fun h=>h.elim id fun h=>by have:=run_nat h.2;omega⟩
   ·omega
 | succ f ih=>
   intro r R hu hR
   rcases hu with h0 | ⟨k,rfl,hk,hf⟩
   ·rw [runR_neg _ _ _ _ h0]
    exact ⟨.inl,fun h=>h.elim id fun h=>by have:=run_nat h.2;omega⟩
   ·have h0:¬ ((k:Int) < 0):=by omega
    by_cases hgo:(k:Int)=y∨domB T (k:Int) y=false
    ·rw [runR,if_neg h0,if_pos hgo,Int.toNat_natCast,ih _ _ (ok.next hk hf) (by rw [bump_len];exact hR),bump_get2 _ _ _ _ (by omega)]
     constructor
     ·rintro (h | ⟨h1,h2⟩)
      ·split at h
       ·rename_i e
        rcases List.mem_append.1 h with h | h
        ·exact .inl h
        ·have:=List.mem_singleton.1 h
         subst e
         exact .inr ⟨this,.here k hgo⟩
       ·exact .inl h
      ·exact .inr ⟨h1,.up k a hgo h2⟩
     ·rintro (h | ⟨h1,h2⟩)
      ·refine .inl ?_
       split
       ·exact List.mem_append.2 (.inl h)
       ·exact h
      ·generalize hki:(k:Int)=ki at h2
       cases h2 with
       | here=>
         have e:k=a:=by omega
         rw [if_pos e]
         exact .inl (List.mem_append.2 (.inr (List.mem_singleton.2 h1)))
       | up k' _ _ h3=>
         have e:k=k':=by omega
         rw [e]
         exact .inr ⟨h1,h3⟩
    ·rw [runR,if_neg h0,if_neg hgo]
     refine ⟨.inl,fun h=>h.elim id fun h=>?_⟩
     obtain ⟨_,h2⟩:=h
     generalize hki:(k:Int)=ki at h2
     cases h2 with
     | here k' h3=>
       rw [← hki] at h3
       exact absurd h3 hgo
     | up k' _ h3 _=>
       rw [← hki] at h3
       exact absurd h3 hgo
theorem TreeOk.up2 {G:List (List Int)} {q:Int} {T:List Int} {lvl:Nat→Nat} (h:TreeOk G q T lvl) {y x:Nat} (hR:Rch G [q] y) (k:AncT T y x):Rch G [q] x:=by
 induction k with
 | refl=>exact hR
 | up k1 _ ih=>exact ih (h.nat k1).2.2.1
theorem TreeOk.dom_nat {G:List (List Int)} {q:Int} {T:List Int} {lvl:Nat→Nat} (h:TreeOk G q T lvl) {a x:Nat} (hx:Rch G [q] x):domB T a x=true↔AncT T x a:=by
 rw [h.dom]
 constructor
 ·rintro ⟨a',x',e1,e2,_,_,k⟩
  have e1:a=a':=by omega
  have e2:x=x':=by omega
  subst e1;subst e2;exact k
 ·intro k
  exact ⟨a,x,rfl,rfl,rch_lt (h.up2 hx k),hx,k⟩
theorem run_iff {G:List (List Int)} {q:Int} {T:List Int} {lvl:Nat→Nat} (ok:TreeOk G q T lvl) (y:Int) {x a:Nat} (hx:Rch G [q] x):Run T y (x:Int) a↔domB T a x=true∧((a:Int)=y∨domB T a y=false):=by
 constructor
 ·intro h
  generalize hxi:(x:Int)=xi at h
  induction h generalizing x with
  | here k hk=>
    have e:x=k:=by omega
    subst e
    exact ⟨(ok.dom_nat hx).2 (.refl _),hk⟩
  | up k a hk h2 ih=>
    have e:x=k:=by omega
    subst e
    have h0:=run_nat h2
    obtain ⟨d,hd⟩:=Int.eq_ofNat_of_zero_le h0
    have hT:T[x]?=some (d:Int):=by rw [some_getD (show x < T.length by rw [ok.len];exact rch_lt hx) 0,hd]
    have hnd:=ok.nat hT
    obtain ⟨i1,i2⟩:=ih hnd.2.2.1 hd.symm
    rw [show T.getD x 0=(d:Int) from hd] at i1
    exact ⟨(ok.dom_nat hx).2 (.up hT ((ok.dom_nat hnd.2.2.1).1 i1)),i2⟩
 ·rintro ⟨h1,h2⟩
  have hA:=(ok.dom_nat hx).1 h1
  clear h1
  induction hA with
  | refl=>exact .here _ h2
  | up k1 k2 ih=>
    rename_i b d a
    have hnd:=ok.nat k1
    refine .up b a ?_ (by rw [getD_some k1 0];exact ih hnd.2.2.1 h2)
    by_cases hby:(b:Int)=y
    ·exact .inl hby
    ·refine .inr ?_
     cases hbd:domB T (b:Int) y with
     | false=>rfl
     | true=>
       exfalso
       have hab:domB T (a:Int) (b:Int)=true:=(ok.dom_nat hx).2 (.up k1 k2)
       have hay:=ok.tra hab hbd
       rcases h2 with h2 | h2
       ·rw [h2] at hab
        exact hby (ok.anti hbd hab)
       ·rw [hay] at h2;cases h2
theorem rowR_mem {G:List (List Int)} {q:Int} {T:List Int} {lvl:Nat→Nat} (ok:TreeOk G q T lvl) {a x:Nat} (ha:a < G.length) (hx:Rch G [q] x) (z:Int):∀ (row:List Int) (R:List (List Int)),R.length=G.length→(z∈(rowR T G.length x row R).getD a []↔z∈R.getD a []∨(z∈row∧domB T a x=true∧((a:Int)=z∨domB T a z=false))):=by
 intro row
 induction row with
 | nil=>intro R _;show z∈R.getD a []↔_;simp
 | cons y row ih=>
   intro R hR
   show z∈(rowR T G.length x row (runR T y G.length x R)).getD a []↔_
   rw [ih _ (by rw [runR_len];exact hR),runR_mem ok y ha z G.length x R (.inr ⟨x,rfl,hx,ok.lv x hx⟩) hR,run_iff ok y hx,List.mem_cons]
   constructor
   ·rintro ((h | ⟨rfl,h⟩) | ⟨h,h'⟩)
    ·exact .inl h
    ·exact .inr ⟨.inl rfl,h⟩
    ·exact .inr ⟨.inr h,h'⟩
   ·rintro (h | ⟨rfl | h,h'⟩)
    ·exact .inl (.inl h)
    ·exact .inl (.inr ⟨rfl,h'⟩)
    ·exact .inr ⟨h,h'⟩
theorem frFrom_mem {G:List (List Int)} {q:Int} {T:List Int} {lvl:Nat→Nat} (ok:TreeOk G q T lvl) {a:Nat} (ha:a < G.length) (z:Int):∀ (N:List (List Int)) (x:Nat) (R:List (List Int)),x+N.length=G.length→R.length=G.length→(z∈(frFrom T G.length x N R).getD a []↔z∈R.getD a []∨∃ i,i < N.length∧Rch G [q] (x+i)∧z∈N.getD i []∧domB T a ((x+i:Nat):Int)=true∧((a:Int)=z∨domB T a z=false)):=by
 intro N
 induction N with
 | nil=>intro x R _ _;rw [frFrom];simp
 | cons r N ih=>
   intro x R hx hR
   rw [List.length_cons] at hx
   have hT:T.getD x 0=-2↔¬ Rch G [q] x:=by
    constructor
    ·intro e hR
     by_cases eq:(x:Int)=q
     ·have:=ok.rt x eq.symm (by omega);omega
     ·obtain ⟨d,e2,_⟩:=ok.id x hR eq
      omega
    ·exact ok.un x (by omega)
   rw [frFrom,ih (x+1) _ (by omega) (by split;exact hR;rw [rowR_len];exact hR)]
   have hmid:z∈(if T.getD x 0=-2 then R else rowR T G.length x r R).getD a []↔z∈R.getD a []∨(Rch G [q] x∧z∈r∧domB T a x=true∧((a:Int)=z∨domB T a z=false)):=by
    by_cases h:Rch G [q] x
    ·rw [if_neg (fun e=>hT.1 e h),rowR_mem ok ha h z r R hR]
     simp only [h,true_and]
    ·rw [if_pos (hT.2 h)]
     simp only [h,false_and,or_false]
   rw [hmid]
   constructor
   ·rintro ((h | h) | ⟨i,h1,h2,h3⟩)
    ·exact .inl h
    ·exact .inr ⟨0,by simp,h⟩
    ·exact .inr ⟨i+1,by simp;omega,by rw [show x+(i+1)=x+1+i by omega];exact ⟨h2,h3⟩⟩
   ·rintro (h | ⟨i,h1,h2,h3⟩)
    ·exact .inl (.inl h)
    ·cases i with
     | zero=>exact .inl (.inr ⟨h2,h3⟩)
     | succ i=>
       rw [show x+(i+1)=x+1+i by omega] at h2 h3
       exact .inr ⟨i,by simpa using h1,h2,h3⟩
theorem frG_row (T:List Int) (G:List (List Int)) {a:Nat} (ha:a < G.length):(frG T G).getD a []=fin ((frFrom T G.length 0 (normG G) (List.replicate G.length [])).getD a []):=by
 unfold frG
 have hl:a < (frFrom T G.length 0 (normG G) (List.replicate G.length [])).length:=by rw [frFrom_len,List.length_replicate];exact ha
 rw [List.getD,List.getElem?_map,some_getD hl []];rfl
theorem frG_up (T:List Int) (G:List (List Int)) {a:Nat} (ha:a < G.length):Up ((frG T G).getD a []):=by rw [frG_row T G ha];exact (fin_up _).1
theorem frG_mem {G:List (List Int)} {q:Int} {T:List Int} {lvl:Nat→Nat} (ok:TreeOk G q T lvl) {a:Nat} (ha:a < G.length) (z:Int):z∈(frG T G).getD a []↔∃ x:Nat,Rch G [q] x∧z∈(normG G).getD x []∧domB T a x=true∧((a:Int)=z∨domB T a z=false):=by
 have hN:=normG_len G
 rw [frG_row T G ha,(fin_up _).2,frFrom_mem ok ha z (normG G) 0 _ (by omega) (by simp)]
 have h0:(List.replicate G.length ([]:List Int)).getD a []=[]:=by rw [List.getD,List.getElem?_replicate,if_pos ha];rfl
 rw [h0]
 constructor
 ·rintro (h | ⟨i,_,h2,h3⟩)
  ·cases h
  ·rw [Nat.zero_add] at h2 h3
   exact ⟨i,h2,h3⟩
 ·rintro ⟨x,h1,h2⟩
  exact .inr ⟨x,by rw [hN];exact rch_lt h1,by rw [Nat.zero_add];exact ⟨h1,h2⟩⟩
end Go.Proofs.Ytdmnenlpdeolaaa
set_option maxRecDepth 100000
namespace Go.Proofs.Ytdmnenlpdeolaaa
open Go.AM
def SD (T:List Int) (b a:Nat):Prop:=(a:Int)≠(b:Int)∧domB T a b=true
def BI (T:List Int) (b k:Nat) (best:Int):Prop:=(best=-1∧∀ a,a < k→¬ SD T b a)∨∃ s:Nat,best=s∧s < k∧SD T b s∧∀ a,a < k→SD T b a→domB T a s=true
theorem BI.skip {T:List Int} {b k:Nat} {best:Int} (h:BI T b k best) (hs:¬ SD T b k):BI T b (k+1) best:=by
 rcases h with ⟨h1,h2⟩ | ⟨s,h1,h2,h3,h4⟩
 ·exact .inl ⟨h1,fun a ha=>by
   by_cases e:a=k
   ·rw [e];exact hs
   ·exact h2 a (by omega)⟩
 ·exact .inr ⟨s,h1,by omega,h3,fun a ha hS=>by
   by_cases e:a=k
   ·rw [e] at hS;exact absurd hS hs
   ·exact h4 a (by omega) hS⟩
theorem BI.take {G:List (List Int)} {q:Int} {T:List Int} {lvl:Nat→Nat} (ok:TreeOk G q T lvl) {b k:Nat} {best:Int} (h:BI T b k best) (hs:SD T b k) (hself:domB T k k=true) (hc:best < 0∨domB T best k=true):BI T b (k+1) k:=by
 refine .inr ⟨k,rfl,by omega,hs,fun a ha hS=>?_⟩
 by_cases e:a=k
 ·rw [e];exact hself
 ·rcases h with ⟨_,h2⟩ | ⟨s,h1,h2,h3,h4⟩
  ·exact absurd hS (h2 a (by omega))
  ·rcases hc with hc | hc
   ·omega
   ·rw [h1] at hc
    exact ok.tra (h4 a (by omega) hS) hc
theorem BI.keep {G:List (List Int)} {q:Int} {T:List Int} {lvl:Nat→Nat} (ok:TreeOk G q T lvl) {b k:Nat} {best:Int} (h:BI T b k best) (hs:SD T b k) (hc:¬ best < 0) (hd:domB T best k=false):BI T b (k+1) best:=by
 rcases h with ⟨h1,_⟩ | ⟨s,h1,h2,h3,h4⟩
 ·omega
 ·refine .inr ⟨s,h1,by omega,h3,fun a ha hS=>?_⟩
  by_cases e:a=k
  ·rw [e]
   rw [h1] at hd
   rcases ok.lin h3.2 hs.2 with k1 | k1
   ·rw [k1] at hd;cases hd
   ·exact k1
  ·exact h4 a (by omega) hS
theorem BI.fin {G:List (List Int)} {q:Int} {T:List Int} {lvl:Nat→Nat} (ok:TreeOk G q T lvl) {b:Nat} {best:Int} (hR:Rch G [q] b) (h:BI T b G.length best):best=T.getD b 0:=by
 have hbn:=rch_lt hR
 have hbT:b < T.length:=by rw [ok.len];exact hbn
 by_cases e:(b:Int)=q
 ·rw [ok.rt b e.symm hbn]
  rcases h with ⟨h1,_⟩ | ⟨s,_,_,h3,_⟩
  ·exact h1
  ·exfalso
   have h5:=ok.dom_nat hR |>.1 h3.2
   cases h5 with
   | refl=>exact h3.1 rfl
   | up k1 _=>
     have:=ok.nat k1
     exact this.2.1 e
 ·obtain ⟨d,hd,h1,h2⟩:=ok.id b hR e
  have hT:T[b]?=some (d:Int):=by rw [some_getD hbT 0,hd]
  have hdb:domB T d b=true:=(ok.dom_nat hR).2 (.up hT (.refl d))
  have hS:SD T b d:=⟨fun e=>by have:d=b:=by omega
                               rw [this] at h2;omega,hdb⟩
  rcases h with ⟨_,h4⟩ | ⟨s,h3,_,h5,h6⟩
  ·exact absurd hS (h4 d (rch_lt h1))
  ·rw [hd,h3]
   have k1:=h6 d (rch_lt h1) hS
   have k2:=ok.up (a:=s) hbn h5.1 h5.2 (by rw [hd];omega)
   rw [hd] at k2
   exact ok.anti k2 k1
section
variable {CT:Nat→Option CFun}
structure CQ9 (CT:Nat→Option CFun):Prop where
 r:CR CT
 wo:CT k_f44=some (.code s_f44)
 dm:CT k_f28=some (.code s_f28)
theorem rt_l0 (h:CQ9 CT) (base:Nat) {A:Heap} {v lv:V} {G:List (List Int)} {q:Int} {T:List Int} {lvl:Nat→Nat} (ok:TreeOk G q T lvl) (hb:base≤A.length) (hv:RdRows A v (rowsV G)) (hn:G.length < 2 ^ 18) (hr:∀ r∈G,r.length < 2 ^ 39) {b:Nat} (hR:Rch G [q] b):
 ∃ C,itW (evC (callW CT) itW base s_f12_l0) [] A.length (frOf 55 [(0,v),(1,.s (.int .i64 q)),(5,lv),(6,.s (.int .i64 b)),(7,.s (.int .i64 (-1))),(8,.s (.int .i64 0))]) A=some (.ext 2,frOf 55 [(0,v),(1,.s (.int .i64 q)),(5,lv),(6,.s (.int .i64 b)),(7,.s (.int .i64 (T.getD b 0))),(8,.s (.int .i64 G.length)),(26,bl false)],C)∧Ext A C:=by
 have hvl:=rows_lenV hv
 have hbn:=rch_lt hR
 obtain ⟨⟨C,best⟩,e1,a1,a2⟩:=it_rel G.length (fun k (s:Heap × Int)=>Ext A s.1∧BI T b k s.2) (fun k s=>itW (evC (callW CT) itW base s_f12_l0) [] A.length (frOf 55 [(0,v),(1,.s (.int .i64 q)),(5,lv),(6,.s (.int .i64 b)),(7,.s (.int .i64 s.2)),(8,.s (.int .i64 k))]) s.1) (by
  rintro k ⟨C,best⟩ hk ⟨hC,hB⟩
  simp only at hC hB
  have hlt':(k:Int) < (G.length:Int):=by omega
  have hwk:=w64 (n:=k) (by omega)
  have hle:=hC.le
  obtain ⟨C1,p1,p2⟩:=dominates_fun h.r h.wo h.dm base ok (a:=k) (b:=b) (by omega) (hv.ext hC) hk hbn hn hr
  have eC1:=hC.trans p2
  cases e1:((k:Int) == (b:Int)) with
  | true=>
    have hns:¬ SD T b k:=fun k=>k.1 (by simpa using e1)
    refine ⟨⟨Go.AM.trim A.length (frOf 55 [(0,v),(1,.s (.int .i64 q)),(5,lv),(6,.s (.int .i64 b)),(7,.s (.int .i64 best)),(8,.s (.int .i64 (k+1:Nat)))]) C,best⟩,?_,hC.trim (Nat.le_refl _) _,hB.skip hns⟩
    rw [itW_step]
    simp only [a_f12,s_f12_l0_b,s_f12_l1_b,aa,bl,i64,reduceIte,reduceCtorEq,Nat.reduceEqDiff,Nat.reduceLT,Nat.reduceLeDiff,Nat.reduceBEq,Nat.reduceAdd,fillA,splice,Nat.reduceMul,amY,op_eqP,hvl,hlt',hwk,e1]
  | false=>
    have hne:(k:Int)≠(b:Int):=by simpa using e1
    cases e2:domB T (k:Int) (b:Int) with
    | false=>
      have hns:¬ SD T b k:=fun k=>by rw [k.2] at e2;cases e2
      rw [e2] at p1
      refine ⟨⟨Go.AM.trim A.length (frOf 55 [(0,v),(1,.s (.int .i64 q)),(5,lv),(6,.s (.int .i64 b)),(7,.s (.int .i64 best)),(8,.s (.int .i64 (k+1:Nat)))]) C1,best⟩,?_,eC1.trim (Nat.le_refl _) _,hB.skip hns⟩
      rw [itW_step]
      simp only [a_f12,s_f12_l0_b,s_f12_l1_b,aa,bl,i64,reduceIte,reduceCtorEq,Nat.reduceEqDiff,Nat.reduceLT,Nat.reduceLeDiff,Nat.reduceBEq,Nat.reduceAdd,fillA,splice,Nat.reduceMul,amY,op_eqP,hvl,hlt',hwk,e1,p1]
    | true=>
      have hS:SD T b k:=⟨hne,e2⟩
      rw [e2] at p1
      have hRk:Rch G [q] k:=ok.up2 hR ((ok.dom_nat hR).1 e2)
      have hself:=(ok.dom_nat hRk).2 (.refl k)
      by_cases e3:best < 0
      ·refine ⟨⟨Go.AM.trim A.length (frOf 55 [(0,v),(1,.s (.int .i64 q)),(5,lv),(6,.s (.int .i64 b)),(7,.s (.int .i64 k)),(8,.s (.int .i64 (k+1:Nat)))]) C1,(k:Int)⟩,?_,eC1.trim (Nat.le_refl _) _,hB.take ok hS hself (.inl e3)⟩
       rw [itW_step]
       simp only [a_f12,s_f12_l0_b,s_f12_l1_b,aa,bl,i64,reduceIte,reduceCtorEq,Nat.reduceEqDiff,Nat.reduceLT,Nat.reduceLeDiff,Nat.reduceBEq,Nat.reduceAdd,fillA,splice,Nat.reduceMul,amY,op_eqP,hvl,hlt',hwk,e1,p1,e3]
      ·obtain ⟨s,hs⟩:=Int.eq_ofNat_of_zero_le (show 0≤best by omega)
       have hsn:s < G.length:=by
        rcases hB with ⟨h1,_⟩ | ⟨s',h1,h2,_⟩ <;> omega
       subst hs
       obtain ⟨C2,q1,q2⟩:=dominates_fun h.r h.wo h.dm base ok (a:=s) (b:=k) (by have:=eC1.le;omega) (hv.ext eC1) hsn hk hn hr
       have eC2:=eC1.trans q2
       cases e4:domB T (s:Int) (k:Int) with
       | true=>
         rw [e4] at q1
         refine ⟨⟨Go.AM.trim A.length (frOf 55 [(0,v),(1,.s (.int .i64 q)),(5,lv),(6,.s (.int .i64 b)),(7,.s (.int .i64 k)),(8,.s (.int .i64 (k+1:Nat)))]) C2,(k:Int)⟩,?_,eC2.trim (Nat.le_refl _) _,hB.take ok hS hself (.inr e4)⟩
         rw [itW_step]
         simp only [a_f12,s_f12_l0_b,s_f12_l1_b,aa,bl,i64,reduceIte,reduceCtorEq,Nat.reduceEqDiff,Nat.reduceLT,Nat.reduceLeDiff,Nat.reduceBEq,Nat.reduceAdd,fillA,splice,Nat.reduceMul,amY,op_eqP,hvl,hlt',hwk,e1,p1,e3,q1]
       | false=>
         rw [e4] at q1
         refine ⟨⟨Go.AM.trim A.length (frOf 55 [(0,v),(1,.s (.int .i64 q)),(5,lv),(6,.s (.int .i64 b)),(7,.s (.int .i64 s)),(8,.s (.int .i64 (k+1:Nat)))]) C2,(s:Int)⟩,?_,eC2.trim (Nat.le_refl _) _,hB.keep ok hS e3 e4⟩
         rw [itW_step]
         simp only [a_f12,s_f12_l0_b,s_f12_l1_b,aa,bl,i64,reduceIte,reduceCtorEq,Nat.reduceEqDiff,Nat.reduceLT,Nat.reduceLeDiff,Nat.reduceBEq,Nat.reduceAdd,fillA,splice,Nat.reduceMul,amY,op_eqP,hvl,hlt',hwk,e1,p1,e3,q1]) 0 ⟨A,-1⟩ (Nat.zero_le _) ⟨Ext.refl A,.inl ⟨rfl,fun a ha=>by omega⟩⟩
 rw [cast0] at e1
 simp only at e1 a1 a2
 have hbest:=a2.fin ok hR
 rw [← hbest]
 refine ⟨_,e1.trans ?_,a1.trim (Nat.le_refl _) (frOf 55 [(0,v),(1,.s (.int .i64 q)),(5,lv),(6,.s (.int .i64 b)),(7,.s (.int .i64 best)),(8,.s (.int .i64 G.length)),(26,bl false)])⟩
 rw [itW_step]
 simp only [bl,a_f12,s_f12_l0_b,s_f12_l1_b,aa,bl,i64,reduceIte,reduceCtorEq,Nat.reduceEqDiff,Nat.reduceLT,Nat.reduceLeDiff,Nat.reduceBEq,Nat.reduceAdd,fillA,splice,Nat.reduceMul,amY,op_eqP,hvl,Int.lt_irrefl]
end
end Go.Proofs.Ytdmnenlpdeolaaa
set_option maxRecDepth 100000
namespace Go.Proofs.Ytdmnenlpdeolaaa
open Go.AM
section
variable {CT:Nat→Option CFun}
theorem rt_l1 (h:CQ9 CT) (base:Nat) {A:Heap} {v:V} {G:List (List Int)} {q:Int} {T:List Int} {lvl:Nat→Nat} (ok:TreeOk G q T lvl) (hb:base≤A.length) (hv:RdRows A v (rowsV G)) (hn:G.length < 2 ^ 18) (hr:∀ r∈G,r.length < 2 ^ 39):
 ∃ C lv,itW (evC (callW CT) itW base s_f12_l1) [] A.length (frOf 55 [(0,v),(1,.s (.int .i64 q)),(5,nilS),(6,.s (.int .i64 0))]) A=some (.ext 0,frOf 55 [(0,v),(1,.s (.int .i64 q)),(5,lv),(6,.s (.int .i64 G.length)),(12,bl false)],C)∧Ext A C∧OwnN A.length C lv (T.map iV):=by
 have hvl:=rows_lenV hv
 have hTl:=ok.len
 obtain ⟨⟨C,lv⟩,e1,a1,a2⟩:=it_rel G.length (fun k (s:Heap × V)=>Ext A s.1∧OwnN A.length s.1 s.2 ((T.take k).map iV)) (fun k s=>itW (evC (callW CT) itW base s_f12_l1) [] A.length (frOf 55 [(0,v),(1,.s (.int .i64 q)),(5,s.2),(6,.s (.int .i64 k))]) s.1) (by
  rintro b ⟨C,lv⟩ hbn ⟨hC,hO⟩
  simp only at hC hO
  have hlt':(b:Int) < (G.length:Int):=by omega
  have hwk:=w64 (n:=b) (by omega)
  have hle:=hC.le
  have hgb:=some_getD (show b < T.length by omega) (0:Int)
  have htl:((T.take b).map iV).length≤b:=by rw [List.length_map,List.length_take];omega
  obtain ⟨C1,p1,p2⟩:=rleads_fun h.r base C v G q b (by omega) (hv.ext hC) (by omega) hr
  have eC1:=hC.trans p2
  have done:∀ (D:Heap) (x:Int),Ext A D→OwnN A.length D lv ((T.take b).map iV)→T.getD b 0=x→∃ v' D',appendV (D ++ [.cells 0 [.s (.int .i64 x)]]) base 1 8 lv (.sl D.length 0 0 1 1)=some (v',D')∧Ext A (Go.AM.trim A.length (frOf 55 [(0,v),(1,.s (.int .i64 q)),(5,v'),(6,.s (.int .i64 (b+1:Nat)))]) D')∧OwnN A.length (Go.AM.trim A.length (frOf 55 [(0,v),(1,.s (.int .i64 q)),(5,v'),(6,.s (.int .i64 (b+1:Nat)))]) D') v' ((T.take (b+1)).map iV):=by
   intro D x hD hOD hx
   obtain ⟨v',D',q1,q2,q3,q4⟩:=hOD.append (base:=base) (bytes:=8) (x:=iV x) hb rfl hD.le (by omega)
   have hD':Ext A D':=Ext.of_get (by have:=hD.le;omega) fun i hi=>by rw [q4 i hi,hD.get hi]
   refine ⟨v',D',q1,hD'.trim (Nat.le_refl _) _,?_⟩
   have:(T.take (b+1)).map iV=(T.take b).map iV ++ [iV x]:=by rw [take_snoc hgb,hx,List.map_append];rfl
   rw [this]
   exact q2.trim_fr (frOf_mem (s:=5) (by omega) rfl)
  by_cases hR:Rch G [q] b
  ·rw [(leadsB_nat G q b).2 hR] at p1
   obtain ⟨C2,l0,q2⟩:=rt_l0 h base (A:=C1) (lv:=lv) ok (by have:=eC1.le;omega) (hv.ext eC1) hn hr hR
   have eC2:=eC1.trans q2
   obtain ⟨v',D',d1,d2,d3⟩:=done C2 _ eC2 ((hO.ext p2).ext q2) rfl
   refine ⟨⟨Go.AM.trim A.length (frOf 55 [(0,v),(1,.s (.int .i64 q)),(5,v'),(6,.s (.int .i64 (b+1:Nat)))]) D',v'⟩,?_,d2,d3⟩
   simp only [bl] at l0
   rw [itW_step]
   simp only [a_f12,s_f12_l0_b,s_f12_l1_b,aa,bl,i64,reduceIte,reduceCtorEq,Nat.reduceEqDiff,Nat.reduceLT,Nat.reduceLeDiff,Nat.reduceBEq,Nat.reduceAdd,fillA,splice,Nat.reduceMul,amY,op_eqP,hvl,hlt',hwk,p1,l0,d1]
  ·have hf:leadsB G q b=false:=by rw [Bool.eq_false_iff];exact fun k=>hR ((leadsB_nat G q b).1 k)
   rw [hf] at p1
   obtain ⟨v',D',d1,d2,d3⟩:=done C1 (-2) eC1 (hO.ext p2) (ok.un b hbn hR)
   refine ⟨⟨Go.AM.trim A.length (frOf 55 [(0,v),(1,.s (.int .i64 q)),(5,v'),(6,.s (.int .i64 (b+1:Nat)))]) D',v'⟩,?_,d2,d3⟩
   rw [itW_step]
   simp only [a_f12,s_f12_l0_b,s_f12_l1_b,aa,bl,i64,reduceIte,reduceCtorEq,Nat.reduceEqDiff,Nat.reduceLT,Nat.reduceLeDiff,Nat.reduceBEq,Nat.reduceAdd,fillA,splice,Nat.reduceMul,amY,op_eqP,hvl,hlt',hwk,p1,d1]) 0 ⟨A,nilS⟩ (Nat.zero_le _) ⟨Ext.refl A,.inl ⟨rfl,.inl rfl⟩⟩
 rw [cast0] at e1
 simp only at e1 a1 a2
 rw [List.take_of_length_le (by omega)] at a2
 refine ⟨_,lv,e1.trans ?_,a1.trim (Nat.le_refl _) (frOf 55 [(0,v),(1,.s (.int .i64 q)),(5,lv),(6,.s (.int .i64 G.length)),(12,bl false)]),a2.trim_fr (frOf_mem (s:=5) (by omega) rfl)⟩
 rw [itW_step]
 simp only [bl,a_f12,s_f12_l0_b,s_f12_l1_b,aa,bl,i64,reduceIte,reduceCtorEq,Nat.reduceEqDiff,Nat.reduceLT,Nat.reduceLeDiff,Nat.reduceBEq,Nat.reduceAdd,fillA,splice,Nat.reduceMul,amY,op_eqP,hvl,Int.lt_irrefl]
theorem rtree_f (h:CQ9 CT) (hT:CT k_f12=some (.code s_f12)) (base:Nat) {A:Heap} {v:V} {G:List (List Int)} {q:Int} {T:List Int} {lvl:Nat→Nat} (ok:TreeOk G q T lvl) (hb:base≤A.length) (hv:RdRows A v (rowsV G)) (hn:G.length < 2 ^ 18) (hr:∀ r∈G,r.length < 2 ^ 39):
 ∃ v' H',callW CT (.fn k_f12 [] []) [v,.s (.int .i64 q)] base A=some (v',H')∧Ext A H'∧OwnN A.length H' v' (T.map iV):=by
 obtain ⟨C,lv,p1,p2,p3⟩:=rt_l1 h base ok hb hv hn hr
 refine ⟨lv,C,callW_fn (c:=s_f12) hT (by simp [s_f12]) ?_,p2,p3⟩
 simp only [nilS,bl] at p1
 simp only [s_f12,a_f12,s_f12_l0_b,s_f12_l1_b,aa,bl,i64,reduceIte,reduceCtorEq,Nat.reduceEqDiff,Nat.reduceLT,Nat.reduceLeDiff,Nat.reduceBEq,Nat.reduceAdd,fillA,splice,Nat.reduceMul,amY,op_eqP,p1]
end
end Go.Proofs.Ytdmnenlpdeolaaa
set_option maxRecDepth 100000
namespace Go.Proofs.Ytdmnenlpdeolaaa
open Go.AM
def Bg (m:Nat) (H:Heap) (vs:List V) (R:List (List V)):Prop:=
 vs.length=R.length∧∀ (j:Nat) (r:List V),R[j]?=some r→∃ x,vs[j]?=some x∧OwnN m H x r
theorem Bg.trim {m L o:Nat} {H:Heap} {vs:List V} {R:List (List V)} (h:Bg m H vs R) (hc:getC H o 0=some vs) (ho:o < L) (fr:List V):Bg m (trim L fr H) vs R:=
 ⟨h.1,fun j r hr=>by obtain ⟨x,h1,h2⟩:=h.2 j r hr;exact ⟨x,h1,h2.trim hc ho (List.mem_of_getElem? h1) fr⟩⟩
theorem Bg.ext {m:Nat} {H H':Heap} {vs:List V} {R:List (List V)} (h:Bg m H vs R) (k:Ext H H'):Bg m H' vs R:=
 ⟨h.1,fun j r hr=>by obtain ⟨x,h1,h2⟩:=h.2 j r hr;exact ⟨x,h1,h2.ext k⟩⟩
theorem Bg.rows {m o:Nat} {H:Heap} {vs:List V} {R:List (List V)} (h:Bg m H vs R) (hc:getC H o 0=some vs):RdRows H (.sl o 0 0 R.length 1) R:=
 ⟨vs,by rw [← h.1];exact getC_sl hc,trivial,h.1,fun i r hr=>by obtain ⟨x,h1,h2⟩:=h.2 i r hr;exact ⟨x,h1,h2.rd,h2.wide⟩⟩
theorem Bg.put {m o i:Nat} {H:Heap} {vs:List V} {R:List (List V)} {x:V} {r:List V} (h:Bg m H vs R) (ho:o < m) (hi:i < R.length) (hx:OwnN m H x r) (c:List V):Bg m (H.set o (.cells 0 c)) (vs.set i x) (R.set i r):=by
 refine ⟨by rw [List.length_set,List.length_set];exact h.1,fun j s hs=>?_⟩
 by_cases e:i=j
 ·subst e
  rw [List.getElem?_set_self hi] at hs
  obtain rfl:=Option.some.inj hs
  exact ⟨x,List.getElem?_set_self (by rw [h.1];exact hi),hx.set ho _⟩
 ·rw [List.getElem?_set_ne e] at hs
  obtain ⟨y,h1,h2⟩:=h.2 j s hs
  exact ⟨y,by rw [List.getElem?_set_ne e];exact h1,h2.set ho _⟩
def adR (T:List Int) (a:Nat) (l:List Int) (y:Int):List Int:=if (y=(a:Int))∨domB T a y=false then addZ l y else l
theorem adR_up (T:List Int) (a:Nat):∀ (row l:List Int),Up l→(∀ y∈row,0≤y)→Up (row.foldl (adR T a) l)∧∀ z,z∈row.foldl (adR T a) l↔z∈l∨(z∈row∧((a:Int)=z∨domB T a z=false)):=by
 intro row
 induction row with
 | nil=>intro l h _;exact ⟨h,fun z=>by simp⟩
 | cons y row ih=>
   intro l h hy
   have hy0:=hy y List.mem_cons_self
   rw [List.foldl_cons]
   by_cases hc:(y=(a:Int))∨domB T a y=false
   ·obtain ⟨u1,u2⟩:=addZ_up l y h hy0
    have e:adR T a l y=addZ l y:=if_pos hc
    rw [e]
    obtain ⟨i1,i2⟩:=ih _ u1 (fun z hz=>hy z (List.mem_cons_of_mem _ hz))
    refine ⟨i1,fun z=>?_⟩
    rw [i2 z,u2 z,List.mem_cons]
    constructor
    ·rintro ((k | rfl) | ⟨k,k'⟩)
     ·exact .inl k
     ·exact .inr ⟨.inl rfl,hc.imp Eq.symm id⟩
     ·exact .inr ⟨.inr k,k'⟩
    ·rintro (k | ⟨rfl | k,k'⟩)
     ·exact .inl (.inl k)
     ·exact .inl (.inr rfl)
     ·exact .inr ⟨k,k'⟩
   ·have e:adR T a l y=l:=if_neg hc
    rw [e]
    obtain ⟨i1,i2⟩:=ih _ h (fun z hz=>hy z (List.mem_cons_of_mem _ hz))
    refine ⟨i1,fun z=>?_⟩
    rw [i2 z,List.mem_cons]
    constructor
    ·rintro (k | ⟨k,k'⟩)
     ·exact .inl k
     ·exact .inr ⟨.inr k,k'⟩
    ·rintro (k | ⟨rfl | k,k'⟩)
     ·exact .inl k
     ·exact absurd (k'.imp Eq.symm id) hc
     ·exact .inr ⟨k,k'⟩
theorem addZ_len2 (l:List Int) (y:Int):(addZ l y).length≤l.length+1:=by
 unfold addZ
 cases (decide (y < 0) || l.contains y) with
 | true=>simp
 | false=>
   have:=congrArg List.length (List.takeWhile_append_dropWhile (p:=fun x=>decide (x < y)) (l:=l))
   rw [List.length_append] at this
   simp only [cond_false,List.length_append,List.length_cons]
   omega
theorem adR_len (T:List Int) (a:Nat):∀ (row l:List Int),(row.foldl (adR T a) l).length≤l.length+row.length:=by
 intro row
 induction row with
 | nil=>intro l;simp
 | cons y row ih=>
   intro l
   rw [List.foldl_cons]
   have h1:=ih (adR T a l y)
   have h2:(adR T a l y).length≤l.length+1:=by
    unfold adR
    split
    ·exact addZ_len2 l y
    ·omega
   rw [List.length_cons]
   omega
end Go.Proofs.Ytdmnenlpdeolaaa
set_option maxRecDepth 100000
namespace Go.Proofs.Ytdmnenlpdeolaaa
open Go.AM
def encI (k:Int):Value:=.int .i64 k
def setM (ks:List Int):Ob:=.map (esG encI ks fun _=>bl true)
section
variable {CT:Nat→Option CFun}
end
structure IS (A H:Heap) (j5 j6:Nat) (I W:List Int):Prop where
 ext:Ext A H
 a5:A.length≤j5
 a6:A.length≤j6
 ne:j5≠j6
 m5:H[j5]?=some (setM I)
 m6:H[j6]?=some (setM W)
theorem IS.lt {A H:Heap} {j5 j6:Nat} {I W:List Int} (h:IS A H j5 j6 I W):j5 < H.length∧j6 < H.length:=⟨(List.getElem?_eq_some_iff.1 h.m5).1,(List.getElem?_eq_some_iff.1 h.m6).1⟩
theorem IS.app {A H:Heap} {j5 j6:Nat} {I W:List Int} (h:IS A H j5 j6 I W) (E:Heap):IS A (H ++ E) j5 j6 I W:=
 ⟨h.ext.trans (Ext.app _ _),h.a5,h.a6,h.ne,by rw [List.getElem?_append_left h.lt.1];exact h.m5,by rw [List.getElem?_append_left h.lt.2];exact h.m6⟩
theorem IS.trim {A H:Heap} {j5 j6:Nat} {I W:List Int} (h:IS A H j5 j6 I W) {L:Nat} (h5:j5 < L) (h6:j6 < L) (fr:List V):IS A (trim L fr H) j5 j6 I W:=by
 refine ⟨h.ext.trim (by have:=h.a5;omega) fr,h.a5,h.a6,h.ne,?_,?_⟩
 ·rcases trim_or L fr H with e | ⟨e,_⟩ <;> rw [e]
  ·exact h.m5
  ·rw [List.getElem?_take_of_lt h5];exact h.m5
 ·rcases trim_or L fr H with e | ⟨e,_⟩ <;> rw [e]
  ·exact h.m6
  ·rw [List.getElem?_take_of_lt h6];exact h.m6
end Go.Proofs.Ytdmnenlpdeolaaa
set_option maxRecDepth 100000
namespace Go.Proofs.Ytdmnenlpdeolaaa
open Go.AM
def InR (n:Nat) (y:Int):Prop:=0≤y∧y < n
instance (n:Nat) (y:Int):Decidable (InR n y):=inferInstanceAs (Decidable (_∧_))
inductive ItR (F:List (List Int)) (l:List Int):Int→Prop
 | one (x y:Int):x∈l→InR F.length x→y∈F.getD x.toNat []→InR F.length y→ItR F l y
 | more (x y:Int):ItR F l x→InR F.length x→y∈F.getD x.toNat []→InR F.length y→ItR F l y
structure ItI (F:List (List Int)) (l I W:List Int):Prop where
 nI:I.Nodup
 nW:W.Nodup
 rI:∀ x∈I,ItR F l x
 rW:∀ x∈W,InR F.length x∧(x∈l∨ItR F l x)
def Closed (F:List (List Int)) (I:List Int) (z:Int):Prop:=∀ y∈F.getD z.toNat [],InR F.length y→y∈I
structure StI (F:List (List Int)) (l:List Int) (x:Int) (done:List Int) (I W:List Int):Prop where
 inv:ItI F l I W
 cl:∀ z,InR F.length z→(z∈l∨z∈I)→z∈W∨(z=x∧∀ y∈done,InR F.length y→y∈I)∨Closed F I z
structure RdI (F:List (List Int)) (l:List Int) (I W:List Int):Prop where
 inv:ItI F l I W
 cl:∀ z,InR F.length z→(z∈l∨z∈I)→z∈W∨Closed F I z
end Go.Proofs.Ytdmnenlpdeolaaa
set_option maxRecDepth 100000
namespace Go.Proofs.Ytdmnenlpdeolaaa
open Go.AM
section
variable {CT:Nat→Option CFun}
theorem rf_l0 (h:CQ9 CT) (base m o L:Nat) (A:Heap) (hA:A.length=m) {v nv:V} {G N:List (List Int)} {q:Int} {T:List Int} {lvl:Nat→Nat} (ok:TreeOk G q T lvl) (ho:o < m) (hb:base≤o) (hL:m≤L) (hv:∀ ob,RdRows (A.set o ob) v (rowsV G)) (hnv:∀ ob,RdRows (A.set o ob) nv (rowsV N)) (hn:G.length < 2 ^ 18) (hr:∀ r∈G,r.length < 2 ^ 39) {a x:Nat} (ha:a < G.length) (hx:x < N.length) {row l0:List Int} (hrow:N.getD x []=row) (hin:∀ y∈row,InR G.length y) (hrl:row.length < 2 ^ 38) (hl0:l0.length < 2 ^ 38) {R:List (List Int)} (hR:R.length=G.length)
 {H:Heap} {vs:List V} (hLH:L≤H.length) (he:Ext (A.set o (.cells 0 vs)) H) (hc:getC H o 0=some vs) (hB:Bg m H vs (rowsV (R.set a l0))):
 ∃ H' vs',itW (evC (callW CT) itW base s_f17_l0) [] L (frOf 71 [(0,v),(1,.s (.int .i64 q)),(5,nv),(6,.sl o 0 0 G.length 1),(7,.s (.int .i64 a)),(8,.s (.int .i64 x)),(9,.s (.int .i64 0))]) H=some (.ext 4,frOf 71 [(0,v),(1,.s (.int .i64 q)),(5,nv),(6,.sl o 0 0 G.length 1),(7,.s (.int .i64 a)),(8,.s (.int .i64 x)),(9,.s (.int .i64 row.length)),(40,bl false)],H')∧L≤H'.length∧Ext (A.set o (.cells 0 vs')) H'∧getC H' o 0=some vs'∧Bg m H' vs' (rowsV (R.set a (row.foldl (adR T a) l0))):=by
 have hgx:N[x]?=some row:=by rw [← hrow];exact some_getD hx []
 obtain ⟨⟨H',vs'⟩,e1,b1,b2,b3,b4⟩:=it_rel row.length (fun k (s:Heap × List V)=>L≤s.1.length∧Ext (A.set o (.cells 0 s.2)) s.1∧getC s.1 o 0=some s.2∧Bg m s.1 s.2 (rowsV (R.set a ((row.take k).foldl (adR T a) l0)))) (fun k s=>itW (evC (callW CT) itW base s_f17_l0) [] L (frOf 71 [(0,v),(1,.s (.int .i64 q)),(5,nv),(6,.sl o 0 0 G.length 1),(7,.s (.int .i64 a)),(8,.s (.int .i64 x)),(9,.s (.int .i64 k))]) s.1) (by
  rintro k ⟨C,ws⟩ hk ⟨hCL,hC,hcC,hBC⟩
  simp only at hCL hC hcC hBC
  have hlt':(k:Int) < (row.length:Int):=by omega
  have hwk:=w64 (n:=k) (by omega)
  have hgk:=some_getD hk (0:Int)
  have hml:=hC.le
  rw [List.length_set] at hml
  obtain ⟨ra,rx,r1,r2,r3,r4⟩:=rows_at ((hnv _).ext hC) hgx
  have hrlen:=iV_len r3
  obtain ⟨ya,y1,y2⟩:=iV_at r3 r4 hgk
  rw [take_snoc hgk,List.foldl_append]
  have hlenl:=adR_len T a (row.take k) l0
  rw [List.length_take] at hlenl
  obtain ⟨l,hl⟩:∃ l,(row.take k).foldl (adR T a) l0=l:=⟨_,rfl⟩
  rw [hl] at hBC hlenl ⊢
  obtain ⟨y,hyd⟩:∃ y,row.getD k 0=y:=⟨_,rfl⟩
  rw [hyd] at y2 hgk ⊢
  show ∃ t,_∧_∧_∧_∧Bg m _ _ (rowsV (R.set a (adR T a l y)))
  obtain ⟨b,hby⟩:=Int.eq_ofNat_of_zero_le (hin y (List.mem_of_getElem? hgk)).1
  have hbn:b < G.length:=by have:=(hin y (List.mem_of_getElem? hgk)).2;omega
  subst hby
  have hga:(rowsV (R.set a l))[a]?=some (l.map iV):=rowsV_get (by rw [List.getElem?_set_self (by omega)])
  have stay:∀ (D:Heap),Ext C D→adR T a l b=l→∀ fr:List V,L≤(Go.AM.trim L fr D).length∧Ext (A.set o (.cells 0 ws)) (Go.AM.trim L fr D)∧getC (Go.AM.trim L fr D) o 0=some ws∧Bg m (Go.AM.trim L fr D) ws (rowsV (R.set a (adR T a l b))):=fun D hD e fr=>
   ⟨trim_le (by have:=hD.le;omega),(hC.trans hD).trim (by rw [List.length_set];omega) _,trim_get (getC_ext hcC hD) (by omega),by rw [e];exact (hBC.ext hD).trim (getC_ext hcC hD) (by omega) _⟩
  have take:∀ (D:Heap),Ext C D→adR T a l b=addZ l b→∃ (w v':V) (D':Heap),ws[a]?=some w∧callW CT (.fn k_f32 [] []) [w,.s (.int .i64 b)] base D=some (v',D')∧getC D' o 0=some ws∧storeV D' base 1 v' (.ref o 0 a)=some (D'.set o (.cells 0 (ws.set a v')))∧∀ fr:List V,L≤(Go.AM.trim L fr (D'.set o (.cells 0 (ws.set a v')))).length∧Ext (A.set o (.cells 0 (ws.set a v'))) (Go.AM.trim L fr (D'.set o (.cells 0 (ws.set a v'))))∧getC (Go.AM.trim L fr (D'.set o (.cells 0 (ws.set a v')))) o 0=some (ws.set a v')∧Bg m (Go.AM.trim L fr (D'.set o (.cells 0 (ws.set a v')))) (ws.set a v') (rowsV (R.set a (adR T a l b))):=by
   intro D hD e
   obtain ⟨w,w1,w2⟩:=hBC.2 a _ hga
   have hDl:=hD.le
   obtain ⟨v',D',f1,f2,f3⟩:=add_fun h.r.add h.r.has base D w l b (w2.ext hD).rd w2.wide (by omega) (by omega)
   have hO:OwnN m D' v' ((addZ l b).map iV):=by
    rcases f3 with ⟨rfl,f3⟩ | f3
    ·rw [f3];exact (w2.ext hD).ext f2
    ·exact f3.mono (by omega)
   have hcD:=getC_ext (getC_ext hcC hD) f2
   have hwl:ws.length=G.length:=by rw [hBC.1,rowsV_len,List.length_set];exact hR
   have st:=storeV_at (v:=v') (base:=base) hcD hb hO.one (off:=a) (by omega)
   have e3:=((hC.trans hD).trans f2).set_both (o:=o) (by rw [List.length_set];omega) (.cells 0 (ws.set a v'))
   rw [List.set_set] at e3
   have hc3:=getC_put (c':=ws.set a v') hcD
   have hB3:=((hBC.ext hD).ext f2).put (o:=o) ho (i:=a) (by rw [rowsV_len,List.length_set];omega) hO (ws.set a v')
   rw [← rowsV_put,List.set_set,← e] at hB3
   have hf2:=f2.le
   exact ⟨w,v',D',w1,f1,hcD,st,fun fr=>⟨trim_le (by rw [List.length_set];omega),e3.trim (by rw [List.length_set];omega) _,trim_get hc3 (by omega),hB3.trim hc3 (by omega) _⟩⟩
  by_cases hya:(b:Int)=(a:Int)
  ·have ea:((b:Int) == (a:Int))=true:=by rw [hya];simp
   obtain ⟨w,v',D',t1,t2,t3,t4,t5⟩:=take C (Ext.refl C) (if_pos (.inl hya))
   obtain ⟨z1,z2⟩:=at_sl hcC ha t1
   refine ⟨⟨Go.AM.trim L (frOf 71 [(0,v),(1,.s (.int .i64 q)),(5,nv),(6,.sl o 0 0 G.length 1),(7,.s (.int .i64 a)),(8,.s (.int .i64 x)),(9,.s (.int .i64 (k+1:Nat)))]) (D'.set o (.cells 0 (ws.set a v'))),ws.set a v'⟩,?_,t5 _⟩
   rw [itW_step]
   simp only [a_f17,s_f17_l0_b,s_f17_l1_b,s_f17_l2_b,aa,bl,i64,reduceIte,reduceCtorEq,Nat.reduceEqDiff,Nat.reduceLT,Nat.reduceLeDiff,Nat.reduceBEq,Nat.reduceAdd,fillA,splice,Nat.reduceMul,amY,op_eqP,r1,r2,hrlen,hlt',hwk,y1,y2,ea,z1,z2,t2,t4]
  ·have ea:((b:Int) == (a:Int))=false:=by rw [beq_eq_false_iff_ne];exact hya
   obtain ⟨D,d1,d2⟩:=dominates_fun h.r h.wo h.dm base ok (a:=a) (b:=b) (by omega) ((hv _).ext hC) ha hbn hn hr
   cases hd:domB T (a:Int) (b:Int) with
   | true=>
     rw [hd] at d1
     have hst:=stay D d2 (if_neg (fun k=>k.elim hya fun k=>by rw [hd] at k;cases k))
     refine ⟨⟨Go.AM.trim L (frOf 71 [(0,v),(1,.s (.int .i64 q)),(5,nv),(6,.sl o 0 0 G.length 1),(7,.s (.int .i64 a)),(8,.s (.int .i64 x)),(9,.s (.int .i64 (k+1:Nat)))]) D,ws⟩,?_,hst _⟩
     rw [itW_step]
     simp only [a_f17,s_f17_l0_b,s_f17_l1_b,s_f17_l2_b,aa,bl,i64,reduceIte,reduceCtorEq,Nat.reduceEqDiff,Nat.reduceLT,Nat.reduceLeDiff,Nat.reduceBEq,Nat.reduceAdd,fillA,splice,Nat.reduceMul,amY,op_eqP,r1,r2,hrlen,hlt',hwk,y1,y2,ea,d1]
   | false=>
     rw [hd] at d1
     obtain ⟨w,v',D',t1,t2,t3,t4,t5⟩:=take D d2 (if_pos (.inr hd))
     obtain ⟨z1,z2⟩:=at_sl (getC_ext hcC d2) ha t1
     refine ⟨⟨Go.AM.trim L (frOf 71 [(0,v),(1,.s (.int .i64 q)),(5,nv),(6,.sl o 0 0 G.length 1),(7,.s (.int .i64 a)),(8,.s (.int .i64 x)),(9,.s (.int .i64 (k+1:Nat)))]) (D'.set o (.cells 0 (ws.set a v'))),ws.set a v'⟩,?_,t5 _⟩
     rw [itW_step]
     simp only [a_f17,s_f17_l0_b,s_f17_l1_b,s_f17_l2_b,aa,bl,i64,reduceIte,reduceCtorEq,Nat.reduceEqDiff,Nat.reduceLT,Nat.reduceLeDiff,Nat.reduceBEq,Nat.reduceAdd,fillA,splice,Nat.reduceMul,amY,op_eqP,r1,r2,hrlen,hlt',hwk,y1,y2,ea,d1,z1,z2,t2,t4]) 0 ⟨H,vs⟩ (Nat.zero_le _) ⟨hLH,he,hc,by simpa using hB⟩
 rw [cast0] at e1
 simp only [List.take_length] at e1 b1 b2 b3 b4
 obtain ⟨ra,rx,r1,r2,r3,r4⟩:=rows_at ((hnv _).ext b2) hgx
 have hrlen:=iV_len r3
 refine ⟨_,vs',e1.trans ?_,trim_le b1,b2.trim (by rw [List.length_set];omega) (frOf 71 [(0,v),(1,.s (.int .i64 q)),(5,nv),(6,.sl o 0 0 G.length 1),(7,.s (.int .i64 a)),(8,.s (.int .i64 x)),(9,.s (.int .i64 row.length)),(40,bl false)]),trim_get b3 (by omega),b4.trim b3 (by omega) _⟩
 rw [itW_step]
 simp only [a_f17,s_f17_l0_b,s_f17_l1_b,s_f17_l2_b,aa,bl,i64,reduceIte,reduceCtorEq,Nat.reduceEqDiff,Nat.reduceLT,Nat.reduceLeDiff,Nat.reduceBEq,Nat.reduceAdd,fillA,splice,Nat.reduceMul,amY,op_eqP,r1,r2,hrlen,Int.lt_irrefl,bl]
end
end Go.Proofs.Ytdmnenlpdeolaaa
set_option maxRecDepth 100000
namespace Go.Proofs.Ytdmnenlpdeolaaa
open Go.AM
def adN (T:List Int) (a:Nat):Nat→List (List Int)→List Int→List Int
 | _,[],l=>l
 | x,r :: N,l=>adN T a (x+1) N (if domB T a x=true then r.foldl (adR T a) l else l)
section
variable {CT:Nat→Option CFun}
theorem rf_l1 (h:CQ9 CT) (base m o L:Nat) (A:Heap) (hA:A.length=m) {v nv:V} {G N:List (List Int)} {q:Int} {T:List Int} {lvl:Nat→Nat} (ok:TreeOk G q T lvl) (ho:o < m) (hb:base≤o) (hL:m≤L) (hv:∀ ob,RdRows (A.set o ob) v (rowsV G)) (hnv:∀ ob,RdRows (A.set o ob) nv (rowsV N)) (hn:G.length < 2 ^ 18) (hr:∀ r∈G,r.length < 2 ^ 39) {a:Nat} (ha:a < G.length) (hN:N.length=G.length) (hin:∀ r∈N,∀ y∈r,InR G.length y) (hNl:∀ r∈N,r.length < 2 ^ 38) {R:List (List Int)} (hR:R.length=G.length):
 ∀ (rest:List (List Int)) (x:Nat) (l0:List Int) (H:Heap) (vs:List V),N.drop x=rest→x≤N.length→l0.length+sumLen rest < 2 ^ 38→L≤H.length→Ext (A.set o (.cells 0 vs)) H→getC H o 0=some vs→Bg m H vs (rowsV (R.set a l0))→
 ∃ H' vs',itW (evC (callW CT) itW base s_f17_l1) [] L (frOf 71 [(0,v),(1,.s (.int .i64 q)),(5,nv),(6,.sl o 0 0 G.length 1),(7,.s (.int .i64 a)),(8,.s (.int .i64 x))]) H=some (.ext 2,frOf 71 [(0,v),(1,.s (.int .i64 q)),(5,nv),(6,.sl o 0 0 G.length 1),(7,.s (.int .i64 a)),(8,.s (.int .i64 G.length)),(25,bl false)],H')∧L≤H'.length∧Ext (A.set o (.cells 0 vs')) H'∧getC H' o 0=some vs'∧Bg m H' vs' (rowsV (R.set a (adN T a x rest l0))):=by
 intro rest
 have hvl:=rows_lenV (hv (.cells 0 []))
 induction rest with
 | nil=>
   intro x l0 H vs hd hx hl hLH he hc hB
   have hxn:=drop_nil hd hx
   rw [hN] at hxn
   subst hxn
   refine ⟨_,vs,?_,trim_le hLH,he.trim (by rw [List.length_set];omega) (frOf 71 [(0,v),(1,.s (.int .i64 q)),(5,nv),(6,.sl o 0 0 G.length 1),(7,.s (.int .i64 a)),(8,.s (.int .i64 G.length)),(25,bl false)]),trim_get hc (by omega),hB.trim hc (by omega) _⟩
   rw [itW_step]
   simp only [a_f17,s_f17_l0_b,s_f17_l1_b,s_f17_l2_b,aa,bl,i64,reduceIte,reduceCtorEq,Nat.reduceEqDiff,Nat.reduceLT,Nat.reduceLeDiff,Nat.reduceBEq,Nat.reduceAdd,fillA,splice,Nat.reduceMul,amY,op_eqP,hvl,Int.lt_irrefl,bl]
 | cons r rest ih=>
   intro x l0 H vs hd hx hl hLH he hc hB
   obtain ⟨hxr,hxn,hd'⟩:=drop_cons hd
   have hxG:x < G.length:=by omega
   have hlt':(x:Int) < (G.length:Int):=by omega
   have hwk:=w64 (n:=x) (by omega)
   have hs:sumLen (r :: rest)=r.length+sumLen rest:=rfl
   have hml:=he.le
   rw [List.length_set] at hml
   obtain ⟨D,d1,d2⟩:=dominates_fun h.r h.wo h.dm base ok (a:=a) (b:=x) (by omega) ((hv _).ext he) ha hxG hn hr
   have hDl:=d2.le
   cases hdm:domB T (a:Int) (x:Int) with
   | false=>
     rw [hdm] at d1
     obtain ⟨H',vs',q1,q2,q3,q4,q5⟩:=ih (x+1) l0 (Go.AM.trim L (frOf 71 [(0,v),(1,.s (.int .i64 q)),(5,nv),(6,.sl o 0 0 G.length 1),(7,.s (.int .i64 a)),(8,.s (.int .i64 (x+1:Nat)))]) D) vs hd' (by omega) (by omega) (trim_le (by omega)) ((he.trans d2).trim (by rw [List.length_set];omega) _) (trim_get (getC_ext hc d2) (by omega)) ((hB.ext d2).trim (getC_ext hc d2) (by omega) _)
     refine ⟨H',vs',?_,q2,q3,q4,by rw [adN,hdm,if_neg (by decide)];exact q5⟩
     rw [itW_step]
     simp only [a_f17,s_f17_l0_b,s_f17_l1_b,s_f17_l2_b,aa,bl,i64,reduceIte,reduceCtorEq,Nat.reduceEqDiff,Nat.reduceLT,Nat.reduceLeDiff,Nat.reduceBEq,Nat.reduceAdd,fillA,splice,Nat.reduceMul,amY,op_eqP,hvl,hlt',hwk,d1]
     exact q1
   | true=>
     rw [hdm] at d1
     have hrow:N.getD x []=r:=getD_some hxr []
     have hal:=adR_len T a r l0
     obtain ⟨H1,vs1,p1,p2,p3,p4,p5⟩:=rf_l0 h base m o D.length A hA ok ho hb (by omega) hv hnv hn hr ha hxn hrow (hin r (List.mem_of_getElem? hxr)) (hNl r (List.mem_of_getElem? hxr)) (by omega) hR (Nat.le_refl _) (he.trans d2) (getC_ext hc d2) (hB.ext d2)
     obtain ⟨H',vs',q1,q2,q3,q4,q5⟩:=ih (x+1) (r.foldl (adR T a) l0) (Go.AM.trim L (frOf 71 [(0,v),(1,.s (.int .i64 q)),(5,nv),(6,.sl o 0 0 G.length 1),(7,.s (.int .i64 a)),(8,.s (.int .i64 (x+1:Nat)))]) H1) vs1 hd' (by omega) (by omega) (trim_le (by omega)) (p3.trim (by rw [List.length_set];omega) _) (trim_get p4 (by omega)) (p5.trim p4 (by omega) _)
     refine ⟨H',vs',?_,q2,q3,q4,by rw [adN,hdm,if_pos rfl];exact q5⟩
     simp only [bl] at p1
     rw [itW_step]
     simp only [a_f17,s_f17_l0_b,s_f17_l1_b,s_f17_l2_b,aa,bl,i64,reduceIte,reduceCtorEq,Nat.reduceEqDiff,Nat.reduceLT,Nat.reduceLeDiff,Nat.reduceBEq,Nat.reduceAdd,fillA,splice,Nat.reduceMul,amY,op_eqP,hvl,hlt',hwk,d1,p1]
     exact q1
end
theorem adN_up {G:List (List Int)} {q:Int} {T:List Int} {lvl:Nat→Nat} (ok:TreeOk G q T lvl) (a:Nat):∀ (N:List (List Int)) (x:Nat) (l:List Int),Up l→(∀ r∈N,∀ y∈r,0≤y)→Up (adN T a x N l)∧∀ z,z∈adN T a x N l↔z∈l∨∃ i,i < N.length∧z∈N.getD i []∧domB T a ((x+i:Nat):Int)=true∧((a:Int)=z∨domB T a z=false):=by
 intro N
 induction N with
 | nil=>intro x l h _;exact ⟨h,fun z=>by simp [adN]⟩
 | cons r N ih=>
   intro x l h hy
   have hmid:Up (if domB T a x=true then r.foldl (adR T a) l else l)∧∀ z,z∈(if domB T a x=true then r.foldl (adR T a) l else l)↔z∈l∨(z∈r∧domB T a x=true∧((a:Int)=z∨domB T a z=false)):=by
    split
    ·rename_i hd
     obtain ⟨u1,u2⟩:=adR_up T a r l h (hy r List.mem_cons_self)
     exact ⟨u1,fun z=>by rw [u2 z,hd];simp⟩
    ·rename_i hd
     exact ⟨h,fun z=>by simp [hd]⟩
   obtain ⟨i1,i2⟩:=ih (x+1) _ hmid.1 (fun r hr=>hy r (List.mem_cons_of_mem _ hr))
   rw [adN]
   refine ⟨i1,fun z=>?_⟩
   rw [i2 z,hmid.2 z]
   constructor
   ·rintro ((k | k) | ⟨i,h1,h2,h3⟩)
    ·exact .inl k
    ·exact .inr ⟨0,by simp,k⟩
    ·exact .inr ⟨i+1,by simp;omega,h2,by rw [show x+(i+1)=x+1+i by omega];exact h3⟩
   ·rintro (k | ⟨i,h1,h2,h3⟩)
    ·exact .inl (.inl k)
    ·cases i with
     | zero=>exact .inl (.inr ⟨h2,h3⟩)
     | succ i=>
       rw [show x+(i+1)=x+1+i by omega] at h3
       exact .inr ⟨i,by simpa using h1,h2,h3⟩
end Go.Proofs.Ytdmnenlpdeolaaa
set_option maxRecDepth 100000
namespace Go.Proofs.Ytdmnenlpdeolaaa
open Go.AM
def adG (T:List Int) (N:List (List Int)) (n a:Nat):List (List Int):=(List.range n).map fun j=>if j < a then adN T j 0 N [] else []
theorem adG_len (T:List Int) (N:List (List Int)) (n a:Nat):(adG T N n a).length=n:=by simp [adG]
theorem adG_get (T:List Int) (N:List (List Int)) {n a j:Nat} (hj:j < n):(adG T N n a)[j]?=some (if j < a then adN T j 0 N [] else []):=by
 unfold adG
 rw [List.getElem?_map,List.getElem?_range hj];rfl
theorem adG_set (T:List Int) (N:List (List Int)) {n a:Nat} (ha:a < n):(adG T N n a).set a (adN T a 0 N [])=adG T N n (a+1):=by
 apply List.ext_getElem?
 intro j
 by_cases hj:j < n
 ·rw [adG_get T N hj]
  by_cases e:a=j
  ·subst e
   rw [List.getElem?_set_self (by rw [adG_len];exact ha),if_pos (by omega)]
  ·rw [List.getElem?_set_ne e,adG_get T N hj]
   have:(j < a+1)=(j < a):=by rw [eq_iff_iff];omega
   simp only [this]
 ·rw [List.getElem?_eq_none (by rw [List.length_set,adG_len];omega),List.getElem?_eq_none (by rw [adG_len];omega)]
theorem adG_same (T:List Int) (N:List (List Int)) {n a:Nat} (ha:a < n):(adG T N n a).set a []=adG T N n a:=by
 apply List.ext_getElem?
 intro j
 by_cases e:a=j
 ·subst e
  rw [List.getElem?_set_self (by rw [adG_len];exact ha),adG_get T N ha,if_neg (by omega)]
 ·rw [List.getElem?_set_ne e]
theorem adG_zero (T:List Int) (N:List (List Int)) (n:Nat):adG T N n 0=List.replicate n []:=by
 apply List.ext_getElem?
 intro j
 by_cases hj:j < n
 ·rw [adG_get T N hj,List.getElem?_replicate,if_pos hj];rfl
 ·rw [List.getElem?_eq_none (by rw [adG_len];omega),List.getElem?_eq_none (by simp;omega)]
theorem adG_fr {G:List (List Int)} {q:Int} {T:List Int} {lvl:Nat→Nat} (ok:TreeOk G q T lvl):adG T (normG G) G.length G.length=frG T G:=by
 apply List.ext_getElem?
 intro a
 by_cases ha:a < G.length
 ·rw [adG_get T _ ha,if_pos ha,some_getD (show a < (frG T G).length by rw [frG_len];exact ha) []]
  congr 1
  obtain ⟨u1,u2⟩:=adN_up ok a (normG G) 0 [] trivial (fun r hr y hy=>(normG_in hr hy).1)
  refine up_eq _ _ u1 (frG_up T G ha) fun z=>?_
  rw [u2 z,frG_mem ok ha z]
  constructor
  ·rintro (k | ⟨i,h1,h2,h3,h4⟩)
   ·cases k
   ·rw [Nat.zero_add] at h3
    obtain ⟨_,y,_,e,_,hy,_⟩:=(ok.dom (a:Int) (i:Int)).1 h3
    have e:i=y:=by omega
    subst e
    exact ⟨i,hy,h2,h3,h4⟩
  ·rintro ⟨x,h1,h2,h3,h4⟩
   exact .inr ⟨x,by rw [normG_len];exact rch_lt h1,h2,by rw [Nat.zero_add];exact h3,h4⟩
 ·rw [List.getElem?_eq_none (by rw [adG_len];omega),List.getElem?_eq_none (by rw [frG_len];omega)]
section
variable {CT:Nat→Option CFun}
theorem rfrontier_f (h:CQ9 CT) (hF:CT k_f17=some (.code s_f17)) (base:Nat) (H:Heap) (v:V) (G:List (List Int)) {q:Int} {T:List Int} {lvl:Nat→Nat} (ok:TreeOk G q T lvl) (hv:RdRows H v (rowsV G)) (hb:base≤H.length) (hn:G.length < 2 ^ 10) (hr:∀ r∈G,r.length < 2 ^ 10):
 ∃ (v':V) (H':Heap),callW CT (.fn k_f17 [] []) [v,.s (.int .i64 q)] base H=some (v',H')∧Ext H H'∧RdRows H' v' (rowsV (frG T G)):=by
 have hvl:=rows_lenV hv
 have hr39:∀ r∈G,r.length < 2 ^ 39:=fun r h=>by have:=hr r h;omega
 obtain ⟨nv,A0,p1,p2,p3⟩:=rnorm_f h.r base H v G hv hb (by omega) hr39
 have l0:=p2.le
 have hmk:=make_n (H:=A0) (zero:=[nilS]) (sz:=1) (bytes:=24) (k:=.i64) (k':=.i64) (n:=G.length) (by omega)
 rw [flat_one] at hmk
 obtain ⟨A,hA⟩:∃ A:Heap,A0 ++ [.cells 0 (List.replicate G.length nilS)]=A:=⟨_,rfl⟩
 have e0A:Ext A0 A:=by rw [← hA];exact Ext.app _ _
 have hAl:A.length=A0.length+1:=by rw [← hA];simp
 have hc:getC A A0.length 0=some (List.replicate G.length nilS):=by rw [← hA];exact getC_new A0 0 _
 have hN:=normG_len G
 have hsum:=sumLen_le (b:=2 ^ 10) (normG G) (fun r hr'=>Nat.le_of_lt (normG_small hr r hr'))
 rw [hN] at hsum
 have hs2:G.length * 2 ^ 10≤2 ^ 10 * 2 ^ 10:=Nat.mul_le_mul_right _ (by omega)
 have hv0:∀ ob,RdRows (A.set A0.length ob) v (rowsV G):=fun ob=>hv.ext (p2.trans (e0A.set (Nat.le_refl _) ob))
 have hnv0:∀ ob,RdRows (A.set A0.length ob) nv (rowsV (normG G)):=fun ob=>p3.ext (e0A.set (Nat.le_refl _) ob)
 obtain ⟨⟨H1,vs1⟩,e1,b1,b2,b3,b4⟩:=it_rel G.length (fun a (s:Heap × List V)=>A.length≤s.1.length∧Ext (A.set A0.length (.cells 0 s.2)) s.1∧getC s.1 A0.length 0=some s.2∧Bg A.length s.1 s.2 (rowsV (adG T (normG G) G.length a))) (fun a s=>itW (evC (callW CT) itW base s_f17_l2) [] A.length (frOf 71 [(0,v),(1,.s (.int .i64 q)),(5,nv),(6,.sl A0.length 0 0 G.length 1),(7,.s (.int .i64 a))]) s.1) (by
  rintro a ⟨C,ws⟩ ha ⟨c1,c2,c3,c4⟩
  simp only at c1 c2 c3 c4
  have hlt':(a:Int) < (G.length:Int):=by omega
  have hwk:=w64 (n:=a) (by omega)
  obtain ⟨H1,vs1,q1,q2,q3,q4,q5⟩:=rf_l1 h base A.length A0.length C.length A rfl ok (by omega) (by omega) c1 hv0 hnv0 (by omega) hr39 ha hN (fun r hr' y hy=>normG_in hr' hy) (fun r hr'=>Nat.lt_of_lt_of_le (normG_small hr r hr') (by omega)) (R:=adG T (normG G) G.length a) (adG_len _ _ _ _) (normG G) 0 [] C ws rfl (Nat.zero_le _) (by simp only [List.length_nil];omega) (Nat.le_refl _) c2 c3 (by rw [adG_same _ _ ha];exact c4)
  rw [adG_set _ _ ha] at q5
  rw [cast0] at q1
  refine ⟨⟨Go.AM.trim A.length (frOf 71 [(0,v),(1,.s (.int .i64 q)),(5,nv),(6,.sl A0.length 0 0 G.length 1),(7,.s (.int .i64 (a+1:Nat)))]) H1,vs1⟩,?_,trim_le (by omega),q3.trim (by rw [List.length_set];omega) _,trim_get q4 (by omega),q5.trim q4 (by omega) _⟩
  simp only [bl] at q1
  rw [itW_step]
  simp only [a_f17,s_f17_l0_b,s_f17_l1_b,s_f17_l2_b,aa,bl,i64,reduceIte,reduceCtorEq,Nat.reduceEqDiff,Nat.reduceLT,Nat.reduceLeDiff,Nat.reduceBEq,Nat.reduceAdd,fillA,splice,Nat.reduceMul,amY,op_eqP,hvl,hlt',hwk,q1]) 0 ⟨A,List.replicate G.length nilS⟩ (Nat.zero_le _) ⟨Nat.le_refl _,by simp only;rw [getC_same hc];exact Ext.refl A,hc,by
   rw [adG_zero]
   refine ⟨by simp [rowsV],fun j r hr=>?_⟩
   rw [rowsV,List.getElem?_map,List.getElem?_replicate] at hr
   split at hr
   ·rename_i hj
    cases hr
    exact ⟨nilS,by simp only;rw [List.getElem?_replicate,if_pos hj],.inl ⟨rfl,.inl rfl⟩⟩
   ·cases hr⟩
 rw [cast0] at e1
 simp only at e1 b1 b2 b3 b4
 rw [adG_fr ok] at b4
 have hend:itW (evC (callW CT) itW base s_f17_l2) [] A.length (frOf 71 [(0,v),(1,.s (.int .i64 q)),(5,nv),(6,.sl A0.length 0 0 G.length 1),(7,.s (.int .i64 G.length))]) H1=some (.ext 0,frOf 71 [(0,v),(1,.s (.int .i64 q)),(5,nv),(6,.sl A0.length 0 0 G.length 1),(7,.s (.int .i64 G.length)),(19,bl false)],Go.AM.trim A.length (frOf 71 [(0,v),(1,.s (.int .i64 q)),(5,nv),(6,.sl A0.length 0 0 G.length 1),(7,.s (.int .i64 G.length)),(19,bl false)]) H1):=by
  rw [itW_step]
  simp only [a_f17,s_f17_l0_b,s_f17_l1_b,s_f17_l2_b,aa,bl,i64,reduceIte,reduceCtorEq,Nat.reduceEqDiff,Nat.reduceLT,Nat.reduceLeDiff,Nat.reduceBEq,Nat.reduceAdd,fillA,splice,Nat.reduceMul,amY,op_eqP,hvl,Int.lt_irrefl,bl]
 have e2:=e1.trans hend
 refine ⟨.sl A0.length 0 0 G.length 1,Go.AM.trim A.length (frOf 71 [(0,v),(1,.s (.int .i64 q)),(5,nv),(6,.sl A0.length 0 0 G.length 1),(7,.s (.int .i64 G.length)),(19,bl false)]) H1,callW_fn (c:=s_f17) hF (by simp [s_f17]) ?_,(p2.trans (e0A.set (Nat.le_refl _) _)).trans (b2.trim (by rw [List.length_set];omega) (frOf 71 [(0,v),(1,.s (.int .i64 q)),(5,nv),(6,.sl A0.length 0 0 G.length 1),(7,.s (.int .i64 G.length)),(19,bl false)])),?_⟩
 ·simp only [nilS,bl] at hmk e2 hA
  simp only [s_f17,a_f17,s_f17_l0_b,s_f17_l1_b,s_f17_l2_b,aa,bl,i64,reduceIte,reduceCtorEq,Nat.reduceEqDiff,Nat.reduceLT,Nat.reduceLeDiff,Nat.reduceBEq,Nat.reduceAdd,fillA,splice,Nat.reduceMul,amY,op_eqP,p1,hvl,op_mkSl,hmk,hA,e2]
 ·have:=(b4.trim b3 (L:=A.length) (by omega) (frOf 71 [(0,v),(1,.s (.int .i64 q)),(5,nv),(6,.sl A0.length 0 0 G.length 1),(7,.s (.int .i64 G.length)),(19,bl false)])).rows (trim_get b3 (by omega))
  rwa [rowsV_len,frG_len] at this
end
end Go.Proofs.Ytdmnenlpdeolaaa
set_option maxRecDepth 100000
namespace Go.Proofs.Ytdmnenlpdeolaaa
open Go.AM
abbrev k_f3:Nat:=3
def s_f3_r0_k:List Nat:=[4,5,6,7,8,9,10,11,12,13,14,15,16,17,18,19,20,21,22,23,24,25,26,27,28,29,30,31,32,33,34,35,36,37,38,39,40,41,42,43]
theorem s_f3_r0_kT:killV s_f3_r0_k (startV 44 [] 4)=[]:=by kernel_rfl
theorem s_f3_r0_kA0:s_f3_r0_k.contains 0=false:=by kernel_rfl
theorem s_f3_r0_kA1:s_f3_r0_k.contains 1=false:=by kernel_rfl
theorem s_f3_r0_kA2:s_f3_r0_k.contains 2=false:=by kernel_rfl
theorem s_f3_r0_kA3:s_f3_r0_k.contains 3=false:=by kernel_rfl
def s_f3_r0:List AOper:=[
 ⟨some 8,(.move (.c (.s (.bool false)))),none⟩]
def s_f3_r0_tale:=hT s_f3_r0 s_f3_r0_k [] 9 [] [] [.cc (.s (.bool false))] (by kernel_rfl) (by kernel_rfl)
def s_f3_r1t1:List AOper:=[⟨some 11,(.call (.c (.fn 8 [] [])) [(.t 10)]),none⟩]
def s_f3_r1p0:List AOper:=[⟨some 10,(.move (.t 0)),none⟩]
def s_f3_r1:List AOper:=s_f3_r1p0 ++ s_f3_r1t1
def s_f3_r1p0_tale:=hT s_f3_r1p0 [] [10] 11 [] [(10,(.t 0))] [.tt 0] (by kernel_rfl) (by kernel_rfl)
def s_f3_r1_x:=hS s_f3_r1 s_f3_r1p0 s_f3_r1t1 [] [10] [10] rfl (by kernel_rfl)
def s_f3_r1t1_x:=hX s_f3_r1t1 [10] [⟨some 11,(.call (.c (.fn 8 [] [])) [(.t 10)]),none⟩] rfl
def s_f3_r2t1:List AOper:=[⟨some 8,(.move (.t 12)),none⟩]
def s_f3_r2p0:List AOper:=[⟨some 12,(.call (.c (.fn 9 [] [])) []),none⟩]
def s_f3_r2:List AOper:=s_f3_r2p0 ++ s_f3_r2t1
def s_f3_r2_x:=hO s_f3_r2 s_f3_r2p0 s_f3_r2t1 [0,1,2,3,11] [0,1,2,3,11,12] [⟨some 12,(.call (.c (.fn 9 [] [])) []),none⟩] rfl rfl (by kernel_rfl)
def s_f3_r2t1_tale:=hT s_f3_r2t1 [0,1,2,3,11,12] [8] 9 [] [(8,(.t 12))] [.tt 12] (by kernel_rfl) (by kernel_rfl)
def s_f3_r2t1_x:=hL s_f3_r2t1 [0,1,2,3,11,12] [8]
def s_f3_r3t2:List AOper:=[⟨some 9,(.move (.t 15)),none⟩]
def s_f3_r3p1:List AOper:=[⟨some 15,(.call (.c (.fn 10 [] [])) [(.t 13),(.t 14)]),none⟩]
def s_f3_r3t1:List AOper:=s_f3_r3p1 ++ s_f3_r3t2
def s_f3_r3p0:List AOper:=[⟨some 13,(.move (.t 0)),none⟩,⟨some 14,(.move (.t 1)),none⟩]
def s_f3_r3:List AOper:=s_f3_r3p0 ++ s_f3_r3t1
def s_f3_r3p0_tale:=hT s_f3_r3p0 [11] [13,14] 15 [] [(13,(.t 0)),(14,(.t 1))] [.tt 0,.tt 1] (by kernel_rfl) (by kernel_rfl)
def s_f3_r3_x:=hS s_f3_r3 s_f3_r3p0 s_f3_r3t1 [11] [13,14] [11,13,14,15] rfl (by kernel_rfl)
def s_f3_r3t1_x:=hO s_f3_r3t1 s_f3_r3p1 s_f3_r3t2 [13,14] [11,13,14,15] [⟨some 15,(.call (.c (.fn 10 [] [])) [(.t 13),(.t 14)]),none⟩] rfl rfl (by kernel_rfl)
def s_f3_r3t2_tale:=hT s_f3_r3t2 [11,13,14,15] [9] 10 [] [(9,(.t 15))] [.tt 15] (by kernel_rfl) (by kernel_rfl)
def s_f3_r3t2_x:=hL s_f3_r3t2 [11,13,14,15] [9]
def s_f3_r4t22:List AOper:=[⟨some 43,(.pick (.t 41) (.t 42) (.c (.s (.bool false)))),none⟩,⟨some 8,(.move (.t 43)),none⟩]
def s_f3_r4p21:List AOper:=[⟨some 42,(.call (.c (.fn 9 [] [])) []),some (41,true)⟩]
def s_f3_r4t21:List AOper:=s_f3_r4p21 ++ s_f3_r4t22
def s_f3_r4p20:List AOper:=[⟨some 40,(.pick (.t 32) (.t 39) (.c (.s (.bool false)))),none⟩,⟨some 41,(.move (.t 40)),none⟩]
def s_f3_r4t20:List AOper:=s_f3_r4p20 ++ s_f3_r4t21
def s_f3_r4p19:List AOper:=[⟨some 39,(.call (.c (.fn 15 [] [])) [(.t 35),(.t 38)]),some (32,true)⟩]
def s_f3_r4t19:List AOper:=s_f3_r4p19 ++ s_f3_r4t20
def s_f3_r4p18:List AOper:=[⟨some 38,(.call (.c (.fn 17 [] [])) [(.t 36),(.t 37)]),some (32,true)⟩]
def s_f3_r4t18:List AOper:=s_f3_r4p18 ++ s_f3_r4t19
def s_f3_r4p17:List AOper:=[⟨some 37,(.move (.t 1)),some (32,true)⟩]
def s_f3_r4t17:List AOper:=s_f3_r4p17 ++ s_f3_r4t18
def s_f3_r4p16:List AOper:=[⟨some 36,(.move (.t 0)),some (32,true)⟩]
def s_f3_r4t16:List AOper:=s_f3_r4p16 ++ s_f3_r4t17
def s_f3_r4p15:List AOper:=[⟨some 35,(.call (.c (.fn 16 [] [])) [(.t 33),(.t 34)]),some (32,true)⟩]
def s_f3_r4t15:List AOper:=s_f3_r4p15 ++ s_f3_r4t16
def s_f3_r4p14:List AOper:=[⟨some 34,(.move (.t 1)),some (32,true)⟩]
def s_f3_r4t14:List AOper:=s_f3_r4p14 ++ s_f3_r4t15
def s_f3_r4p13:List AOper:=[⟨some 33,(.move (.t 0)),some (32,true)⟩]
def s_f3_r4t13:List AOper:=s_f3_r4p13 ++ s_f3_r4t14
def s_f3_r4p12:List AOper:=[⟨some 30,(.eqB false (.t 25) (.t 29)),some (21,true)⟩,⟨some 31,(.pick (.t 21) (.t 30) (.c (.s (.bool false)))),none⟩,⟨some 32,(.move (.t 31)),none⟩]
def s_f3_r4t12:List AOper:=s_f3_r4p12 ++ s_f3_r4t13
def s_f3_r4p11:List AOper:=[⟨some 29,(.call (.c (.fn 14 [] [])) [(.t 26),(.t 27),(.t 28)]),some (21,true)⟩]
def s_f3_r4t11:List AOper:=s_f3_r4p11 ++ s_f3_r4t12
def s_f3_r4p10:List AOper:=[⟨some 28,(.move (.t 3)),some (21,true)⟩]
def s_f3_r4t10:List AOper:=s_f3_r4p10 ++ s_f3_r4t11
def s_f3_r4p9:List AOper:=[⟨some 27,(.move (.t 2)),some (21,true)⟩]
def s_f3_r4t9:List AOper:=s_f3_r4p9 ++ s_f3_r4t10
def s_f3_r4p8:List AOper:=[⟨some 26,(.move (.t 9)),some (21,true)⟩]
def s_f3_r4t8:List AOper:=s_f3_r4p8 ++ s_f3_r4t9
def s_f3_r4p7:List AOper:=[⟨some 25,(.call (.c (.fn 13 [] [])) [(.t 22),(.t 23),(.t 24)]),some (21,true)⟩]
def s_f3_r4t7:List AOper:=s_f3_r4p7 ++ s_f3_r4t8
def s_f3_r4p6:List AOper:=[⟨some 24,(.move (.t 3)),some (21,true)⟩]
def s_f3_r4t6:List AOper:=s_f3_r4p6 ++ s_f3_r4t7
def s_f3_r4p5:List AOper:=[⟨some 23,(.move (.t 2)),some (21,true)⟩]
def s_f3_r4t5:List AOper:=s_f3_r4p5 ++ s_f3_r4t6
def s_f3_r4p4:List AOper:=[⟨some 22,(.move (.t 9)),some (21,true)⟩]
def s_f3_r4t4:List AOper:=s_f3_r4p4 ++ s_f3_r4t5
def s_f3_r4p3:List AOper:=[⟨some 21,(.move (.t 20)),none⟩]
def s_f3_r4t3:List AOper:=s_f3_r4p3 ++ s_f3_r4t4
def s_f3_r4p2:List AOper:=[⟨some 20,(.call (.c (.fn 11 [] [])) [(.t 16),(.t 19)]),none⟩]
def s_f3_r4t2:List AOper:=s_f3_r4p2 ++ s_f3_r4t3
def s_f3_r4p1:List AOper:=[⟨some 19,(.call (.c (.fn 12 [] [])) [(.t 17),(.t 18)]),none⟩]
def s_f3_r4t1:List AOper:=s_f3_r4p1 ++ s_f3_r4t2
def s_f3_r4p0:List AOper:=[⟨some 16,(.move (.t 9)),none⟩,⟨some 17,(.move (.t 0)),none⟩,⟨some 18,(.move (.t 1)),none⟩]
def s_f3_r4:List AOper:=s_f3_r4p0 ++ s_f3_r4t1
def s_f3_r4p0_tale:=hT s_f3_r4p0 [] [16,17,18] 19 [] [(16,(.t 9)),(17,(.t 0)),(18,(.t 1))] [.tt 9,.tt 0,.tt 1] (by kernel_rfl) (by kernel_rfl)
def s_f3_r4_x:=hS s_f3_r4 s_f3_r4p0 s_f3_r4t1 [] [16,17,18] [0,1,2,3,9,16,17,18,19,20,21,22,23,24,25,26,27,28,29,30,31,32,33,34,35,36,37,38,39,40,41,42,43] rfl (by kernel_rfl)
def s_f3_r4t1_x:=hO s_f3_r4t1 s_f3_r4p1 s_f3_r4t2 [17,18] [0,1,2,3,9,16,17,18,19,20,21,22,23,24,25,26,27,28,29,30,31,32,33,34,35,36,37,38,39,40,41,42,43] [⟨some 19,(.call (.c (.fn 12 [] [])) [(.t 17),(.t 18)]),none⟩] rfl rfl (by kernel_rfl)
def s_f3_r4t2_x:=hO s_f3_r4t2 s_f3_r4p2 s_f3_r4t3 [16,19] [0,1,2,3,9,16,17,18,19,20,21,22,23,24,25,26,27,28,29,30,31,32,33,34,35,36,37,38,39,40,41,42,43] [⟨some 20,(.call (.c (.fn 11 [] [])) [(.t 16),(.t 19)]),none⟩] rfl rfl (by kernel_rfl)
def s_f3_r4p3_tale:=hT s_f3_r4p3 [20] [21] 22 [] [(21,(.t 20))] [.tt 20] (by kernel_rfl) (by kernel_rfl)
def s_f3_r4t3_x:=hS s_f3_r4t3 s_f3_r4p3 s_f3_r4t4 [20] [21] [0,1,2,3,9,16,17,18,19,20,21,22,23,24,25,26,27,28,29,30,31,32,33,34,35,36,37,38,39,40,41,42,43] rfl (by kernel_rfl)
def s_f3_r4t4_x:=hO s_f3_r4t4 s_f3_r4p4 s_f3_r4t5 [] [0,1,2,3,9,16,17,18,19,20,21,22,23,24,25,26,27,28,29,30,31,32,33,34,35,36,37,38,39,40,41,42,43] [⟨some 22,(.move (.t 9)),some (21,true)⟩] rfl rfl (by kernel_rfl)
def s_f3_r4t5_x:=hO s_f3_r4t5 s_f3_r4p5 s_f3_r4t6 [] [0,1,2,3,9,16,17,18,19,20,21,22,23,24,25,26,27,28,29,30,31,32,33,34,35,36,37,38,39,40,41,42,43] [⟨some 23,(.move (.t 2)),some (21,true)⟩] rfl rfl (by kernel_rfl)
def s_f3_r4t6_x:=hO s_f3_r4t6 s_f3_r4p6 s_f3_r4t7 [] [0,1,2,3,9,16,17,18,19,20,21,22,23,24,25,26,27,28,29,30,31,32,33,34,35,36,37,38,39,40,41,42,43] [⟨some 24,(.move (.t 3)),some (21,true)⟩] rfl rfl (by kernel_rfl)
def s_f3_r4t7_x:=hO s_f3_r4t7 s_f3_r4p7 s_f3_r4t8 [22,23,24] [0,1,2,3,9,16,17,18,19,20,21,22,23,24,25,26,27,28,29,30,31,32,33,34,35,36,37,38,39,40,41,42,43] [⟨some 25,(.call (.c (.fn 13 [] [])) [(.t 22),(.t 23),(.t 24)]),some (21,true)⟩] rfl rfl (by kernel_rfl)
def s_f3_r4t8_x:=hO s_f3_r4t8 s_f3_r4p8 s_f3_r4t9 [9] [0,1,2,3,9,16,17,18,19,20,21,22,23,24,25,26,27,28,29,30,31,32,33,34,35,36,37,38,39,40,41,42,43] [⟨some 26,(.move (.t 9)),some (21,true)⟩] rfl rfl (by kernel_rfl)
def s_f3_r4t9_x:=hO s_f3_r4t9 s_f3_r4p9 s_f3_r4t10 [2] [0,1,2,3,9,16,17,18,19,20,21,22,23,24,25,26,27,28,29,30,31,32,33,34,35,36,37,38,39,40,41,42,43] [⟨some 27,(.move (.t 2)),some (21,true)⟩] rfl rfl (by kernel_rfl)
def s_f3_r4t10_x:=hO s_f3_r4t10 s_f3_r4p10 s_f3_r4t11 [3] [0,1,2,3,9,16,17,18,19,20,21,22,23,24,25,26,27,28,29,30,31,32,33,34,35,36,37,38,39,40,41,42,43] [⟨some 28,(.move (.t 3)),some (21,true)⟩] rfl rfl (by kernel_rfl)
def s_f3_r4t11_x:=hO s_f3_r4t11 s_f3_r4p11 s_f3_r4t12 [26,27,28] [0,1,2,3,9,16,17,18,19,20,21,22,23,24,25,26,27,28,29,30,31,32,33,34,35,36,37,38,39,40,41,42,43] [⟨some 29,(.call (.c (.fn 14 [] [])) [(.t 26),(.t 27),(.t 28)]),some (21,true)⟩] rfl rfl (by kernel_rfl)
def s_f3_r4p12_tale:=hT s_f3_r4p12 [21,25,29,30,31] [32] 33 [] [(32,(.pick (.t 21) (.op (.eqB false (.t 0) (.t 1)) [(.t 25),(.t 29)]) (.c (.s (.bool false)))))] [.sub 0 [1] [21],.sub 0 [] [],.sub 0 [] []] (by kernel_rfl) (by kernel_rfl)
def s_f3_r4t12_x:=hS s_f3_r4t12 s_f3_r4p12 s_f3_r4t13 [21,25,29,30,31] [32] [0,1,2,3,9,16,17,18,19,20,21,22,23,24,25,26,27,28,29,30,31,32,33,34,35,36,37,38,39,40,41,42,43] rfl (by kernel_rfl)
def s_f3_r4t13_x:=hO s_f3_r4t13 s_f3_r4p13 s_f3_r4t14 [] [0,1,2,3,9,16,17,18,19,20,21,22,23,24,25,26,27,28,29,30,31,32,33,34,35,36,37,38,39,40,41,42,43] [⟨some 33,(.move (.t 0)),some (32,true)⟩] rfl rfl (by kernel_rfl)
def s_f3_r4t14_x:=hO s_f3_r4t14 s_f3_r4p14 s_f3_r4t15 [] [0,1,2,3,9,16,17,18,19,20,21,22,23,24,25,26,27,28,29,30,31,32,33,34,35,36,37,38,39,40,41,42,43] [⟨some 34,(.move (.t 1)),some (32,true)⟩] rfl rfl (by kernel_rfl)
def s_f3_r4t15_x:=hO s_f3_r4t15 s_f3_r4p15 s_f3_r4t16 [33,34] [0,1,2,3,9,16,17,18,19,20,21,22,23,24,25,26,27,28,29,30,31,32,33,34,35,36,37,38,39,40,41,42,43] [⟨some 35,(.call (.c (.fn 16 [] [])) [(.t 33),(.t 34)]),some (32,true)⟩] rfl rfl (by kernel_rfl)
def s_f3_r4t16_x:=hO s_f3_r4t16 s_f3_r4p16 s_f3_r4t17 [0] [0,1,2,3,9,16,17,18,19,20,21,22,23,24,25,26,27,28,29,30,31,32,33,34,35,36,37,38,39,40,41,42,43] [⟨some 36,(.move (.t 0)),some (32,true)⟩] rfl rfl (by kernel_rfl)
def s_f3_r4t17_x:=hO s_f3_r4t17 s_f3_r4p17 s_f3_r4t18 [1] [0,1,2,3,9,16,17,18,19,20,21,22,23,24,25,26,27,28,29,30,31,32,33,34,35,36,37,38,39,40,41,42,43] [⟨some 37,(.move (.t 1)),some (32,true)⟩] rfl rfl (by kernel_rfl)
def s_f3_r4t18_x:=hO s_f3_r4t18 s_f3_r4p18 s_f3_r4t19 [36,37] [0,1,2,3,9,16,17,18,19,20,21,22,23,24,25,26,27,28,29,30,31,32,33,34,35,36,37,38,39,40,41,42,43] [⟨some 38,(.call (.c (.fn 17 [] [])) [(.t 36),(.t 37)]),some (32,true)⟩] rfl rfl (by kernel_rfl)
def s_f3_r4t19_x:=hO s_f3_r4t19 s_f3_r4p19 s_f3_r4t20 [35,38] [0,1,2,3,9,16,17,18,19,20,21,22,23,24,25,26,27,28,29,30,31,32,33,34,35,36,37,38,39,40,41,42,43] [⟨some 39,(.call (.c (.fn 15 [] [])) [(.t 35),(.t 38)]),some (32,true)⟩] rfl rfl (by kernel_rfl)
def s_f3_r4p20_tale:=hT s_f3_r4p20 [32,39,40] [41] 42 [] [(41,(.pick (.t 32) (.t 39) (.c (.s (.bool false)))))] [.sub 0 [] [],.sub 0 [] []] (by kernel_rfl) (by kernel_rfl)
def s_f3_r4t20_x:=hS s_f3_r4t20 s_f3_r4p20 s_f3_r4t21 [32,39,40] [41] [0,1,2,3,9,16,17,18,19,20,21,22,23,24,25,26,27,28,29,30,31,32,33,34,35,36,37,38,39,40,41,42,43] rfl (by kernel_rfl)
def s_f3_r4t21_x:=hO s_f3_r4t21 s_f3_r4p21 s_f3_r4t22 [] [0,1,2,3,9,16,17,18,19,20,21,22,23,24,25,26,27,28,29,30,31,32,33,34,35,36,37,38,39,40,41,42,43] [⟨some 42,(.call (.c (.fn 9 [] [])) []),some (41,true)⟩] rfl rfl (by kernel_rfl)
def s_f3_r4t22_tale:=hT s_f3_r4t22 [0,1,2,3,9,16,17,18,19,20,21,22,23,24,25,26,27,28,29,30,31,32,33,34,35,36,37,38,39,40,41,42,43] [8] 44 [] [(8,(.pick (.t 41) (.t 42) (.c (.s (.bool false)))))] [.sub 0 [] [],.sub 0 [] []] (by kernel_rfl) (by kernel_rfl)
def s_f3_r4t22_x:=hL s_f3_r4t22 [0,1,2,3,9,16,17,18,19,20,21,22,23,24,25,26,27,28,29,30,31,32,33,34,35,36,37,38,39,40,41,42,43] [8]
def s_f3:ACFun:={ ntmps:=44,results:=[(.tmp 8)],body:=
 (.seq (.regionE s_f3_r0 s_f3_r0_k [])
 (.seq (.seq (.region s_f3_r1 [] [10])
 (.cond (.t 11)
 (.seq (.region s_f3_r2 [] [0,1,2,3,11,12])
 .ret)
 .skip))
 (.seq (.region s_f3_r3 [] [11,13,14,15])
 (.seq (.region s_f3_r4 [] [0,1,2,3,9,16,17,18,19,20,21,22,23,24,25,26,27,28,29,30,31,32,33,34,35,36,37,38,39,40,41,42,43])
 .ret)))) }
def a_f3:=ai @s_f3_r0_tale (ai @s_f3_r0_kT (ai @s_f3_r0_kA0 (ai @s_f3_r0_kA1 (ai @s_f3_r0_kA2 (ai @s_f3_r0_kA3 (ai @s_f3_r1p0_tale (ai @s_f3_r1_x (ai @s_f3_r1t1_x (ai @s_f3_r2_x (ai @s_f3_r2t1_tale (ai @s_f3_r2t1_x (ai @s_f3_r3p0_tale (ai @s_f3_r3_x (ai @s_f3_r3t1_x (ai @s_f3_r3t2_tale (ai @s_f3_r3t2_x (ai @s_f3_r4p0_tale (ai @s_f3_r4_x (ai @s_f3_r4t1_x (ai @s_f3_r4t2_x (ai @s_f3_r4p3_tale (ai @s_f3_r4t3_x (ai @s_f3_r4t4_x (ai @s_f3_r4t5_x (ai @s_f3_r4t6_x (ai @s_f3_r4t7_x (ai @s_f3_r4t8_x (ai @s_f3_r4t9_x (ai @s_f3_r4t10_x (ai @s_f3_r4t11_x (ai @s_f3_r4p12_tale (ai @s_f3_r4t12_x (ai @s_f3_r4t13_x (ai @s_f3_r4t14_x (ai @s_f3_r4t15_x (ai @s_f3_r4t16_x (ai @s_f3_r4t17_x (ai @s_f3_r4t18_x (ai @s_f3_r4t19_x (ai @s_f3_r4p20_tale (ai @s_f3_r4t20_x (ai @s_f3_r4t21_x (ai @s_f3_r4t22_tale (@s_f3_r4t22_x))))))))))))))))))))))))))))))))))))))))))))
theorem DA6_3:compK Try.prog PX0 3=some (false,s_f3.ntmps,s_f3.results,s_f3.body.bare):=by kernel_rfl
end Go.Proofs.Ytdmnenlpdeolaaa
set_option maxRecDepth 100000
namespace Go.Proofs.Ytdmnenlpdeolaaa
open Go.AM
theorem dom_same {G:List (List Int)} {q:Int} {T T2:List Int} {lvl lvl2:Nat→Nat} (ok:TreeOk G q T lvl) (ok2:TreeOk G q T2 lvl2) (a b:Int):domB T a b=domB T2 a b:=by
 rw [Bool.eq_iff_iff,ok.dom,ok2.dom]
 constructor
 ·rintro ⟨x,y,e1,e2,h1,h2,h3⟩
  exact ⟨x,y,e1,e2,h1,h2,(ok2.dm x y h2).2 ((ok.dm x y h2).1 h3)⟩
 ·rintro ⟨x,y,e1,e2,h1,h2,h3⟩
  exact ⟨x,y,e1,e2,h1,h2,(ok.dm x y h2).2 ((ok2.dm x y h2).1 h3)⟩
theorem frG_same {G:List (List Int)} {q:Int} {T T2:List Int} {lvl lvl2:Nat→Nat} (ok:TreeOk G q T lvl) (ok2:TreeOk G q T2 lvl2):frG T G=frG T2 G:=by
 apply List.ext_getElem?
 intro a
 by_cases ha:a < G.length
 ·rw [some_getD (show a < (frG T G).length by rw [frG_len];exact ha) [],some_getD (show a < (frG T2 G).length by rw [frG_len];exact ha) []]
  congr 1
  refine up_eq _ _ (frG_up T G ha) (frG_up T2 G ha) fun z=>?_
  rw [frG_mem ok ha z,frG_mem ok2 ha z]
  simp only [dom_same ok ok2]
 ·rw [List.getElem?_eq_none (by rw [frG_len];omega),List.getElem?_eq_none (by rw [frG_len];omega)]
theorem frG_small {G:List (List Int)} {q:Int} {T:List Int} {lvl:Nat→Nat} (ok:TreeOk G q T lvl):∀ r∈frG T G,r.length≤G.length:=by
 intro r hr
 obtain ⟨a,ha⟩:=List.mem_iff_getElem?.1 hr
 have han:=(List.getElem?_eq_some_iff.1 ha).1
 rw [frG_len] at han
 rw [← getD_some ha []]
 refine up_len' (frG_up T G han) fun z hz=>?_
 obtain ⟨x,_,h,_⟩:=(frG_mem ok han z).1 hz
 have:=(normG_get G x z).1 h
 exact ⟨by omega,by omega⟩
section
variable {CT:Nat→Option CFun}
theorem tells_law (h:CL9 CT) (hq:CQ9 CT) (hT:CT k_f12=some (.code s_f12)) (hD:CT k_f14=some (.code s_f14)) (hF:CT k_f16=some (.code s_f16)) (hF2:CT k_f17=some (.code s_f17)) (hS1:CT k_f11=some (.code s_f11)) (hS:CT k_f15=some (.code s_f15)) (hL:CT k_f3=some (.code s_f3)) (base:Nat) (H:Heap) (hb:base≤H.length) (v:V) (G:List (List Int)) (q a b:Int) (hv:RdRows H v (rowsV G)):
 ∃ H',callW CT (.fn k_f3 [] []) [v,.s (.int .i64 q),.s (.int .i64 a),.s (.int .i64 b)] base H=some (.s (.bool true),H'):=by
 have hg:=great9_fun h.great base H v G hv
 cases hgr:great9 G with
 | true=>
   rw [hgr] at hg
   have hw:=h.wakes base H
   refine ⟨H,callW_fn (c:=s_f3) hL (by simp [s_f3]) ?_⟩
   simp only [s_f3,a_f3,aa,bl,i64,reduceIte,reduceCtorEq,Nat.reduceEqDiff,Nat.reduceLT,Nat.reduceLeDiff,Nat.reduceBEq,Nat.reduceAdd,fillA,splice,Nat.reduceMul,amY,op_eqP,hg,hw]
 | false=>
   rw [hgr] at hg
   obtain ⟨hn,hr⟩:=great9_small hgr
   obtain ⟨tv,H1,T,lvl,a1,a2,a3,a4⟩:=tree_f h.t base H v G q hv hb (by omega) (fun r h=>by have:=hr r h;omega)
   obtain ⟨tv2,H2,b1,b2,b3⟩:=rtree_f hq hT base a4 (A:=H1) (by have:=a2.le;omega) (hv.ext a2) (by omega) (fun r h=>by have:=hr r h;omega)
   have hlen:=a4.len
   have s1:=same_fun hS1 base H2 tv tv2 T T (a3.rd.ext b2) a3.wide b3.rd b3.wide (by omega)
   have e2:=a2.trans b2
   have d1:=dom_fun h.dom base H2 tv T a b (a3.rd.ext b2) a3.wide (by omega)
   have d2:=rdom_fun hD base H2 tv T a b (a3.rd.ext b2) a3.wide (by omega)
   obtain ⟨fv,H3,T2,lvl2,c1,c2,c3,c4⟩:=frontier_f h.t h.dom hF base H2 v G q (hv.ext e2) (by have:=e2.le;omega) (by omega) (fun r h=>by have:=hr r h;omega)
   have e3:=e2.trans c2
   obtain ⟨fv2,H4,f1,f2,f3⟩:=rfrontier_f hq hF2 base H3 v G a4 (hv.ext e3) (by have:=e3.le;omega) (by omega) (fun r h=>by have:=hr r h;omega)
   rw [frG_same c4 a4] at c3
   have s2:=sameG_fun hS hS1 base H4 fv fv2 _ _ (c3.ext f2) f3 (by rw [frG_len];omega) (fun r hr'=>by have:=frG_small a4 r hr';omega)
   have hw:=h.wakes base H4
   have hbe:∀ l:List Int,(l == l)=true:=fun l=>beq_self_eq_true l
   have hbg:∀ l:List (List Int),(l == l)=true:=fun l=>beq_self_eq_true l
   simp only [hbe] at s1
   simp only [hbg] at s2
   refine ⟨H4,callW_fn (c:=s_f3) hL (by simp [s_f3]) ?_⟩
   cases hdm:domB T a b <;> rw [hdm] at d1 d2 <;> simp only [s_f3,a_f3,aa,bl,i64,reduceIte,reduceCtorEq,Nat.reduceEqDiff,Nat.reduceLT,Nat.reduceLeDiff,Nat.reduceBEq,Nat.reduceAdd,fillA,splice,Nat.reduceMul,amY,op_eqP,hg,a1,b1,s1,d1,d2,c1,f1,s2,hw]
end
end Go.Proofs.Ytdmnenlpdeolaaa
