/- Texts of the proof: DomL1. -/
import Derived.Test.YtdmnenlpdeolaaaP0
import Derived.Test.YtdmnenlpdeolaaaP1
import Derived.Test.YtdmnenlpdeolaaaP2
import Derived.Test.YtdmnenlpdeolaaaP3
import Derived.Test.YtdmnenlpdeolaaaP4
set_option linter.all false
set_option maxRecDepth 100000
namespace Go.Proofs.Ytdmnenlpdeolaaa
open Go.AM
def great9 (G:List (List Int)):Bool:=decide (G.length > 20) || G.any fun r=>decide (r.length > 20)
theorem great9_small {G:List (List Int)} (h:great9 G=false):G.length≤20∧∀ r∈G,r.length≤20:=by
 unfold great9 at h
 rw [Bool.or_eq_false_iff] at h
 refine ⟨by have:=of_decide_eq_false h.1;omega,fun r hr=>?_⟩
 have:=h.2
 rw [List.any_eq_false] at this
 have:=this r hr
 simp at this
 exact this
section
variable {CT:Nat→Option CFun}
theorem great9_fun (hT:CT k_f8=some (.code s_f8)) (base:Nat) (H:Heap) (v:V) (G:List (List Int)) (hv:RdRows H v (rowsV G)):
 callW CT (.fn k_f8 [] []) [v] base H=some (.s (.bool (great9 G)),H):=by
 have hvl:=rows_lenV hv
 refine callW_fn (c:=s_f8) hT (by simp [s_f8]) ?_
 by_cases hn:G.length > 20
 ·have h0:decide ((G.length:Int) > 20)=true:=by rw [decide_eq_true_iff];omega
  have h1:great9 G=true:=by unfold great9;rw [decide_eq_true hn,Bool.true_or]
  simp only [s_f8,a_f8,s_f8_l0_b,aa,bl,i64,reduceIte,reduceCtorEq,Nat.reduceEqDiff,Nat.reduceLT,Nat.reduceLeDiff,Nat.reduceBEq,Nat.reduceAdd,fillA,splice,Nat.reduceMul,amY,op_eqP,hvl,h0,h1]
 ·have h0:decide ((G.length:Int) > 20)=false:=by rw [decide_eq_false_iff_not];omega
  have step:∀ i,i < G.length→decide ((G.getD i []).length > 20)=false→itW (evC (callW CT) itW base s_f8_l0) [] H.length (frOf 19 [(0,v),(3,.s (.int .i64 i))]) H=itW (evC (callW CT) itW base s_f8_l0) [] H.length (frOf 19 [(0,v),(3,.s (.int .i64 (i+1:Nat)))]) H:=by
   intro i hi hs
   have hlt':((i:Int) < (G.length:Int)):=by omega
   have hwk:=w64 (n:=i) (by omega)
   obtain ⟨ra,rx,r1,r2,r3,r4⟩:=rows_at hv (some_getD hi [])
   have hl:=iV_len r3
   have hs':decide (((G.getD i []).length:Int) > 20)=false:=by have:=of_decide_eq_false hs;rw [decide_eq_false_iff_not];omega
   rw [itW_step]
   simp only [a_f8,s_f8_l0_b,aa,bl,i64,reduceIte,reduceCtorEq,Nat.reduceEqDiff,Nat.reduceLT,Nat.reduceLeDiff,Nat.reduceBEq,Nat.reduceAdd,fillA,splice,Nat.reduceMul,amY,op_eqP,hvl,hlt',r1,r2,hl,hs',hwk,trim_same rfl]
  rcases it_find G.length (fun i=>decide ((G.getD i []).length > 20)) (fun i=>itW (evC (callW CT) itW base s_f8_l0) [] H.length (frOf 19 [(0,v),(3,.s (.int .i64 i))]) H) step with ⟨h1,h2⟩ | ⟨i,hi,h1,_,h3⟩
  ·have hg:great9 G=false:=by
    unfold great9
    rw [decide_eq_false hn,Bool.false_or,List.any_eq_false]
    intro r hr
    obtain ⟨i,hi⟩:=List.mem_iff_getElem?.1 hr
    have:=h1 i (List.getElem?_eq_some_iff.1 hi).1
    rw [getD_some hi []] at this
    rw [this];simp
   have hend:itW (evC (callW CT) itW base s_f8_l0) [] H.length (frOf 19 [(0,v),(3,.s (.int .i64 G.length))]) H=some (.ext 0,frOf 19 [(0,v),(3,.s (.int .i64 G.length)),(10,bl false)],H):=by
    rw [itW_step]
    simp only [bl,a_f8,s_f8_l0_b,aa,bl,i64,reduceIte,reduceCtorEq,Nat.reduceEqDiff,Nat.reduceLT,Nat.reduceLeDiff,Nat.reduceBEq,Nat.reduceAdd,fillA,splice,Nat.reduceMul,amY,op_eqP,hvl,Int.lt_irrefl,trim_same rfl]
   have h4:=h2.trans hend
   simp only [bl,cast0] at h4
   simp only [s_f8,a_f8,s_f8_l0_b,aa,bl,i64,reduceIte,reduceCtorEq,Nat.reduceEqDiff,Nat.reduceLT,Nat.reduceLeDiff,Nat.reduceBEq,Nat.reduceAdd,fillA,splice,Nat.reduceMul,amY,op_eqP,hvl,h0,h4,hg]
  ·have hg:great9 G=true:=by
    unfold great9
    rw [Bool.or_eq_true,List.any_eq_true]
    exact .inr ⟨_,List.mem_of_getElem? (some_getD hi []),h1⟩
   have hlt':((i:Int) < (G.length:Int)):=by omega
   obtain ⟨ra,rx,r1,r2,r3,r4⟩:=rows_at hv (some_getD hi [])
   have hl:=iV_len r3
   have hs':decide (((G.getD i []).length:Int) > 20)=true:=by have:=of_decide_eq_true h1;rw [decide_eq_true_iff];omega
   have hend:itW (evC (callW CT) itW base s_f8_l0) [] H.length (frOf 19 [(0,v),(3,.s (.int .i64 i))]) H=some (.ret,frOf 19 [(2,bl true)],H):=by
    rw [itW_step]
    simp only [bl,a_f8,s_f8_l0_b,aa,bl,i64,reduceIte,reduceCtorEq,Nat.reduceEqDiff,Nat.reduceLT,Nat.reduceLeDiff,Nat.reduceBEq,Nat.reduceAdd,fillA,splice,Nat.reduceMul,amY,op_eqP,hvl,hlt',r1,r2,hl,hs']
   have h4:=h3.trans hend
   simp only [bl,cast0] at h4
   simp only [s_f8,a_f8,s_f8_l0_b,aa,bl,i64,reduceIte,reduceCtorEq,Nat.reduceEqDiff,Nat.reduceLT,Nat.reduceLeDiff,Nat.reduceBEq,Nat.reduceAdd,fillA,splice,Nat.reduceMul,amY,op_eqP,hvl,h0,h4,hg]
def domR (T:List Int) (a:Int):Nat→Nat→Bool
 | 0,_=>false
 | m+1,b=>if a=(b:Int) then true else if T.getD b 0 < 0∨(T.length:Int)≤T.getD b 0 then false else domR T a m (T.getD b 0).toNat
def domB (T:List Int) (a b:Int):Bool:=if a < 0∨b < 0∨(T.length:Int)≤a∨(T.length:Int)≤b then false else if T.getD b.toNat 0=-2 then false else domR T a (T.length+1) b.toNat
theorem dom_loop (base:Nat) (H:Heap) (v:V) (T:List Int) (a:Int) (hv:Rd H v (T.map iV)) (hw:Wide1 v) (hn:T.length < 2 ^ 40):∀ (m b j:Nat),j+m=T.length+1→b < T.length→
 (domR T a m b=true∧itW (evC (callW CT) itW base s_f13_l0) [] H.length (frOf 53 [(0,v),(1,.s (.int .i64 a)),(2,.s (.int .i64 b)),(34,.s (.int .i64 (T.length+1:Nat))),(35,.s (.int .i64 j))]) H=some (.ret,frOf 53 [(6,bl true)],H))∨
 (domR T a m b=false∧(itW (evC (callW CT) itW base s_f13_l0) [] H.length (frOf 53 [(0,v),(1,.s (.int .i64 a)),(2,.s (.int .i64 b)),(34,.s (.int .i64 (T.length+1:Nat))),(35,.s (.int .i64 j))]) H=some (.ret,frOf 53 [(6,bl false)],H)∨∃ c:Nat,itW (evC (callW CT) itW base s_f13_l0) [] H.length (frOf 53 [(0,v),(1,.s (.int .i64 a)),(2,.s (.int .i64 b)),(34,.s (.int .i64 (T.length+1:Nat))),(35,.s (.int .i64 j))]) H=some (.ext 0,frOf 53 [(0,v),(1,.s (.int .i64 a)),(2,.s (.int .i64 c)),(34,.s (.int .i64 (T.length+1:Nat))),(35,.s (.int .i64 (T.length+1:Nat))),(36,bl false)],H))):=by
 intro m
 induction m with
 | zero=>
   intro b j hj hb
   obtain rfl:j=T.length+1:=by omega
   refine .inr ⟨rfl,.inr ⟨b,?_⟩⟩
   rw [itW_step]
   simp only [a_f13,s_f13_l0_b,aa,bl,i64,reduceIte,reduceCtorEq,Nat.reduceEqDiff,Nat.reduceLT,Nat.reduceLeDiff,Nat.reduceBEq,Nat.reduceAdd,fillA,splice,Nat.reduceMul,amY,op_eqP,Int.lt_irrefl,trim_same rfl,bl]
 | succ m ih=>
   intro b j hj hb
   have hlt':(j:Int) < ((T.length+1:Nat):Int):=by omega
   have hwk:=w64 (n:=j) (by omega)
   have hvl:=iV_len hv
   obtain ⟨ad,x1,x2⟩:=iV_at hv hw (some_getD hb (0:Int))
   by_cases hab:a=(b:Int)
   ·have e:(a == (b:Int))=true:=by rw [hab];simp
    refine .inl ⟨by rw [domR,if_pos hab],?_⟩
    rw [itW_step]
    simp only [a_f13,s_f13_l0_b,aa,bl,i64,reduceIte,reduceCtorEq,Nat.reduceEqDiff,Nat.reduceLT,Nat.reduceLeDiff,Nat.reduceBEq,Nat.reduceAdd,fillA,splice,Nat.reduceMul,amY,op_eqP,hlt',e,bl]
   ·have e:(a == (b:Int))=false:=by rw [beq_eq_false_iff_ne];exact hab
    by_cases h1:T.getD b 0 < 0
    ·refine .inr ⟨by rw [domR,if_neg hab,if_pos (.inl h1)],.inl ?_⟩
     rw [itW_step]
     simp only [a_f13,s_f13_l0_b,aa,bl,i64,reduceIte,reduceCtorEq,Nat.reduceEqDiff,Nat.reduceLT,Nat.reduceLeDiff,Nat.reduceBEq,Nat.reduceAdd,fillA,splice,Nat.reduceMul,amY,op_eqP,hlt',e,bl,x1,x2,h1]
    ·by_cases h2:(T.length:Int)≤T.getD b 0
     ·refine .inr ⟨by rw [domR,if_neg hab,if_pos (.inr h2)],.inl ?_⟩
      rw [itW_step]
      simp only [a_f13,s_f13_l0_b,aa,bl,i64,reduceIte,reduceCtorEq,Nat.reduceEqDiff,Nat.reduceLT,Nat.reduceLeDiff,Nat.reduceBEq,Nat.reduceAdd,fillA,splice,Nat.reduceMul,amY,op_eqP,hlt',e,bl,x1,x2,h1,hvl,ge_iff_le,h2]
     ·obtain ⟨d,hd⟩:=Int.eq_ofNat_of_zero_le (show 0≤T.getD b 0 by omega)
      have hst:itW (evC (callW CT) itW base s_f13_l0) [] H.length (frOf 53 [(0,v),(1,.s (.int .i64 a)),(2,.s (.int .i64 b)),(34,.s (.int .i64 (T.length+1:Nat))),(35,.s (.int .i64 j))]) H=itW (evC (callW CT) itW base s_f13_l0) [] H.length (frOf 53 [(0,v),(1,.s (.int .i64 a)),(2,.s (.int .i64 d)),(34,.s (.int .i64 (T.length+1:Nat))),(35,.s (.int .i64 (j+1:Nat)))]) H:=by
       conv=>lhs;rw [itW_step]
       simp only [hd] at x2 h1 h2
       simp only [a_f13,s_f13_l0_b,aa,bl,i64,reduceIte,reduceCtorEq,Nat.reduceEqDiff,Nat.reduceLT,Nat.reduceLeDiff,Nat.reduceBEq,Nat.reduceAdd,fillA,splice,Nat.reduceMul,amY,op_eqP,hlt',e,x1,x2,h1,hvl,ge_iff_le,h2,hwk,trim_same rfl]
      have hr:domR T a (m+1) b=domR T a m d:=by rw [domR,if_neg hab,if_neg (by omega),hd];rfl
      rw [hst,hr]
      exact ih d (j+1) (by omega) (by omega)
theorem dom_fun (hT:CT k_f13=some (.code s_f13)) (base:Nat) (H:Heap) (v:V) (T:List Int) (a b:Int) (hv:Rd H v (T.map iV)) (hw:Wide1 v) (hn:T.length < 2 ^ 40):
 callW CT (.fn k_f13 [] []) [v,.s (.int .i64 a),.s (.int .i64 b)] base H=some (.s (.bool (domB T a b)),H):=by
 have hvl:=iV_len hv
 refine callW_fn (c:=s_f13) hT (by simp [s_f13]) ?_
 by_cases h1:a < 0
 ·have hf:domB T a b=false:=by rw [domB,if_pos (.inl h1)]
  simp only [s_f13,a_f13,s_f13_l0_b,aa,bl,i64,reduceIte,reduceCtorEq,Nat.reduceEqDiff,Nat.reduceLT,Nat.reduceLeDiff,Nat.reduceBEq,Nat.reduceAdd,fillA,splice,Nat.reduceMul,amY,op_eqP,h1,hf]
 by_cases h2:b < 0
 ·have hf:domB T a b=false:=by rw [domB,if_pos (.inr (.inl h2))]
  simp only [s_f13,a_f13,s_f13_l0_b,aa,bl,i64,reduceIte,reduceCtorEq,Nat.reduceEqDiff,Nat.reduceLT,Nat.reduceLeDiff,Nat.reduceBEq,Nat.reduceAdd,fillA,splice,Nat.reduceMul,amY,op_eqP,h1,h2,hf]
 by_cases h3:(T.length:Int)≤a
 ·have hf:domB T a b=false:=by rw [domB,if_pos (.inr (.inr (.inl h3)))]
  simp only [s_f13,a_f13,s_f13_l0_b,aa,bl,i64,reduceIte,reduceCtorEq,Nat.reduceEqDiff,Nat.reduceLT,Nat.reduceLeDiff,Nat.reduceBEq,Nat.reduceAdd,fillA,splice,Nat.reduceMul,amY,op_eqP,h1,h2,hvl,ge_iff_le,h3,hf]
 by_cases h4:(T.length:Int)≤b
 ·have hf:domB T a b=false:=by rw [domB,if_pos (.inr (.inr (.inr h4)))]
  simp only [s_f13,a_f13,s_f13_l0_b,aa,bl,i64,reduceIte,reduceCtorEq,Nat.reduceEqDiff,Nat.reduceLT,Nat.reduceLeDiff,Nat.reduceBEq,Nat.reduceAdd,fillA,splice,Nat.reduceMul,amY,op_eqP,h1,h2,hvl,ge_iff_le,h3,h4,hf]
 obtain ⟨k,rfl⟩:=Int.eq_ofNat_of_zero_le (show 0≤b by omega)
 have hk:k < T.length:=by omega
 obtain ⟨ad,x1,x2⟩:=iV_at hv hw (some_getD hk (0:Int))
 have hb0:domB T a k=if T.getD k 0=-2 then false else domR T a (T.length+1) k:=by
  rw [domB,if_neg (by omega),Int.toNat_natCast]
 by_cases h5:T.getD k 0=-2
 ·have e:(T.getD k 0 == -2)=true:=by rw [h5];rfl
  rw [hb0,if_pos h5]
  simp only [s_f13,a_f13,s_f13_l0_b,aa,bl,i64,reduceIte,reduceCtorEq,Nat.reduceEqDiff,Nat.reduceLT,Nat.reduceLeDiff,Nat.reduceBEq,Nat.reduceAdd,fillA,splice,Nat.reduceMul,amY,op_eqP,h1,h2,hvl,ge_iff_le,h3,h4,x1,x2,e]
 ·have e:(T.getD k 0 == -2)=false:=by rw [beq_eq_false_iff_ne];exact h5
  have hwk:=w64 (n:=T.length) (by omega)
  rw [hb0,if_neg h5]
  rcases dom_loop (CT:=CT) base H v T a hv hw hn (T.length+1) k 0 (by omega) hk with ⟨d1,d2⟩ | ⟨d1,d2 | ⟨c,d2⟩⟩
  all_goals
   rw [d1]
   simp only [bl,cast0] at d2
   simp only [s_f13,a_f13,s_f13_l0_b,aa,bl,i64,reduceIte,reduceCtorEq,Nat.reduceEqDiff,Nat.reduceLT,Nat.reduceLeDiff,Nat.reduceBEq,Nat.reduceAdd,fillA,splice,Nat.reduceMul,amY,op_eqP,h1,h2,hvl,ge_iff_le,h3,h4,x1,x2,e,hwk,d2]
theorem domR_anc {T:List Int} {lvl:Nat→Nat} (hlv:∀ b d:Nat,T[b]?=some (d:Int)→lvl d < lvl b) (hlt:∀ b d:Nat,T[b]?=some (d:Int)→d < T.length) {a:Nat}:∀ (m b:Nat),b < T.length→lvl b < m→(domR T a m b=true↔AncT T b a):=by
 intro m
 induction m with
 | zero=>intro b _ h;omega
 | succ m ih=>
   intro b hb hm
   rw [domR]
   by_cases hab:(a:Int)=(b:Int)
   ·have:a=b:=by omega
    rw [if_pos hab,this]
    exact ⟨fun _=>.refl _,fun _=>rfl⟩
   ·rw [if_neg hab]
    have hT:=some_getD hb (0:Int)
    by_cases h1:T.getD b 0 < 0∨(T.length:Int)≤T.getD b 0
    ·rw [if_pos h1]
     refine ⟨fun h=>absurd h (by simp),fun h=>?_⟩
     cases h with
     | refl=>exact absurd rfl hab
     | up h2 h3=>
       rename_i d
       rw [hT] at h2
       have:=hlt b d (hT.trans h2)
       have:=Option.some.inj h2
       omega
    ·rw [if_neg h1]
     obtain ⟨d,hd⟩:=Int.eq_ofNat_of_zero_le (show 0≤T.getD b 0 by omega)
     rw [hd] at hT ⊢
     have:=hlv b d hT
     rw [Int.toNat_natCast,ih d (hlt b d hT) (by omega)]
     refine ⟨fun h=>.up hT h,fun h=>?_⟩
     cases h with
     | refl=>exact absurd rfl hab
     | up h2 h3=>
       rw [hT] at h2
       have:=Option.some.inj h2
       rename_i e
       have:d=e:=by omega
       rwa [this]
theorem TreeOk.nat {G:List (List Int)} {q:Int} {T:List Int} {lvl:Nat→Nat} (h:TreeOk G q T lvl) {b d:Nat} (hb:T[b]?=some (d:Int)):Rch G [q] b∧(b:Int)≠q∧Rch G [q] d∧lvl d < lvl b:=by
 have hbn:=(List.getElem?_eq_some_iff.1 hb).1
 have hT:=getD_some hb 0
 rw [h.len] at hbn
 have hR:Rch G [q] b:=Classical.byContradiction fun hc=>by
  have:=h.un b hbn hc
  omega
 have hq:(b:Int)≠q:=fun e=>by have:=h.rt b e.symm hbn;omega
 obtain ⟨d',e,h1,h2⟩:=h.id b hR hq
 have:d'=d:=by omega
 subst this
 exact ⟨hR,hq,h1,h2⟩
theorem TreeOk.dom {G:List (List Int)} {q:Int} {T:List Int} {lvl:Nat→Nat} (h:TreeOk G q T lvl) (a b:Int):domB T a b=true↔∃ x y:Nat,a=x∧b=y∧x < G.length∧Rch G [q] y∧AncT T y x:=by
 have hlen:=h.len
 unfold domB
 by_cases h1:a < 0∨b < 0∨(T.length:Int)≤a∨(T.length:Int)≤b
 ·rw [if_pos h1]
  refine ⟨fun k=>absurd k (by simp),fun ⟨x,y,e1,e2,h2,h3,_⟩=>?_⟩
  have:=rch_lt h3
  omega
 ·rw [if_neg h1]
  obtain ⟨x,rfl⟩:=Int.eq_ofNat_of_zero_le (show 0≤a by omega)
  obtain ⟨y,rfl⟩:=Int.eq_ofNat_of_zero_le (show 0≤b by omega)
  rw [Int.toNat_natCast]
  by_cases hR:Rch G [q] y
  ·have hT:¬ T.getD y 0=-2:=by
    by_cases e:(y:Int)=q
    ·rw [h.rt y e.symm (by omega)];omega
    ·obtain ⟨d,e,_⟩:=h.id y hR e
     omega
   have:=h.lv y hR
   rw [if_neg hT,domR_anc (lvl:=lvl) (fun b d hb=>(h.nat hb).2.2.2) (fun b d hb=>by rw [hlen];exact rch_lt (h.nat hb).2.2.1) _ y (by omega) (by omega)]
   exact ⟨fun k=>⟨x,y,rfl,rfl,by omega,hR,k⟩,fun ⟨x',y',e1,e2,_,_,k⟩=>by
    have e1:x=x':=by omega
    have e2:y=y':=by omega
    subst e1;subst e2;exact k⟩
  ·rw [if_pos (h.un y (by omega) hR)]
   refine ⟨fun k=>absurd k (by simp),fun ⟨x',y',e1,e2,h2,h3,_⟩=>?_⟩
   have e2:y=y':=by omega
   subst e2
   exact absurd h3 hR
theorem anc_trans {T:List Int} {a b c:Nat} (h:AncT T a b) (k:AncT T b c):AncT T a c:=by
 induction h with
 | refl=>exact k
 | up h1 _ ih=>exact .up h1 (ih k)
theorem anc_lin {T:List Int} {a b c:Nat} (h:AncT T a b) (k:AncT T a c):AncT T b c∨AncT T c b:=by
 induction h with
 | refl=>exact .inl k
 | up h1 h2 ih=>
   cases k with
   | refl=>exact .inr (.up h1 h2)
   | up k1 k2=>
     rw [h1] at k1
     have:=Option.some.inj k1
     rename_i d _ e
     have:d=e:=by omega
     subst this
     exact ih k2
theorem anc_lvl {T:List Int} {lvl:Nat→Nat} (hlv:∀ b d:Nat,T[b]?=some (d:Int)→lvl d < lvl b) {a b:Nat} (h:AncT T a b):lvl b≤lvl a∧(a≠b→lvl b < lvl a):=by
 induction h with
 | refl=>exact ⟨Nat.le_refl _,fun h=>absurd rfl h⟩
 | up h1 _ ih=>have:=hlv _ _ h1;exact ⟨by omega,fun _=>by omega⟩
theorem TreeOk.lin {G:List (List Int)} {q:Int} {T:List Int} {lvl:Nat→Nat} (h:TreeOk G q T lvl) {a b c:Int} (h1:domB T a b=true) (h2:domB T c b=true):domB T a c=true∨domB T c a=true:=by
 rw [h.dom] at h1 h2 ⊢
 rw [h.dom]
 obtain ⟨x,y,rfl,rfl,p1,p2,p3⟩:=h1
 obtain ⟨z,y',rfl,e,q1,q2,q3⟩:=h2
 have e:y=y':=by omega
 subst e
 have up:∀ {y x:Nat},Rch G [q] y→AncT T y x→Rch G [q] x:=fun {y x} hR k=>by
  induction k with
  | refl=>exact hR
  | up k1 _ ih=>exact ih (h.nat k1).2.2.1
 rcases anc_lin p3 q3 with k | k
 ·exact .inr ⟨z,x,rfl,rfl,q1,up p2 p3,k⟩
 ·exact .inl ⟨x,z,rfl,rfl,p1,up q2 q3,k⟩
theorem TreeOk.tra {G:List (List Int)} {q:Int} {T:List Int} {lvl:Nat→Nat} (h:TreeOk G q T lvl) {a b c:Int} (h1:domB T a c=true) (h2:domB T c b=true):domB T a b=true:=by
 rw [h.dom] at h1 h2 ⊢
 obtain ⟨x,y,rfl,rfl,p1,p2,p3⟩:=h1
 obtain ⟨z,y',e,rfl,q1,q2,q3⟩:=h2
 have e:y=z:=by omega
 subst e
 exact ⟨x,y',rfl,rfl,p1,q2,anc_trans q3 p3⟩
theorem TreeOk.anti {G:List (List Int)} {q:Int} {T:List Int} {lvl:Nat→Nat} (h:TreeOk G q T lvl) {a b:Int} (h1:domB T a b=true) (h2:domB T b a=true):a=b:=by
 rw [h.dom] at h1 h2
 obtain ⟨x,y,rfl,rfl,p1,p2,p3⟩:=h1
 obtain ⟨z,y',e1,e2,q1,q2,q3⟩:=h2
 have e1:y=z:=by omega
 have e2:x=y':=by omega
 subst e1;subst e2
 have k1:=anc_lvl (lvl:=lvl) (fun b d hb=>(h.nat hb).2.2.2) p3
 have k2:=anc_lvl (lvl:=lvl) (fun b d hb=>(h.nat hb).2.2.2) q3
 by_cases e:x=y
 ·rw [e]
 ·have:=k1.2 (Ne.symm e)
  omega
end
end Go.Proofs.Ytdmnenlpdeolaaa
