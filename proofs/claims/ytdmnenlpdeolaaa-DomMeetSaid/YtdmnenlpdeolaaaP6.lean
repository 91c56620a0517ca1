/- Texts of the proof: DomF1, DomF2, DomF3, DomF4, DomI1, DomQ1, DomI2, DomM1, DomL2, DomS6, DomI3, DomI4, DomN1, DomN2, DomN3, DomM2, DomM3, DomL3, DomR1, DomR2, DomR3, DomR4, DomR5, DomR6, DomR7, DomL4, DomN4, DomM4, DomM5, DomM6. -/
import Derived.Test.YtdmnenlpdeolaaaP0
import Derived.Test.YtdmnenlpdeolaaaP1
import Derived.Test.YtdmnenlpdeolaaaP2
import Derived.Test.YtdmnenlpdeolaaaP3
import Derived.Test.YtdmnenlpdeolaaaP4
import Derived.Test.YtdmnenlpdeolaaaP5
set_option linter.all false
set_option maxRecDepth 100000
namespace Go.Proofs.Ytdmnenlpdeolaaa
open Go.AM
def Touch (v v':V) (H H':Heap):Prop:=(H'=H∧v'=v)∨∃ id g n n' ob,v=.sl id g 0 n 1∧v'=.sl id g 0 n' 1∧H'=H.set id ob
theorem Touch.same (v:V) (H:Heap):Touch v v H H:=.inl ⟨rfl,rfl⟩
theorem Touch.put (id g n n':Nat) (ob:Ob) (H:Heap):Touch (.sl id g 0 n 1) (.sl id g 0 n' 1) H (H.set id ob):=.inr ⟨id,g,n,n',ob,rfl,rfl,rfl⟩
theorem Touch.trans {v v' v2:V} {H H' H2:Heap} (h:Touch v v' H H') (k:Touch v' v2 H' H2):Touch v v2 H H2:=by
 rcases h with ⟨rfl,rfl⟩ | ⟨id,g,n,n',ob,rfl,rfl,rfl⟩
 ·exact k
 ·rcases k with ⟨rfl,rfl⟩ | ⟨id',g',m,m',ob',e,rfl,rfl⟩
  ·exact .inr ⟨id,g,n,n',ob,rfl,rfl,rfl⟩
  ·cases e
   exact .inr ⟨id,g,n,m',ob',rfl,rfl,by rw [List.set_set]⟩
theorem compact_own2 {CT:Nat→Option CFun} (hT:CT k_f30=some (.code s_f30)) (base m:Nat) (H:Heap) (v:V) (l:List Int) (hv:OwnN m H v (l.map iV)) (hb:base≤m) (hn:l.length < 2 ^ 62):
 ∃ v' H',callW CT (.fn k_f30 [] []) [v] base H=some (v',H')∧OwnN m H' v' ((compactZ l).map iV)∧Touch v v' H H':=by
 by_cases h2:l.length < 2
 ·refine ⟨v,H,?_,?_,Touch.same _ _⟩
  ·refine callW_fn (c:=s_f30) hT (by simp [s_f30]) ?_
   have h2':((l.length:Nat):Int) < 2:=by omega
   simp only [s_f30,a_f30,s_f30_l0_b,s_f30_l1_b,aa,bl,i64,reduceIte,reduceCtorEq,Nat.reduceEqDiff,Nat.reduceLT,Nat.reduceLeDiff,Nat.reduceBEq,Nat.reduceAdd,fillA,splice,Nat.reduceMul,amY,op_eqP,hv.rd.len,List.length_map,h2']
  ·match l,h2 with
   | [],_=>exact hv
   | [x],_=>exact hv
 ·rcases hv with ⟨h,_⟩ | ⟨id,g,c,rfl,hc,hl,ht,hid⟩
  ·have:=congrArg List.length h
   simp at this
   subst this
   simp at h2
  ·rw [List.length_map] at hl ht ⊢
   have hr:∀ j,j < l.length→c[j]?=some (iV (l.getD j 0)):=fun j hj=>by
    rw [← map_get hj,← ht,List.getElem?_take_of_lt hj]
   have hlt:=getC_lt hc
   match l,h2,hr,hl,ht,hn with
   | [],h2,_,_,_,_=>simp at h2
   | x :: r,h2,hr,hl,ht,hn=>
     have ho:=compact_outer (callW CT) base id g (x :: r).length (x :: r) rfl (by omega) hn H hlt c hl hc hr r 1 rfl (Nat.le_refl _) (by simp)
     have e0:(x :: r).getD (1 - 1) 0=x:=rfl
     rw [e0] at ho
     have c1:((1:Nat):Int)=1:=rfl
     rw [c1,List.length_cons] at ho
     have h2':¬ ((r.length+1:Nat):Int) < 2:=by simp at h2;omega
     rcases ho with ⟨q,hq⟩ | ⟨c',q,q2,q3⟩
     ·refine ⟨.sl id g 0 (x :: r).length 1,H,?_,?_,Touch.same _ _⟩
      ·refine callW_fn (c:=s_f30) hT (by simp [s_f30]) ?_
       simp only [s_f30,a_f30,s_f30_l0_b,s_f30_l1_b,aa,bl,i64,reduceIte,reduceCtorEq,Nat.reduceEqDiff,Nat.reduceLT,Nat.reduceLeDiff,Nat.reduceBEq,Nat.reduceAdd,fillA,splice,Nat.reduceMul,amY,op_eqP,h2',q]
      ·rw [show compactZ (x :: r)=x :: r by simp only [compactZ,hq]]
       exact .inr ⟨id,g,c,by rw [List.length_map],hc,by rw [List.length_map];exact hl,by rw [List.length_map];exact ht,hid⟩
     ·refine ⟨.sl id g 0 (1+(chg x r).length) 1,H.set id (.cells g c'),?_,?_,Touch.put _ _ _ _ _ _⟩
      ·refine callW_fn (c:=s_f30) hT (by simp [s_f30]) ?_
       simp only [s_f30,a_f30,s_f30_l0_b,s_f30_l1_b,aa,bl,i64,reduceIte,reduceCtorEq,Nat.reduceEqDiff,Nat.reduceLT,Nat.reduceLeDiff,Nat.reduceBEq,Nat.reduceAdd,fillA,splice,Nat.reduceMul,amY,op_eqP,h2',q]
      ·have hcl:=chg_len r x
       refine .inr ⟨id,g,c',?_,getC_put hc,?_,?_,hid⟩
       ·simp [compactZ];omega
       ·simp [compactZ] at hl ⊢;omega
       ·have:((compactZ (x :: r)).map iV).length=1+(chg x r).length:=by simp [compactZ];omega
        rw [this,q3];rfl
theorem sort_own2 {CT:Nat→Option CFun} (hT:CT k_f29=some (.prim sortG)) (base m:Nat) (H:Heap) (v:V) (l:List Int) (hv:OwnN m H v (l.map iV)) (hb:base≤m) (hn:l.length < 2 ^ 62):
 ∃ H',callW CT (.fn k_f29 [] []) [v] base H=some (und,H')∧OwnN m H' v ((sortZ l).map iV)∧Touch v v H H':=by
 have hp:∀ r,sortG [v] base H=some r→callW CT (.fn k_f29 [] []) [v] base H=some r:=fun r hr=>callW_eq (by simp only [evCall,hT,List.nil_append,List.append_nil];exact hr)
 have hsl:(sortZ l).length=l.length:=by rw [sortZ,List.length_mergeSort]
 have hnil:l=[]→sortZ l=[]:=fun h=>by subst h;simp [sortZ]
 rcases hv with ⟨h,hv⟩ | ⟨id,g,c,rfl,hc,hl,ht,hid⟩
 ·have h':l=[]:=by simpa using h
  refine ⟨H,hp _ ?_,.inl ⟨by rw [hnil h'];rfl,hv⟩,Touch.same _ _⟩
  rcases hv with rfl | rfl <;> rfl
 ·rw [List.length_map] at hl ht
  by_cases h0:l.length=0
  ·have h':l=[]:=List.eq_nil_of_length_eq_zero h0
   refine ⟨H,hp _ ?_,.inr ⟨id,g,c,by simp [hsl],hc,by simp [hsl];exact hl,by simp [hnil h'],hid⟩,Touch.same _ _⟩
   simp only [sortG,List.length_map,h0,if_true]
  ·refine ⟨H.set id (.cells g (splice c 0 ((sortZ l).map iV))),hp _ ?_,.inr ⟨id,g,_,by simp [hsl],getC_put hc,?_,?_,hid⟩,Touch.put _ _ _ _ _ _⟩
   ·have h1:base≤id∧1=1∧l.length < 4611686018427387904:=⟨by omega,rfl,hn⟩
    have h3:0+l.length≤c.length:=by omega
    simp only [sortG,List.length_map,h0,if_false,h1,and_self,if_true,hc,List.drop_zero,ht,intsOf_map,h3]
   ·simp [splice,hsl]
   ·simp [splice,hsl]
def BagO (m:Nat) (H:Heap) (vs:List V) (R:List (List V)):Prop:=
 vs.length=R.length∧(∀ (j:Nat) (r:List V),R[j]?=some r→∃ x,vs[j]?=some x∧OwnN m H x r)∧
 ∀ (j k id g n id' g' n':Nat),j≠k→vs[j]?=some (.sl id g 0 n 1)→vs[k]?=some (.sl id' g' 0 n' 1)→id≠id'
theorem bag_own {m:Nat} {H:Heap} {vs:List V} {R:List (List V)} (h:Bag m H vs R):BagO m H vs R:=by
 refine ⟨h.1,fun j r hr=>?_,h.2.2⟩
 obtain ⟨x,h1,h2⟩:=h.2.1 j r hr
 refine ⟨x,h1,?_⟩
 rcases h2 with ⟨rfl,rfl⟩ | ⟨id,g,rfl,hc,hm⟩
 ·exact .inl ⟨rfl,.inl rfl⟩
 ·exact .inr ⟨id,g,r,rfl,hc,Nat.le_refl _,by simp,hm⟩
theorem BagO.trim {m L o:Nat} {H:Heap} {vs:List V} {R:List (List V)} (h:BagO m H vs R) (hc:getC H o 0=some vs) (ho:o < L) (fr:List V):BagO m (trim L fr H) vs R:=
 ⟨h.1,fun j r hr=>by obtain ⟨x,h1,h2⟩:=h.2.1 j r hr;exact ⟨x,h1,h2.trim hc ho (List.mem_of_getElem? h1) fr⟩,h.2.2⟩
theorem BagO.rows {m o:Nat} {H:Heap} {vs:List V} {R:List (List V)} (h:BagO m H vs R) (hc:getC H o 0=some vs):RdRows H (.sl o 0 0 R.length 1) R:=
 ⟨vs,by rw [← h.1];exact getC_sl hc,trivial,h.1,fun i r hr=>by obtain ⟨x,h1,h2⟩:=h.2.1 i r hr;exact ⟨x,h1,h2.rd,h2.wide⟩⟩
theorem BagO.touch {m o i:Nat} {H H':Heap} {vs:List V} {R:List (List V)} {x x':V} {r':List V} (h:BagO m H vs R) (ho:o < m) (hc:getC H o 0=some vs) (hx:vs[i]?=some x) (ht:Touch x x' H H') (hid:∀ id g n,x=.sl id g 0 n 1→m≤id) (hx':OwnN m H' x' r'):
 getC H' o 0=some vs∧BagO m (H'.set o (.cells 0 (vs.set i x'))) (vs.set i x') (R.set i r')∧(∀ H0,H0.length≤m→Ext H0 H→Ext H0 H'):=by
 have hi:=(List.getElem?_eq_some_iff.1 hx).1
 rcases ht with ⟨rfl,rfl⟩ | ⟨id,g,n,n',ob,rfl,rfl,rfl⟩
 ·have hs:vs.set i x'=vs:=by
   apply List.ext_getElem?
   intro j
   by_cases e:i=j
   ·subst e;rw [List.getElem?_set_self hi,hx]
   ·rw [List.getElem?_set_ne e]
  rw [hs]
  refine ⟨hc,⟨by rw [List.length_set];exact h.1,fun j r hr=>?_,h.2.2⟩,fun _ _ k=>k⟩
  by_cases e:i=j
  ·subst e
   rw [List.getElem?_set_self (by rw [← h.1];exact hi)] at hr
   obtain rfl:=Option.some.inj hr
   exact ⟨x',hx,hx'.set ho _⟩
  ·rw [List.getElem?_set_ne e] at hr
   obtain ⟨y,h1,h2⟩:=h.2.1 j r hr
   exact ⟨y,h1,h2.set ho _⟩
 ·have hidm:=hid id g n rfl
  refine ⟨by rw [getC_set_ne _ (by omega)];exact hc,⟨by rw [List.length_set,List.length_set];exact h.1,fun j r hr=>?_,fun j k a b c a' b' c' hjk hj hk=>?_⟩,fun H0 h0 k=>k.set (by omega) _⟩
  ·by_cases e:i=j
   ·subst e
    rw [List.getElem?_set_self (by rw [← h.1];exact hi)] at hr
    obtain rfl:=Option.some.inj hr
    exact ⟨_,List.getElem?_set_self hi,hx'.set ho _⟩
   ·rw [List.getElem?_set_ne e] at hr
    obtain ⟨y,h1,h2⟩:=h.2.1 j r hr
    refine ⟨y,by rw [List.getElem?_set_ne e];exact h1,OwnN.set ?_ ho _⟩
    rcases h2 with h2 | ⟨id2,g2,c2,rfl,k1,k2,k3,k4⟩
    ·exact .inl h2
    ·have hne:=h.2.2 i j _ _ _ _ _ _ e hx h1
     exact .inr ⟨id2,g2,c2,rfl,by rw [getC_set_ne _ (Ne.symm hne)];exact k1,k2,k3,k4⟩
  ·by_cases e:i=j
   ·subst e
    rw [List.getElem?_set_self hi] at hj
    rw [List.getElem?_set_ne hjk] at hk
    cases hj
    exact h.2.2 i k _ _ _ _ _ _ hjk hx hk
   ·rw [List.getElem?_set_ne e] at hj
    by_cases e2:i=k
    ·subst e2
     rw [List.getElem?_set_self hi] at hk
     cases hk
     exact h.2.2 j i _ _ _ _ _ _ hjk hj hx
    ·rw [List.getElem?_set_ne e2] at hk
     exact h.2.2 j k _ _ _ _ _ _ hjk hj hk
end Go.Proofs.Ytdmnenlpdeolaaa
set_option maxRecDepth 100000
namespace Go.Proofs.Ytdmnenlpdeolaaa
open Go.AM
def fin (r:List Int):List Int:=compactZ (sortZ r)
def finTo (i:Nat) (R:List (List Int)):List (List Int):=(List.range R.length).map fun j=>if j < i then fin (R.getD j []) else R.getD j []
theorem finTo_len (i:Nat) (R:List (List Int)):(finTo i R).length=R.length:=by simp [finTo]
theorem finTo_get {i j:Nat} {R:List (List Int)} (hj:j < R.length):(finTo i R)[j]?=some (if j < i then fin (R.getD j []) else R.getD j []):=by
 unfold finTo
 rw [List.getElem?_map,List.getElem?_range hj];rfl
theorem finTo_zero (R:List (List Int)):finTo 0 R=R:=by
 apply List.ext_getElem?
 intro j
 by_cases hj:j < R.length
 ·rw [finTo_get hj,some_getD hj []];simp
 ·rw [List.getElem?_eq_none (by rw [finTo_len];omega),List.getElem?_eq_none (by omega)]
theorem finTo_step {i:Nat} {R:List (List Int)} (hi:i < R.length):(finTo i R).set i (fin (R.getD i []))=finTo (i+1) R:=by
 apply List.ext_getElem?
 intro j
 by_cases hj:j < R.length
 ·rw [finTo_get hj]
  by_cases e:i=j
  ·subst e
   rw [List.getElem?_set_self (by rw [finTo_len];exact hi),if_pos (by omega)]
  ·rw [List.getElem?_set_ne e,finTo_get hj]
   have:(j < i+1)=(j < i):=by rw [eq_iff_iff];omega
   simp only [this]
 ·rw [List.getElem?_eq_none (by rw [List.length_set,finTo_len];omega),List.getElem?_eq_none (by rw [finTo_len];omega)]
theorem finTo_all (R:List (List Int)):finTo R.length R=R.map fin:=by
 apply List.ext_getElem?
 intro j
 by_cases hj:j < R.length
 ·rw [finTo_get hj,if_pos hj,List.getElem?_map,some_getD hj []];rfl
 ·rw [List.getElem?_eq_none (by rw [finTo_len];omega),List.getElem?_eq_none (by simp;omega)]
theorem rowsV_put (R:List (List Int)) (k:Nat) (r:List Int):rowsV (R.set k r)=(rowsV R).set k (r.map iV):=by
 simp [rowsV,List.map_set]
theorem own_at {m:Nat} {H:Heap} {v:V} {l:List V} (h:OwnN m H v l):∀ id g n,v=.sl id g 0 n 1→m≤id:=by
 intro id g n e
 rcases h with ⟨_,rfl | rfl⟩ | ⟨_,_,_,rfl,_,_,_,k⟩
 ·cases e
 ·cases e
 ·cases e;exact k
theorem Touch.get {x x':V} {H H':Heap} (h:Touch x x' H H') {m o:Nat} (ho:o < m) (hid:∀ id g n,x=.sl id g 0 n 1→m≤id) (g:Nat):getC H' o g=getC H o g:=by
 rcases h with ⟨rfl,rfl⟩ | ⟨id,g',n,n',ob,rfl,rfl,rfl⟩
 ·rfl
 ·have:=hid id g' n rfl
  exact getC_set_ne _ (by omega)
theorem Touch.len {x x':V} {H H':Heap} (h:Touch x x' H H'):H'.length=H.length:=by
 rcases h with ⟨rfl,rfl⟩ | ⟨id,g',n,n',ob,rfl,rfl,rfl⟩
 ·rfl
 ·exact List.length_set ..
section
variable {CT:Nat→Option CFun}
theorem fr_l3 (hS:CT k_f29=some (.prim sortG)) (hK:CT k_f30=some (.code s_f30)) (base m o L:Nat) (A:Heap) (hA:A.length=m) (R:List (List Int)) (ho:o < m) (hb:base≤o) (hL:m≤L) (hn:R.length < 2 ^ 40) (hr:∀ r∈R,r.length < 2 ^ 60):
 ∀ (k i:Nat) (H:Heap) (vs:List V),i+k=R.length→L≤H.length→Ext (A.set o (.cells 0 vs)) H→getC H o 0=some vs→BagO m H vs (rowsV (finTo i R))→
 ∃ H' vs',itW (evC (callW CT) itW base s_f16_l3) [] L (frOf 89 [(6,.sl o 0 0 R.length 1),(70,.s (.int .i64 R.length)),(71,.s (.int .i64 i))]) H=some (.ext 6,frOf 89 [(6,.sl o 0 0 R.length 1),(70,.s (.int .i64 R.length)),(71,.s (.int .i64 R.length)),(72,bl false)],H')∧L≤H'.length∧Ext (A.set o (.cells 0 vs')) H'∧getC H' o 0=some vs'∧BagO m H' vs' (rowsV (R.map fin)):=by
 intro k
 induction k with
 | zero=>
   intro i H vs hi hLH he hc hB
   obtain rfl:i=R.length:=by omega
   rw [finTo_all] at hB
   refine ⟨trim L (frOf 89 [(6,.sl o 0 0 R.length 1),(70,.s (.int .i64 R.length)),(71,.s (.int .i64 R.length)),(72,bl false)]) H,vs,?_,trim_le hLH,he.trim (by rw [List.length_set];omega) _,trim_get hc (by omega),hB.trim hc (by omega) _⟩
   rw [itW_step]
   simp only [a_f16,s_f16_l0_b,s_f16_l1_b,s_f16_l2_b,s_f16_l3_b,aa,bl,i64,reduceIte,reduceCtorEq,Nat.reduceEqDiff,Nat.reduceLT,Nat.reduceLeDiff,Nat.reduceBEq,Nat.reduceAdd,fillA,splice,Nat.reduceMul,amY,op_eqP,Int.lt_irrefl,bl]
 | succ k ih=>
   intro i H vs hi hLH he hc hB
   have hiR:i < R.length:=by omega
   have hlt':(i:Int) < (R.length:Int):=by omega
   have hwk:=w64 (n:=i) (by omega)
   have hgi:(rowsV (finTo i R))[i]?=some ((R.getD i []).map iV):=by
    have:=rowsV_get (finTo_get (i:=i) hiR)
    rwa [if_neg (by omega)] at this
   have hrl:=hr _ (List.mem_of_getElem? (some_getD hiR []))
   obtain ⟨x,hx,hox⟩:=hB.2.1 i _ hgi
   obtain ⟨H1,s1,s2,s3⟩:=sort_own2 hS base m H x _ hox (by omega) (by omega)
   have hsl:(sortZ (R.getD i [])).length=(R.getD i []).length:=by rw [sortZ,List.length_mergeSort]
   obtain ⟨v',H2,c1,c2,c3⟩:=compact_own2 hK base m H1 x _ s2 (by omega) (by omega)
   have hc1:getC H1 o 0=some vs:=by rw [s3.get ho (own_at hox)];exact hc
   have hT:=s3.trans c3
   obtain ⟨hc2,hB2,hE⟩:=hB.touch (r':=(fin (R.getD i [])).map iV) ho hc hx hT (own_at hox) c2
   rw [← rowsV_put,finTo_step hiR] at hB2
   obtain ⟨a1,a2⟩:=at_sl hc hiR hx
   obtain ⟨b1,b2⟩:=at_sl hc1 hiR hx
   have hvl:vs.length=R.length:=by rw [hB.1,rowsV_len,finTo_len]
   have hst:=storeV_at (v:=v') (base:=base) hc2 hb c2.one (off:=i) (by omega)
   have he1:=hE _ (by rw [List.length_set];omega) he
   have he2:=he1.set_both (o:=o) (by rw [List.length_set];omega) (.cells 0 (vs.set i v'))
   rw [List.set_set] at he2
   have hc3:=getC_put (c':=vs.set i v') hc2
   have hl2:=hT.len
   obtain ⟨H',vs',p1,p2,p3,p4,p5⟩:=ih (i+1) (trim L (frOf 89 [(6,.sl o 0 0 R.length 1),(70,.s (.int .i64 R.length)),(71,.s (.int .i64 (i+1:Nat)))]) (H2.set o (.cells 0 (vs.set i v')))) (vs.set i v') (by omega) (trim_le (by rw [List.length_set];omega)) (he2.trim (by rw [List.length_set];omega) _) (trim_get hc3 (by omega)) (hB2.trim hc3 (by omega) _)
   refine ⟨H',vs',?_,p2,p3,p4,p5⟩
   have hixb:(0≤(i:Int)∧(i:Int) < (R.length:Int)∧1=1):=by omega
   rw [itW_step]
   simp only [a_f16,s_f16_l0_b,s_f16_l1_b,s_f16_l2_b,s_f16_l3_b,aa,bl,i64,reduceIte,reduceCtorEq,Nat.reduceEqDiff,Nat.reduceLT,Nat.reduceLeDiff,Nat.reduceBEq,Nat.reduceAdd,fillA,splice,Nat.reduceMul,amY,op_eqP,hlt',hwk,a1,a2,b1,b2,s1,c1,hst]
   exact p1
end
end Go.Proofs.Ytdmnenlpdeolaaa
set_option maxRecDepth 100000
namespace Go.Proofs.Ytdmnenlpdeolaaa
open Go.AM
def runR (T:List Int) (y:Int):Nat→Int→List (List Int)→List (List Int)
 | 0,_,R=>R
 | m+1,r,R=>if r < 0 then R else if r=y∨domB T r y=false then runR T y m (T.getD r.toNat 0) (bump y R r) else R
theorem runR_neg (T:List Int) (y:Int) (f:Nat) {r:Int} (R:List (List Int)) (h:r < 0):runR T y f r R=R:=by
 cases f with
 | zero=>rfl
 | succ f=>rw [runR,if_pos h]
theorem runR_len (T:List Int) (y:Int):∀ (f:Nat) (r:Int) (R:List (List Int)),(runR T y f r R).length=R.length:=by
 intro f
 induction f with
 | zero=>intro r R;rfl
 | succ f ih=>
   intro r R
   rw [runR]
   split
   ·rfl
   ·split
    ·rw [ih,bump_len]
    ·rfl
def UpR (G:List (List Int)) (q:Int) (lvl:Nat→Nat) (f:Nat) (r:Int):Prop:=r < 0∨∃ k:Nat,r=k∧Rch G [q] k∧lvl k < f
theorem TreeOk.next {G:List (List Int)} {q:Int} {T:List Int} {lvl:Nat→Nat} (h:TreeOk G q T lvl) {f k:Nat} (hk:Rch G [q] k) (hf:lvl k < f+1):UpR G q lvl f (T.getD k 0):=by
 by_cases e:(k:Int)=q
 ·rw [h.rt k e.symm (rch_lt hk)];exact .inl (by omega)
 ·obtain ⟨d,hd,h1,h2⟩:=h.id k hk e
  exact .inr ⟨d,hd,h1,by omega⟩
theorem taleR_no (fr:List V) (H:Heap) (os:List (Nat × E)) (kill:List Nat):taleR fr H os kill false=none:=rfl
theorem segL_no (H:Heap) (o:Option St):segL H none o=o:=rfl
theorem reqB_no (b r:Bool):reqB (some und) b r=false:=rfl
section
variable {CT:Nat→Option CFun}
theorem fr_r11 (base:Nat) (H:Heap) (a5 a6 a7 a10 a11 a20 a21 a22 a32 a33 a34:V):origRow (callW CT) itW base s_f16_r11t9 [39,40,41,42,43,44,45,46,47,48,49,50,51] (frOf 89 [(5,a5),(6,a6),(7,a7),(10,a10),(11,a11),(20,a20),(21,a21),(22,a22),(32,a32),(33,a33),(34,a34),(41,V.s (Value.bool false)),(45,und),(49,und)]) H=some (.nrm,frOf 89 [(5,a5),(6,a6),(7,a7),(10,a10),(11,a11),(20,a20),(21,a21),(22,a22),(32,a32),(33,a33),(34,a34),(52,V.s (Value.bool false))],H):=by
 simp only [origRow,s_f16_r11t9,aa,bl,i64,reduceIte,reduceCtorEq,Nat.reduceEqDiff,Nat.reduceLT,Nat.reduceLeDiff,Nat.reduceBEq,Nat.reduceAdd,fillA,splice,Nat.reduceMul,amY,op_eqP,evC_ops,evOps_nil,evOps_cons,evOps_guard,opK_bool,wantV_bool,wantV_und,put_some,evOp_pick,pickR,op_move,op_un,ev_t,ev_c,resK_some]
theorem fr_l0 (hD:CT k_f13=some (.code s_f13)) (base m o L:Nat) (A:Heap) (hA:A.length=m) {G:List (List Int)} {q:Int} {T:List Int} {lvl:Nat→Nat} (ok:TreeOk G q T lvl) {tv:V} (hT0:∀ ob,Rd (A.set o ob) tv (T.map iV)) (htw:Wide1 tv) (ho:o < m) (hb:base≤o) (hL:m≤L) (hn:G.length < 2 ^ 18) (y:Int) {x j rl:Nat} {nv row:V}:
 ∀ (f:Nat) (r:Int) (H:Heap) (vs:List V) (R:List (List Int)),UpR G q lvl f r→L≤H.length→Ext (A.set o (.cells 0 vs)) H→getC H o 0=some vs→Bag m H vs (rowsV R)→R.length=G.length→(∀ q∈R,q.length+f≤2 ^ 43)→
 ∃ H' vs' r',itW (evC (callW CT) itW base s_f16_l0) [] L (frOf 89 [(5,tv),(6,.sl o 0 0 G.length 1),(7,.s (.int .i64 x)),(10,.s (.int .i64 y)),(11,.s (.int .i64 r)),(20,nv),(21,.s (.int .i64 G.length)),(22,.s (.int .i64 x)),(32,row),(33,.s (.int .i64 rl)),(34,.s (.int .i64 j))]) H=
   some (.ext 4,frOf 89 [(5,tv),(6,.sl o 0 0 G.length 1),(7,.s (.int .i64 x)),(10,.s (.int .i64 y)),(11,.s (.int .i64 r')),(20,nv),(21,.s (.int .i64 G.length)),(22,.s (.int .i64 x)),(32,row),(33,.s (.int .i64 rl)),(34,.s (.int .i64 j)),(52,bl false)],H')∧L≤H'.length∧Ext (A.set o (.cells 0 vs')) H'∧getC H' o 0=some vs'∧Bag m H' vs' (rowsV (runR T y f r R)):=by
 intro f
 have hlen:=ok.len
 have stop:∀ (r:Int) (H:Heap) (vs:List V) (R:List (List Int)),L≤H.length→Ext (A.set o (.cells 0 vs)) H→getC H o 0=some vs→Bag m H vs (rowsV R)→∀ (fr:List V),L≤(trim L fr H).length∧Ext (A.set o (.cells 0 vs)) (trim L fr H)∧getC (trim L fr H) o 0=some vs∧Bag m (trim L fr H) vs (rowsV R):=fun r H vs R hLH he hc hB fr=>
  ⟨trim_le hLH,he.trim (by rw [List.length_set];omega) _,trim_get hc (by omega),hB.trim hc (by omega) _⟩
 have hneg:∀ (r:Int) (H:Heap) (vs:List V) (R:List (List Int)),r < 0→L≤H.length→Ext (A.set o (.cells 0 vs)) H→getC H o 0=some vs→Bag m H vs (rowsV R)→
  ∃ H' vs' r',itW (evC (callW CT) itW base s_f16_l0) [] L (frOf 89 [(5,tv),(6,.sl o 0 0 G.length 1),(7,.s (.int .i64 x)),(10,.s (.int .i64 y)),(11,.s (.int .i64 r)),(20,nv),(21,.s (.int .i64 G.length)),(22,.s (.int .i64 x)),(32,row),(33,.s (.int .i64 rl)),(34,.s (.int .i64 j))]) H=
    some (.ext 4,frOf 89 [(5,tv),(6,.sl o 0 0 G.length 1),(7,.s (.int .i64 x)),(10,.s (.int .i64 y)),(11,.s (.int .i64 r')),(20,nv),(21,.s (.int .i64 G.length)),(22,.s (.int .i64 x)),(32,row),(33,.s (.int .i64 rl)),(34,.s (.int .i64 j)),(52,bl false)],H')∧L≤H'.length∧Ext (A.set o (.cells 0 vs')) H'∧getC H' o 0=some vs'∧Bag m H' vs' (rowsV R):=by
  intro r H vs R h0 hLH he hc hB
  have h0':¬ (0≤r):=by omega
  have st:=stop r H vs R hLH he hc hB (frOf 89 [(5,tv),(6,.sl o 0 0 G.length 1),(7,.s (.int .i64 x)),(10,.s (.int .i64 y)),(11,.s (.int .i64 r)),(20,nv),(21,.s (.int .i64 G.length)),(22,.s (.int .i64 x)),(32,row),(33,.s (.int .i64 rl)),(34,.s (.int .i64 j)),(52,bl false)])
  refine ⟨_,vs,r,?_,st⟩
  rw [itW_step]
  simp only [a_f16,s_f16_l0_b,s_f16_l1_b,s_f16_l2_b,s_f16_l3_b,aa,bl,i64,reduceIte,reduceCtorEq,Nat.reduceEqDiff,Nat.reduceLT,Nat.reduceLeDiff,Nat.reduceBEq,Nat.reduceAdd,fillA,splice,Nat.reduceMul,amY,op_eqP,ge_iff_le,h0',reqB_no,taleR_no,segL_no,fr_r11,bl]
 induction f with
 | zero=>
   intro r H vs R hu hLH he hc hB hR hq
   rcases hu with h0 | ⟨k,_,_,h⟩
   ·exact hneg r H vs R h0 hLH he hc hB
   ·omega
 | succ f ih=>
   intro r H vs R hu hLH he hc hB hR hq
   rcases hu with h0 | ⟨k,rfl,hk,hf⟩
   ·rw [runR_neg _ _ _ _ h0]
    exact hneg r H vs R h0 hLH he hc hB
   have hkn:=rch_lt hk
   have h0:¬ ((k:Int) < 0):=by omega
   have hge:(0:Int)≤(k:Int):=by omega
   have hdom:=dom_fun hD base H tv T (k:Int) y ((hT0 _).ext he) htw (by omega)
   have hrun:runR T y (f+1) (k:Int) R=if (k:Int)=y∨domB T (k:Int) y=false then runR T y f (T.getD k 0) (bump y R (k:Int)) else R:=by rw [runR,if_neg h0];rfl
   by_cases hgo:(k:Int)=y∨domB T (k:Int) y=false
   ·rw [hrun,if_pos hgo]
    have hRj:R[k]?=some (R.getD k []):=some_getD (by omega) []
    have hqj:=hq _ (List.mem_of_getElem? hRj)
    have hAH:=he.le
    rw [List.length_set] at hAH
    obtain ⟨w,v',H1,hw1,happ,hv1,hc1,hm1,hB1,hE1⟩:=hB.append (base:=base) (bytes:=8) (x:=iV y) hc ho (by omega) (by omega) (rowsV_get hRj) rfl (by rw [List.length_map];omega)
    obtain ⟨hb1,hb2⟩:=at_sl hc hkn hw1
    have hvl:vs.length=G.length:=by rw [hB.1,rowsV_len];exact hR
    have hst:=storeV_at (v:=v') (base:=base) hc1 hb hv1 (off:=k) (by omega)
    have he1:=hE1 _ (by rw [List.length_set];omega) he
    have he2:=he1.set_both (o:=o) (by rw [List.length_set];omega) (.cells 0 (vs.set k v'))
    rw [List.set_set] at he2
    have hc2:=getC_put (c':=vs.set k v') hc1
    rw [← rowsV_set] at hB1
    obtain ⟨ta,t1,t2⟩:=iV_get ((hT0 _).ext he2) htw (k:=k) (by omega)
    obtain ⟨d,hd⟩:∃ d,T.getD k 0=d:=⟨_,rfl⟩
    have hnx:=ok.next hk hf
    rw [hd] at t2 hnx ⊢
    have hkn':(k:Int) < (G.length:Int):=by omega
    have hix:(0≤(k:Int)∧(k:Int) < (G.length:Int)∧1=1):=by omega
    obtain ⟨H',vs',r',p1,p2,p3,p4,p5⟩:=ih d (trim L (frOf 89 [(5,tv),(6,.sl o 0 0 G.length 1),(7,.s (.int .i64 x)),(10,.s (.int .i64 y)),(11,.s (.int .i64 d)),(20,nv),(21,.s (.int .i64 G.length)),(22,.s (.int .i64 x)),(32,row),(33,.s (.int .i64 rl)),(34,.s (.int .i64 j))]) (H1.set o (.cells 0 (vs.set k v')))) (vs.set k v') (bump y R (k:Int)) hnx (trim_le (by rw [List.length_set];omega)) (he2.trim (by rw [List.length_set];omega) _) (trim_get hc2 (by omega)) (hB1.trim hc2 (by omega) _) (by rw [bump_len];exact hR) (by
     intro q hqm
     have:=bump_le (i:=y) (R:=R) (k:=(k:Int)) (B:=2 ^ 43 - f) (fun q hq1=>by have:=hq q hq1;omega) (by rw [Int.toNat_natCast];omega) q hqm
     omega)
    refine ⟨H',vs',r',?_,p2,p3,p4,p5⟩
    unfold iV at happ
    rw [itW_step]
    by_cases hy:(k:Int)=y
    ·have e1:((k:Int) == y)=true:=by rw [hy];simp
     simp only [a_f16,s_f16_l0_b,s_f16_l1_b,s_f16_l2_b,s_f16_l3_b,aa,bl,i64,reduceIte,reduceCtorEq,Nat.reduceEqDiff,Nat.reduceLT,Nat.reduceLeDiff,Nat.reduceBEq,Nat.reduceAdd,fillA,splice,Nat.reduceMul,amY,op_eqP,ge_iff_le,hge,e1,hb1,hb2,happ,hst,t1,t2]
     exact p1
    ·have e1:((k:Int) == y)=false:=by rw [beq_eq_false_iff_ne];exact hy
     rw [hgo.resolve_left hy] at hdom
     simp only [a_f16,s_f16_l0_b,s_f16_l1_b,s_f16_l2_b,s_f16_l3_b,aa,bl,i64,reduceIte,reduceCtorEq,Nat.reduceEqDiff,Nat.reduceLT,Nat.reduceLeDiff,Nat.reduceBEq,Nat.reduceAdd,fillA,splice,Nat.reduceMul,amY,op_eqP,ge_iff_le,hge,e1,hdom,hb1,hb2,happ,hst,t1,t2]
     exact p1
   ·rw [hrun,if_neg hgo]
    have hgo':=not_or.1 hgo
    have e1:((k:Int) == y)=false:=by rw [beq_eq_false_iff_ne];exact hgo'.1
    have e2:domB T (k:Int) y=true:=by have:=hgo'.2;cases h:domB T (k:Int) y <;> simp_all
    rw [e2] at hdom
    have st:=stop (k:Int) H vs R hLH he hc hB (frOf 89 [(5,tv),(6,.sl o 0 0 G.length 1),(7,.s (.int .i64 x)),(10,.s (.int .i64 y)),(11,.s (.int .i64 k)),(20,nv),(21,.s (.int .i64 G.length)),(22,.s (.int .i64 x)),(32,row),(33,.s (.int .i64 rl)),(34,.s (.int .i64 j)),(52,bl false)])
    refine ⟨_,vs,(k:Int),?_,st⟩
    rw [itW_step]
    simp only [a_f16,s_f16_l0_b,s_f16_l1_b,s_f16_l2_b,s_f16_l3_b,aa,bl,i64,reduceIte,reduceCtorEq,Nat.reduceEqDiff,Nat.reduceLT,Nat.reduceLeDiff,Nat.reduceBEq,Nat.reduceAdd,fillA,splice,Nat.reduceMul,amY,op_eqP,ge_iff_le,hge,e1,hdom,bl]
end
end Go.Proofs.Ytdmnenlpdeolaaa
set_option maxRecDepth 100000
namespace Go.Proofs.Ytdmnenlpdeolaaa
open Go.AM
theorem bump_le2 {i:Int} {R:List (List Int)} {k:Int} {B:Nat} (h:∀ q∈R,q.length+1≤B):∀ q∈bump i R k,q.length≤B:=by
 by_cases hk:k.toNat < R.length
 ·exact bump_le h hk
 ·intro q hq
  have:bump i R k=R:=by unfold bump;exact List.set_eq_of_length_le (by omega)
  rw [this] at hq
  have:=h q hq
  omega
theorem runR_le (T:List Int) (y:Int):∀ (f:Nat) (r:Int) (R:List (List Int)) (B:Nat),(∀ q∈R,q.length+f≤B)→∀ q∈runR T y f r R,q.length≤B:=by
 intro f
 induction f with
 | zero=>intro r R B h q hq;have:=h q hq;omega
 | succ f ih=>
   intro r R B h q hq
   rw [runR] at hq
   split at hq
   ·have:=h q hq;omega
   ·split at hq
    ·by_cases hB:f≤B
     ·refine ih _ (bump y R r) B (fun q hq=>?_) q hq
      have:=bump_le2 (i:=y) (R:=R) (k:=r) (B:=B - f) (fun q hq=>by have:=h q hq;omega) q hq
      omega
     ·match R,h,hq with
      | [],_,hq=>
        have:bump y [] r=[]:=rfl
        rw [this] at hq
        have hl:=runR_len T y f (T.getD r.toNat 0) []
        rw [List.eq_nil_of_length_eq_zero hl] at hq
        cases hq
      | q0 :: _,h,_=>have:=h q0 List.mem_cons_self;omega
    ·have:=h q hq;omega
def rowR (T:List Int) (n:Nat) (x:Int) (row:List Int) (R:List (List Int)):List (List Int):=row.foldl (fun R y=>runR T y n x R) R
theorem rowR_len (T:List Int) (n:Nat) (x:Int):∀ (row:List Int) (R:List (List Int)),(rowR T n x row R).length=R.length:=by
 intro row
 induction row with
 | nil=>intro R;rfl
 | cons y row ih=>intro R;show (rowR T n x row (runR T y n x R)).length=_;rw [ih,runR_len]
theorem rowR_le (T:List Int) (n:Nat) (x:Int):∀ (row:List Int) (R:List (List Int)) (B:Nat),(∀ q∈R,q.length+row.length * n≤B)→∀ q∈rowR T n x row R,q.length≤B:=by
 intro row
 induction row with
 | nil=>intro R B h q hq;have:=h q hq;simp at this;exact this
 | cons y row ih=>
   intro R B h q hq
   have hs:(y :: row).length * n=row.length * n+n:=by rw [List.length_cons,Nat.succ_mul]
   refine ih (runR T y n x R) B (fun q hq=>?_) q hq
   by_cases hB:row.length * n≤B
   ·have:=runR_le T y n x R (B - row.length * n) (fun q hq=>by have:=h q hq;omega) q hq
    omega
   ·match R,h,hq with
    | [],_,hq=>
      rw [List.eq_nil_of_length_eq_zero (runR_len T y n x [])] at hq
      cases hq
    | q0 :: _,h,_=>have:=h q0 List.mem_cons_self;omega
def frFrom (T:List Int) (n:Nat):Nat→List (List Int)→List (List Int)→List (List Int)
 | _,[],R=>R
 | x,r :: N,R=>frFrom T n (x+1) N (if T.getD x 0=-2 then R else rowR T n x r R)
theorem frFrom_len (T:List Int) (n:Nat):∀ (N:List (List Int)) (x:Nat) (R:List (List Int)),(frFrom T n x N R).length=R.length:=by
 intro N
 induction N with
 | nil=>intro x R;rfl
 | cons r N ih=>
   intro x R
   rw [frFrom,ih]
   split
   ·rfl
   ·exact rowR_len ..
theorem frFrom_le (T:List Int) (n:Nat):∀ (N:List (List Int)) (x:Nat) (R:List (List Int)) (B:Nat),(∀ q∈R,q.length+sumLen N * n≤B)→∀ q∈frFrom T n x N R,q.length≤B:=by
 intro N
 induction N with
 | nil=>intro x R B h q hq;have:=h q hq;omega
 | cons r N ih=>
   intro x R B h q hq
   have hs:sumLen (r :: N) * n=r.length * n+sumLen N * n:=by rw [show sumLen (r :: N)=r.length+sumLen N from rfl,Nat.add_mul]
   refine ih (x+1) _ B (fun q hq=>?_) q hq
   by_cases hB:sumLen N * n≤B
   ·split at hq
    ·have:=h q hq;omega
    ·have:=rowR_le T n x r R (B - sumLen N * n) (fun q hq=>by have:=h q hq;omega) q hq
     omega
   ·have hne:R≠[]:=fun e=>by
     subst e
     split at hq
     ·cases hq
     ·rw [List.eq_nil_of_length_eq_zero (rowR_len T n x r [])] at hq
      cases hq
    match R,h,hne with
    | [],_,hne=>exact absurd rfl hne
    | q0 :: _,h,_=>have:=h q0 List.mem_cons_self;omega
section
variable {CT:Nat→Option CFun}
theorem fr_l1 (hD:CT k_f13=some (.code s_f13)) (base m o L:Nat) (A:Heap) (hA:A.length=m) {G:List (List Int)} {q:Int} {T:List Int} {lvl:Nat→Nat} (ok:TreeOk G q T lvl) {tv:V} (hT0:∀ ob,Rd (A.set o ob) tv (T.map iV)) (htw:Wide1 tv) (ho:o < m) (hb:base≤o) (hL:m≤L) (hn:G.length < 2 ^ 18) {x:Nat} (hx:Rch G [q] x) {nv rv:V} {row:List Int} (hrow:∀ ob,Rd (A.set o ob) rv (row.map iV)) (hrw:Wide1 rv) (hrl:row.length < 2 ^ 40):
 ∀ (rest:List Int) (j:Nat) (H:Heap) (vs:List V) (R:List (List Int)),row.drop j=rest→j≤row.length→L≤H.length→Ext (A.set o (.cells 0 vs)) H→getC H o 0=some vs→Bag m H vs (rowsV R)→R.length=G.length→(∀ q∈R,q.length+rest.length * G.length≤2 ^ 43)→
 ∃ H' vs',itW (evC (callW CT) itW base s_f16_l1) [] L (frOf 89 [(5,tv),(6,.sl o 0 0 G.length 1),(7,.s (.int .i64 x)),(20,nv),(21,.s (.int .i64 G.length)),(22,.s (.int .i64 x)),(32,rv),(33,.s (.int .i64 row.length)),(34,.s (.int .i64 j))]) H=
   some (.ext 2,frOf 89 [(5,tv),(6,.sl o 0 0 G.length 1),(7,.s (.int .i64 x)),(20,nv),(21,.s (.int .i64 G.length)),(22,.s (.int .i64 x)),(32,rv),(33,.s (.int .i64 row.length)),(34,.s (.int .i64 row.length)),(35,bl false)],H')∧L≤H'.length∧Ext (A.set o (.cells 0 vs')) H'∧getC H' o 0=some vs'∧Bag m H' vs' (rowsV (rowR T G.length x rest R)):=by
 intro rest
 induction rest with
 | nil=>
   intro j H vs R hd hj hLH he hc hB hR hq
   obtain rfl:=drop_nil hd hj
   refine ⟨_,vs,?_,trim_le hLH,he.trim (by rw [List.length_set];omega) _,trim_get hc (by omega),hB.trim hc (by omega) (frOf 89 [(5,tv),(6,.sl o 0 0 G.length 1),(7,.s (.int .i64 x)),(20,nv),(21,.s (.int .i64 G.length)),(22,.s (.int .i64 x)),(32,rv),(33,.s (.int .i64 row.length)),(34,.s (.int .i64 row.length)),(35,bl false)])⟩
   rw [itW_step]
   simp only [a_f16,s_f16_l0_b,s_f16_l1_b,s_f16_l2_b,s_f16_l3_b,aa,bl,i64,reduceIte,reduceCtorEq,Nat.reduceEqDiff,Nat.reduceLT,Nat.reduceLeDiff,Nat.reduceBEq,Nat.reduceAdd,fillA,splice,Nat.reduceMul,amY,op_eqP,Int.lt_irrefl,bl]
 | cons y rest ih=>
   intro j H vs R hd hj hLH he hc hB hR hq
   obtain ⟨hy,hlt,hd'⟩:=drop_cons hd
   have hlt':(j:Int) < (row.length:Int):=by omega
   have hwk:=w64 (n:=j) (by omega)
   have hs:(y :: rest).length * G.length=rest.length * G.length+G.length:=by rw [List.length_cons,Nat.succ_mul]
   obtain ⟨a,a1,a2⟩:=iV_at ((hrow _).ext he) hrw hy
   obtain ⟨H1,vs1,r1,p1,p2,p3,p4,p5⟩:=fr_l0 hD base m o H.length A hA ok hT0 htw ho hb (by omega) hn y (x:=x) (j:=j) (rl:=row.length) (nv:=nv) (row:=rv) G.length (x:Int) H vs R (.inr ⟨x,rfl,hx,ok.lv x hx⟩) (Nat.le_refl _) he hc hB hR (fun q hq1=>by have:=hq q hq1;omega)
   obtain ⟨H',vs',q1,q2,q3,q4,q5⟩:=ih (j+1) (trim L (frOf 89 [(5,tv),(6,.sl o 0 0 G.length 1),(7,.s (.int .i64 x)),(20,nv),(21,.s (.int .i64 G.length)),(22,.s (.int .i64 x)),(32,rv),(33,.s (.int .i64 row.length)),(34,.s (.int .i64 (j+1:Nat)))]) H1) vs1 (runR T y G.length x R) hd' (by omega) (trim_le (by omega)) (p3.trim (by rw [List.length_set];omega) _) (trim_get p4 (by omega)) (p5.trim p4 (by omega) _) (by rw [runR_len];exact hR) (fun q hqm=>by
    have h0:rest.length * G.length≤2 ^ 43:=by
     match R,hR,hq with
     | [],h,_=>simp only [List.length_nil] at h;rw [← h];simp
     | q0 :: _,_,hq=>have:=hq q0 List.mem_cons_self;omega
    have:=runR_le T y G.length x R (2 ^ 43 - rest.length * G.length) (fun q hq1=>by have:=hq q hq1;omega) q hqm
    omega)
   refine ⟨H',vs',?_,q2,q3,q4,q5⟩
   simp only [bl] at p1
   rw [itW_step]
   simp only [a_f16,s_f16_l0_b,s_f16_l1_b,s_f16_l2_b,s_f16_l3_b,aa,bl,i64,reduceIte,reduceCtorEq,Nat.reduceEqDiff,Nat.reduceLT,Nat.reduceLeDiff,Nat.reduceBEq,Nat.reduceAdd,fillA,splice,Nat.reduceMul,amY,op_eqP,hlt',hwk,a1,a2,p1]
   exact q1
theorem fr_l2 (hD:CT k_f13=some (.code s_f13)) (base m o L:Nat) (A:Heap) (hA:A.length=m) {G:List (List Int)} {q:Int} {T:List Int} {lvl:Nat→Nat} (ok:TreeOk G q T lvl) {tv:V} (hT0:∀ ob,Rd (A.set o ob) tv (T.map iV)) (htw:Wide1 tv) (ho:o < m) (hb:base≤o) (hL:m≤L) (hn:G.length < 2 ^ 18) {nv:V} {N:List (List Int)} (hnv:OwnRows (o+1) A nv (rowsV N)) (hN:N.length=G.length) (hr:∀ r∈N,r.length < 2 ^ 40):
 ∀ (rest:List (List Int)) (x:Nat) (H:Heap) (vs:List V) (R:List (List Int)),N.drop x=rest→x≤N.length→L≤H.length→Ext (A.set o (.cells 0 vs)) H→getC H o 0=some vs→Bag m H vs (rowsV R)→R.length=G.length→(∀ q∈R,q.length+sumLen rest * G.length≤2 ^ 43)→
 ∃ H' vs',itW (evC (callW CT) itW base s_f16_l2) [] L (frOf 89 [(5,tv),(6,.sl o 0 0 G.length 1),(20,nv),(21,.s (.int .i64 G.length)),(22,.s (.int .i64 x))]) H=
   some (.ext 0,frOf 89 [(5,tv),(6,.sl o 0 0 G.length 1),(20,nv),(21,.s (.int .i64 G.length)),(22,.s (.int .i64 G.length)),(23,bl false)],H')∧L≤H'.length∧Ext (A.set o (.cells 0 vs')) H'∧getC H' o 0=some vs'∧Bag m H' vs' (rowsV (frFrom T G.length x rest R)):=by
 intro rest
 have hlen:=ok.len
 induction rest with
 | nil=>
   intro x H vs R hd hx hLH he hc hB hR hq
   have hxn:=drop_nil hd hx
   rw [hN] at hxn
   subst hxn
   refine ⟨_,vs,?_,trim_le hLH,he.trim (by rw [List.length_set];omega) _,trim_get hc (by omega),hB.trim hc (by omega) (frOf 89 [(5,tv),(6,.sl o 0 0 G.length 1),(20,nv),(21,.s (.int .i64 G.length)),(22,.s (.int .i64 G.length)),(23,bl false)])⟩
   rw [itW_step]
   simp only [a_f16,s_f16_l0_b,s_f16_l1_b,s_f16_l2_b,s_f16_l3_b,aa,bl,i64,reduceIte,reduceCtorEq,Nat.reduceEqDiff,Nat.reduceLT,Nat.reduceLeDiff,Nat.reduceBEq,Nat.reduceAdd,fillA,splice,Nat.reduceMul,amY,op_eqP,Int.lt_irrefl,bl]
 | cons r rest ih=>
   intro x H vs R hd hx hLH he hc hB hR hq
   obtain ⟨hxr,hxn,hd'⟩:=drop_cons hd
   rw [hN] at hxn
   have hlt':(x:Int) < (G.length:Int):=by omega
   have hwk:=w64 (n:=x) (by omega)
   have hs:sumLen (r :: rest) * G.length=r.length * G.length+sumLen rest * G.length:=by rw [show sumLen (r :: rest)=r.length+sumLen rest from rfl,Nat.add_mul]
   obtain ⟨t,t1,t2⟩:=iV_get ((hT0 _).ext he) htw (k:=x) (by omega)
   obtain ⟨nid,ng,nvs,hnve,hnc,hnm,hnl,hnr⟩:=hnv
   obtain ⟨rv,hx1,hx2⟩:=hnr x _ (rowsV_get hxr)
   have hni:nid≠o:=by omega
   have hAH:=he.le
   rw [List.length_set] at hAH
   have hnc':getC H nid ng=some nvs:=getC_ext (by rw [getC_other hni];exact hnc) he
   obtain ⟨a1,a2⟩:=at_sl hnc' (n:=N.length) (by omega) hx1
   rw [rowsV_len] at hnve
   rw [← hnve] at a1
   have hxl:xLen H .s rv=some (.s (.int .i64 r.length)):=by
    have:=((hx2.set (by omega) (.cells 0 vs)).ext he).rd.len
    rwa [List.length_map] at this
   have hnvs:OwnRows (o+1) A nv (rowsV N):=⟨nid,ng,nvs,by rw [rowsV_len];exact hnve,hnc,hnm,hnl,hnr⟩
   by_cases e2:T.getD x 0=-2
   ·have e3:(T.getD x 0 == -2)=true:=by rw [e2];rfl
    obtain ⟨H',vs',q1,q2,q3,q4,q5⟩:=ih (x+1) (trim L (frOf 89 [(5,tv),(6,.sl o 0 0 G.length 1),(20,nv),(21,.s (.int .i64 G.length)),(22,.s (.int .i64 (x+1:Nat)))]) H) vs R hd' (by omega) (trim_le (by omega)) (he.trim (by rw [List.length_set];omega) _) (trim_get hc (by omega)) (hB.trim hc (by omega) _) hR (fun q hqm=>by have:=hq q hqm;omega)
    refine ⟨H',vs',?_,q2,q3,q4,by rw [frFrom,if_pos e2];exact q5⟩
    rw [itW_step]
    simp only [a_f16,s_f16_l0_b,s_f16_l1_b,s_f16_l2_b,s_f16_l3_b,aa,bl,i64,reduceIte,reduceCtorEq,Nat.reduceEqDiff,Nat.reduceLT,Nat.reduceLeDiff,Nat.reduceBEq,Nat.reduceAdd,fillA,splice,Nat.reduceMul,amY,op_eqP,hlt',hwk,t1,t2,a1,a2,e3]
    exact q1
   ·have e3:(T.getD x 0 == -2)=false:=by rw [beq_eq_false_iff_ne];exact e2
    have hR':Rch G [q] x:=Classical.byContradiction fun hcn=>e2 (ok.un x hxn hcn)
    obtain ⟨H1,vs1,p1,p2,p3,p4,p5⟩:=fr_l1 hD base m o H.length A hA ok hT0 htw ho hb (by omega) hn hR' (nv:=nv) (rv:=rv) (row:=r) (fun ob=>(hx2.set (by omega) ob).rd) hx2.wide (hr r (List.mem_of_getElem? hxr)) r 0 H vs R rfl (Nat.zero_le _) (Nat.le_refl _) he hc hB hR (fun q hqm=>by have:=hq q hqm;omega)
    rw [cast0] at p1
    obtain ⟨H',vs',q1,q2,q3,q4,q5⟩:=ih (x+1) (trim L (frOf 89 [(5,tv),(6,.sl o 0 0 G.length 1),(20,nv),(21,.s (.int .i64 G.length)),(22,.s (.int .i64 (x+1:Nat)))]) H1) vs1 (rowR T G.length x r R) hd' (by omega) (trim_le (by omega)) (p3.trim (by rw [List.length_set];omega) _) (trim_get p4 (by omega)) (p5.trim p4 (by omega) _) (by rw [rowR_len];exact hR) (fun q hqm=>by
     have h0:sumLen rest * G.length≤2 ^ 43:=by
      match R,hR,hq with
      | [],h,_=>simp only [List.length_nil] at h;rw [← h];simp
      | q0 :: _,_,hq=>have:=hq q0 List.mem_cons_self;omega
     have:=rowR_le T G.length x r R (2 ^ 43 - sumLen rest * G.length) (fun q hq1=>by have:=hq q hq1;omega) q hqm
     omega)
    refine ⟨H',vs',?_,q2,q3,q4,by rw [frFrom,if_neg e2];exact q5⟩
    simp only [bl] at p1
    rw [itW_step]
    simp only [a_f16,s_f16_l0_b,s_f16_l1_b,s_f16_l2_b,s_f16_l3_b,aa,bl,i64,reduceIte,reduceCtorEq,Nat.reduceEqDiff,Nat.reduceLT,Nat.reduceLeDiff,Nat.reduceBEq,Nat.reduceAdd,fillA,splice,Nat.reduceMul,amY,op_eqP,hlt',hwk,t1,t2,a1,a2,e3,hxl,p1]
    exact q1
def frG (T:List Int) (G:List (List Int)):List (List Int):=(frFrom T G.length 0 (normG G) (List.replicate G.length [])).map fin
theorem frG_len (T:List Int) (G:List (List Int)):(frG T G).length=G.length:=by unfold frG;rw [List.length_map,frFrom_len,List.length_replicate]
theorem frontier_f (h:CT9 CT) (hD:CT k_f13=some (.code s_f13)) (hF:CT k_f16=some (.code s_f16)) (base:Nat) (H:Heap) (v:V) (G:List (List Int)) (q:Int) (hv:RdRows H v (rowsV G)) (hb:base≤H.length) (hn:G.length < 2 ^ 10) (hr:∀ r∈G,r.length < 2 ^ 10):
 ∃ (v':V) (H':Heap) (T:List Int) (lvl:Nat→Nat),callW CT (.fn k_f16 [] []) [v,.s (.int .i64 q)] base H=some (v',H')∧Ext H H'∧RdRows H' v' (rowsV (frG T G))∧TreeOk G q T lvl:=by
 have hvl:=rows_lenV hv
 obtain ⟨tv,A0,T,lvl,a1,a2,a3,a4⟩:=tree_f h base H v G q hv hb (by omega) (fun r h=>by have:=hr r h;omega)
 have l0:=a2.le
 have hmk:=make_n (H:=A0) (zero:=[nilS]) (sz:=1) (bytes:=24) (k:=.i64) (k':=.i64) (n:=G.length) (by omega)
 rw [flat_one] at hmk
 obtain ⟨nv,A,p1,p2,p3⟩:=norm_f h.g base (A0 ++ [.cells 0 (List.replicate G.length nilS)]) v G ((hv.ext a2).ext (Ext.app _ _)) (by simp;omega) (by omega) (fun r hr'=>by have:=hr r hr';omega)
 have hAl:=p2.le
 rw [len_snoc] at p3 hAl
 have hc:getC A A0.length 0=some (List.replicate G.length nilS):=getC_ext (getC_new A0 0 _) p2
 have hN:=normG_len G
 have e0A:Ext A0 A:=(Ext.app _ _).trans p2
 have hsum:=sumLen_le (b:=2 ^ 10) (normG G) (fun r hr'=>Nat.le_of_lt (normG_small hr r hr'))
 rw [hN] at hsum
 have hs2:G.length * 2 ^ 10≤2 ^ 10 * 2 ^ 10:=Nat.mul_le_mul_right _ (by omega)
 have hs3:sumLen (normG G) * G.length≤2 ^ 20 * 2 ^ 10:=Nat.mul_le_mul (by omega) (by omega)
 have hT0:∀ ob,Rd (A.set A0.length ob) tv (T.map iV):=fun ob=>a3.rd.ext (e0A.set (Nat.le_refl _) ob)
 obtain ⟨H1,vs1,q1,q2,q3,q4,q5⟩:=fr_l2 hD base A.length A0.length A.length A rfl a4 hT0 a3.wide (by omega) (by omega) (Nat.le_refl _) (by omega) p3 hN (fun r hr'=>Nat.lt_of_lt_of_le (normG_small hr r hr') (by omega)) (normG G) 0 A (List.replicate G.length nilS) (List.replicate G.length []) rfl (Nat.zero_le _) (Nat.le_refl _) (by rw [getC_same hc];exact Ext.refl A) hc (by have:=Bag.start A.length A G.length;rwa [show rowsV (List.replicate G.length [])=List.replicate G.length [] by simp [rowsV]]) (by simp) (fun q hq=>by
  rw [List.mem_replicate] at hq
  rw [hq.2]
  simp only [List.length_nil]
  omega)
 rw [cast0] at q1
 obtain ⟨R,hR⟩:∃ R,frFrom T G.length 0 (normG G) (List.replicate G.length [])=R:=⟨_,rfl⟩
 have hRl:R.length=G.length:=by rw [← hR,frFrom_len,List.length_replicate]
 have hRb:∀ r∈R,r.length≤2 ^ 43:=fun r hr'=>by
  rw [← hR] at hr'
  exact frFrom_le T G.length (normG G) 0 (List.replicate G.length []) (2 ^ 43) (fun q hq=>by
   rw [List.mem_replicate] at hq
   rw [hq.2]
   simp only [List.length_nil]
   omega) r hr'
 have hfr:frG T G=R.map fin:=by unfold frG;rw [hR]
 rw [hR] at q5
 have l2:=q3.le
 rw [List.length_set] at l2
 obtain ⟨H2,vs2,s1,s2,s3,s4,s5⟩:=fr_l3 h.g.sort h.g.comp base A.length A0.length H1.length A rfl R (by omega) (by omega) (by omega) (by omega) (fun r hr'=>by have:=hRb r hr';omega) R.length 0 H1 vs1 (by omega) (Nat.le_refl _) q3 q4 (by rw [finTo_zero];exact bag_own q5)
 rw [cast0,hRl] at s1
 have hnl:∀ H',xLen H' .s nv=some (.s (.int .i64 G.length)):=by
  have:=rows_lenV (G:=normG G) p3.rd
  rwa [hN] at this
 have hfl:∀ H',xLen H' .s (.sl A0.length 0 0 G.length 1)=some (.s (.int .i64 G.length)):=fun H'=>rfl
 refine ⟨.sl A0.length 0 0 G.length 1,H2,T,lvl,callW_fn (c:=s_f16) hF (by simp [s_f16]) ?_,?_,?_,a4⟩
 ·simp only [nilS,bl] at hmk p1 q1 s1
  simp only [s_f16,a_f16,s_f16_l0_b,s_f16_l1_b,s_f16_l2_b,s_f16_l3_b,aa,bl,i64,reduceIte,reduceCtorEq,Nat.reduceEqDiff,Nat.reduceLT,Nat.reduceLeDiff,Nat.reduceBEq,Nat.reduceAdd,fillA,splice,Nat.reduceMul,amY,op_eqP,a1,hvl,op_mkSl,hmk,p1,hnl,q1,s1]
 ·exact (a2.trans (e0A.set (Nat.le_refl _) _)).trans s3
 ·rw [hfr]
  have:=s5.rows s4
  rwa [rowsV_len,List.length_map,hRl] at this
end
end Go.Proofs.Ytdmnenlpdeolaaa
set_option maxRecDepth 100000
namespace Go.Proofs.Ytdmnenlpdeolaaa
open Go.AM
def encI (k:Int):Value:=.int .i64 k
def setM (ks:List Int):Ob:=.map (esG encI ks fun _=>bl true)
def putK (ks:List Int) (k:Int):List Int:=if k∈ks then ks else ks ++ [k]
theorem put_k {H:Heap} {base j:Nat} (hb:base≤j) {ks:List Int} (hH:H[j]?=some (setM ks)) (k:Int):
 updMV H base (.int .i64) (.mp j) (.s (.int .i64 k)) (.s (.bool true))=some (und,H.set j (setM (putK ks k))):=by
 have h:=upd_g (enc:=encI) (kd:=.int .i64) same_i64 key_i64 hb hH k (.s (.bool true))
 unfold encI at h
 rw [h]
 unfold putK setM
 by_cases hk:k∈ks
 ·rw [if_pos hk,if_pos hk]
  congr 4
  apply List.ext_getElem?
  intro i
  by_cases e:ks.idxOf k=i
  ·subst e
   have hl:=List.idxOf_lt_length_of_mem hk
   rw [List.getElem?_set_self (by simp [esG];exact hl)]
   simp only [esG,List.getElem?_map,List.getElem?_eq_getElem hl,List.getElem_idxOf hl,Option.map_some,encI,bl]
  ·rw [List.getElem?_set_ne e];rfl
 ·rw [if_neg hk,if_neg hk]
  congr 4
  simp [esG,encI,bl]
theorem erase_es (k:Int):∀ (ks:List Int),(esG encI ks fun _=>bl true).eraseIdx (ks.idxOf k)=esG encI (ks.erase k) fun _=>bl true:=by
 intro ks
 induction ks with
 | nil=>rfl
 | cons x ks ih=>
   by_cases e:x=k
   ·subst e
    simp [esG]
   ·have e2:(x == k)=false:=by simpa using e
    rw [List.idxOf_cons,e2,List.erase_cons,e2]
    simp only [cond_false,Bool.false_eq_true,if_false]
    show (encI x,bl true) :: (esG encI ks fun _=>bl true).eraseIdx (ks.idxOf k)=_
    rw [ih]
    rfl
theorem del_k {H:Heap} {base j:Nat} (hb:base≤j) {ks:List Int} (hH:H[j]?=some (setM ks)) {k:Int} (hk:k∈ks):
 delMV H base (.int .i64) (.mp j) (.s (.int .i64 k))=some (und,H.set j (setM (ks.erase k))):=by
 have hf:=findA_g (enc:=encI) (kd:=.int .i64) same_i64 (fun _=>bl true) k ks 0
 have hko:=key_i64 k
 unfold setM at hH
 unfold encI at hf hH
 simp only [delMV,hb,hko,and_self,if_true,hH,hf,if_pos hk,Nat.zero_add]
 have he:=erase_es k ks
 unfold encI at he
 unfold setM encI
 rw [he]
theorem get_k {H:Heap} {j:Nat} {ks:List Int} (hH:H[j]?=some (setM ks)) (k:Int):xMapGet H (.int .i64) (.s (.bool false)) false (.mp j) (.s (.int .i64 k))=some (.s (.bool (decide (k∈ks)))):=by
 have h:=get_g (enc:=encI) (kd:=.int .i64) same_i64 key_i64 hH (.s (.bool false)) false k
 unfold encI at h
 rw [h]
 by_cases hk:k∈ks
 ·simp [hk,bl]
 ·simp [hk]
theorem len_k {H:Heap} {j:Nat} {ks:List Int} (hH:H[j]?=some (setM ks)):xLen H .m (.mp j)=some (.s (.int .i64 ks.length)):=len_g hH
theorem keysZ_setM:∀ (ks:List Int),(∀ k∈ks,keyOkZ k=true)→keysZ (esG encI ks fun _=>bl true)=some ks:=by
 intro ks
 induction ks with
 | nil=>intro _;rfl
 | cons k ks ih=>
   intro h
   show (if keyOkZ k=true then (keysZ (esG encI ks fun _=>bl true)).map (k :: ·) else none)=_
   rw [if_pos (h k List.mem_cons_self),ih fun x hx=>h x (List.mem_cons_of_mem _ hx)]
   rfl
section
variable {CT:Nat→Option CFun}
theorem keys_fun (hK:CT k_f37=some (.code s_f37)) (base:Nat) (H:Heap) (j:Nat):
 callW CT (.fn k_f37 [] []) [.mp j] base H=some (.fn k_f49 [] [.ref H.length 0 0],H ++ [.cells 0 [.mp j]]):=by
 refine callW_fn (c:=s_f37) hK (by simp [s_f37]) ?_
 simp only [s_f37,a_f37,aa,bl,i64,reduceIte,reduceCtorEq,Nat.reduceEqDiff,Nat.reduceLT,Nat.reduceLeDiff,Nat.reduceBEq,Nat.reduceAdd,fillA,splice,Nat.reduceMul,amY,op_eqP,xsub_mkFn]
 rfl
theorem sorted_fun (hS:CT k_f36=some (.prim (sortedG k_f49))) (base:Nat) {H:Heap} {j:Nat} {ks:List Int} (hH:H[j]?=some (setM ks)) (hk:∀ k∈ks,keyOkZ k=true) (hl:ks.length < 2 ^ 40):
 callW CT (.fn k_f36 [] []) [.fn k_f49 [] [.ref H.length 0 0]] base (H ++ [.cells 0 [.mp j]])=some (if ks.length=0 then (nilS,H ++ [.cells 0 [.mp j]]) else (.sl (H.length+1) 0 0 ks.length 1,H ++ [.cells 0 [.mp j]] ++ [.cells 0 ((sortI ks).map iV)])):=by
 have hb:getC (H ++ [.cells 0 [.mp j]]) H.length 0=some [.mp j]:=getC_new _ _ _
 have hj:(H ++ [Ob.cells 0 [.mp j]])[j]?=some (setM ks):=by
  rw [List.getElem?_append_left (List.getElem?_eq_some_iff.1 hH).1];exact hH
 have hkz:=keysZ_setM ks hk
 have h8:ks.length * 8≤140737488355328:=by omega
 unfold setM at hj
 refine callW_eq ?_
 simp only [evCall,hS,List.nil_append,List.append_nil,sortedG,if_true,hb,hj,hkz,h8,len_snoc]
 split <;> rfl
end
structure IS (A H:Heap) (j5 j6:Nat) (I W:List Int):Prop where
 ext:Ext A H
 a5:A.length≤j5
 a6:A.length≤j6
 ne:j5≠j6
 m5:H[j5]?=some (setM I)
 m6:H[j6]?=some (setM W)
theorem IS.lt {A H:Heap} {j5 j6:Nat} {I W:List Int} (h:IS A H j5 j6 I W):j5 < H.length∧j6 < H.length:=⟨(List.getElem?_eq_some_iff.1 h.m5).1,(List.getElem?_eq_some_iff.1 h.m6).1⟩
theorem IS.app {A H:Heap} {j5 j6:Nat} {I W:List Int} (h:IS A H j5 j6 I W) (E:Heap):IS A (H ++ E) j5 j6 I W:=
 ⟨h.ext.trans (Ext.app _ _),h.a5,h.a6,h.ne,by rw [List.getElem?_append_left h.lt.1];exact h.m5,by rw [List.getElem?_append_left h.lt.2];exact h.m6⟩
theorem IS.set5 {A H:Heap} {j5 j6:Nat} {I W:List Int} (h:IS A H j5 j6 I W) (I':List Int):IS A (H.set j5 (setM I')) j5 j6 I' W:=
 ⟨h.ext.set h.a5 _,h.a5,h.a6,h.ne,List.getElem?_set_self h.lt.1,by rw [List.getElem?_set_ne h.ne];exact h.m6⟩
theorem IS.set6 {A H:Heap} {j5 j6:Nat} {I W:List Int} (h:IS A H j5 j6 I W) (W':List Int):IS A (H.set j6 (setM W')) j5 j6 I W':=
 ⟨h.ext.set h.a6 _,h.a5,h.a6,h.ne,by rw [List.getElem?_set_ne (Ne.symm h.ne)];exact h.m5,List.getElem?_set_self h.lt.2⟩
theorem IS.trim {A H:Heap} {j5 j6:Nat} {I W:List Int} (h:IS A H j5 j6 I W) {L:Nat} (h5:j5 < L) (h6:j6 < L) (fr:List V):IS A (trim L fr H) j5 j6 I W:=by
 refine ⟨h.ext.trim (by have:=h.a5;omega) fr,h.a5,h.a6,h.ne,?_,?_⟩
 ·rcases trim_or L fr H with e | ⟨e,_⟩ <;> rw [e]
  ·exact h.m5
  ·rw [List.getElem?_take_of_lt h5];exact h.m5
 ·rcases trim_or L fr H with e | ⟨e,_⟩ <;> rw [e]
  ·exact h.m6
  ·rw [List.getElem?_take_of_lt h6];exact h.m6
end Go.Proofs.Ytdmnenlpdeolaaa
set_option maxRecDepth 100000
namespace Go.Proofs.Ytdmnenlpdeolaaa
open Go.AM
theorem fin_up (r:List Int):Up (fin r)∧∀ x,x∈fin r↔x∈r:=by
 have hs:(sortZ r).Pairwise (·≤·):=by
  have:=List.pairwise_mergeSort (le:=fun x y:Int=>decide (x≤y)) (by intro a b c;simp only [decide_eq_true_eq];omega) (by intro a b;simp only [Bool.or_eq_true,decide_eq_true_eq];omega) r
  simp only [decide_eq_true_eq] at this
  exact this
 have hm:∀ x,x∈sortZ r↔x∈r:=fun x=>by rw [sortZ,List.mem_mergeSort]
 unfold fin
 cases hz:sortZ r with
 | nil=>rw [hz] at hm;exact ⟨trivial,hm⟩
 | cons p l=>
   rw [hz] at hm hs
   obtain ⟨q1,q2⟩:=chg_up l p hs
   exact ⟨q1,fun x=>by rw [← hm x];exact q2 x⟩
inductive Run (T:List Int) (y:Int):Int→Nat→Prop
 | here (k:Nat):(k:Int)=y∨domB T (k:Int) y=false→Run T y (k:Int) k
 | up (k a:Nat):(k:Int)=y∨domB T (k:Int) y=false→Run T y (T.getD k 0) a→Run T y (k:Int) a
theorem bump_get2 (y:Int) (R:List (List Int)) (k a:Nat) (ha:a < R.length):(bump y R (k:Int)).getD a []=if k=a then R.getD a [] ++ [y] else R.getD a []:=by
 unfold bump
 rw [Int.toNat_natCast]
 by_cases e:k=a
 ·subst e
  rw [if_pos rfl,List.getD,List.getElem?_set_self ha];rfl
 ·rw [if_neg e,List.getD,List.getElem?_set_ne e];rfl
theorem run_nat {T:List Int} {y r:Int} {a:Nat} (h:Run T y r a):0≤r:=by
 cases h with
 | here k _=>omega
 | up k _ _ _=>omega
theorem runR_mem {G:List (List Int)} {q:Int} {T:List Int} {lvl:Nat→Nat} (ok:TreeOk G q T lvl) (y:Int) {a:Nat} (ha:a < G.length) (z:Int):∀ (f:Nat) (r:Int) (R:List (List Int)),UpR G q lvl f r→R.length=G.length→(z∈(runR T y f r R).getD a []↔z∈R.getD a []∨(z=y∧Run T y r a)):=by
 intro f
 induction f with
 | zero=>
   intro r R hu hR
   rcases hu with h0 | ⟨k,_,_,h⟩
   ·rw [runR_neg _ _ _ _ h0]
    exact ⟨.inl,fun h=>h.elim id fun h=>by have:=run_nat h.2;omega⟩
   ·omega
 | succ f ih=>
   intro r R hu hR
   rcases hu with h0 | ⟨k,rfl,hk,hf⟩
   ·rw [runR_neg _ _ _ _ h0]
    exact ⟨.inl,fun h=>h.elim id fun h=>by have:=run_nat h.2;omega⟩
   ·have h0:¬ ((k:Int) < 0):=by omega
    by_cases hgo:(k:Int)=y∨domB T (k:Int) y=false
    ·rw [runR,if_neg h0,if_pos hgo,Int.toNat_natCast,ih _ _ (ok.next hk hf) (by rw [bump_len];exact hR),bump_get2 _ _ _ _ (by omega)]
     constructor
     ·rintro (h | ⟨h1,h2⟩)
      ·split at h
       ·rename_i e
        rcases List.mem_append.1 h with h | h
        ·exact .inl h
        ·have:=List.mem_singleton.1 h
         subst e
         exact .inr ⟨this,.here k hgo⟩
       ·exact .inl h
      ·exact .inr ⟨h1,.up k a hgo h2⟩
     ·rintro (h | ⟨h1,h2⟩)
      ·refine .inl ?_
       split
       ·exact List.mem_append.2 (.inl h)
       ·exact h
      ·generalize hki:(k:Int)=ki at h2
       cases h2 with
       | here=>
         have e:k=a:=by omega
         rw [if_pos e]
         exact .inl (List.mem_append.2 (.inr (List.mem_singleton.2 h1)))
       | up k' _ _ h3=>
         have e:k=k':=by omega
         rw [e]
         exact .inr ⟨h1,h3⟩
    ·rw [runR,if_neg h0,if_neg hgo]
     refine ⟨.inl,fun h=>h.elim id fun h=>?_⟩
     obtain ⟨_,h2⟩:=h
     generalize hki:(k:Int)=ki at h2
     cases h2 with
     | here k' h3=>
       rw [← hki] at h3
       exact absurd h3 hgo
     | up k' _ h3 _=>
       rw [← hki] at h3
       exact absurd h3 hgo
theorem TreeOk.up2 {G:List (List Int)} {q:Int} {T:List Int} {lvl:Nat→Nat} (h:TreeOk G q T lvl) {y x:Nat} (hR:Rch G [q] y) (k:AncT T y x):Rch G [q] x:=by
 induction k with
 | refl=>exact hR
 | up k1 _ ih=>exact ih (h.nat k1).2.2.1
theorem TreeOk.dom_nat {G:List (List Int)} {q:Int} {T:List Int} {lvl:Nat→Nat} (h:TreeOk G q T lvl) {a x:Nat} (hx:Rch G [q] x):domB T a x=true↔AncT T x a:=by
 rw [h.dom]
 constructor
 ·rintro ⟨a',x',e1,e2,_,_,k⟩
  have e1:a=a':=by omega
  have e2:x=x':=by omega
  subst e1;subst e2;exact k
 ·intro k
  exact ⟨a,x,rfl,rfl,rch_lt (h.up2 hx k),hx,k⟩
theorem run_iff {G:List (List Int)} {q:Int} {T:List Int} {lvl:Nat→Nat} (ok:TreeOk G q T lvl) (y:Int) {x a:Nat} (hx:Rch G [q] x):Run T y (x:Int) a↔domB T a x=true∧((a:Int)=y∨domB T a y=false):=by
 constructor
 ·intro h
  generalize hxi:(x:Int)=xi at h
  induction h generalizing x with
  | here k hk=>
    have e:x=k:=by omega
    subst e
    exact ⟨(ok.dom_nat hx).2 (.refl _),hk⟩
  | up k a hk h2 ih=>
    have e:x=k:=by omega
    subst e
    have h0:=run_nat h2
    obtain ⟨d,hd⟩:=Int.eq_ofNat_of_zero_le h0
    have hT:T[x]?=some (d:Int):=by rw [some_getD (show x < T.length by rw [ok.len];exact rch_lt hx) 0,hd]
    have hnd:=ok.nat hT
    obtain ⟨i1,i2⟩:=ih hnd.2.2.1 hd.symm
    rw [show T.getD x 0=(d:Int) from hd] at i1
    exact ⟨(ok.dom_nat hx).2 (.up hT ((ok.dom_nat hnd.2.2.1).1 i1)),i2⟩
 ·rintro ⟨h1,h2⟩
  have hA:=(ok.dom_nat hx).1 h1
  clear h1
  induction hA with
  | refl=>exact .here _ h2
  | up k1 k2 ih=>
    rename_i b d a
    have hnd:=ok.nat k1
    refine .up b a ?_ (by rw [getD_some k1 0];exact ih hnd.2.2.1 h2)
    by_cases hby:(b:Int)=y
    ·exact .inl hby
    ·refine .inr ?_
     cases hbd:domB T (b:Int) y with
     | false=>rfl
     | true=>
       exfalso
       have hab:domB T (a:Int) (b:Int)=true:=(ok.dom_nat hx).2 (.up k1 k2)
       have hay:=ok.tra hab hbd
       rcases h2 with h2 | h2
       ·rw [h2] at hab
        exact hby (ok.anti hbd hab)
       ·rw [hay] at h2;cases h2
theorem rowR_mem {G:List (List Int)} {q:Int} {T:List Int} {lvl:Nat→Nat} (ok:TreeOk G q T lvl) {a x:Nat} (ha:a < G.length) (hx:Rch G [q] x) (z:Int):∀ (row:List Int) (R:List (List Int)),R.length=G.length→(z∈(rowR T G.length x row R).getD a []↔z∈R.getD a []∨(z∈row∧domB T a x=true∧((a:Int)=z∨domB T a z=false))):=by
 intro row
 induction row with
 | nil=>intro R _;show z∈R.getD a []↔_;simp
 | cons y row ih=>
   intro R hR
   show z∈(rowR T G.length x row (runR T y G.length x R)).getD a []↔_
   rw [ih _ (by rw [runR_len];exact hR),runR_mem ok y ha z G.length x R (.inr ⟨x,rfl,hx,ok.lv x hx⟩) hR,run_iff ok y hx,List.mem_cons]
   constructor
   ·rintro ((h | ⟨rfl,h⟩) | ⟨h,h'⟩)
    ·exact .inl h
    ·exact .inr ⟨.inl rfl,h⟩
    ·exact .inr ⟨.inr h,h'⟩
   ·rintro (h | ⟨rfl | h,h'⟩)
    ·exact .inl (.inl h)
    ·exact .inl (.inr ⟨rfl,h'⟩)
    ·exact .inr ⟨h,h'⟩
theorem frFrom_mem {G:List (List Int)} {q:Int} {T:List Int} {lvl:Nat→Nat} (ok:TreeOk G q T lvl) {a:Nat} (ha:a < G.length) (z:Int):∀ (N:List (List Int)) (x:Nat) (R:List (List Int)),x+N.length=G.length→R.length=G.length→(z∈(frFrom T G.length x N R).getD a []↔z∈R.getD a []∨∃ i,i < N.length∧Rch G [q] (x+i)∧z∈N.getD i []∧domB T a ((x+i:Nat):Int)=true∧((a:Int)=z∨domB T a z=false)):=by
 intro N
 induction N with
 | nil=>intro x R _ _;rw [frFrom];simp
 | cons r N ih=>
   intro x R hx hR
   rw [List.length_cons] at hx
   have hT:T.getD x 0=-2↔¬ Rch G [q] x:=by
    constructor
    ·intro e hR
     by_cases eq:(x:Int)=q
     ·have:=ok.rt x eq.symm (by omega);omega
     ·obtain ⟨d,e2,_⟩:=ok.id x hR eq
      omega
    ·exact ok.un x (by omega)
   rw [frFrom,ih (x+1) _ (by omega) (by split;exact hR;rw [rowR_len];exact hR)]
   have hmid:z∈(if T.getD x 0=-2 then R else rowR T G.length x r R).getD a []↔z∈R.getD a []∨(Rch G [q] x∧z∈r∧domB T a x=true∧((a:Int)=z∨domB T a z=false)):=by
    by_cases h:Rch G [q] x
    ·rw [if_neg (fun e=>hT.1 e h),rowR_mem ok ha h z r R hR]
     simp only [h,true_and]
    ·rw [if_pos (hT.2 h)]
     simp only [h,false_and,or_false]
   rw [hmid]
   constructor
   ·rintro ((h | h) | ⟨i,h1,h2,h3⟩)
    ·exact .inl h
    ·exact .inr ⟨0,by simp,h⟩
    ·exact .inr ⟨i+1,by simp;omega,by rw [show x+(i+1)=x+1+i by omega];exact ⟨h2,h3⟩⟩
   ·rintro (h | ⟨i,h1,h2,h3⟩)
    ·exact .inl (.inl h)
    ·cases i with
     | zero=>exact .inl (.inr ⟨h2,h3⟩)
     | succ i=>
       rw [show x+(i+1)=x+1+i by omega] at h2 h3
       exact .inr ⟨i,by simpa using h1,h2,h3⟩
theorem frG_row (T:List Int) (G:List (List Int)) {a:Nat} (ha:a < G.length):(frG T G).getD a []=fin ((frFrom T G.length 0 (normG G) (List.replicate G.length [])).getD a []):=by
 unfold frG
 have hl:a < (frFrom T G.length 0 (normG G) (List.replicate G.length [])).length:=by rw [frFrom_len,List.length_replicate];exact ha
 rw [List.getD,List.getElem?_map,some_getD hl []];rfl
theorem frG_up (T:List Int) (G:List (List Int)) {a:Nat} (ha:a < G.length):Up ((frG T G).getD a []):=by rw [frG_row T G ha];exact (fin_up _).1
theorem frG_mem {G:List (List Int)} {q:Int} {T:List Int} {lvl:Nat→Nat} (ok:TreeOk G q T lvl) {a:Nat} (ha:a < G.length) (z:Int):z∈(frG T G).getD a []↔∃ x:Nat,Rch G [q] x∧z∈(normG G).getD x []∧domB T a x=true∧((a:Int)=z∨domB T a z=false):=by
 have hN:=normG_len G
 rw [frG_row T G ha,(fin_up _).2,frFrom_mem ok ha z (normG G) 0 _ (by omega) (by simp)]
 have h0:(List.replicate G.length ([]:List Int)).getD a []=[]:=by rw [List.getD,List.getElem?_replicate,if_pos ha];rfl
 rw [h0]
 constructor
 ·rintro (h | ⟨i,_,h2,h3⟩)
  ·cases h
  ·rw [Nat.zero_add] at h2 h3
   exact ⟨i,h2,h3⟩
 ·rintro ⟨x,h1,h2⟩
  exact .inr ⟨x,by rw [hN];exact rch_lt h1,by rw [Nat.zero_add];exact ⟨h1,h2⟩⟩
end Go.Proofs.Ytdmnenlpdeolaaa
set_option maxRecDepth 100000
namespace Go.Proofs.Ytdmnenlpdeolaaa
open Go.AM
def InR (n:Nat) (y:Int):Prop:=0≤y∧y < n
instance (n:Nat) (y:Int):Decidable (InR n y):=inferInstanceAs (Decidable (_∧_))
inductive ItR (F:List (List Int)) (l:List Int):Int→Prop
 | one (x y:Int):x∈l→InR F.length x→y∈F.getD x.toNat []→InR F.length y→ItR F l y
 | more (x y:Int):ItR F l x→InR F.length x→y∈F.getD x.toNat []→InR F.length y→ItR F l y
theorem itR_in {F:List (List Int)} {l:List Int} {y:Int} (h:ItR F l y):InR F.length y:=by cases h <;> assumption
structure ItI (F:List (List Int)) (l I W:List Int):Prop where
 nI:I.Nodup
 nW:W.Nodup
 rI:∀ x∈I,ItR F l x
 rW:∀ x∈W,InR F.length x∧(x∈l∨ItR F l x)
def Closed (F:List (List Int)) (I:List Int) (z:Int):Prop:=∀ y∈F.getD z.toNat [],InR F.length y→y∈I
def stp (n:Nat) (s:List Int × List Int) (y:Int):List Int × List Int:=if InR n y∧y ∉ s.1 then (s.1 ++ [y],putK s.2 y) else s
theorem mem_putK {ks:List Int} {k x:Int}:x∈putK ks k↔x∈ks∨x=k:=by
 unfold putK
 split
 ·exact ⟨.inl,fun h=>h.elim id fun h=>by rw [h];assumption⟩
 ·simp
theorem putK_nodup {ks:List Int} {k:Int} (h:ks.Nodup):(putK ks k).Nodup:=by
 unfold putK
 split
 ·exact h
 ·rename_i hk
  rw [List.nodup_append]
  refine ⟨h,by simp,fun a ha b hb=>?_⟩
  rw [List.mem_singleton.1 hb]
  intro e
  exact hk (e ▸ ha)
theorem putK_len (ks:List Int) (k:Int):(putK ks k).length≤ks.length+1:=by
 unfold putK
 split
 ·omega
 ·simp
theorem le_up:∀ (l:List Int),l.Pairwise (·≤·)→l.Nodup→Up l:=by
 intro l
 induction l with
 | nil=>intro _ _;trivial
 | cons x l ih=>
   intro h1 h2
   rw [List.pairwise_cons] at h1
   rw [List.nodup_cons] at h2
   refine ⟨fun y hy=>?_,ih h1.2 h2.2⟩
   have:=h1.1 y hy
   have hne:x≠y:=fun e=>h2.1 (e ▸ hy)
   omega
theorem sortI_up {l:List Int} (h:l.Nodup):Up (sortI l):=le_up _ (sortI_le l) ((sortI_perm l).nodup_iff.2 h)
theorem sortI_mem {l:List Int} {x:Int}:x∈sortI l↔x∈l:=(sortI_perm l).mem_iff
theorem nodup_len {l:List Int} {n:Nat} (h:l.Nodup) (hr:∀ x∈l,InR n x):l.length≤n:=by
 rw [← (sortI_perm l).length_eq]
 exact up_len' (sortI_up h) (fun x hx=>hr x (sortI_mem.1 hx))
structure StI (F:List (List Int)) (l:List Int) (x:Int) (done:List Int) (I W:List Int):Prop where
 inv:ItI F l I W
 cl:∀ z,InR F.length z→(z∈l∨z∈I)→z∈W∨(z=x∧∀ y∈done,InR F.length y→y∈I)∨Closed F I z
theorem st_step {F:List (List Int)} {l:List Int} {x:Int} (hx:InR F.length x) (hxl:x∈l∨ItR F l x) {done I W:List Int} (h:StI F l x done I W) {y:Int} (hy:y∈F.getD x.toNat []):StI F l x (done ++ [y]) (stp F.length (I,W) y).1 (stp F.length (I,W) y).2∧2 * (F.length - (stp F.length (I,W) y).1.length)+(stp F.length (I,W) y).2.length≤2 * (F.length - I.length)+W.length:=by
 unfold stp
 by_cases hc:InR F.length y∧y ∉ (I,W).1
 ·rw [if_pos hc]
  obtain ⟨hin,hni⟩:=hc
  have hItR:ItR F l y:=hxl.elim (fun k=>.one x y k hx hy hin) (fun k=>.more x y k hx hy hin)
  have hnd:(I ++ [y]).Nodup:=by
   rw [List.nodup_append]
   refine ⟨h.inv.nI,by simp,fun a ha b hb=>?_⟩
   rw [List.mem_singleton.1 hb]
   intro e
   exact hni (e ▸ ha)
  have hrI:∀ z∈I ++ [y],ItR F l z:=fun z hz=>by
   rcases List.mem_append.1 hz with hz | hz
   ·exact h.inv.rI z hz
   ·rw [List.mem_singleton.1 hz];exact hItR
  have hlen:=nodup_len hnd (fun z hz=>itR_in (hrI z hz))
  have hpl:=putK_len W y
  rw [List.length_append,List.length_singleton] at hlen
  refine ⟨⟨⟨hnd,putK_nodup h.inv.nW,hrI,fun z hz=>?_⟩,fun z hz hzl=>?_⟩,by simp only [List.length_append,List.length_singleton];omega⟩
  ·rcases mem_putK.1 hz with hz | rfl
   ·exact h.inv.rW z hz
   ·exact ⟨hin,.inr hItR⟩
  ·by_cases hzy:z=y
   ·exact .inl (mem_putK.2 (.inr hzy))
   ·have hzl':z∈l∨z∈I:=hzl.imp id fun k=>by
     rcases List.mem_append.1 k with k | k
     ·exact k
     ·exact absurd (List.mem_singleton.1 k) hzy
    rcases h.cl z hz hzl' with k | ⟨rfl,k⟩ | k
    ·exact .inl (mem_putK.2 (.inl k))
    ·refine .inr (.inl ⟨rfl,fun w hw hwr=>?_⟩)
     rcases List.mem_append.1 hw with hw | hw
     ·exact List.mem_append.2 (.inl (k w hw hwr))
     ·exact List.mem_append.2 (.inr hw)
    ·exact .inr (.inr fun w hw hwr=>List.mem_append.2 (.inl (k w hw hwr)))
 ·rw [if_neg hc]
  refine ⟨⟨h.inv,fun z hz hzl=>?_⟩,Nat.le_refl _⟩
  rcases h.cl z hz hzl with k | ⟨rfl,k⟩ | k
  ·exact .inl k
  ·refine .inr (.inl ⟨rfl,fun w hw hwr=>?_⟩)
   rcases List.mem_append.1 hw with hw | hw
   ·exact k w hw hwr
   ·rw [List.mem_singleton.1 hw] at hwr ⊢
    exact Decidable.byContradiction fun hn=>hc ⟨hwr,hn⟩
  ·exact .inr (.inr k)
structure RdI (F:List (List Int)) (l:List Int) (I W:List Int):Prop where
 inv:ItI F l I W
 cl:∀ z,InR F.length z→(z∈l∨z∈I)→z∈W∨Closed F I z
theorem rd_pick {F:List (List Int)} {l I W:List Int} (h:RdI F l I W) {x:Int} (hx:x∈W):StI F l x [] I (W.erase x)∧2 * (F.length - I.length)+(W.erase x).length+1=2 * (F.length - I.length)+W.length:=by
 have hl:=List.length_erase_of_mem hx
 have hp:0 < W.length:=List.length_pos_of_mem hx
 refine ⟨⟨⟨h.inv.nI,h.inv.nW.erase x,h.inv.rI,fun z hz=>h.inv.rW z (List.mem_of_mem_erase hz)⟩,fun z hz hzl=>?_⟩,by omega⟩
 by_cases e:z=x
 ·exact .inr (.inl ⟨e,fun y hy=>by cases hy⟩)
 ·rcases h.cl z hz hzl with k | k
  ·exact .inl ((List.mem_erase_of_ne e).2 k)
  ·exact .inr (.inr k)
theorem rd_done {F:List (List Int)} {l I W:List Int} {x:Int} (h:StI F l x (F.getD x.toNat []) I W):RdI F l I W:=
 ⟨h.inv,fun z hz hzl=>by
  rcases h.cl z hz hzl with k | ⟨rfl,k⟩ | k
  ·exact .inl k
  ·exact .inr k
  ·exact .inr k⟩
theorem rd_end {F:List (List Int)} {l I:List Int} (h:RdI F l I []) (y:Int):y∈I↔ItR F l y:=by
 have cl:∀ z,InR F.length z→(z∈l∨z∈I)→Closed F I z:=fun z hz hzl=>(h.cl z hz hzl).resolve_left (by simp)
 refine ⟨h.inv.rI y,fun k=>?_⟩
 induction k with
 | one x y h1 h2 h3 h4=>exact cl x h2 (.inl h1) y h3 h4
 | more x y h1 h2 h3 h4 ih=>exact cl x h2 (.inr ih) y h3 h4
def begW (n:Nat) (l:List Int):List Int:=l.foldl (fun W x=>if InR n x then putK W x else W) []
theorem begW_mem (n:Nat):∀ (l W:List Int) (x:Int),x∈l.foldl (fun W x=>if InR n x then putK W x else W) W↔x∈W∨(x∈l∧InR n x):=by
 intro l
 induction l with
 | nil=>intro W x;simp
 | cons y l ih=>
   intro W x
   rw [List.foldl_cons,ih,List.mem_cons]
   by_cases hy:InR n y
   ·rw [if_pos hy,mem_putK]
    constructor
    ·rintro ((h | rfl) | h)
     ·exact .inl h
     ·exact .inr ⟨.inl rfl,hy⟩
     ·exact .inr ⟨.inr h.1,h.2⟩
    ·rintro (h | ⟨rfl | h,h'⟩)
     ·exact .inl (.inl h)
     ·exact .inl (.inr rfl)
     ·exact .inr ⟨h,h'⟩
   ·rw [if_neg hy]
    constructor
    ·rintro (h | h)
     ·exact .inl h
     ·exact .inr ⟨.inr h.1,h.2⟩
    ·rintro (h | ⟨rfl | h,h'⟩)
     ·exact .inl h
     ·exact absurd h' hy
     ·exact .inr ⟨h,h'⟩
theorem begW_nodup (n:Nat):∀ (l W:List Int),W.Nodup→(l.foldl (fun W x=>if InR n x then putK W x else W) W).Nodup:=by
 intro l
 induction l with
 | nil=>intro W h;exact h
 | cons y l ih=>
   intro W h
   rw [List.foldl_cons]
   refine ih _ ?_
   split
   ·exact putK_nodup h
   ·exact h
theorem rd_beg (F:List (List Int)) (l:List Int):RdI F l [] (begW F.length l):=by
 refine ⟨⟨List.nodup_nil,begW_nodup _ _ _ List.nodup_nil,fun x hx=>(by cases hx),fun x hx=>?_⟩,fun z hz hzl=>?_⟩
 ·rcases (begW_mem F.length l [] x).1 hx with h | h
  ·cases h
  ·exact ⟨h.2,.inl h.1⟩
 ·refine .inl ((begW_mem F.length l [] z).2 (.inr ⟨hzl.resolve_right (by simp),hz⟩))
end Go.Proofs.Ytdmnenlpdeolaaa
set_option maxRecDepth 100000
namespace Go.Proofs.Ytdmnenlpdeolaaa
open Go.AM
def PutP (F:List (List Int)) (q:Nat) (l:List Int) (k:Nat):Prop:=k=q∨(k:Int)∈l∨ItR F ((q:Int) :: l) k
inductive Fw (G:List (List Int)) (P:Nat→Prop) (y:Nat):Nat→Prop
 | one (x:Nat):(x:Int)∈G.getD y []→x < G.length→¬ P x→Fw G P y x
 | step (x z:Nat):Fw G P y x→(z:Int)∈G.getD x []→z < G.length→¬ P z→Fw G P y z
inductive Bk (G:List (List Int)) (q:Int) (P:Nat→Prop) (b:Nat):Nat→Prop
 | base:Bk G q P b b
 | step (x y:Nat):Bk G q P b x→¬ P x→(x:Int)∈G.getD y []→Rch G [q] y→Bk G q P b y
section
variable {G:List (List Int)} {q:Nat} {T:List Int} {lvl:Nat→Nat} {l:List Int}
theorem Fw.np {P:Nat→Prop} {y x:Nat} (h:Fw G P y x):¬ P x∧x < G.length:=by cases h <;> exact ⟨by assumption,by assumption⟩
theorem Fw.rch {P:Nat→Prop} {y x:Nat} (h:Fw G P y x) {r:List Int} (hy:Rch G r y):Rch G r x:=by
 induction h with
 | one x h1 h2 _=>exact .step y x hy h1 h2
 | step x z _ h1 h2 _ ih=>exact .step x z ih h1 h2
theorem Fw.pre {P:Nat→Prop} {y z b:Nat} (h:Fw G P y b) (he:(y:Int)∈G.getD z []) (hy:y < G.length) (hn:¬ P y):Fw G P z b:=by
 induction h with
 | one x h1 h2 h3=>exact .step y x (.one y he hy hn) h1 h2 h3
 | step x w _ h1 h2 h3 ih=>exact .step x w ih h1 h2 h3
theorem Bk.fw {P:Nat→Prop} {b y:Nat} (hb:b < G.length) (h:Bk G q P b y):y=b∨Fw G P y b:=by
 induction h with
 | base=>exact .inl rfl
 | step x y h1 h2 h3 _ ih=>
   refine .inr ?_
   rcases ih with e | ih
   ·subst e;exact .one x h3 hb h2
   ·have hx:x < G.length:=by
     cases h1 with
     | base=>exact hb
     | step _ _ _ _ _ hr=>exact rch_lt hr
    exact ih.pre h3 hx h2
theorem Fw.bk {P:Nat→Prop} {b y x:Nat} (h:Fw G P y x) (hy:Rch G [(q:Int)] y) (hx:Bk G q P b x):Bk G q P b y:=by
 induction h with
 | one x h1 h2 h3=>exact .step x y hx h3 h1 hy
 | step x z h0 h1 h2 h3 ih=>exact ih (.step z x hx h3 h1 (h0.rch hy))
theorem domB_self (ok:TreeOk G q T lvl) {a:Nat} (ha:Rch G [(q:Int)] a):domB T a a=true:=(ok.dom _ _).2 ⟨a,a,rfl,rfl,rch_lt ha,ha,.refl a⟩
theorem in_norm {x z:Nat} (h:(z:Int)∈G.getD x []) (hz:z < G.length):(z:Int)∈(normG G).getD x []:=(normG_get G x z).2 ⟨h,by omega,by omega⟩
theorem put_front (ok:TreeOk G q T lvl) {y z:Nat} (hq:q < G.length) (hy:Rch G [(q:Int)] y) (hz:z < G.length) (hp:PutP (frG T G) q l y) (h:(z:Int)∈(frG T G).getD y []):PutP (frG T G) q l z:=by
 have hyn:=rch_lt hy
 have i1:InR (frG T G).length (y:Int):=⟨by omega,by rw [frG_len];omega⟩
 have i2:InR (frG T G).length (z:Int):=⟨by omega,by rw [frG_len];omega⟩
 refine .inr (.inr ?_)
 rcases hp with e | e | e
 ·exact .one (y:Int) z (by rw [e];exact List.mem_cons_self) i1 (by rwa [Int.toNat_natCast]) i2
 ·exact .one (y:Int) z (List.mem_cons_of_mem _ e) i1 (by rwa [Int.toNat_natCast]) i2
 ·exact .more (y:Int) z e i1 (by rwa [Int.toNat_natCast]) i2
theorem put_dom (ok:TreeOk G q T lvl) (hq:q < G.length) {y x:Nat} (hy:Rch G [(q:Int)] y) (hp:PutP (frG T G) q l y) (h:Fw G (PutP (frG T G) q l) y x):domB T y x=true:=by
 have key:∀ x z:Nat,Rch G [(q:Int)] x→domB T y x=true→(z:Int)∈G.getD x []→z < G.length→¬ PutP (frG T G) q l z→domB T y z=true:=by
  intro x z hx hd he hz hn
  refine Classical.byContradiction fun hc=>hn (put_front ok hq hy hz hp ?_)
  exact (frG_mem ok (rch_lt hy) (z:Int)).2 ⟨x,hx,in_norm he hz,hd,.inr (by simpa using hc)⟩
 induction h with
 | one x h1 h2 h3=>exact key y x hy (domB_self ok hy) h1 h2 h3
 | step x z h0 h1 h2 h3 ih=>exact key x z (h0.rch hy) ih h1 h2 h3
theorem fw_rav {P:Nat→Prop} {y x a:Nat} (h:Fw G P y x) (ha:P a) (hr:RavG G q a y):RavG G q a x:=by
 induction h with
 | one x h1 h2 h3=>exact .step y x hr h1 h2 (fun e=>h3 (e ▸ ha))
 | step x z _ h1 h2 h3 ih=>exact .step x z ih h1 h2 (fun e=>h3 (e ▸ ha))
theorem put_one (ok:TreeOk G q T lvl) (hq:q < G.length) {y z b:Nat} (hy:Rch G [(q:Int)] y) (hz:Rch G [(q:Int)] z) (py:PutP (frG T G) q l y) (pz:PutP (frG T G) q l z) (hb:Fw G (PutP (frG T G) q l) y b) (kb:Fw G (PutP (frG T G) q l) z b):y=z:=by
 have d1:=put_dom ok hq hy py hb
 have d2:=put_dom ok hq hz pz kb
 have hbr:=hb.rch hy
 have key:∀ y z:Nat,Rch G [(q:Int)] y→PutP (frG T G) q l z→Fw G (PutP (frG T G) q l) y b→domB T z b=true→domB T y z=true→y=z:=by
  intro y z hy pz hb dz dyz
  refine Classical.byContradiction fun hne=>?_
  have hnd:domB T z y≠true:=fun e=>hne (by have:=ok.anti dyz e;omega)
  have hav:RavG G q z y:=Classical.byContradiction fun hc=>hnd ((ok.dom_nat hy).2 ((ok.dm z y hy).2 hc))
  have:=fw_rav hb pz hav
  exact ((ok.dm z b hbr).1 ((ok.dom_nat hbr).1 dz)) this
 rcases ok.lin d1 d2 with h | h
 ·exact key y z hy pz hb d2 h
 ·exact (key z y hz py kb d1 h).symm
theorem put_some {P:Nat→Prop} (hq:P q) {b:Nat} (hb:Rch G [(q:Int)] b):P b∨∃ y,Rch G [(q:Int)] y∧P y∧Fw G P y b:=by
 induction hb with
 | base k h1 h2=>
   rw [List.mem_singleton] at h1
   have:k=q:=by omega
   subst this
   exact .inl hq
 | step i k h1 h2 h3 ih=>
   by_cases hk:P k
   ·exact .inl hk
   ·refine .inr ?_
    rcases ih with ih | ⟨y,p1,p2,p3⟩
    ·exact ⟨i,h1,ih,.one k h2 h3 hk⟩
    ·exact ⟨y,p1,p2,.step i k p3 h2 h3 hk⟩
theorem meet_one (ok:TreeOk G q T lvl) (hq:q < G.length) {b:Nat} (hb:Rch G [(q:Int)] b) (hn:¬ PutP (frG T G) q l b):∃ d,d < G.length∧∀ k,(PutP (frG T G) q l k∧Bk G q (PutP (frG T G) q l) b k)↔k=d:=by
 rcases put_some (G:=G) (q:=q) (P:=PutP (frG T G) q l) (.inl rfl) hb with h | ⟨y,p1,p2,p3⟩
 ·exact absurd h hn
 refine ⟨y,rch_lt p1,fun k=>⟨fun ⟨k1,k2⟩=>?_,fun e=>?_⟩⟩
 ·have hk:Rch G [(q:Int)] k:=by
   cases k2 with
   | base=>exact hb
   | step _ _ _ _ _ hr=>exact hr
  rcases k2.fw (rch_lt hb) with e | e
  ·subst e;exact absurd k1 hn
  ·exact put_one ok hq hk p1 k1 p2 e p3
 ·subst e
  exact ⟨p2,p3.bk p1 .base⟩
end
end Go.Proofs.Ytdmnenlpdeolaaa
set_option maxRecDepth 100000
namespace Go.Proofs.Ytdmnenlpdeolaaa
open Go.AM
section
variable {CT:Nat→Option CFun}
structure CL9 (CT:Nat→Option CFun):Prop where
 t:CT9 CT
 dom:CT k_f13=some (.code s_f13)
 great:CT k_f8=some (.code s_f8)
 wakes:∀ base H,callW CT (.fn k_f9 [] []) [] base H=some (.s (.bool true),H)
end
end Go.Proofs.Ytdmnenlpdeolaaa
set_option maxRecDepth 100000
namespace Go.Proofs.Ytdmnenlpdeolaaa
open Go.AM
abbrev k_f6:Nat:=6
def s_f6_r0_k:List Nat:=[3,4,5,6,7,8,9,10,11,12,13,14,15,16,17,18,19,20,21,22,23,24,25,26,27,28,29,30,31,32,33,34,35,36,37,38,39,40,41,42,43,44,45,46,47,48,49,50,51,52,53,54,55,56,57,58,59,60,61,62,63,64,65,66,67,68,69,70,71,72,73,74,75,76,77,78,79,80,81,82,83,84,85,86,87,88,89,90,91,92,93,94,95,96,97,98,99,100,101,102,103,104,105,106,107,108,109,110,111,112,113,114,115,116,117,118,119,120,121,122,123,124,125,126,127,128,129,130,131,132,133,134,135,136,137,138,139,140,141,142,143,144,145,146,147,148,149,150,151,152,153,154,155,156,157,158,159,160,161,162,163,164,165,166,167,168,169,170,171,172,173,174,175,176,177,178,179,180,181,182,183,184,185,186,187,188,189,190,191,192,193,194,195,196,197,198,199,200,201,202,203,204,205,206,207,208,209,210,211,212]
theorem s_f6_r0_kT:killV s_f6_r0_k (startV 213 [] 3)=[]:=by kernel_rfl
theorem s_f6_r0_kA0:s_f6_r0_k.contains 0=false:=by kernel_rfl
theorem s_f6_r0_kA1:s_f6_r0_k.contains 1=false:=by kernel_rfl
theorem s_f6_r0_kA2:s_f6_r0_k.contains 2=false:=by kernel_rfl
def s_f6_r0:List AOper:=[
 ⟨some 6,(.move (.c (.s (.bool false)))),none⟩]
def s_f6_r0_tale:=hT s_f6_r0 s_f6_r0_k [] 7 [] [] [.cc (.s (.bool false))] (by kernel_rfl) (by kernel_rfl)
def s_f6_r1t2:List AOper:=[⟨some 23,(.move (.t 22)),none⟩,⟨some 24,(.move (.t 0)),some (23,false)⟩,⟨some 25,(.lenS .s (.t 24)),some (23,false)⟩,⟨some 26,(.bin .gtr (.t 25) (.c (.s (.int .i64 16)))),some (23,false)⟩,⟨some 27,(.pick (.t 23) (.c (.s (.bool true))) (.t 26)),none⟩,⟨some 28,(.move (.t 27)),none⟩,⟨some 29,(.move (.t 1)),some (28,false)⟩,⟨some 30,(.bin .lss (.t 29) (.c (.s (.int .i64 0)))),some (28,false)⟩,⟨some 31,(.pick (.t 28) (.c (.s (.bool true))) (.t 30)),none⟩,⟨some 32,(.move (.t 31)),none⟩,⟨some 33,(.move (.t 1)),some (32,false)⟩,⟨some 34,(.move (.t 0)),some (32,false)⟩,⟨some 35,(.lenS .s (.t 34)),some (32,false)⟩,⟨some 36,(.bin .geq (.t 33) (.t 35)),some (32,false)⟩,⟨some 37,(.pick (.t 32) (.c (.s (.bool true))) (.t 36)),none⟩,⟨some 38,(.move (.t 37)),none⟩,⟨some 39,(.move (.t 2)),some (38,false)⟩,⟨some 40,(.lenS .s (.t 39)),some (38,false)⟩,⟨some 41,(.bin .gtr (.t 40) (.c (.s (.int .i64 16)))),some (38,false)⟩,⟨some 42,(.pick (.t 38) (.c (.s (.bool true))) (.t 41)),none⟩]
def s_f6_r1p1:List AOper:=[⟨some 22,(.call (.c (.fn 8 [] [])) [(.t 21)]),none⟩]
def s_f6_r1t1:List AOper:=s_f6_r1p1 ++ s_f6_r1t2
def s_f6_r1p0:List AOper:=[⟨some 21,(.move (.t 0)),none⟩]
def s_f6_r1:List AOper:=s_f6_r1p0 ++ s_f6_r1t1
def s_f6_r1p0_tale:=hT s_f6_r1p0 [] [21] 22 [] [(21,(.t 0))] [.tt 0] (by kernel_rfl) (by kernel_rfl)
def s_f6_r1_x:=hS s_f6_r1 s_f6_r1p0 s_f6_r1t1 [] [21] [21,22,23,24,25,26,27,28,29,30,31,32,33,34,35,36,37,38,39,40,41] rfl (by kernel_rfl)
def s_f6_r1t1_x:=hO s_f6_r1t1 s_f6_r1p1 s_f6_r1t2 [21] [21,22,23,24,25,26,27,28,29,30,31,32,33,34,35,36,37,38,39,40,41] [⟨some 22,(.call (.c (.fn 8 [] [])) [(.t 21)]),none⟩] rfl rfl (by kernel_rfl)
def s_f6_r1t2_tale:=hT s_f6_r1t2 [21,22,23,24,25,26,27,28,29,30,31,32,33,34,35,36,37,38,39,40,41] [42] 43 [] [(42,(.pick (.pick (.pick (.pick (.t 22) (.c (.s (.bool true))) (.op (.bin .gtr (.t 0) (.c (.s (.int .i64 16)))) [(.op (.lenS .s (.t 0)) [(.t 0)]),(.c (.s (.int .i64 16)))])) (.c (.s (.bool true))) (.op (.bin .lss (.t 0) (.c (.s (.int .i64 0)))) [(.t 1),(.c (.s (.int .i64 0)))])) (.c (.s (.bool true))) (.op (.bin .geq (.t 0) (.t 1)) [(.t 1),(.op (.lenS .s (.t 0)) [(.t 0)])])) (.c (.s (.bool true))) (.op (.bin .gtr (.t 0) (.c (.s (.int .i64 16)))) [(.op (.lenS .s (.t 0)) [(.t 2)]),(.c (.s (.int .i64 16)))])))] [.tt 22,.sub 0 [0,0,0,2,0,0] [23],.sub 0 [0,0,0,2,0] [23],.sub 0 [0,0,0,2] [23],.sub 0 [0,0,0] [],.sub 0 [0,0,0] [],.sub 0 [0,0,2,0] [28],.sub 0 [0,0,2] [28],.sub 0 [0,0] [],.sub 0 [0,0] [],.sub 0 [0,2,0] [32],.sub 0 [0,2,1,0] [32],.sub 0 [0,2,1] [32],.sub 0 [0,2] [32],.sub 0 [0] [],.sub 0 [0] [],.sub 0 [2,0,0] [38],.sub 0 [2,0] [38],.sub 0 [2] [38],.sub 0 [] []] (by kernel_rfl) (by kernel_rfl)
def s_f6_r1t2_x:=hL s_f6_r1t2 [21,22,23,24,25,26,27,28,29,30,31,32,33,34,35,36,37,38,39,40,41] [42]
def s_f6_r2t1:List AOper:=[⟨some 6,(.move (.t 43)),none⟩]
def s_f6_r2p0:List AOper:=[⟨some 43,(.call (.c (.fn 9 [] [])) []),none⟩]
def s_f6_r2:List AOper:=s_f6_r2p0 ++ s_f6_r2t1
def s_f6_r2_x:=hO s_f6_r2 s_f6_r2p0 s_f6_r2t1 [0,1,2,42] [0,1,2,42,43] [⟨some 43,(.call (.c (.fn 9 [] [])) []),none⟩] rfl rfl (by kernel_rfl)
def s_f6_r2t1_tale:=hT s_f6_r2t1 [0,1,2,42,43] [6] 7 [] [(6,(.t 43))] [.tt 43] (by kernel_rfl) (by kernel_rfl)
def s_f6_r2t1_x:=hL s_f6_r2t1 [0,1,2,42,43] [6]
def s_f6_r3t2:List AOper:=[⟨some 7,(.move (.t 46)),none⟩]
def s_f6_r3p1:List AOper:=[⟨some 46,(.mkSl [(.s (.bool false))] 1 1 (.t 45) (.t 45)),none⟩]
def s_f6_r3t1:List AOper:=s_f6_r3p1 ++ s_f6_r3t2
def s_f6_r3p0:List AOper:=[⟨some 44,(.move (.t 0)),none⟩,⟨some 45,(.lenS .s (.t 44)),none⟩]
def s_f6_r3:List AOper:=s_f6_r3p0 ++ s_f6_r3t1
def s_f6_r3p0_tale:=hT s_f6_r3p0 [42,44] [45] 46 [] [(45,(.op (.lenS .s (.t 0)) [(.t 0)]))] [.tt 0,.sub 0 [] []] (by kernel_rfl) (by kernel_rfl)
def s_f6_r3_x:=hS s_f6_r3 s_f6_r3p0 s_f6_r3t1 [42,44] [45] [42,44,45,46] rfl (by kernel_rfl)
def s_f6_r3t1_x:=hO s_f6_r3t1 s_f6_r3p1 s_f6_r3t2 [45] [42,44,45,46] [⟨some 46,(.mkSl [(.s (.bool false))] 1 1 (.t 45) (.t 45)),none⟩] rfl rfl (by kernel_rfl)
def s_f6_r3t2_tale:=hT s_f6_r3t2 [42,44,45,46] [7] 8 [] [(7,(.t 46))] [.tt 46] (by kernel_rfl) (by kernel_rfl)
def s_f6_r3t2_x:=hL s_f6_r3t2 [42,44,45,46] [7]
def s_f6_r4t1:List AOper:=[⟨none,(.store 1 (.t 49) (.c (.s (.bool true)))),none⟩]
def s_f6_r4p0:List AOper:=[⟨some 47,(.move (.t 7)),none⟩,⟨some 48,(.move (.t 1)),none⟩,⟨some 49,(.indexAddr 1 (.t 47) (.t 48)),none⟩]
def s_f6_r4:List AOper:=s_f6_r4p0 ++ s_f6_r4t1
def s_f6_r4p0_tale:=hT s_f6_r4p0 [47,48] [49] 50 [] [(49,(.op (.indexAddr 1 (.t 0) (.t 1)) [(.t 7),(.t 1)]))] [.tt 7,.tt 1,.sub 0 [] []] (by kernel_rfl) (by kernel_rfl)
def s_f6_r4_x:=hS s_f6_r4 s_f6_r4p0 s_f6_r4t1 [47,48] [49] [47,48,49] rfl (by kernel_rfl)
def s_f6_r4t1_x:=hX s_f6_r4t1 [47,48,49] [⟨none,(.store 1 (.t 49) (.c (.s (.bool true)))),none⟩] rfl
def s_f6_r5t4:List AOper:=[⟨some 8,(.move (.t 53)),none⟩]
def s_f6_r5p3:List AOper:=[⟨some 53,(.append 1 8 (.t 51) (.t 52)),none⟩]
def s_f6_r5t3:List AOper:=s_f6_r5p3 ++ s_f6_r5t4
def s_f6_r5p2:List AOper:=[⟨some 52,(.move (.t 2)),none⟩]
def s_f6_r5t2:List AOper:=s_f6_r5p2 ++ s_f6_r5t3
def s_f6_r5p1:List AOper:=[⟨some 51,(.buildSl 1 1 [(.s (.int .i64 0))] [(0,(.t 50))]),none⟩]
def s_f6_r5t1:List AOper:=s_f6_r5p1 ++ s_f6_r5t2
def s_f6_r5p0:List AOper:=[⟨some 50,(.move (.t 1)),none⟩]
def s_f6_r5:List AOper:=s_f6_r5p0 ++ s_f6_r5t1
def s_f6_r5p0_tale:=hT s_f6_r5p0 [] [50] 51 [] [(50,(.t 1))] [.tt 1] (by kernel_rfl) (by kernel_rfl)
def s_f6_r5_x:=hS s_f6_r5 s_f6_r5p0 s_f6_r5t1 [] [50] [50,51,52,53] rfl (by kernel_rfl)
def s_f6_r5t1_x:=hO s_f6_r5t1 s_f6_r5p1 s_f6_r5t2 [50] [50,51,52,53] [⟨some 51,(.buildSl 1 1 [(.s (.int .i64 0))] [(0,(.t 50))]),none⟩] rfl rfl (by kernel_rfl)
def s_f6_r5p2_tale:=hT s_f6_r5p2 [] [52] 53 [] [(52,(.t 2))] [.tt 2] (by kernel_rfl) (by kernel_rfl)
def s_f6_r5t2_x:=hS s_f6_r5t2 s_f6_r5p2 s_f6_r5t3 [] [52] [50,51,52,53] rfl (by kernel_rfl)
def s_f6_r5t3_x:=hO s_f6_r5t3 s_f6_r5p3 s_f6_r5t4 [51,52] [50,51,52,53] [⟨some 53,(.append 1 8 (.t 51) (.t 52)),none⟩] rfl rfl (by kernel_rfl)
def s_f6_r5t4_tale:=hT s_f6_r5t4 [50,51,52,53] [8] 9 [] [(8,(.t 53))] [.tt 53] (by kernel_rfl) (by kernel_rfl)
def s_f6_r5t4_x:=hL s_f6_r5t4 [50,51,52,53] [8]
def s_f6_r6:List AOper:=[
 ⟨some 9,(.move (.c (.s (.int .i64 0)))),none⟩]
def s_f6_r6_tale:=hT s_f6_r6 [] [9] 10 [] [(9,(.c (.s (.int .i64 0))))] [.cc (.s (.int .i64 0))] (by kernel_rfl) (by kernel_rfl)
def s_f6_r7:List AOper:=[
 ⟨some 54,(.move (.t 9)),none⟩,
 ⟨some 55,(.move (.t 2)),none⟩,
 ⟨some 56,(.lenS .s (.t 55)),none⟩,
 ⟨some 57,(.bin .lss (.t 54) (.t 56)),none⟩]
def s_f6_r7_tale:=hT s_f6_r7 [54,55,56] [57] 58 [] [(57,(.op (.bin .lss (.t 0) (.t 1)) [(.t 9),(.op (.lenS .s (.t 0)) [(.t 2)])]))] [.tt 9,.tt 2,.sub 0 [1] [],.sub 0 [] []] (by kernel_rfl) (by kernel_rfl)
def s_f6_r8:List AOper:=[
 ⟨some 60,(.move (.t 2)),none⟩,
 ⟨some 61,(.move (.t 9)),none⟩,
 ⟨some 62,(.indexAddr 1 (.t 60) (.t 61)),none⟩,
 ⟨some 63,(.load false 1 (.t 62)),none⟩,
 ⟨some 64,(.bin .geq (.t 63) (.c (.s (.int .i64 0)))),none⟩,
 ⟨some 65,(.move (.t 64)),none⟩,
 ⟨some 66,(.move (.t 2)),some (65,true)⟩,
 ⟨some 67,(.move (.t 9)),some (65,true)⟩,
 ⟨some 68,(.indexAddr 1 (.t 66) (.t 67)),some (65,true)⟩,
 ⟨some 69,(.load false 1 (.t 68)),some (65,true)⟩,
 ⟨some 70,(.move (.t 0)),some (65,true)⟩,
 ⟨some 71,(.lenS .s (.t 70)),some (65,true)⟩,
 ⟨some 72,(.bin .lss (.t 69) (.t 71)),some (65,true)⟩,
 ⟨some 73,(.pick (.t 65) (.t 72) (.c (.s (.bool false)))),none⟩]
def s_f6_r8_tale:=hT s_f6_r8 [57,60,61,62,63,64,65,66,67,68,69,70,71,72] [73] 74 [] [(73,(.pick (.op (.bin .geq (.t 0) (.c (.s (.int .i64 0)))) [(.op (.load false 1 (.t 0)) [(.op (.indexAddr 1 (.t 0) (.t 1)) [(.t 2),(.t 9)])]),(.c (.s (.int .i64 0)))]) (.op (.bin .lss (.t 0) (.t 1)) [(.op (.load false 1 (.t 0)) [(.op (.indexAddr 1 (.t 0) (.t 1)) [(.t 2),(.t 9)])]),(.op (.lenS .s (.t 0)) [(.t 0)])]) (.c (.s (.bool false)))))] [.tt 2,.tt 9,.sub 0 [0,0,0] [],.sub 0 [0,0] [],.sub 0 [0] [],.sub 0 [0] [],.sub 0 [1,0,0,0] [65],.sub 0 [1,0,0,1] [65],.sub 0 [1,0,0] [65],.sub 0 [1,0] [65],.sub 0 [1,1,0] [65],.sub 0 [1,1] [65],.sub 0 [1] [65],.sub 0 [] []] (by kernel_rfl) (by kernel_rfl)
def s_f6_r9t1:List AOper:=[⟨none,(.store 1 (.t 79) (.c (.s (.bool true)))),none⟩]
def s_f6_r9p0:List AOper:=[⟨some 74,(.move (.t 7)),none⟩,⟨some 75,(.move (.t 2)),none⟩,⟨some 76,(.move (.t 9)),none⟩,⟨some 77,(.indexAddr 1 (.t 75) (.t 76)),none⟩,⟨some 78,(.load false 1 (.t 77)),none⟩,⟨some 79,(.indexAddr 1 (.t 74) (.t 78)),none⟩]
def s_f6_r9:List AOper:=s_f6_r9p0 ++ s_f6_r9t1
def s_f6_r9p0_tale:=hT s_f6_r9p0 [73,74,75,76,77,78] [79] 80 [] [(79,(.op (.indexAddr 1 (.t 0) (.t 1)) [(.t 7),(.op (.load false 1 (.t 0)) [(.op (.indexAddr 1 (.t 0) (.t 1)) [(.t 2),(.t 9)])])]))] [.tt 7,.tt 2,.tt 9,.sub 0 [1,0] [],.sub 0 [1] [],.sub 0 [] []] (by kernel_rfl) (by kernel_rfl)
def s_f6_r9_x:=hS s_f6_r9 s_f6_r9p0 s_f6_r9t1 [73,74,75,76,77,78] [79] [73,74,75,76,77,78,79] rfl (by kernel_rfl)
def s_f6_r9t1_x:=hX s_f6_r9t1 [73,74,75,76,77,78,79] [⟨none,(.store 1 (.t 79) (.c (.s (.bool true)))),none⟩] rfl
def s_f6_r10:List AOper:=[
 ⟨some 58,(.move (.t 9)),none⟩,
 ⟨some 59,(.bin .add (.t 58) (.c (.s (.int .i64 1)))),none⟩,
 ⟨some 9,(.move (.t 59)),none⟩]
def s_f6_r10_tale:=hT s_f6_r10 [58,59,73] [9] 60 [] [(9,(.op (.bin .add (.t 0) (.c (.s (.int .i64 1)))) [(.t 9),(.c (.s (.int .i64 1)))]))] [.tt 9,.sub 0 [] [],.sub 0 [] []] (by kernel_rfl) (by kernel_rfl)
def s_f6_l0_b:ACode:=
 (.seq (.seq (.regionE s_f6_r7 [54,55,56] [57])
 (.cond (.t 57)
 .skip
 (.exit 0)))
 (.seq (.block 1
 (.seq (.regionE s_f6_r8 [57,60,61,62,63,64,65,66,67,68,69,70,71,72] [73])
 (.cond (.t 73)
 (.region s_f6_r9 [] [73,74,75,76,77,78,79])
 .skip)))
 (.regionE s_f6_r10 [58,59,73] [9])))
def s_f6_l0:ACode:=s_f6_l0_b
def s_f6_l0_ev:=hE s_f6_l0 s_f6_l0_b rfl
def s_f6_r11t4:List AOper:=[⟨some 10,(.move (.t 84)),none⟩]
def s_f6_r11p3:List AOper:=[⟨some 84,(.call (.c (.fn 19 [] [])) [(.t 82),(.t 83)]),none⟩]
def s_f6_r11t3:List AOper:=s_f6_r11p3 ++ s_f6_r11t4
def s_f6_r11p2:List AOper:=[⟨some 83,(.move (.t 8)),none⟩]
def s_f6_r11t2:List AOper:=s_f6_r11p2 ++ s_f6_r11t3
def s_f6_r11p1:List AOper:=[⟨some 82,(.call (.c (.fn 16 [] [])) [(.t 80),(.t 81)]),none⟩]
def s_f6_r11t1:List AOper:=s_f6_r11p1 ++ s_f6_r11t2
def s_f6_r11p0:List AOper:=[⟨some 80,(.move (.t 0)),none⟩,⟨some 81,(.move (.t 1)),none⟩]
def s_f6_r11:List AOper:=s_f6_r11p0 ++ s_f6_r11t1
def s_f6_r11p0_tale:=hT s_f6_r11p0 [2,9,57] [80,81] 82 [] [(80,(.t 0)),(81,(.t 1))] [.tt 0,.tt 1] (by kernel_rfl) (by kernel_rfl)
def s_f6_r11_x:=hS s_f6_r11 s_f6_r11p0 s_f6_r11t1 [2,9,57] [80,81] [2,8,9,57,80,81,82,83,84] rfl (by kernel_rfl)
def s_f6_r11t1_x:=hO s_f6_r11t1 s_f6_r11p1 s_f6_r11t2 [80,81] [2,8,9,57,80,81,82,83,84] [⟨some 82,(.call (.c (.fn 16 [] [])) [(.t 80),(.t 81)]),none⟩] rfl rfl (by kernel_rfl)
def s_f6_r11p2_tale:=hT s_f6_r11p2 [8] [83] 84 [] [(83,(.t 8))] [.tt 8] (by kernel_rfl) (by kernel_rfl)
def s_f6_r11t2_x:=hS s_f6_r11t2 s_f6_r11p2 s_f6_r11t3 [8] [83] [2,8,9,57,80,81,82,83,84] rfl (by kernel_rfl)
def s_f6_r11t3_x:=hO s_f6_r11t3 s_f6_r11p3 s_f6_r11t4 [82,83] [2,8,9,57,80,81,82,83,84] [⟨some 84,(.call (.c (.fn 19 [] [])) [(.t 82),(.t 83)]),none⟩] rfl rfl (by kernel_rfl)
def s_f6_r11t4_tale:=hT s_f6_r11t4 [2,8,9,57,80,81,82,83,84] [10] 11 [] [(10,(.t 84))] [.tt 84] (by kernel_rfl) (by kernel_rfl)
def s_f6_r11t4_x:=hL s_f6_r11t4 [2,8,9,57,80,81,82,83,84] [10]
def s_f6_r12:List AOper:=[
 ⟨some 11,(.move (.c (.s (.int .i64 0)))),none⟩]
def s_f6_r12_tale:=hT s_f6_r12 [] [11] 12 [] [(11,(.c (.s (.int .i64 0))))] [.cc (.s (.int .i64 0))] (by kernel_rfl) (by kernel_rfl)
def s_f6_r13:List AOper:=[
 ⟨some 85,(.move (.t 11)),none⟩,
 ⟨some 86,(.move (.t 10)),none⟩,
 ⟨some 87,(.lenS .s (.t 86)),none⟩,
 ⟨some 88,(.bin .lss (.t 85) (.t 87)),none⟩]
def s_f6_r13_tale:=hT s_f6_r13 [85,86,87] [88] 89 [] [(88,(.op (.bin .lss (.t 0) (.t 1)) [(.t 11),(.op (.lenS .s (.t 0)) [(.t 10)])]))] [.tt 11,.tt 10,.sub 0 [1] [],.sub 0 [] []] (by kernel_rfl) (by kernel_rfl)
def s_f6_r14:List AOper:=[
 ⟨some 91,(.move (.t 10)),none⟩,
 ⟨some 92,(.move (.t 11)),none⟩,
 ⟨some 93,(.indexAddr 1 (.t 91) (.t 92)),none⟩,
 ⟨some 94,(.load false 1 (.t 93)),none⟩,
 ⟨some 95,(.bin .lss (.t 94) (.c (.s (.int .i64 0)))),none⟩,
 ⟨some 96,(.move (.t 95)),none⟩,
 ⟨some 97,(.move (.t 10)),some (96,false)⟩,
 ⟨some 98,(.move (.t 11)),some (96,false)⟩,
 ⟨some 99,(.indexAddr 1 (.t 97) (.t 98)),some (96,false)⟩,
 ⟨some 100,(.load false 1 (.t 99)),some (96,false)⟩,
 ⟨some 101,(.move (.t 0)),some (96,false)⟩,
 ⟨some 102,(.lenS .s (.t 101)),some (96,false)⟩,
 ⟨some 103,(.bin .geq (.t 100) (.t 102)),some (96,false)⟩,
 ⟨some 104,(.pick (.t 96) (.c (.s (.bool true))) (.t 103)),none⟩]
def s_f6_r14_tale:=hT s_f6_r14 [88,91,92,93,94,95,96,97,98,99,100,101,102,103] [104] 105 [] [(104,(.pick (.op (.bin .lss (.t 0) (.c (.s (.int .i64 0)))) [(.op (.load false 1 (.t 0)) [(.op (.indexAddr 1 (.t 0) (.t 1)) [(.t 10),(.t 11)])]),(.c (.s (.int .i64 0)))]) (.c (.s (.bool true))) (.op (.bin .geq (.t 0) (.t 1)) [(.op (.load false 1 (.t 0)) [(.op (.indexAddr 1 (.t 0) (.t 1)) [(.t 10),(.t 11)])]),(.op (.lenS .s (.t 0)) [(.t 0)])])))] [.tt 10,.tt 11,.sub 0 [0,0,0] [],.sub 0 [0,0] [],.sub 0 [0] [],.sub 0 [0] [],.sub 0 [2,0,0,0] [96],.sub 0 [2,0,0,1] [96],.sub 0 [2,0,0] [96],.sub 0 [2,0] [96],.sub 0 [2,1,0] [96],.sub 0 [2,1] [96],.sub 0 [2] [96],.sub 0 [] []] (by kernel_rfl) (by kernel_rfl)
def s_f6_r15:List AOper:=[
 ⟨some 6,(.move (.c (.s (.bool false)))),none⟩]
def s_f6_r15_tale:=hT s_f6_r15 [0,1,7,10,11,104] [6] 7 [] [(6,(.c (.s (.bool false))))] [.cc (.s (.bool false))] (by kernel_rfl) (by kernel_rfl)
def s_f6_r16t1:List AOper:=[⟨none,(.store 1 (.t 110) (.c (.s (.bool true)))),none⟩]
def s_f6_r16p0:List AOper:=[⟨some 105,(.move (.t 7)),none⟩,⟨some 106,(.move (.t 10)),none⟩,⟨some 107,(.move (.t 11)),none⟩,⟨some 108,(.indexAddr 1 (.t 106) (.t 107)),none⟩,⟨some 109,(.load false 1 (.t 108)),none⟩,⟨some 110,(.indexAddr 1 (.t 105) (.t 109)),none⟩]
def s_f6_r16:List AOper:=s_f6_r16p0 ++ s_f6_r16t1
def s_f6_r16p0_tale:=hT s_f6_r16p0 [104,105,106,107,108,109] [110] 111 [] [(110,(.op (.indexAddr 1 (.t 0) (.t 1)) [(.t 7),(.op (.load false 1 (.t 0)) [(.op (.indexAddr 1 (.t 0) (.t 1)) [(.t 10),(.t 11)])])]))] [.tt 7,.tt 10,.tt 11,.sub 0 [1,0] [],.sub 0 [1] [],.sub 0 [] []] (by kernel_rfl) (by kernel_rfl)
def s_f6_r16_x:=hS s_f6_r16 s_f6_r16p0 s_f6_r16t1 [104,105,106,107,108,109] [110] [104,105,106,107,108,109,110] rfl (by kernel_rfl)
def s_f6_r16t1_x:=hX s_f6_r16t1 [104,105,106,107,108,109,110] [⟨none,(.store 1 (.t 110) (.c (.s (.bool true)))),none⟩] rfl
def s_f6_r17:List AOper:=[
 ⟨some 89,(.move (.t 11)),none⟩,
 ⟨some 90,(.bin .add (.t 89) (.c (.s (.int .i64 1)))),none⟩,
 ⟨some 11,(.move (.t 90)),none⟩]
def s_f6_r17_tale:=hT s_f6_r17 [89,90] [11] 91 [] [(11,(.op (.bin .add (.t 0) (.c (.s (.int .i64 1)))) [(.t 11),(.c (.s (.int .i64 1)))]))] [.tt 11,.sub 0 [] [],.sub 0 [] []] (by kernel_rfl) (by kernel_rfl)
def s_f6_l1_b:ACode:=
 (.seq (.seq (.regionE s_f6_r13 [85,86,87] [88])
 (.cond (.t 88)
 .skip
 (.exit 2)))
 (.seq (.block 3
 (.seq (.seq (.regionE s_f6_r14 [88,91,92,93,94,95,96,97,98,99,100,101,102,103] [104])
 (.cond (.t 104)
 (.seq (.regionE s_f6_r15 [0,1,7,10,11,104] [6])
 .ret)
 .skip))
 (.region s_f6_r16 [] [104,105,106,107,108,109,110])))
 (.regionE s_f6_r17 [89,90] [11])))
def s_f6_l1:ACode:=s_f6_l1_b
def s_f6_l1_ev:=hE s_f6_l1 s_f6_l1_b rfl
def s_f6_r18t2:List AOper:=[⟨some 12,(.move (.t 112)),none⟩]
def s_f6_r18p1:List AOper:=[⟨some 112,(.call (.c (.fn 20 [] [])) [(.t 111)]),none⟩]
def s_f6_r18t1:List AOper:=s_f6_r18p1 ++ s_f6_r18t2
def s_f6_r18p0:List AOper:=[⟨some 111,(.move (.t 0)),none⟩]
def s_f6_r18:List AOper:=s_f6_r18p0 ++ s_f6_r18t1
def s_f6_r18p0_tale:=hT s_f6_r18p0 [10,11,88] [111] 112 [] [(111,(.t 0))] [.tt 0] (by kernel_rfl) (by kernel_rfl)
def s_f6_r18_x:=hS s_f6_r18 s_f6_r18p0 s_f6_r18t1 [10,11,88] [111] [10,11,88,111,112] rfl (by kernel_rfl)
def s_f6_r18t1_x:=hO s_f6_r18t1 s_f6_r18p1 s_f6_r18t2 [111] [10,11,88,111,112] [⟨some 112,(.call (.c (.fn 20 [] [])) [(.t 111)]),none⟩] rfl rfl (by kernel_rfl)
def s_f6_r18t2_tale:=hT s_f6_r18t2 [10,11,88,111,112] [12] 13 [] [(12,(.t 112))] [.tt 112] (by kernel_rfl) (by kernel_rfl)
def s_f6_r18t2_x:=hL s_f6_r18t2 [10,11,88,111,112] [12]
def s_f6_r19t3:List AOper:=[⟨some 13,(.move (.t 116)),none⟩]
def s_f6_r19p2:List AOper:=[⟨some 116,(.call (.c (.fn 21 [] [])) [(.t 113),(.t 115)]),none⟩]
def s_f6_r19t2:List AOper:=s_f6_r19p2 ++ s_f6_r19t3
def s_f6_r19p1:List AOper:=[⟨some 115,(.buildSl 1 1 [(.s (.int .i64 0))] [(0,(.t 114))]),none⟩]
def s_f6_r19t1:List AOper:=s_f6_r19p1 ++ s_f6_r19t2
def s_f6_r19p0:List AOper:=[⟨some 113,(.move (.t 0)),none⟩,⟨some 114,(.move (.t 1)),none⟩]
def s_f6_r19:List AOper:=s_f6_r19p0 ++ s_f6_r19t1
def s_f6_r19p0_tale:=hT s_f6_r19p0 [1] [113,114] 115 [] [(113,(.t 0)),(114,(.t 1))] [.tt 0,.tt 1] (by kernel_rfl) (by kernel_rfl)
def s_f6_r19_x:=hS s_f6_r19 s_f6_r19p0 s_f6_r19t1 [1] [113,114] [1,113,114,115,116] rfl (by kernel_rfl)
def s_f6_r19t1_x:=hO s_f6_r19t1 s_f6_r19p1 s_f6_r19t2 [114] [1,113,114,115,116] [⟨some 115,(.buildSl 1 1 [(.s (.int .i64 0))] [(0,(.t 114))]),none⟩] rfl rfl (by kernel_rfl)
def s_f6_r19t2_x:=hO s_f6_r19t2 s_f6_r19p2 s_f6_r19t3 [113,115] [1,113,114,115,116] [⟨some 116,(.call (.c (.fn 21 [] [])) [(.t 113),(.t 115)]),none⟩] rfl rfl (by kernel_rfl)
def s_f6_r19t3_tale:=hT s_f6_r19t3 [1,113,114,115,116] [13] 14 [] [(13,(.t 116))] [.tt 116] (by kernel_rfl) (by kernel_rfl)
def s_f6_r19t3_x:=hL s_f6_r19t3 [1,113,114,115,116] [13]
def s_f6_r20:List AOper:=[
 ⟨some 117,(.move (.t 12)),none⟩,
 ⟨some 118,(.lenS .s (.t 117)),none⟩,
 ⟨some 119,(.move (.t 0)),none⟩,
 ⟨some 120,(.lenS .s (.t 119)),none⟩,
 ⟨some 121,(.bin .neq (.t 118) (.t 120)),none⟩,
 ⟨some 122,(.move (.t 121)),none⟩,
 ⟨some 123,(.move (.t 13)),some (122,false)⟩,
 ⟨some 124,(.lenS .s (.t 123)),some (122,false)⟩,
 ⟨some 125,(.move (.t 0)),some (122,false)⟩,
 ⟨some 126,(.lenS .s (.t 125)),some (122,false)⟩,
 ⟨some 127,(.bin .neq (.t 124) (.t 126)),some (122,false)⟩,
 ⟨some 128,(.pick (.t 122) (.c (.s (.bool true))) (.t 127)),none⟩]
def s_f6_r20_tale:=hT s_f6_r20 [117,118,119,120,121,122,123,124,125,126,127] [128] 129 [] [(128,(.pick (.op (.bin .neq (.t 0) (.t 1)) [(.op (.lenS .s (.t 0)) [(.t 12)]),(.op (.lenS .s (.t 0)) [(.t 0)])]) (.c (.s (.bool true))) (.op (.bin .neq (.t 0) (.t 1)) [(.op (.lenS .s (.t 0)) [(.t 13)]),(.op (.lenS .s (.t 0)) [(.t 0)])])))] [.tt 12,.sub 0 [0,0] [],.tt 0,.sub 0 [0,1] [],.sub 0 [0] [],.sub 0 [0] [],.sub 0 [2,0,0] [122],.sub 0 [2,0] [122],.sub 0 [2,1,0] [122],.sub 0 [2,1] [122],.sub 0 [2] [122],.sub 0 [] []] (by kernel_rfl) (by kernel_rfl)
def s_f6_r21:List AOper:=[
 ⟨some 6,(.move (.c (.s (.bool false)))),none⟩]
def s_f6_r21_tale:=hT s_f6_r21 [0,7,12,13,128] [6] 7 [] [(6,(.c (.s (.bool false))))] [.cc (.s (.bool false))] (by kernel_rfl) (by kernel_rfl)
def s_f6_r22:List AOper:=[
 ⟨some 14,(.move (.c (.s (.int .i64 0)))),none⟩]
def s_f6_r22_tale:=hT s_f6_r22 [128] [14] 15 [] [(14,(.c (.s (.int .i64 0))))] [.cc (.s (.int .i64 0))] (by kernel_rfl) (by kernel_rfl)
def s_f6_r23:List AOper:=[
 ⟨some 129,(.move (.t 14)),none⟩,
 ⟨some 130,(.move (.t 0)),none⟩,
 ⟨some 131,(.lenS .s (.t 130)),none⟩,
 ⟨some 132,(.bin .lss (.t 129) (.t 131)),none⟩]
def s_f6_r23_tale:=hT s_f6_r23 [129,130,131] [132] 133 [] [(132,(.op (.bin .lss (.t 0) (.t 1)) [(.t 14),(.op (.lenS .s (.t 0)) [(.t 0)])]))] [.tt 14,.tt 0,.sub 0 [1] [],.sub 0 [] []] (by kernel_rfl) (by kernel_rfl)
def s_f6_r24:List AOper:=[
 ⟨some 135,(.move (.t 7)),none⟩,
 ⟨some 136,(.move (.t 14)),none⟩,
 ⟨some 137,(.indexAddr 1 (.t 135) (.t 136)),none⟩,
 ⟨some 138,(.load false 1 (.t 137)),none⟩,
 ⟨some 139,(.move (.t 138)),none⟩,
 ⟨some 140,(.move (.t 13)),some (139,false)⟩,
 ⟨some 141,(.move (.t 14)),some (139,false)⟩,
 ⟨some 142,(.indexAddr 1 (.t 140) (.t 141)),some (139,false)⟩,
 ⟨some 143,(.load false 1 (.t 142)),some (139,false)⟩,
 ⟨some 144,(.un .not (.t 143)),some (139,false)⟩,
 ⟨some 145,(.pick (.t 139) (.c (.s (.bool true))) (.t 144)),none⟩]
def s_f6_r24_tale:=hT s_f6_r24 [132,135,136,137,138,139,140,141,142,143,144] [145] 146 [] [(145,(.pick (.op (.load false 1 (.t 0)) [(.op (.indexAddr 1 (.t 0) (.t 1)) [(.t 7),(.t 14)])]) (.c (.s (.bool true))) (.op (.un .not (.t 0)) [(.op (.load false 1 (.t 0)) [(.op (.indexAddr 1 (.t 0) (.t 1)) [(.t 13),(.t 14)])])])))] [.tt 7,.tt 14,.sub 0 [0,0] [],.sub 0 [0] [],.sub 0 [0] [],.sub 0 [2,0,0,0] [139],.sub 0 [2,0,0,1] [139],.sub 0 [2,0,0] [139],.sub 0 [2,0] [139],.sub 0 [2] [139],.sub 0 [] []] (by kernel_rfl) (by kernel_rfl)
def s_f6_r25t2:List AOper:=[⟨some 15,(.move (.t 148)),none⟩]
def s_f6_r25p1:List AOper:=[⟨some 148,(.mkSl [(.s (.bool false))] 1 1 (.t 147) (.t 147)),none⟩]
def s_f6_r25t1:List AOper:=s_f6_r25p1 ++ s_f6_r25t2
def s_f6_r25p0:List AOper:=[⟨some 146,(.move (.t 0)),none⟩,⟨some 147,(.lenS .s (.t 146)),none⟩]
def s_f6_r25:List AOper:=s_f6_r25p0 ++ s_f6_r25t1
def s_f6_r25p0_tale:=hT s_f6_r25p0 [145,146] [147] 148 [] [(147,(.op (.lenS .s (.t 0)) [(.t 0)]))] [.tt 0,.sub 0 [] []] (by kernel_rfl) (by kernel_rfl)
def s_f6_r25_x:=hS s_f6_r25 s_f6_r25p0 s_f6_r25t1 [145,146] [147] [145,146,147,148] rfl (by kernel_rfl)
def s_f6_r25t1_x:=hO s_f6_r25t1 s_f6_r25p1 s_f6_r25t2 [147] [145,146,147,148] [⟨some 148,(.mkSl [(.s (.bool false))] 1 1 (.t 147) (.t 147)),none⟩] rfl rfl (by kernel_rfl)
def s_f6_r25t2_tale:=hT s_f6_r25t2 [145,146,147,148] [15] 16 [] [(15,(.t 148))] [.tt 148] (by kernel_rfl) (by kernel_rfl)
def s_f6_r25t2_x:=hL s_f6_r25t2 [145,146,147,148] [15]
def s_f6_r26t2:List AOper:=[⟨some 16,(.move (.t 150)),none⟩]
def s_f6_r26p1:List AOper:=[⟨some 150,(.buildSl 1 1 [(.s (.int .i64 0))] [(0,(.t 149))]),none⟩]
def s_f6_r26t1:List AOper:=s_f6_r26p1 ++ s_f6_r26t2
def s_f6_r26p0:List AOper:=[⟨some 149,(.move (.t 14)),none⟩]
def s_f6_r26:List AOper:=s_f6_r26p0 ++ s_f6_r26t1
def s_f6_r26p0_tale:=hT s_f6_r26p0 [] [149] 150 [] [(149,(.t 14))] [.tt 14] (by kernel_rfl) (by kernel_rfl)
def s_f6_r26_x:=hS s_f6_r26 s_f6_r26p0 s_f6_r26t1 [] [149] [149,150] rfl (by kernel_rfl)
def s_f6_r26t1_x:=hO s_f6_r26t1 s_f6_r26p1 s_f6_r26t2 [149] [149,150] [⟨some 150,(.buildSl 1 1 [(.s (.int .i64 0))] [(0,(.t 149))]),none⟩] rfl rfl (by kernel_rfl)
def s_f6_r26t2_tale:=hT s_f6_r26t2 [149,150] [16] 17 [] [(16,(.t 150))] [.tt 150] (by kernel_rfl) (by kernel_rfl)
def s_f6_r26t2_x:=hL s_f6_r26t2 [149,150] [16]
def s_f6_r27t1:List AOper:=[⟨none,(.store 1 (.t 153) (.c (.s (.bool true)))),none⟩]
def s_f6_r27p0:List AOper:=[⟨some 151,(.move (.t 15)),none⟩,⟨some 152,(.move (.t 14)),none⟩,⟨some 153,(.indexAddr 1 (.t 151) (.t 152)),none⟩]
def s_f6_r27:List AOper:=s_f6_r27p0 ++ s_f6_r27t1
def s_f6_r27p0_tale:=hT s_f6_r27p0 [151,152] [153] 154 [] [(153,(.op (.indexAddr 1 (.t 0) (.t 1)) [(.t 15),(.t 14)]))] [.tt 15,.tt 14,.sub 0 [] []] (by kernel_rfl) (by kernel_rfl)
def s_f6_r27_x:=hS s_f6_r27 s_f6_r27p0 s_f6_r27t1 [151,152] [153] [151,152,153] rfl (by kernel_rfl)
def s_f6_r27t1_x:=hX s_f6_r27t1 [151,152,153] [⟨none,(.store 1 (.t 153) (.c (.s (.bool true)))),none⟩] rfl
def s_f6_r28:List AOper:=[
 ⟨some 17,(.move (.c (.s (.int .i64 0)))),none⟩]
def s_f6_r28_tale:=hT s_f6_r28 [] [17] 18 [] [(17,(.c (.s (.int .i64 0))))] [.cc (.s (.int .i64 0))] (by kernel_rfl) (by kernel_rfl)
def s_f6_r29:List AOper:=[
 ⟨some 154,(.move (.t 16)),none⟩,
 ⟨some 155,(.lenS .s (.t 154)),none⟩,
 ⟨some 156,(.bin .gtr (.t 155) (.c (.s (.int .i64 0)))),none⟩]
def s_f6_r29_tale:=hT s_f6_r29 [154,155] [156] 157 [] [(156,(.op (.bin .gtr (.t 0) (.c (.s (.int .i64 0)))) [(.op (.lenS .s (.t 0)) [(.t 16)]),(.c (.s (.int .i64 0)))]))] [.tt 16,.sub 0 [0] [],.sub 0 [] []] (by kernel_rfl) (by kernel_rfl)
def s_f6_r30:List AOper:=[
 ⟨some 157,(.move (.t 16)),none⟩,
 ⟨some 158,(.indexAddr 1 (.t 157) (.c (.s (.int .i64 0)))),none⟩,
 ⟨some 159,(.load false 1 (.t 158)),none⟩,
 ⟨some 18,(.move (.t 159)),none⟩]
def s_f6_r30_tale:=hT s_f6_r30 [156,157,158,159] [18] 160 [] [(18,(.op (.load false 1 (.t 0)) [(.op (.indexAddr 1 (.t 0) (.c (.s (.int .i64 0)))) [(.t 16),(.c (.s (.int .i64 0)))])]))] [.tt 16,.sub 0 [0] [],.sub 0 [] [],.sub 0 [] []] (by kernel_rfl) (by kernel_rfl)
def s_f6_r31:List AOper:=[
 ⟨some 160,(.move (.t 16)),none⟩,
 ⟨some 161,(.subSl 1 (.t 160) (some (.c (.s (.int .i64 1)))) none none),none⟩,
 ⟨some 16,(.move (.t 161)),none⟩]
def s_f6_r31_tale:=hT s_f6_r31 [160,161] [16] 162 [] [(16,(.op (.subSl 1 (.t 0) (some (.c (.s (.int .i64 1)))) none none) [(.t 16),(.c (.s (.int .i64 1)))]))] [.tt 16,.sub 0 [] [],.sub 0 [] []] (by kernel_rfl) (by kernel_rfl)
def s_f6_r32:List AOper:=[
 ⟨some 19,(.move (.c (.s (.int .i64 0)))),none⟩]
def s_f6_r32_tale:=hT s_f6_r32 [] [19] 20 [] [(19,(.c (.s (.int .i64 0))))] [.cc (.s (.int .i64 0))] (by kernel_rfl) (by kernel_rfl)
def s_f6_r33:List AOper:=[
 ⟨some 162,(.move (.t 19)),none⟩,
 ⟨some 163,(.move (.t 12)),none⟩,
 ⟨some 164,(.move (.t 18)),none⟩,
 ⟨some 165,(.indexAddr 1 (.t 163) (.t 164)),none⟩,
 ⟨some 166,(.load false 1 (.t 165)),none⟩,
 ⟨some 167,(.lenS .s (.t 166)),none⟩,
 ⟨some 168,(.bin .lss (.t 162) (.t 167)),none⟩]
def s_f6_r33_tale:=hT s_f6_r33 [162,163,164,165,166,167] [168] 169 [] [(168,(.op (.bin .lss (.t 0) (.t 1)) [(.t 19),(.op (.lenS .s (.t 0)) [(.op (.load false 1 (.t 0)) [(.op (.indexAddr 1 (.t 0) (.t 1)) [(.t 12),(.t 18)])])])]))] [.tt 19,.tt 12,.tt 18,.sub 0 [1,0,0] [],.sub 0 [1,0] [],.sub 0 [1] [],.sub 0 [] []] (by kernel_rfl) (by kernel_rfl)
def s_f6_r34:List AOper:=[
 ⟨some 171,(.move (.t 12)),none⟩,
 ⟨some 172,(.move (.t 18)),none⟩,
 ⟨some 173,(.indexAddr 1 (.t 171) (.t 172)),none⟩,
 ⟨some 174,(.load false 1 (.t 173)),none⟩,
 ⟨some 175,(.move (.t 19)),none⟩,
 ⟨some 176,(.indexAddr 1 (.t 174) (.t 175)),none⟩,
 ⟨some 177,(.load false 1 (.t 176)),none⟩,
 ⟨some 20,(.move (.t 177)),none⟩]
def s_f6_r34_tale:=hT s_f6_r34 [168,171,172,173,174,175,176,177] [20] 178 [] [(20,(.op (.load false 1 (.t 0)) [(.op (.indexAddr 1 (.t 0) (.t 1)) [(.op (.load false 1 (.t 0)) [(.op (.indexAddr 1 (.t 0) (.t 1)) [(.t 12),(.t 18)])]),(.t 19)])]))] [.tt 12,.tt 18,.sub 0 [0,0,0] [],.sub 0 [0,0] [],.tt 19,.sub 0 [0] [],.sub 0 [] [],.sub 0 [] []] (by kernel_rfl) (by kernel_rfl)
def s_f6_r35:List AOper:=[
 ⟨some 178,(.move (.t 20)),none⟩,
 ⟨some 179,(.bin .lss (.t 178) (.c (.s (.int .i64 0)))),none⟩,
 ⟨some 180,(.move (.t 179)),none⟩,
 ⟨some 181,(.move (.t 20)),some (180,false)⟩,
 ⟨some 182,(.move (.t 0)),some (180,false)⟩,
 ⟨some 183,(.lenS .s (.t 182)),some (180,false)⟩,
 ⟨some 184,(.bin .geq (.t 181) (.t 183)),some (180,false)⟩,
 ⟨some 185,(.pick (.t 180) (.c (.s (.bool true))) (.t 184)),none⟩]
def s_f6_r35_tale:=hT s_f6_r35 [178,179,180,181,182,183,184] [185] 186 [] [(185,(.pick (.op (.bin .lss (.t 0) (.c (.s (.int .i64 0)))) [(.t 20),(.c (.s (.int .i64 0)))]) (.c (.s (.bool true))) (.op (.bin .geq (.t 0) (.t 1)) [(.t 20),(.op (.lenS .s (.t 0)) [(.t 0)])])))] [.tt 20,.sub 0 [0] [],.sub 0 [0] [],.sub 0 [2,0] [180],.sub 0 [2,1,0] [180],.sub 0 [2,1] [180],.sub 0 [2] [180],.sub 0 [] []] (by kernel_rfl) (by kernel_rfl)
def s_f6_r36:List AOper:=[
 ⟨some 6,(.move (.c (.s (.bool false)))),none⟩]
def s_f6_r36_tale:=hT s_f6_r36 [0,7,12,13,14,15,16,17,18,19,20,185] [6] 7 [] [(6,(.c (.s (.bool false))))] [.cc (.s (.bool false))] (by kernel_rfl) (by kernel_rfl)
def s_f6_r37:List AOper:=[
 ⟨some 186,(.move (.t 15)),none⟩,
 ⟨some 187,(.move (.t 20)),none⟩,
 ⟨some 188,(.indexAddr 1 (.t 186) (.t 187)),none⟩,
 ⟨some 189,(.load false 1 (.t 188)),none⟩,
 ⟨some 190,(.move (.t 189)),none⟩,
 ⟨some 191,(.move (.t 13)),some (190,false)⟩,
 ⟨some 192,(.move (.t 20)),some (190,false)⟩,
 ⟨some 193,(.indexAddr 1 (.t 191) (.t 192)),some (190,false)⟩,
 ⟨some 194,(.load false 1 (.t 193)),some (190,false)⟩,
 ⟨some 195,(.un .not (.t 194)),some (190,false)⟩,
 ⟨some 196,(.pick (.t 190) (.c (.s (.bool true))) (.t 195)),none⟩]
def s_f6_r37_tale:=hT s_f6_r37 [185,186,187,188,189,190,191,192,193,194,195] [196] 197 [] [(196,(.pick (.op (.load false 1 (.t 0)) [(.op (.indexAddr 1 (.t 0) (.t 1)) [(.t 15),(.t 20)])]) (.c (.s (.bool true))) (.op (.un .not (.t 0)) [(.op (.load false 1 (.t 0)) [(.op (.indexAddr 1 (.t 0) (.t 1)) [(.t 13),(.t 20)])])])))] [.tt 15,.tt 20,.sub 0 [0,0] [],.sub 0 [0] [],.sub 0 [0] [],.sub 0 [2,0,0,0] [190],.sub 0 [2,0,0,1] [190],.sub 0 [2,0,0] [190],.sub 0 [2,0] [190],.sub 0 [2] [190],.sub 0 [] []] (by kernel_rfl) (by kernel_rfl)
def s_f6_r38t1:List AOper:=[⟨none,(.store 1 (.t 199) (.c (.s (.bool true)))),none⟩]
def s_f6_r38p0:List AOper:=[⟨some 197,(.move (.t 15)),none⟩,⟨some 198,(.move (.t 20)),none⟩,⟨some 199,(.indexAddr 1 (.t 197) (.t 198)),none⟩]
def s_f6_r38:List AOper:=s_f6_r38p0 ++ s_f6_r38t1
def s_f6_r38p0_tale:=hT s_f6_r38p0 [196,197,198] [199] 200 [] [(199,(.op (.indexAddr 1 (.t 0) (.t 1)) [(.t 15),(.t 20)]))] [.tt 15,.tt 20,.sub 0 [] []] (by kernel_rfl) (by kernel_rfl)
def s_f6_r38_x:=hS s_f6_r38 s_f6_r38p0 s_f6_r38t1 [196,197,198] [199] [196,197,198,199] rfl (by kernel_rfl)
def s_f6_r38t1_x:=hX s_f6_r38t1 [196,197,198,199] [⟨none,(.store 1 (.t 199) (.c (.s (.bool true)))),none⟩] rfl
def s_f6_r39:List AOper:=[
 ⟨some 200,(.move (.t 7)),none⟩,
 ⟨some 201,(.move (.t 20)),none⟩,
 ⟨some 202,(.indexAddr 1 (.t 200) (.t 201)),none⟩,
 ⟨some 203,(.load false 1 (.t 202)),none⟩]
def s_f6_r39_tale:=hT s_f6_r39 [200,201,202] [203] 204 [] [(203,(.op (.load false 1 (.t 0)) [(.op (.indexAddr 1 (.t 0) (.t 1)) [(.t 7),(.t 20)])]))] [.tt 7,.tt 20,.sub 0 [0] [],.sub 0 [] []] (by kernel_rfl) (by kernel_rfl)
def s_f6_r40:List AOper:=[
 ⟨some 204,(.move (.t 17)),none⟩,
 ⟨some 205,(.bin .add (.t 204) (.c (.s (.int .i64 1)))),none⟩,
 ⟨some 17,(.move (.t 205)),none⟩]
def s_f6_r40_tale:=hT s_f6_r40 [20,203,204,205] [17] 206 [] [(17,(.op (.bin .add (.t 0) (.c (.s (.int .i64 1)))) [(.t 17),(.c (.s (.int .i64 1)))]))] [.tt 17,.sub 0 [] [],.sub 0 [] []] (by kernel_rfl) (by kernel_rfl)
def s_f6_r41t3:List AOper:=[⟨some 16,(.move (.t 209)),none⟩]
def s_f6_r41p2:List AOper:=[⟨some 209,(.append 1 8 (.t 206) (.t 208)),none⟩]
def s_f6_r41t2:List AOper:=s_f6_r41p2 ++ s_f6_r41t3
def s_f6_r41p1:List AOper:=[⟨some 208,(.buildSl 1 1 [(.s (.int .i64 0))] [(0,(.t 207))]),none⟩]
def s_f6_r41t1:List AOper:=s_f6_r41p1 ++ s_f6_r41t2
def s_f6_r41p0:List AOper:=[⟨some 206,(.move (.t 16)),none⟩,⟨some 207,(.move (.t 20)),none⟩]
def s_f6_r41:List AOper:=s_f6_r41p0 ++ s_f6_r41t1
def s_f6_r41p0_tale:=hT s_f6_r41p0 [16,20,203] [206,207] 208 [] [(206,(.t 16)),(207,(.t 20))] [.tt 16,.tt 20] (by kernel_rfl) (by kernel_rfl)
def s_f6_r41_x:=hS s_f6_r41 s_f6_r41p0 s_f6_r41t1 [16,20,203] [206,207] [20,203,206,207,208,209] rfl (by kernel_rfl)
def s_f6_r41t1_x:=hO s_f6_r41t1 s_f6_r41p1 s_f6_r41t2 [207] [20,203,206,207,208,209] [⟨some 208,(.buildSl 1 1 [(.s (.int .i64 0))] [(0,(.t 207))]),none⟩] rfl rfl (by kernel_rfl)
def s_f6_r41t2_x:=hO s_f6_r41t2 s_f6_r41p2 s_f6_r41t3 [206,208] [20,203,206,207,208,209] [⟨some 209,(.append 1 8 (.t 206) (.t 208)),none⟩] rfl rfl (by kernel_rfl)
def s_f6_r41t3_tale:=hT s_f6_r41t3 [20,203,206,207,208,209] [16] 17 [] [(16,(.t 209))] [.tt 209] (by kernel_rfl) (by kernel_rfl)
def s_f6_r41t3_x:=hL s_f6_r41t3 [20,203,206,207,208,209] [16]
def s_f6_r42:List AOper:=[
 ⟨some 169,(.move (.t 19)),none⟩,
 ⟨some 170,(.bin .add (.t 169) (.c (.s (.int .i64 1)))),none⟩,
 ⟨some 19,(.move (.t 170)),none⟩]
def s_f6_r42_tale:=hT s_f6_r42 [20,169,170,196] [19] 171 [] [(19,(.op (.bin .add (.t 0) (.c (.s (.int .i64 1)))) [(.t 19),(.c (.s (.int .i64 1)))]))] [.tt 19,.sub 0 [] [],.sub 0 [] []] (by kernel_rfl) (by kernel_rfl)
def s_f6_l2_b:ACode:=
 (.seq (.seq (.regionE s_f6_r33 [162,163,164,165,166,167] [168])
 (.cond (.t 168)
 .skip
 (.exit 8)))
 (.seq (.block 9
 (.seq (.regionE s_f6_r34 [168,171,172,173,174,175,176,177] [20])
 (.seq (.seq (.regionE s_f6_r35 [178,179,180,181,182,183,184] [185])
 (.cond (.t 185)
 (.seq (.regionE s_f6_r36 [0,7,12,13,14,15,16,17,18,19,20,185] [6])
 .ret)
 .skip))
 (.seq (.seq (.regionE s_f6_r37 [185,186,187,188,189,190,191,192,193,194,195] [196])
 (.cond (.t 196)
 (.exit 9)
 .skip))
 (.seq (.region s_f6_r38 [] [196,197,198,199])
 (.seq (.regionE s_f6_r39 [200,201,202] [203])
 (.cond (.t 203)
 (.regionE s_f6_r40 [20,203,204,205] [17])
 (.region s_f6_r41 [] [20,203,206,207,208,209]))))))))
 (.regionE s_f6_r42 [20,169,170,196] [19])))
def s_f6_l2:ACode:=s_f6_l2_b
def s_f6_l2_ev:=hE s_f6_l2 s_f6_l2_b rfl
def s_f6_l3_b:ACode:=
 (.seq (.seq (.regionE s_f6_r29 [154,155] [156])
 (.cond (.t 156)
 .skip
 (.exit 6)))
 (.block 7
 (.seq (.regionE s_f6_r30 [156,157,158,159] [18])
 (.seq (.regionE s_f6_r31 [160,161] [16])
 (.seq (.regionE s_f6_r32 [] [19])
 (.block 8
 (.loop [] s_f6_l2)))))))
def s_f6_l3:ACode:=s_f6_l3_b
def s_f6_l3_ev:=hE s_f6_l3 s_f6_l3_b rfl
def s_f6_r43:List AOper:=[
 ⟨some 210,(.move (.t 17)),none⟩,
 ⟨some 211,(.bin .neq (.t 210) (.c (.s (.int .i64 1)))),none⟩]
def s_f6_r43_tale:=hT s_f6_r43 [15,16,17,156,210] [211] 212 [] [(211,(.op (.bin .neq (.t 0) (.c (.s (.int .i64 1)))) [(.t 17),(.c (.s (.int .i64 1)))]))] [.tt 17,.sub 0 [] []] (by kernel_rfl) (by kernel_rfl)
def s_f6_r44:List AOper:=[
 ⟨some 6,(.move (.c (.s (.bool false)))),none⟩]
def s_f6_r44_tale:=hT s_f6_r44 [0,7,12,13,14,211] [6] 7 [] [(6,(.c (.s (.bool false))))] [.cc (.s (.bool false))] (by kernel_rfl) (by kernel_rfl)
def s_f6_r45:List AOper:=[
 ⟨some 133,(.move (.t 14)),none⟩,
 ⟨some 134,(.bin .add (.t 133) (.c (.s (.int .i64 1)))),none⟩,
 ⟨some 14,(.move (.t 134)),none⟩]
def s_f6_r45_tale:=hT s_f6_r45 [133,134,145,211] [14] 135 [] [(14,(.op (.bin .add (.t 0) (.c (.s (.int .i64 1)))) [(.t 14),(.c (.s (.int .i64 1)))]))] [.tt 14,.sub 0 [] [],.sub 0 [] []] (by kernel_rfl) (by kernel_rfl)
def s_f6_l4_b:ACode:=
 (.seq (.seq (.regionE s_f6_r23 [129,130,131] [132])
 (.cond (.t 132)
 .skip
 (.exit 4)))
 (.seq (.block 5
 (.seq (.seq (.regionE s_f6_r24 [132,135,136,137,138,139,140,141,142,143,144] [145])
 (.cond (.t 145)
 (.exit 5)
 .skip))
 (.seq (.region s_f6_r25 [] [145,146,147,148])
 (.seq (.region s_f6_r26 [] [149,150])
 (.seq (.region s_f6_r27 [] [151,152,153])
 (.seq (.regionE s_f6_r28 [] [17])
 (.seq (.block 6
 (.loop [18,19,168] s_f6_l3))
 (.seq (.regionE s_f6_r43 [15,16,17,156,210] [211])
 (.cond (.t 211)
 (.seq (.regionE s_f6_r44 [0,7,12,13,14,211] [6])
 .ret)
 .skip)))))))))
 (.regionE s_f6_r45 [133,134,145,211] [14])))
def s_f6_l4:ACode:=s_f6_l4_b
def s_f6_l4_ev:=hE s_f6_l4 s_f6_l4_b rfl
def s_f6_r46t1:List AOper:=[⟨some 6,(.move (.t 212)),none⟩]
def s_f6_r46p0:List AOper:=[⟨some 212,(.call (.c (.fn 9 [] [])) []),none⟩]
def s_f6_r46:List AOper:=s_f6_r46p0 ++ s_f6_r46t1
def s_f6_r46_x:=hO s_f6_r46 s_f6_r46p0 s_f6_r46t1 [0,7,12,13,14,132] [0,7,12,13,14,132,212] [⟨some 212,(.call (.c (.fn 9 [] [])) []),none⟩] rfl rfl (by kernel_rfl)
def s_f6_r46t1_tale:=hT s_f6_r46t1 [0,7,12,13,14,132,212] [6] 7 [] [(6,(.t 212))] [.tt 212] (by kernel_rfl) (by kernel_rfl)
def s_f6_r46t1_x:=hL s_f6_r46t1 [0,7,12,13,14,132,212] [6]
def s_f6:ACFun:={ ntmps:=213,results:=[(.tmp 6)],body:=
 (.seq (.regionE s_f6_r0 s_f6_r0_k [])
 (.seq (.seq (.region s_f6_r1 [] [21,22,23,24,25,26,27,28,29,30,31,32,33,34,35,36,37,38,39,40,41])
 (.cond (.t 42)
 (.seq (.region s_f6_r2 [] [0,1,2,42,43])
 .ret)
 .skip))
 (.seq (.region s_f6_r3 [] [42,44,45,46])
 (.seq (.region s_f6_r4 [] [47,48,49])
 (.seq (.region s_f6_r5 [] [50,51,52,53])
 (.seq (.seq (.regionE s_f6_r6 [] [9])
 (.block 0
 (.loop [] s_f6_l0)))
 (.seq (.region s_f6_r11 [] [2,8,9,57,80,81,82,83,84])
 (.seq (.seq (.regionE s_f6_r12 [] [11])
 (.block 2
 (.loop [] s_f6_l1)))
 (.seq (.region s_f6_r18 [] [10,11,88,111,112])
 (.seq (.region s_f6_r19 [] [1,113,114,115,116])
 (.seq (.seq (.regionE s_f6_r20 [117,118,119,120,121,122,123,124,125,126,127] [128])
 (.cond (.t 128)
 (.seq (.regionE s_f6_r21 [0,7,12,13,128] [6])
 .ret)
 .skip))
 (.seq (.seq (.regionE s_f6_r22 [128] [14])
 (.block 4
 (.loop [] s_f6_l4)))
 (.seq (.region s_f6_r46 [] [0,7,12,13,14,132,212])
 .ret))))))))))))) }
def a_f6:=ai @s_f6_r0_tale (ai @s_f6_r0_kT (ai @s_f6_r0_kA0 (ai @s_f6_r0_kA1 (ai @s_f6_r0_kA2 (ai @s_f6_r1p0_tale (ai @s_f6_r1_x (ai @s_f6_r1t1_x (ai @s_f6_r1t2_tale (ai @s_f6_r1t2_x (ai @s_f6_r2_x (ai @s_f6_r2t1_tale (ai @s_f6_r2t1_x (ai @s_f6_r3p0_tale (ai @s_f6_r3_x (ai @s_f6_r3t1_x (ai @s_f6_r3t2_tale (ai @s_f6_r3t2_x (ai @s_f6_r4p0_tale (ai @s_f6_r4_x (ai @s_f6_r4t1_x (ai @s_f6_r5p0_tale (ai @s_f6_r5_x (ai @s_f6_r5t1_x (ai @s_f6_r5p2_tale (ai @s_f6_r5t2_x (ai @s_f6_r5t3_x (ai @s_f6_r5t4_tale (ai @s_f6_r5t4_x (ai @s_f6_r6_tale (ai @s_f6_r7_tale (ai @s_f6_r8_tale (ai @s_f6_r9p0_tale (ai @s_f6_r9_x (ai @s_f6_r9t1_x (ai @s_f6_r10_tale (ai @s_f6_l0_ev (ai @s_f6_r11p0_tale (ai @s_f6_r11_x (ai @s_f6_r11t1_x (ai @s_f6_r11p2_tale (ai @s_f6_r11t2_x (ai @s_f6_r11t3_x (ai @s_f6_r11t4_tale (ai @s_f6_r11t4_x (ai @s_f6_r12_tale (ai @s_f6_r13_tale (ai @s_f6_r14_tale (ai @s_f6_r15_tale (ai @s_f6_r16p0_tale (ai @s_f6_r16_x (ai @s_f6_r16t1_x (ai @s_f6_r17_tale (ai @s_f6_l1_ev (ai @s_f6_r18p0_tale (ai @s_f6_r18_x (ai @s_f6_r18t1_x (ai @s_f6_r18t2_tale (ai @s_f6_r18t2_x (ai @s_f6_r19p0_tale (ai @s_f6_r19_x (ai @s_f6_r19t1_x (ai @s_f6_r19t2_x (ai @s_f6_r19t3_tale (ai @s_f6_r19t3_x (ai @s_f6_r20_tale (ai @s_f6_r21_tale (ai @s_f6_r22_tale (ai @s_f6_r23_tale (ai @s_f6_r24_tale (ai @s_f6_r25p0_tale (ai @s_f6_r25_x (ai @s_f6_r25t1_x (ai @s_f6_r25t2_tale (ai @s_f6_r25t2_x (ai @s_f6_r26p0_tale (ai @s_f6_r26_x (ai @s_f6_r26t1_x (ai @s_f6_r26t2_tale (ai @s_f6_r26t2_x (ai @s_f6_r27p0_tale (ai @s_f6_r27_x (ai @s_f6_r27t1_x (ai @s_f6_r28_tale (ai @s_f6_r29_tale (ai @s_f6_r30_tale (ai @s_f6_r31_tale (ai @s_f6_r32_tale (ai @s_f6_r33_tale (ai @s_f6_r34_tale (ai @s_f6_r35_tale (ai @s_f6_r36_tale (ai @s_f6_r37_tale (ai @s_f6_r38p0_tale (ai @s_f6_r38_x (ai @s_f6_r38t1_x (ai @s_f6_r39_tale (ai @s_f6_r40_tale (ai @s_f6_r41p0_tale (ai @s_f6_r41_x (ai @s_f6_r41t1_x (ai @s_f6_r41t2_x (ai @s_f6_r41t3_tale (ai @s_f6_r41t3_x (ai @s_f6_r42_tale (ai @s_f6_l2_ev (ai @s_f6_l3_ev (ai @s_f6_r43_tale (ai @s_f6_r44_tale (ai @s_f6_r45_tale (ai @s_f6_l4_ev (ai @s_f6_r46_x (ai @s_f6_r46t1_tale (@s_f6_r46t1_x)))))))))))))))))))))))))))))))))))))))))))))))))))))))))))))))))))))))))))))))))))))))))))))))))))))))))))))))))
theorem DA6_6:compK Try.prog PX0 6=some (false,s_f6.ntmps,s_f6.results,s_f6.body.bare):=by kernel_rfl
end Go.Proofs.Ytdmnenlpdeolaaa
set_option maxRecDepth 100000
namespace Go.Proofs.Ytdmnenlpdeolaaa
open Go.AM
section
variable {CT:Nat→Option CFun}
theorem it_l0 (base:Nat) {A:Heap} {j5 j6:Nat} {v lv:V} {F:List (List Int)} {l:List Int} (hb:base≤A.length) (hv:RdRows A v (rowsV F)) (hl:Rd A lv (l.map iV)) (hlw:Wide1 lv) (hll:l.length < 2 ^ 40) {L:Nat} (h5:j5 < L) (h6:j6 < L) {H:Heap} (hs:IS A H j5 j6 [] []):
 ∃ H',itW (evC (callW CT) itW base s_f19_l0) [] L (frOf 72 [(0,v),(5,.mp j5),(6,.mp j6),(14,lv),(15,.s (.int .i64 l.length)),(16,.s (.int .i64 0))]) H=some (.ext 0,frOf 72 [(0,v),(5,.mp j5),(6,.mp j6),(14,lv),(15,.s (.int .i64 l.length)),(16,.s (.int .i64 l.length)),(17,bl false)],H')∧IS A H' j5 j6 [] (begW F.length l):=by
 have hvl:=rows_lenV hv
 obtain ⟨H',e1,a1⟩:=it_rel l.length (fun i (C:Heap)=>IS A C j5 j6 [] ((l.take i).foldl (fun W x=>if InR F.length x then putK W x else W) [])) (fun i C=>itW (evC (callW CT) itW base s_f19_l0) [] L (frOf 72 [(0,v),(5,.mp j5),(6,.mp j6),(14,lv),(15,.s (.int .i64 l.length)),(16,.s (.int .i64 i))]) C) (by
  intro i C hi hC
  have hlt':(i:Int) < (l.length:Int):=by omega
  have hwk:=w64 (n:=i) (by omega)
  have hgi:=some_getD hi (0:Int)
  obtain ⟨a,x1,x2⟩:=iV_get (hl.ext hC.ext) hlw hi
  rw [take_snoc hgi,List.foldl_append]
  obtain ⟨W,hW⟩:∃ W,(l.take i).foldl (fun W x=>if InR F.length x then putK W x else W) []=W:=⟨_,rfl⟩
  rw [hW] at hC ⊢
  obtain ⟨x,hx⟩:∃ x,l.getD i 0=x:=⟨_,rfl⟩
  rw [hx] at x2 ⊢
  show ∃ C',_∧IS A C' j5 j6 [] (if InR F.length x then putK W x else W)
  by_cases h0:0≤x
  ·by_cases h1:x < (F.length:Int)
   ·have hp:=put_k (base:=base) (by have:=hC.a6;omega) hC.m6 x
    rw [if_pos ⟨h0,h1⟩]
    refine ⟨_,?_,(hC.set6 _).trim h5 h6 (frOf 72 [(0,v),(5,.mp j5),(6,.mp j6),(14,lv),(15,.s (.int .i64 l.length)),(16,.s (.int .i64 (i+1:Nat)))])⟩
    rw [itW_step]
    simp only [a_f19,s_f19_l0_b,s_f19_l1_b,s_f19_l2_b,aa,bl,i64,reduceIte,reduceCtorEq,Nat.reduceEqDiff,Nat.reduceLT,Nat.reduceLeDiff,Nat.reduceBEq,Nat.reduceAdd,fillA,splice,Nat.reduceMul,amY,op_eqP,hlt',hwk,x1,x2,hvl,ge_iff_le,h0,h1,op_mapUpd,hp]
   ·rw [if_neg (fun k=>h1 k.2)]
    refine ⟨_,?_,hC.trim h5 h6 (frOf 72 [(0,v),(5,.mp j5),(6,.mp j6),(14,lv),(15,.s (.int .i64 l.length)),(16,.s (.int .i64 (i+1:Nat)))])⟩
    rw [itW_step]
    simp only [a_f19,s_f19_l0_b,s_f19_l1_b,s_f19_l2_b,aa,bl,i64,reduceIte,reduceCtorEq,Nat.reduceEqDiff,Nat.reduceLT,Nat.reduceLeDiff,Nat.reduceBEq,Nat.reduceAdd,fillA,splice,Nat.reduceMul,amY,op_eqP,hlt',hwk,x1,x2,hvl,ge_iff_le,h0,h1]
  ·rw [if_neg (fun k=>h0 k.1)]
   refine ⟨_,?_,hC.trim h5 h6 (frOf 72 [(0,v),(5,.mp j5),(6,.mp j6),(14,lv),(15,.s (.int .i64 l.length)),(16,.s (.int .i64 (i+1:Nat)))])⟩
   rw [itW_step]
   simp only [a_f19,s_f19_l0_b,s_f19_l1_b,s_f19_l2_b,aa,bl,i64,reduceIte,reduceCtorEq,Nat.reduceEqDiff,Nat.reduceLT,Nat.reduceLeDiff,Nat.reduceBEq,Nat.reduceAdd,fillA,splice,Nat.reduceMul,amY,op_eqP,hlt',hwk,x1,x2,hvl,ge_iff_le,h0]) 0 H (Nat.zero_le _) hs
 rw [cast0] at e1
 rw [List.take_length] at a1
 refine ⟨_,e1.trans ?_,a1.trim h5 h6 (frOf 72 [(0,v),(5,.mp j5),(6,.mp j6),(14,lv),(15,.s (.int .i64 l.length)),(16,.s (.int .i64 l.length)),(17,bl false)])⟩
 rw [itW_step]
 simp only [a_f19,s_f19_l0_b,s_f19_l1_b,s_f19_l2_b,aa,bl,i64,reduceIte,reduceCtorEq,Nat.reduceEqDiff,Nat.reduceLT,Nat.reduceLeDiff,Nat.reduceBEq,Nat.reduceAdd,fillA,splice,Nat.reduceMul,amY,op_eqP,Int.lt_irrefl,bl]
theorem it_l1 (base:Nat) {A:Heap} {j5 j6:Nat} {v rv:V} {F:List (List Int)} {l row:List Int} {x:Int} (hb:base≤A.length) (hv:RdRows A v (rowsV F)) (hx:InR F.length x) (hxl:x∈l∨ItR F l x) (hrow:F.getD x.toNat []=row) (hl:Rd A rv (row.map iV)) (hlw:Wide1 rv) (hll:row.length < 2 ^ 40) {L:Nat} (h5:j5 < L) (h6:j6 < L) {H:Heap} {I W:List Int} (hs:IS A H j5 j6 I W) (hst:StI F l x [] I W):
 ∃ H' I' W',itW (evC (callW CT) itW base s_f19_l1) [] L (frOf 72 [(0,v),(5,.mp j5),(6,.mp j6),(44,rv),(45,.s (.int .i64 row.length)),(46,.s (.int .i64 0))]) H=some (.ext 4,frOf 72 [(0,v),(5,.mp j5),(6,.mp j6),(44,rv),(45,.s (.int .i64 row.length)),(46,.s (.int .i64 row.length)),(47,bl false)],H')∧IS A H' j5 j6 I' W'∧RdI F l I' W'∧2 * (F.length - I'.length)+W'.length≤2 * (F.length - I.length)+W.length:=by
 have hvl:=rows_lenV hv
 obtain ⟨⟨H',I',W'⟩,e1,a1,a2,a3⟩:=it_rel row.length (fun i (s:Heap × List Int × List Int)=>IS A s.1 j5 j6 s.2.1 s.2.2∧StI F l x (row.take i) s.2.1 s.2.2∧2 * (F.length - s.2.1.length)+s.2.2.length≤2 * (F.length - I.length)+W.length) (fun i s=>itW (evC (callW CT) itW base s_f19_l1) [] L (frOf 72 [(0,v),(5,.mp j5),(6,.mp j6),(44,rv),(45,.s (.int .i64 row.length)),(46,.s (.int .i64 i))]) s.1) (by
  rintro i ⟨C,I,W⟩ hi ⟨hC,hS,hM⟩
  simp only at hC hS hM
  have hlt':(i:Int) < (row.length:Int):=by omega
  have hwk:=w64 (n:=i) (by omega)
  have hgi:=some_getD hi (0:Int)
  obtain ⟨a,x1,x2⟩:=iV_get (hl.ext hC.ext) hlw hi
  rw [take_snoc hgi]
  obtain ⟨y,hy⟩:∃ y,row.getD i 0=y:=⟨_,rfl⟩
  rw [hy] at x2 hgi ⊢
  obtain ⟨s1,s2⟩:=st_step hx hxl hS (y:=y) (by rw [hrow];exact List.mem_of_getElem? hgi)
  unfold stp at s1 s2
  simp only at s1 s2
  by_cases h0:0≤y
  ·by_cases h1:y < (F.length:Int)
   ·have hg:=get_k hC.m5 y
    by_cases h2:y∈I
    ·rw [if_neg (fun k=>k.2 h2)] at s1 s2
     rw [decide_eq_true h2] at hg
     refine ⟨⟨Go.AM.trim L (frOf 72 [(0,v),(5,.mp j5),(6,.mp j6),(44,rv),(45,.s (.int .i64 row.length)),(46,.s (.int .i64 (i+1:Nat)))]) C,I,W⟩,?_,hC.trim h5 h6 (frOf 72 [(0,v),(5,.mp j5),(6,.mp j6),(44,rv),(45,.s (.int .i64 row.length)),(46,.s (.int .i64 (i+1:Nat)))]),s1,by simp only;omega⟩
     rw [itW_step]
     simp only [a_f19,s_f19_l0_b,s_f19_l1_b,s_f19_l2_b,aa,bl,i64,reduceIte,reduceCtorEq,Nat.reduceEqDiff,Nat.reduceLT,Nat.reduceLeDiff,Nat.reduceBEq,Nat.reduceAdd,fillA,splice,Nat.reduceMul,amY,op_eqP,hlt',hwk,x1,x2,hvl,ge_iff_le,h0,h1,hg]
    ·rw [if_pos ⟨⟨h0,h1⟩,h2⟩] at s1 s2
     rw [decide_eq_false h2] at hg
     have hp5:=put_k (base:=base) (by have:=hC.a5;omega) hC.m5 y
     have hI:putK I y=I ++ [y]:=by unfold putK;rw [if_neg h2]
     rw [hI] at hp5
     have hC5:=hC.set5 (I ++ [y])
     have hp6:=put_k (base:=base) (by have:=hC.a6;omega) hC5.m6 y
     refine ⟨⟨Go.AM.trim L (frOf 72 [(0,v),(5,.mp j5),(6,.mp j6),(44,rv),(45,.s (.int .i64 row.length)),(46,.s (.int .i64 (i+1:Nat)))]) ((C.set j5 (setM (I ++ [y]))).set j6 (setM (putK W y))),I ++ [y],putK W y⟩,?_,(hC5.set6 (putK W y)).trim h5 h6 (frOf 72 [(0,v),(5,.mp j5),(6,.mp j6),(44,rv),(45,.s (.int .i64 row.length)),(46,.s (.int .i64 (i+1:Nat)))]),s1,by simp only at s2 ⊢;omega⟩
     rw [itW_step]
     simp only [a_f19,s_f19_l0_b,s_f19_l1_b,s_f19_l2_b,aa,bl,i64,reduceIte,reduceCtorEq,Nat.reduceEqDiff,Nat.reduceLT,Nat.reduceLeDiff,Nat.reduceBEq,Nat.reduceAdd,fillA,splice,Nat.reduceMul,amY,op_eqP,hlt',hwk,x1,x2,hvl,ge_iff_le,h0,h1,hg,op_mapUpd,hp5,hp6]
   ·rw [if_neg (fun k=>h1 k.1.2)] at s1 s2
    refine ⟨⟨Go.AM.trim L (frOf 72 [(0,v),(5,.mp j5),(6,.mp j6),(44,rv),(45,.s (.int .i64 row.length)),(46,.s (.int .i64 (i+1:Nat)))]) C,I,W⟩,?_,hC.trim h5 h6 (frOf 72 [(0,v),(5,.mp j5),(6,.mp j6),(44,rv),(45,.s (.int .i64 row.length)),(46,.s (.int .i64 (i+1:Nat)))]),s1,by simp only;omega⟩
    rw [itW_step]
    simp only [a_f19,s_f19_l0_b,s_f19_l1_b,s_f19_l2_b,aa,bl,i64,reduceIte,reduceCtorEq,Nat.reduceEqDiff,Nat.reduceLT,Nat.reduceLeDiff,Nat.reduceBEq,Nat.reduceAdd,fillA,splice,Nat.reduceMul,amY,op_eqP,hlt',hwk,x1,x2,hvl,ge_iff_le,h0,h1]
  ·rw [if_neg (fun k=>h0 k.1.1)] at s1 s2
   refine ⟨⟨Go.AM.trim L (frOf 72 [(0,v),(5,.mp j5),(6,.mp j6),(44,rv),(45,.s (.int .i64 row.length)),(46,.s (.int .i64 (i+1:Nat)))]) C,I,W⟩,?_,hC.trim h5 h6 (frOf 72 [(0,v),(5,.mp j5),(6,.mp j6),(44,rv),(45,.s (.int .i64 row.length)),(46,.s (.int .i64 (i+1:Nat)))]),s1,by simp only;omega⟩
   rw [itW_step]
   simp only [a_f19,s_f19_l0_b,s_f19_l1_b,s_f19_l2_b,aa,bl,i64,reduceIte,reduceCtorEq,Nat.reduceEqDiff,Nat.reduceLT,Nat.reduceLeDiff,Nat.reduceBEq,Nat.reduceAdd,fillA,splice,Nat.reduceMul,amY,op_eqP,hlt',hwk,x1,x2,hvl,ge_iff_le,h0]) 0 ⟨H,I,W⟩ (Nat.zero_le _) ⟨hs,hst,Nat.le_refl _⟩
 rw [cast0] at e1
 simp only [List.take_length] at a1 a2 a3 e1
 rw [← hrow] at a2
 refine ⟨_,I',W',e1.trans ?_,a1.trim h5 h6 (frOf 72 [(0,v),(5,.mp j5),(6,.mp j6),(44,rv),(45,.s (.int .i64 row.length)),(46,.s (.int .i64 row.length)),(47,bl false)]),rd_done a2,a3⟩
 rw [itW_step]
 simp only [a_f19,s_f19_l0_b,s_f19_l1_b,s_f19_l2_b,aa,bl,i64,reduceIte,reduceCtorEq,Nat.reduceEqDiff,Nat.reduceLT,Nat.reduceLeDiff,Nat.reduceBEq,Nat.reduceAdd,fillA,splice,Nat.reduceMul,amY,op_eqP,Int.lt_irrefl,bl]
end
end Go.Proofs.Ytdmnenlpdeolaaa
set_option maxRecDepth 100000
namespace Go.Proofs.Ytdmnenlpdeolaaa
open Go.AM
theorem keyOk_in {n:Nat} (hn:n < 2 ^ 40) {x:Int} (h:InR n x):keyOkZ x=true:=by
 have h1:=h.1
 have h2:=h.2
 unfold keyOkZ
 rw [Bool.and_eq_true,decide_eq_true_iff,decide_eq_true_iff]
 omega
section
variable {CT:Nat→Option CFun}
structure CI (CT:Nat→Option CFun):Prop where
 it:CT k_f19=some (.code s_f19)
 keys:CT k_f37=some (.code s_f37)
 sorted:CT k_f36=some (.prim (sortedG k_f49))
theorem it_l2 (h:CI CT) (base:Nat) {A:Heap} {j5 j6:Nat} {v:V} {F:List (List Int)} {l:List Int} (hb:base≤A.length) (hv:RdRows A v (rowsV F)) (hn:F.length < 2 ^ 39) (hr:∀ r∈F,r.length < 2 ^ 40) {L:Nat} (h5:j5 < L) (h6:j6 < L):
 ∀ (m:Nat) (I W:List Int) (H:Heap),2 * (F.length - I.length)+W.length≤m→IS A H j5 j6 I W→RdI F l I W→
 ∃ H' I',itW (evC (callW CT) itW base s_f19_l2) [14,15,16,17,44,45,46,47] L (frOf 72 [(0,v),(5,.mp j5),(6,.mp j6)]) H=some (.ext 2,frOf 72 [(0,v),(5,.mp j5),(6,.mp j6),(33,bl false)],H')∧IS A H' j5 j6 I' []∧RdI F l I' []:=by
 intro m
 induction m with
 | zero=>
   intro I W H hm hs hI
   have hW:W=[]:=List.eq_nil_of_length_eq_zero (by omega)
   subst hW
   have hl:=len_k hs.m6
   refine ⟨_,I,?_,hs.trim h5 h6 (frOf 72 [(0,v),(5,.mp j5),(6,.mp j6),(33,bl false)]),hI⟩
   rw [itW_step]
   simp only [a_f19,s_f19_l0_b,s_f19_l1_b,s_f19_l2_b,aa,bl,i64,reduceIte,reduceCtorEq,Nat.reduceEqDiff,Nat.reduceLT,Nat.reduceLeDiff,Nat.reduceBEq,Nat.reduceAdd,fillA,splice,Nat.reduceMul,amY,op_eqP,hl,bl,List.length_nil,cast0,gt_iff_lt,Int.lt_irrefl]
 | succ m ih=>
   intro I W H hm hs hI
   have hl:=len_k hs.m6
   by_cases hW:W.length=0
   ·have hW:W=[]:=List.eq_nil_of_length_eq_zero hW
    subst hW
    refine ⟨_,I,?_,hs.trim h5 h6 (frOf 72 [(0,v),(5,.mp j5),(6,.mp j6),(33,bl false)]),hI⟩
    rw [itW_step]
    simp only [a_f19,s_f19_l0_b,s_f19_l1_b,s_f19_l2_b,aa,bl,i64,reduceIte,reduceCtorEq,Nat.reduceEqDiff,Nat.reduceLT,Nat.reduceLeDiff,Nat.reduceBEq,Nat.reduceAdd,fillA,splice,Nat.reduceMul,amY,op_eqP,hl,bl,List.length_nil,cast0,gt_iff_lt,Int.lt_irrefl]
   ·have hWl:=nodup_len hI.inv.nW (fun x hx=>(hI.inv.rW x hx).1)
    have hpos:(0:Int) < (W.length:Int):=by omega
    have hk:=keys_fun h.keys base H j6
    have hsd:=sorted_fun h.sorted base hs.m6 (fun k hk=>keyOk_in (by omega) (hI.inv.rW k hk).1) (by omega)
    rw [if_neg hW] at hsd
    have hsl:(sortI W).length=W.length:=(sortI_perm W).length_eq
    have hx0:(sortI W)[0]?=some ((sortI W).getD 0 0):=some_getD (by omega) 0
    obtain ⟨x,hx⟩:∃ x,(sortI W).getD 0 0=x:=⟨_,rfl⟩
    rw [hx] at hx0
    have hxW:x∈W:=sortI_mem.1 (List.mem_of_getElem? hx0)
    obtain ⟨hxr,hxl⟩:=hI.inv.rW x hxW
    obtain ⟨k,hkx⟩:=Int.eq_ofNat_of_zero_le hxr.1
    subst hkx
    have hkn:k < F.length:=by have:=hxr.2;omega
    obtain ⟨s1,s2⟩:=rd_pick hI hxW
    have hgc:getC (H ++ [.cells 0 [.mp j6]] ++ [.cells 0 ((sortI W).map iV)]) (H.length+1) 0=some ((sortI W).map iV):=by
     have:=getC_new (H ++ [Ob.cells 0 [.mp j6]]) 0 ((sortI W).map iV)
     rwa [len_snoc] at this
    obtain ⟨y1,y2⟩:=at_sl hgc (n:=W.length) (j:=0) (by omega) (w:=iV (k:Int)) (by rw [List.getElem?_map,hx0];rfl)
    have hs2:=(hs.app [.cells 0 [.mp j6]]).app [.cells 0 ((sortI W).map iV)]
    have hdl:=del_k (base:=base) (by have:=hs.a6;omega) hs2.m6 hxW
    have hs3:=hs2.set6 (W.erase k)
    have e2:∀ ob ob2:Ob,(H ++ [ob] ++ [ob2]).length=H.length+2:=fun ob ob2=>by simp
    obtain ⟨H3,hH3⟩:∃ H3,(H ++ [Ob.cells 0 [.mp j6]] ++ [Ob.cells 0 ((sortI W).map iV)]).set j6 (setM (W.erase k))=H3:=⟨_,rfl⟩
    have hl3:H3.length=H.length+2:=by rw [← hH3,List.length_set];exact e2 _ _
    rw [hH3] at hdl hs3
    obtain ⟨ra,rv,r1,r2,r3,r4⟩:=rows_ext hv (rowsV_get (some_getD hkn []))
    have r5:=r4 _ hs3.ext
    have hrl:=iV_len (r2.ext hs3.ext)
    have hgd:F.getD ((k:Nat):Int).toNat []=F.getD k []:=by rw [Int.toNat_natCast]
    obtain ⟨H4,I',W',l1,l2,l3,l4⟩:=it_l1 (CT:=CT) base hb hv hxr hxl hgd r2 r3 (hr _ (List.mem_of_getElem? (some_getD hkn []))) (L:=H.length+2) (by have:=hs.lt;omega) (by have:=hs.lt;omega) hs3 s1
    obtain ⟨H',I2,q1,q2,q3⟩:=ih I' W' (Go.AM.trim L (frOf 72 [(0,v),(5,.mp j5),(6,.mp j6)]) H4) (by omega) (l2.trim h5 h6 _) l3
    refine ⟨H',I2,?_,q2,q3⟩
    simp only [cast0] at y1 y2
    simp only [bl] at l1
    simp only [iV] at y2
    rw [itW_step]
    simp only [a_f19,s_f19_l0_b,s_f19_l1_b,s_f19_l2_b,aa,bl,i64,reduceIte,reduceCtorEq,Nat.reduceEqDiff,Nat.reduceLT,Nat.reduceLeDiff,Nat.reduceBEq,Nat.reduceAdd,fillA,splice,Nat.reduceMul,amY,op_eqP,hl,gt_iff_lt,hpos,hk,hsd,y1,y2,op_delete,hdl,r1,r5,hrl,hl3,l1]
    exact q1
theorem iterate_own (h:CI CT) (base:Nat) (A:Heap) {v lv:V} {F:List (List Int)} {l:List Int} (hb:base≤A.length) (hv:RdRows A v (rowsV F)) (hl:Rd A lv (l.map iV)) (hlw:Wide1 lv) (hll:l.length < 2 ^ 40) (hn:F.length < 2 ^ 39) (hr:∀ r∈F,r.length < 2 ^ 40):
 ∃ (v':V) (H':Heap) (Z:List Int),callW CT (.fn k_f19 [] []) [v,lv] base A=some (v',H')∧Ext A H'∧OwnN A.length H' v' (Z.map iV)∧Up Z∧∀ y,y∈Z↔ItR F l y:=by
 have hs0:IS A (A ++ [setM []] ++ [setM []]) A.length (A.length+1) [] []:=by
  refine ⟨(Ext.app _ _).trans (Ext.app _ _),by omega,by omega,by omega,?_,?_⟩
  ·simp
  ·have:(A ++ [setM []]).length=A.length+1:=by simp
   rw [← this,List.getElem?_concat_length]
 have hm0:setM []=.map []:=rfl
 have e2:∀ ob ob2:Ob,(A ++ [ob] ++ [ob2]).length=A.length+2:=fun ob ob2=>by simp
 have hll2:∀ H',Ext A H'→xLen H' .s lv=some (.s (.int .i64 l.length)):=fun H' e=>iV_len (hl.ext e)
 obtain ⟨H1,p1,p2⟩:=it_l0 (CT:=CT) base hb hv hl hlw hll (L:=A.length+2) (by omega) (by omega) hs0
 obtain ⟨H2,I,q1,q2,q3⟩:=it_l2 h base hb hv hn hr (L:=H1.length) p2.lt.1 p2.lt.2 _ [] (begW F.length l) H1 (Nat.le_refl _) p2 (rd_beg F l)
 have hIr:∀ x∈I,InR F.length x:=fun x hx=>itR_in (q3.inv.rI x hx)
 have hIl:=nodup_len q3.inv.nI hIr
 have hk:=keys_fun h.keys base H2 A.length
 have hsd:=sorted_fun h.sorted base q2.m5 (fun k hk=>keyOk_in (by omega) (hIr k hk)) (by omega)
 have hend:∀ y,y∈sortI I↔ItR F l y:=fun y=>by rw [sortI_mem];exact rd_end q3 y
 have hup:=sortI_up q3.inv.nI
 have hx:=hll2 _ hs0.ext
 rw [hm0] at hx p1
 simp only [bl] at p1 q1
 by_cases hI:I.length=0
 ·rw [if_pos hI] at hsd
  have hI2:I=[]:=List.eq_nil_of_length_eq_zero hI
  refine ⟨nilS,H2 ++ [.cells 0 [.mp A.length]],sortI I,callW_fn (c:=s_f19) h.it (by simp [s_f19]) ?_,q2.ext.trans (Ext.app _ _),.inl ⟨by rw [hI2];rfl,.inl rfl⟩,hup,hend⟩
  simp only [nilS] at hsd
  simp only [s_f19,a_f19,s_f19_l0_b,s_f19_l1_b,s_f19_l2_b,aa,bl,i64,reduceIte,reduceCtorEq,Nat.reduceEqDiff,Nat.reduceLT,Nat.reduceLeDiff,Nat.reduceBEq,Nat.reduceAdd,fillA,splice,Nat.reduceMul,amY,op_eqP,op_mapNew,len_snoc,e2,hx,p1,q1,hk,hsd,nilS]
 ·rw [if_neg hI] at hsd
  have hgc:=getC_new (H2 ++ [Ob.cells 0 [.mp A.length]]) 0 ((sortI I).map iV)
  rw [len_snoc] at hgc
  have hrd:OwnN A.length (H2 ++ [Ob.cells 0 [.mp A.length]] ++ [Ob.cells 0 ((sortI I).map iV)]) (.sl (H2.length+1) 0 0 I.length 1) ((sortI I).map iV):=.inr ⟨H2.length+1,0,(sortI I).map iV,by rw [List.length_map,(sortI_perm I).length_eq],hgc,Nat.le_refl _,List.take_length,by have:=q2.ext.le;omega⟩
  refine ⟨_,_,sortI I,callW_fn (c:=s_f19) h.it (by simp [s_f19]) ?_,(q2.ext.trans (Ext.app _ [.cells 0 [.mp A.length]])).trans (Ext.app _ [.cells 0 ((sortI I).map iV)]),hrd,hup,hend⟩
  simp only [s_f19,a_f19,s_f19_l0_b,s_f19_l1_b,s_f19_l2_b,aa,bl,i64,reduceIte,reduceCtorEq,Nat.reduceEqDiff,Nat.reduceLT,Nat.reduceLeDiff,Nat.reduceBEq,Nat.reduceAdd,fillA,splice,Nat.reduceMul,amY,op_eqP,op_mapNew,len_snoc,e2,hx,p1,q1,hk,hsd]
end
end Go.Proofs.Ytdmnenlpdeolaaa
set_option maxRecDepth 100000
namespace Go.Proofs.Ytdmnenlpdeolaaa
open Go.AM
section
variable {CT:Nat→Option CFun}
end
end Go.Proofs.Ytdmnenlpdeolaaa
set_option maxRecDepth 100000
namespace Go.Proofs.Ytdmnenlpdeolaaa
open Go.AM
section
variable {CT:Nat→Option CFun}
end
end Go.Proofs.Ytdmnenlpdeolaaa
set_option maxRecDepth 100000
namespace Go.Proofs.Ytdmnenlpdeolaaa
open Go.AM
def obB (B:List Bool):Ob:=.cells 0 (B.map bV)
theorem foldl_succ {α β:Type} (f:β→α→β) (s:β) (l:List α) (i:Nat) {x:α} (hx:l[i]?=some x):(l.take (i+1)).foldl f s=f ((l.take i).foldl f s) x:=by
 rw [List.take_succ,hx,List.foldl_append]
 rfl
theorem bA_at {H:Heap} {id n:Nat} {B:List Bool} (h:getC H id 0=some (B.map bV)) {k:Nat} (hk:k < n) (hn:B.length=n):xIndexAddr 1 (.sl id 0 0 n 1) (.s (.int .i64 k))=some (.ref id 0 k)∧xLoad H false 1 (.ref id 0 k)=some (.s (.bool (B.getD k false))):=
 at_sl h hk (by rw [List.getElem?_map,some_getD (l:=B) (by omega) false];rfl)
theorem bA_set {H:Heap} {id n base:Nat} {B:List Bool} (h:getC H id 0=some (B.map bV)) (hb:base≤id) {k:Nat} (hk:k < n) (hn:B.length=n):storeV H base 1 (.s (.bool true)) (.ref id 0 k)=some (H.set id (obB (B.set k true))):=by
 have:=storeV_at (v:=.s (.bool true)) h hb rfl (off:=k) (by rw [List.length_map];omega)
 rw [this,obB,List.map_set]
 rfl
def hh1 (A:Heap) (B:List Bool):Heap:=A ++ [obB B]
def hh2 (A:Heap) (B N:List Bool):Heap:=A ++ [obB B] ++ [obB N]
theorem hh1_len (A:Heap) (B:List Bool):(hh1 A B).length=A.length+1:=by simp [hh1]
theorem hh1_ext (A:Heap) (B:List Bool):Ext A (hh1 A B):=Ext.app _ _
theorem hh1_get (A:Heap) (B:List Bool):getC (hh1 A B) A.length 0=some (B.map bV):=getC_new A 0 _
theorem hh1_set (A:Heap) (B X:List Bool):(hh1 A B).set A.length (obB X)=hh1 A X:=by simp [hh1]
def marks (Z:List Int) (B:List Bool):List Bool:=Z.foldl (fun B z=>B.set z.toNat true) B
theorem marks_len:∀ (Z:List Int) (B:List Bool),(marks Z B).length=B.length:=by
 intro Z
 induction Z with
 | nil=>intro B;rfl
 | cons z Z ih=>intro B;show (marks Z (B.set z.toNat true)).length=_;rw [ih,List.length_set]
theorem getD_setB (B:List Bool) (i k:Nat) (hi:i < B.length):(B.set i true).getD k false=(decide (i=k) || B.getD k false):=by
 by_cases e:i=k
 ·subst e
  rw [List.getD,List.getElem?_set_self hi];simp
 ·rw [List.getD,List.getElem?_set_ne e,← List.getD];simp [e]
theorem marks_get:∀ (Z:List Int) (B:List Bool) (k:Nat),(∀ z∈Z,0≤z∧z < B.length)→((marks Z B).getD k false=true↔B.getD k false=true∨(k:Int)∈Z):=by
 intro Z
 induction Z with
 | nil=>intro B k _;simp [marks]
 | cons z Z ih=>
   intro B k h
   have hz:=h z List.mem_cons_self
   show (marks Z (B.set z.toNat true)).getD k false=true↔_
   rw [ih _ k (fun y hy=>by rw [List.length_set];exact h y (List.mem_cons_of_mem _ hy)),getD_setB B z.toNat k (by omega),List.mem_cons,Bool.or_eq_true,decide_eq_true_iff]
   constructor
   ·rintro ((e | e) | e)
    ·exact .inr (.inl (by omega))
    ·exact .inl e
    ·exact .inr (.inr e)
   ·rintro (e | e | e)
    ·exact .inl (.inr e)
    ·exact .inl (.inl (by omega))
    ·exact .inr e
section
variable {CT:Nat→Option CFun}
end
end Go.Proofs.Ytdmnenlpdeolaaa
set_option maxRecDepth 100000
namespace Go.Proofs.Ytdmnenlpdeolaaa
open Go.AM
theorem cntP_set (y:Nat) (p p':Nat→Bool) (h1:∀ k,k≠y→p' k=p k) (h2:p y=false):∀ n,(List.range n).countP p'=(List.range n).countP p+(if y < n∧p' y=true then 1 else 0):=by
 intro n
 induction n with
 | zero=>simp
 | succ n ih=>
   rw [List.range_succ,List.countP_append,List.countP_append,ih,List.countP_singleton,List.countP_singleton]
   by_cases e:n=y
   ·subst e
    rw [h2]
    have c1:¬ (n < n∧p' n=true):=by omega
    rw [if_neg c1,if_neg Bool.false_ne_true]
    by_cases c2:p' n=true
    ·have c3:n < n+1∧p' n=true:=⟨by omega,c2⟩
     rw [if_pos c2,if_pos c3]
    ·have c3:¬ (n < n+1∧p' n=true):=fun h=>c2 h.2
     rw [if_neg c2,if_neg c3]
   ·rw [h1 n e]
    by_cases c:y < n∧p' y=true
    ·have c':y < n+1∧p' y=true:=⟨by omega,c.2⟩
     rw [if_pos c,if_pos c'];omega
    ·have c':¬ (y < n+1∧p' y=true):=fun h=>c ⟨by omega,h.2⟩
     rw [if_neg c,if_neg c'];omega
theorem cntP_one {n d:Nat} (hd:d < n) (p:Nat→Bool) (h:∀ k,k < n→(p k=true↔k=d)):(List.range n).countP p=1:=by
 have h1:=cntP_set d (fun _=>false) (fun k=>decide (k=d)) (fun k hk=>by simp [hk]) rfl n
 have h2:(List.range n).countP (fun _=>false)=0:=by rw [List.countP_eq_zero];intro a _;simp
 rw [h2,if_pos ⟨hd,by simp⟩] at h1
 rw [← show (List.range n).countP (fun k=>decide (k=d))=1 by omega]
 apply List.countP_congr
 intro k hk
 rw [h k (List.mem_range.1 hk),decide_eq_true_iff]
abbrev MS:=List Bool × List Int × Nat
def mSt (seen put:List Bool) (s:MS) (y:Int):MS:=if s.1.getD y.toNat false || !seen.getD y.toNat false then s else if put.getD y.toNat false then (s.1.set y.toNat true,s.2.1,s.2.2+1) else (s.1.set y.toNat true,s.2.1 ++ [y],s.2.2)
structure MI (G:List (List Int)) (q:Int) (P:Nat→Prop) (put:List Bool) (b:Nat) (ex:Nat→Prop) (s:MS):Prop where
 len:s.1.length=G.length
 sound:∀ k,s.1.getD k false=true→Bk G q P b k
 stk:∀ z∈s.2.1,∃ k:Nat,z=k∧k < G.length∧s.1.getD k false=true∧¬ P k
 clo:∀ k,s.1.getD k false=true→¬ P k→(k:Int)∈s.2.1∨ex k∨∀ y:Nat,(k:Int)∈G.getD y []→Rch G [q] y→s.1.getD y false=true
 bb:s.1.getD b false=true
 cnt:s.2.2=(List.range G.length).countP (fun k=>s.1.getD k false && put.getD k false)
section
variable {G:List (List Int)} {q:Int} {P:Nat→Prop} {put seen:List Bool} {b:Nat}
theorem mSt_mono (s:MS) (hl:s.1.length=G.length) {y:Nat} (hy:y < G.length) (k:Nat) (h:s.1.getD k false=true):(mSt seen put s y).1.getD k false=true:=by
 unfold mSt
 split
 ·exact h
 ·split <;> (show (s.1.set _ true).getD k false=true;rw [Int.toNat_natCast,getD_setB _ _ _ (by omega),h,Bool.or_true])
theorem mSt_inv (hseen:∀ k,seen.getD k false=true↔Rch G [q] k) (hput:∀ k,k < G.length→(put.getD k false=true↔P k)) {x y:Nat} (hx:Bk G q P b x) (hnx:¬ P x) (hy:y < G.length) (he:(x:Int)∈G.getD y []) (s:MS) (h:MI G q P put b (fun k=>k=x) s):MI G q P put b (fun k=>k=x) (mSt seen put s y)∧(Rch G [q] y→(mSt seen put s y).1.getD y false=true)∧(mSt seen put s y).2.1.length+cntF (mSt seen put s y).1≤s.2.1.length+cntF s.1:=by
 have hm:=fun k hk=>mSt_mono (seen:=seen) (put:=put) s h.len hy k hk
 unfold mSt at hm ⊢
 rw [Int.toNat_natCast] at hm ⊢
 cases hw:s.1.getD y false with
 | true=>
   rw [Bool.true_or,if_pos rfl]
   exact ⟨h,fun _=>hw,Nat.le_refl _⟩
 | false=>
   rw [hw,Bool.false_or] at hm
   rw [Bool.false_or]
   cases hs:seen.getD y false with
   | false=>
     rw [Bool.not_false,if_pos rfl]
     exact ⟨h,fun hr=>(by rw [(hseen y).2 hr] at hs;cases hs),Nat.le_refl _⟩
   | true=>
     rw [hs,Bool.not_true,if_neg Bool.false_ne_true] at hm
     rw [Bool.not_true,if_neg Bool.false_ne_true]
     have hr:=(hseen y).1 hs
     have hlen:(s.1.set y true).length=G.length:=by rw [List.length_set];exact h.len
     have hself:(s.1.set y true).getD y false=true:=by rw [getD_setB _ _ _ (by rw [h.len];exact hy)];simp
     have hsound:∀ k,(s.1.set y true).getD k false=true→Bk G q P b k:=by
      intro k hk
      rw [getD_setB _ _ _ (by rw [h.len];exact hy),Bool.or_eq_true,decide_eq_true_iff] at hk
      rcases hk with e | e
      ·subst e;exact .step x y hx hnx he hr
      ·exact h.sound k e
     have hcnt:=cntP_set y (fun k=>s.1.getD k false && put.getD k false) (fun k=>(s.1.set y true).getD k false && put.getD k false) (fun k hk=>by
      show ((s.1.set y true).getD k false && _)=_
      rw [getD_setB _ _ _ (by rw [h.len];exact hy)]
      have:decide (y=k)=false:=by simp;omega
      rw [this,Bool.false_or]) (by show (s.1.getD y false && _)=false;rw [hw];rfl) G.length
     have hcf:=cntF_set s.1 y (by rw [some_getD (show y < s.1.length by rw [h.len];exact hy) false,hw])
     cases hp:put.getD y false with
     | true=>
       rw [hp,if_pos rfl] at hm
       rw [if_pos rfl]
       have hPy:=(hput y hy).1 hp
       refine ⟨⟨hlen,hsound,fun z hz=>?_,fun k hk hn=>?_,hm b h.bb,?_⟩,fun _=>hself,?_⟩
       ·obtain ⟨k,e1,e2,e3,e4⟩:=h.stk z hz
        exact ⟨k,e1,e2,hm k e3,e4⟩
       ·rw [getD_setB _ _ _ (by rw [h.len];exact hy),Bool.or_eq_true,decide_eq_true_iff] at hk
        rcases hk with e | e
        ·subst e;exact absurd hPy hn
        ·rcases h.clo k e hn with c | c | c
         ·exact .inl c
         ·exact .inr (.inl c)
         ·exact .inr (.inr fun z h1 h2=>hm z (c z h1 h2))
       ·show s.2.2+1=_
        rw [hcnt,← h.cnt,if_pos ⟨hy,by show ((s.1.set y true).getD y false && put.getD y false)=true;rw [hself,hp];rfl⟩]
       ·show s.2.1.length+cntF (s.1.set y true)≤_
        omega
     | false=>
       rw [hp,if_neg Bool.false_ne_true] at hm
       rw [if_neg Bool.false_ne_true]
       have hPy:¬ P y:=fun e=>by rw [(hput y hy).2 e] at hp;cases hp
       refine ⟨⟨hlen,hsound,fun z hz=>?_,fun k hk hn=>?_,hm b h.bb,?_⟩,fun _=>hself,?_⟩
       ·rcases List.mem_append.1 hz with hz | hz
        ·obtain ⟨k,e1,e2,e3,e4⟩:=h.stk z hz
         exact ⟨k,e1,e2,hm k e3,e4⟩
        ·rw [List.mem_singleton] at hz
         exact ⟨y,hz,hy,hself,hPy⟩
       ·rw [getD_setB _ _ _ (by rw [h.len];exact hy),Bool.or_eq_true,decide_eq_true_iff] at hk
        rcases hk with e | e
        ·subst e;exact .inl (List.mem_append_right _ (List.mem_singleton.2 rfl))
        ·rcases h.clo k e hn with c | c | c
         ·exact .inl (List.mem_append_left _ c)
         ·exact .inr (.inl c)
         ·exact .inr (.inr fun z h1 h2=>hm z (c z h1 h2))
       ·show s.2.2=_
        rw [hcnt,← h.cnt,if_neg (fun e=>by have:=e.2;rw [hp,Bool.and_false] at this;cases this)]
        rfl
       ·show (s.2.1 ++ [(y:Int)]).length+cntF (s.1.set y true)≤_
        rw [List.length_append,List.length_singleton]
        omega
theorem mRow_inv (hseen:∀ k,seen.getD k false=true↔Rch G [q] k) (hput:∀ k,k < G.length→(put.getD k false=true↔P k)) {x:Nat} (hx:Bk G q P b x) (hnx:¬ P x):∀ (row:List Int),(∀ z∈row,∃ y:Nat,z=y∧y < G.length∧(x:Int)∈G.getD y [])→∀ s:MS,MI G q P put b (fun k=>k=x) s→MI G q P put b (fun k=>k=x) (row.foldl (mSt seen put) s)∧(∀ k,s.1.getD k false=true→(row.foldl (mSt seen put) s).1.getD k false=true)∧(∀ y:Nat,(y:Int)∈row→Rch G [q] y→(row.foldl (mSt seen put) s).1.getD y false=true)∧(row.foldl (mSt seen put) s).2.1.length+cntF (row.foldl (mSt seen put) s).1≤s.2.1.length+cntF s.1:=by
 intro row
 induction row with
 | nil=>intro _ s h;exact ⟨h,fun _ h=>h,fun _ h=>absurd h List.not_mem_nil,Nat.le_refl _⟩
 | cons z row ih=>
   intro hr s h
   obtain ⟨y,rfl,hy,he⟩:=hr z List.mem_cons_self
   obtain ⟨h1,h2,h3⟩:=mSt_inv hseen hput hx hnx hy he s h
   obtain ⟨k1,k2,k3,k4⟩:=ih (fun z hz=>hr z (List.mem_cons_of_mem _ hz)) _ h1
   rw [List.foldl_cons]
   refine ⟨k1,fun k hk=>k2 k (mSt_mono s h.len hy k hk),fun w hw hR=>?_,by omega⟩
   rcases List.mem_cons.1 hw with e | e
   ·have:w=y:=by omega
    subst this
    exact k2 w (h2 hR)
   ·exact k3 w e hR
theorem back_row (G:List (List Int)) {x:Nat} (hx:x < G.length):∀ z∈(backG G).getD x [],∃ y:Nat,z=y∧y < G.length∧(x:Int)∈G.getD y []:=by
 intro z hz
 have hz':=hz
 rw [backG_get G x hx,col_mem] at hz'
 obtain ⟨j,rfl,r,hr,_⟩:=hz'
 have hj:=(List.getElem?_eq_some_iff.1 hr).1
 rw [normG_len] at hj
 exact ⟨0+j,rfl,by omega,(backG_mem G (0+j) x hx).1 hz⟩
theorem mRound (hseen:∀ k,seen.getD k false=true↔Rch G [q] k) (hput:∀ k,k < G.length→(put.getD k false=true↔P k)) {W:List Bool} {z:Int} {S:List Int} {c:Nat} (h:MI G q P put b (fun _=>False) (W,z :: S,c)):∃ x:Nat,z=x∧x < G.length∧MI G q P put b (fun _=>False) (((backG G).getD x []).foldl (mSt seen put) (W,S,c))∧(((backG G).getD x []).foldl (mSt seen put) (W,S,c)).2.1.length+cntF (((backG G).getD x []).foldl (mSt seen put) (W,S,c)).1≤S.length+cntF W:=by
 obtain ⟨x,rfl,hx,h1,h2⟩:=h.stk z List.mem_cons_self
 refine ⟨x,rfl,hx,?_⟩
 have hbk:=h.sound x h1
 have h0:MI G q P put b (fun k=>k=x) (W,S,c):=by
  refine ⟨h.len,h.sound,fun z hz=>h.stk z (List.mem_cons_of_mem _ hz),fun k hk hn=>?_,h.bb,h.cnt⟩
  rcases h.clo k hk hn with e | e | e
  ·rcases List.mem_cons.1 e with e | e
   ·exact .inr (.inl (by omega))
   ·exact .inl e
  ·exact e.elim
  ·exact .inr (.inr e)
 obtain ⟨k1,k2,k3,k4⟩:=mRow_inv hseen hput hbk h2 _ (back_row G hx) _ h0
 refine ⟨⟨k1.len,k1.sound,k1.stk,fun k hk hn=>?_,k1.bb,k1.cnt⟩,k4⟩
 rcases k1.clo k hk hn with e | e | e
 ·exact .inl e
 ·subst e
  exact .inr (.inr fun y hy hr=>k3 y ((backG_mem G y k hx).2 hy) hr)
 ·exact .inr (.inr e)
theorem mStart (hb:b < G.length) (hnb:¬ P b) (hput:∀ k,k < G.length→(put.getD k false=true↔P k)):MI G q P put b (fun _=>False) ((List.replicate G.length false).set b true,[(b:Int)],0):=by
 have hg:∀ k,((List.replicate G.length false).set b true).getD k false=true↔k=b:=fun k=>by
  rw [getD_setB _ _ _ (by rw [List.length_replicate];exact hb),Bool.or_eq_true,decide_eq_true_iff]
  constructor
  ·rintro (e | e)
   ·exact e.symm
   ·rw [List.getD,List.getElem?_replicate] at e
    split at e <;> simp at e
  ·intro e;exact .inl e.symm
 refine ⟨by simp,fun k hk=>?_,fun z hz=>?_,fun k hk _=>?_,(hg b).2 rfl,?_⟩
 ·rw [(hg k).1 hk];exact .base
 ·rw [List.mem_singleton] at hz
  exact ⟨b,hz,hb,(hg b).2 rfl,hnb⟩
 ·rw [(hg k).1 hk];exact .inl (List.mem_singleton.2 rfl)
 ·show 0=_
  symm
  rw [List.countP_eq_zero]
  intro k hk h
  rw [Bool.and_eq_true,hg,hput k (List.mem_range.1 hk)] at h
  exact hnb (h.1 ▸ h.2)
theorem mEnd (hput:∀ k,k < G.length→(put.getD k false=true↔P k)) {W:List Bool} {c d:Nat} (h:MI G q P put b (fun _=>False) (W,[],c)) (hd:d < G.length) (h1:∀ k,(P k∧Bk G q P b k)↔k=d):c=1:=by
 have hall:∀ k,Bk G q P b k→W.getD k false=true:=by
  intro k hk
  induction hk with
  | base=>exact h.bb
  | step x y _ h2 h3 h4 ih=>
    rcases h.clo x ih h2 with e | e | e
    ·exact absurd e List.not_mem_nil
    ·exact e.elim
    ·exact e y h3 h4
 rw [show c=_ from h.cnt]
 refine cntP_one hd _ fun k hk=>?_
 rw [Bool.and_eq_true,hput k hk,← h1]
 exact ⟨fun ⟨a,b⟩=>⟨b,h.sound k a⟩,fun ⟨a,b⟩=>⟨hall k b,a⟩⟩
end
end Go.Proofs.Ytdmnenlpdeolaaa
set_option maxRecDepth 100000
namespace Go.Proofs.Ytdmnenlpdeolaaa
open Go.AM
def OwnF (m:Nat) (H:Heap) (v:V) (l:List V):Prop:=∃ id g off c,v=.sl id g off l.length 1∧getC H id g=some c∧off+l.length≤c.length∧(c.drop off).take l.length=l∧m≤id
theorem OwnF.rd {m:Nat} {H:Heap} {v:V} {l:List V} (h:OwnF m H v l):Rd H v l:=by
 obtain ⟨id,g,off,c,rfl,hc,hl,ht,_⟩:=h
 have:=Rd.sl hc hl
 rwa [ht] at this
theorem OwnF.wide {m:Nat} {H:Heap} {v:V} {l:List V} (h:OwnF m H v l):Wide1 v:=by
 obtain ⟨id,g,off,c,rfl,_⟩:=h
 trivial
theorem OwnF.new {m:Nat} {H:Heap} {x:V} (hm:m≤H.length):OwnF m (H ++ [.cells 0 [x]]) (.sl H.length 0 0 1 1) [x]:=⟨H.length,0,0,[x],rfl,getC_new H 0 [x],Nat.le_refl _,rfl,hm⟩
theorem OwnF.set {m:Nat} {H:Heap} {v:V} {l:List V} (h:OwnF m H v l) {id:Nat} (hid:id < m) (ob:Ob):OwnF m (H.set id ob) v l:=by
 obtain ⟨i,g,off,c,rfl,hc,hl,ht,hm⟩:=h
 exact ⟨i,g,off,c,rfl,by rw [getC_other (by omega)];exact hc,hl,ht,hm⟩
theorem OwnF.tail {m:Nat} {H:Heap} {v x:V} {l:List V} (h:OwnF m H v (x :: l)):∃ w,xSlice 1 v (some (.s (.int .i64 1))) none=some w∧OwnF m H w l:=by
 obtain ⟨id,g,off,c,rfl,hc,hl,ht,hm⟩:=h
 rw [List.length_cons] at hl ht
 refine ⟨.sl id g (off+1) l.length 1,?_,id,g,off+1,c,rfl,hc,by omega,?_,hm⟩
 ·have i4:(0:Int)≤(1:Int)∧(1:Int)≤((l.length+1:Nat):Int)∧((l.length+1:Nat):Int)≤((l.length+1:Nat):Int)∧1=1:=⟨by omega,by omega,by omega,rfl⟩
  have i5:(((l.length+1:Nat):Int) - 1).toNat=l.length:=by omega
  simp only [xslice_sl,bndV_none,bndV_int,cutSl_some,List.length_cons,i4,i5,and_self,if_true,Int.toNat_one,Nat.mul_one]
 ·cases hcd:c.drop off with
  | nil=>rw [hcd] at ht;simp at ht
  | cons a r=>
    rw [hcd,List.take_succ_cons] at ht
    rw [← List.drop_drop,hcd]
    exact (List.cons.inj ht).2
theorem OwnF.trim_fr {m L:Nat} {H:Heap} {x:V} {l:List V} (h:OwnF m H x l) {fr:List V} (hx:x∈fr):OwnF m (Go.AM.trim L fr H) x l:=by
 obtain ⟨id,g,off,c,rfl,hc,hl,ht,hm⟩:=h
 rcases trim_or L fr H with e | ⟨e,hu⟩
 ·rw [e];exact ⟨id,g,off,c,rfl,hc,hl,ht,hm⟩
 ·have hid:id < L:=by
   have:=hu _ hx
   simpa [idsUnder] using this
  exact ⟨id,g,off,c,rfl,by rw [e];simp only [getC] at hc ⊢;rw [List.getElem?_take_of_lt hid];exact hc,hl,ht,hm⟩
theorem OwnF.append {m base bytes:Nat} {H:Heap} {v x:V} {l:List V} (h:OwnF m H v l) (hb:base≤m) (hx:x.one=true) (hm:m≤H.length) (hs:(l.length+1) * bytes≤2 ^ 47):
 ∃ v' H',appendV (H ++ [.cells 0 [x]]) base 1 bytes v (.sl H.length 0 0 1 1)=some (v',H')∧OwnF m H' v' (l ++ [x])∧H.length≤H'.length∧(∀ i,i < m→H'[i]?=H[i]?):=by
 have hx':[x].all V.one=true:=by simp [hx]
 obtain ⟨id,g,off,c,rfl,hc,hl,ht,hid⟩:=h
 have hc':=getC_app hc (G:=[Ob.cells 0 [x]])
 have hbi:base≤id:=by omega
 refine ⟨.sl id (g+1) 0 (l.length+1) 1,(H ++ [Ob.cells 0 [x]]).set id (.cells (g+1) (l ++ [x])),?_,⟨id,g+1,0,l ++ [x],by simp,getC_set hc' _,by simp,by rw [List.drop_zero,List.take_length],hid⟩,by simp,fun i hi=>?_⟩
 ·simp only [appendV,elems_new,hx',if_true,true_and,hbi,hc',hl,Nat.one_ne_zero,if_false,hs,Nat.mul_one,ht]
 ·rw [List.getElem?_set_ne (by omega),List.getElem?_append_left (by omega)]
theorem mSt_bd (seen put:List Bool) (s:MS) {n y:Nat} (hl:s.1.length=n) (hy:y < n):(mSt seen put s y).1.length=n∧(mSt seen put s y).2.1.length+(mSt seen put s y).2.2+cntF (mSt seen put s y).1≤s.2.1.length+s.2.2+cntF s.1:=by
 unfold mSt
 rw [Int.toNat_natCast]
 cases hw:s.1.getD y false with
 | true=>exact ⟨hl,Nat.le_refl _⟩
 | false=>
   have hcf:=cntF_set s.1 y (by rw [some_getD (show y < s.1.length by omega) false,hw])
   rw [Bool.false_or]
   split
   ·exact ⟨hl,Nat.le_refl _⟩
   ·split
    ·refine ⟨by rw [List.length_set];exact hl,?_⟩
     show s.2.1.length+(s.2.2+1)+cntF (s.1.set y true)≤_
     omega
    ·refine ⟨by rw [List.length_set];exact hl,?_⟩
     show (s.2.1 ++ [(y:Int)]).length+s.2.2+cntF (s.1.set y true)≤_
     rw [List.length_append,List.length_singleton]
     omega
structure BS (C H:Heap) (W:List Bool) (S:List Int) (nv:V):Prop where
 ext:Ext C H
 was:getC H C.length 0=some (W.map bV)
 next:OwnF (C.length+1) H nv (S.map iV)
theorem BS.trim {C H:Heap} {W:List Bool} {S:List Int} {nv:V} (h:BS C H W S nv) {L:Nat} (hL:C.length+1≤L) {fr:List V} (hn:nv∈fr):BS C (Go.AM.trim L fr H) W S nv:=⟨h.ext.trim (by omega) _,trim_get h.was (by omega),h.next.trim_fr hn⟩
section
variable {CT:Nat→Option CFun}
theorem mt_l2 (base:Nat) {C:Heap} {v bv sv rv:V} {ra:V} {j n b x:Nat} {put seen:List Bool} {row:List Int} (hb:base≤C.length) (hn:n < 2 ^ 20) (hvl:∀ H',xLen H' .s v=some (.s (.int .i64 n))) (hp:getC C j 0=some (put.map bV)) (hpl:put.length=n) (hs:Rd C sv (seen.map bV)) (hsw:Wide1 sv) (hsl:seen.length=n) (r1:xIndexAddr 1 bv (.s (.int .i64 x))=some ra) (r2:∀ H',Ext C H'→xLoad H' false 1 ra=some rv) (r3:Rd C rv (row.map iV)) (r4:Wide1 rv) (hrl:row.length < 2 ^ 40) {L:Nat} (hL:C.length+1≤L) (hrow:∀ z∈row,∃ y:Nat,z=y∧y < n):
 ∀ (rest:List Int) (k:Nat) (H:Heap) (nv:V) (s:MS),row.drop k=rest→k≤row.length→BS C H s.1 s.2.1 nv→s.1.length=n→s.2.1.length+s.2.2+cntF s.1≤n→
 ∃ H' nv',itW (evC (callW CT) itW base s_f6_l2) [] L (frOf 213 [(0,v),(7,.sl j 0 0 n 1),(12,bv),(13,sv),(14,.s (.int .i64 b)),(15,.sl C.length 0 0 n 1),(16,nv),(17,.s (.int .i64 s.2.2)),(18,.s (.int .i64 x)),(19,.s (.int .i64 k))]) H=
   some (.ext 8,frOf 213 [(0,v),(7,.sl j 0 0 n 1),(12,bv),(13,sv),(14,.s (.int .i64 b)),(15,.sl C.length 0 0 n 1),(16,nv'),(17,.s (.int .i64 (rest.foldl (mSt seen put) s).2.2)),(18,.s (.int .i64 x)),(19,.s (.int .i64 row.length)),(168,bl false)],H')∧BS C H' (rest.foldl (mSt seen put) s).1 (rest.foldl (mSt seen put) s).2.1 nv':=by
 intro rest
 induction rest with
 | nil=>
   intro k H nv s hd hk hB hW hc
   obtain rfl:=drop_nil hd hk
   refine ⟨_,nv,?_,hB.trim hL (fr:=frOf 213 [(0,v),(7,.sl j 0 0 n 1),(12,bv),(13,sv),(14,.s (.int .i64 b)),(15,.sl C.length 0 0 n 1),(16,nv),(17,.s (.int .i64 s.2.2)),(18,.s (.int .i64 x)),(19,.s (.int .i64 row.length)),(168,bl false)]) (frOf_mem (s:=16) (by omega) rfl)⟩
   have hl:=iV_len (r3.ext hB.ext)
   have hr2:=r2 _ hB.ext
   rw [itW_step]
   simp only [bl,List.foldl_nil,a_f6,s_f6_l0_b,s_f6_l1_b,s_f6_l2_b,s_f6_l3_b,s_f6_l4_b,aa,bl,i64,reduceIte,reduceCtorEq,Nat.reduceEqDiff,Nat.reduceLT,Nat.reduceLeDiff,Nat.reduceBEq,Nat.reduceAdd,fillA,splice,Nat.reduceMul,amY,op_eqP,r1,hr2,hl,Int.lt_irrefl]
 | cons z rest ih=>
   intro k H nv s hd hk hB hW hc
   obtain ⟨hx,hlt,hd'⟩:=drop_cons hd
   obtain ⟨y,rfl,hy⟩:=hrow z (List.mem_of_getElem? hx)
   have hlt':(k:Int) < (row.length:Int):=by omega
   have hwk:=w64 (n:=k) (by omega)
   have hl:=iV_len (r3.ext hB.ext)
   have hr2:=r2 _ hB.ext
   obtain ⟨ea,e1,e2⟩:=iV_at (r3.ext hB.ext) r4 hx
   have hn0:¬ ((y:Int) < 0):=by omega
   have hn1:¬ ((n:Int)≤(y:Int)):=by omega
   have hjC:=getC_lt hp
   have gw:=bA_at hB.was hy hW
   have gs:=bV_at (hs.ext hB.ext) hsw (k:=y) (by omega)
   obtain ⟨sa,s1,s2⟩:=gs
   obtain ⟨hm1,hm2⟩:=mSt_bd seen put s hW hy
   have next:=fun (H1:Heap) (nv1:V) (hB1:BS C H1 (mSt seen put s y).1 (mSt seen put s y).2.1 nv1)=>ih (k+1) (Go.AM.trim L (frOf 213 [(0,v),(7,.sl j 0 0 n 1),(12,bv),(13,sv),(14,.s (.int .i64 b)),(15,.sl C.length 0 0 n 1),(16,nv1),(17,.s (.int .i64 (mSt seen put s y).2.2)),(18,.s (.int .i64 x)),(19,.s (.int .i64 (k+1:Nat)))]) H1) nv1 (mSt seen put s y) hd' (by omega) (hB1.trim hL (frOf_mem (s:=16) (by omega) rfl)) hm1 (by omega)
   rw [List.foldl_cons]
   have hms:mSt seen put s (y:Int)=if s.1.getD y false || !seen.getD y false then s else if put.getD y false then (s.1.set y true,s.2.1,s.2.2+1) else (s.1.set y true,s.2.1 ++ [(y:Int)],s.2.2):=rfl
   cases hw:s.1.getD y false with
   | true=>
     rw [hw] at gw
     rw [hw,Bool.true_or,if_pos rfl] at hms
     rw [hms] at next ⊢
     obtain ⟨H',nv',p1,p2⟩:=next H nv hB
     refine ⟨H',nv',?_,p2⟩
     rw [itW_step]
     simp only [bl] at p1
     simp only [bl,a_f6,s_f6_l0_b,s_f6_l1_b,s_f6_l2_b,s_f6_l3_b,s_f6_l4_b,aa,bl,i64,reduceIte,reduceCtorEq,Nat.reduceEqDiff,Nat.reduceLT,Nat.reduceLeDiff,Nat.reduceBEq,Nat.reduceAdd,fillA,splice,Nat.reduceMul,amY,op_eqP,ge_iff_le,r1,hr2,hl,hlt',e1,e2,hvl,hn0,hn1,gw.1,gw.2,hwk]
     exact p1
   | false=>
     rw [hw] at gw
     rw [hw,Bool.false_or] at hms
     cases hsn:seen.getD y false with
     | false=>
       rw [hsn] at s2
       rw [hsn,Bool.not_false,if_pos rfl] at hms
       rw [hms] at next ⊢
       obtain ⟨H',nv',p1,p2⟩:=next H nv hB
       refine ⟨H',nv',?_,p2⟩
       rw [itW_step]
       simp only [bl] at p1
       simp only [bl,a_f6,s_f6_l0_b,s_f6_l1_b,s_f6_l2_b,s_f6_l3_b,s_f6_l4_b,aa,bl,i64,reduceIte,reduceCtorEq,Nat.reduceEqDiff,Nat.reduceLT,Nat.reduceLeDiff,Nat.reduceBEq,Nat.reduceAdd,fillA,splice,Nat.reduceMul,amY,op_eqP,ge_iff_le,r1,hr2,hl,hlt',e1,e2,hvl,hn0,hn1,gw.1,gw.2,s1,s2,hwk]
       exact p1
     | true=>
       rw [hsn] at s2
       rw [hsn,Bool.not_true,if_neg Bool.false_ne_true] at hms
       have st:=bA_set (base:=base) hB.was (by omega) hy hW
       have hE2:Ext C (H.set C.length (obB (s.1.set y true))):=hB.ext.set (Nat.le_refl _) _
       have hpg:=getC_ext hp hE2
       have gp:=bA_at hpg hy hpl
       have hnx2:OwnF (C.length+1) (H.set C.length (obB (s.1.set y true))) nv (s.2.1.map iV):=hB.next.set (by omega) _
       have hw2:getC (H.set C.length (obB (s.1.set y true))) C.length 0=some ((s.1.set y true).map bV):=getC_put hB.was
       cases hpt:put.getD y false with
       | true=>
         rw [hpt] at gp
         rw [hpt,if_pos rfl] at hms
         rw [hms] at next ⊢
         have hwc:=w64 (n:=s.2.2) (by omega)
         obtain ⟨H',nv',p1,p2⟩:=next _ nv ⟨hE2,hw2,hnx2⟩
         refine ⟨H',nv',?_,p2⟩
         rw [itW_step]
         simp only [bl] at p1
         simp only [bl,a_f6,s_f6_l0_b,s_f6_l1_b,s_f6_l2_b,s_f6_l3_b,s_f6_l4_b,aa,bl,i64,reduceIte,reduceCtorEq,Nat.reduceEqDiff,Nat.reduceLT,Nat.reduceLeDiff,Nat.reduceBEq,Nat.reduceAdd,fillA,splice,Nat.reduceMul,amY,op_eqP,ge_iff_le,r1,hr2,hl,hlt',e1,e2,hvl,hn0,hn1,gw.1,gw.2,s1,s2,st,gp.1,gp.2,hwc,hwk]
         exact p1
       | false=>
         rw [hpt] at gp
         rw [hpt,if_neg Bool.false_ne_true] at hms
         rw [hms] at next ⊢
         have hHl:=getC_lt hB.was
         obtain ⟨nv1,H2,q1,q2,q3,q4⟩:=hnx2.append (x:=iV y) (base:=base) (bytes:=8) (by omega) rfl (by rw [List.length_set];omega) (by rw [List.length_map];omega)
         rw [List.length_set] at q1
         have hE3:Ext C H2:=Ext.of_get (by rw [List.length_set] at q3;omega) fun i hi=>by rw [q4 i (by omega),List.getElem?_set_ne (by omega),hB.ext.get hi]
         have hw3:getC H2 C.length 0=some ((s.1.set y true).map bV):=by
          simp only [getC] at hw2 ⊢
          rw [q4 C.length (by omega)];exact hw2
         rw [show (s.2.1.map iV) ++ [iV y]=(s.2.1 ++ [(y:Int)]).map iV by simp] at q2
         obtain ⟨H',nv',p1,p2⟩:=next _ nv1 ⟨hE3,hw3,q2⟩
         refine ⟨H',nv',?_,p2⟩
         rw [itW_step]
         simp only [bl] at p1
         simp only [iV] at q1
         simp only [bl,a_f6,s_f6_l0_b,s_f6_l1_b,s_f6_l2_b,s_f6_l3_b,s_f6_l4_b,aa,bl,i64,reduceIte,reduceCtorEq,Nat.reduceEqDiff,Nat.reduceLT,Nat.reduceLeDiff,Nat.reduceBEq,Nat.reduceAdd,fillA,splice,Nat.reduceMul,amY,op_eqP,ge_iff_le,r1,hr2,hl,hlt',e1,e2,hvl,hn0,hn1,gw.1,gw.2,s1,s2,st,gp.1,gp.2,List.length_set,q1,hwk]
         exact p1
end
end Go.Proofs.Ytdmnenlpdeolaaa
set_option maxRecDepth 100000
namespace Go.Proofs.Ytdmnenlpdeolaaa
open Go.AM
theorem getD_set_ne {G:List (List Int)} {a p:Nat} (r:List Int) (h:a≠p):(G.set a r).getD p []=G.getD p []:=by
 rw [List.getD,List.getD,List.getElem?_set_ne h]
theorem TreeOk.up {G:List (List Int)} {q:Int} {T:List Int} {lvl:Nat→Nat} (h:TreeOk G q T lvl) {a b:Nat} (hb:b < G.length) (hab:(a:Int)≠(b:Int)) (h1:domB T a b=true) (h2:0≤T.getD b 0):domB T a (T.getD b 0)=true:=by
 rw [h.dom] at h1 ⊢
 obtain ⟨x,y,p1,p2,p3,p4,p5⟩:=h1
 have p1:a=x:=by omega
 have p2:b=y:=by omega
 subst p1;subst p2
 obtain ⟨d,hd⟩:=Int.eq_ofNat_of_zero_le h2
 cases p5 with
 | refl=>exact absurd rfl hab
 | up k1 k2=>
   rename_i e
   have k3:=getD_some k1 0
   rw [k3]
   exact ⟨a,e,rfl,rfl,p3,(h.nat k1).2.2.1,k2⟩
section
variable {CT:Nat→Option CFun}
end
end Go.Proofs.Ytdmnenlpdeolaaa
set_option maxRecDepth 100000
namespace Go.Proofs.Ytdmnenlpdeolaaa
open Go.AM
section
variable {CT:Nat→Option CFun}
end
end Go.Proofs.Ytdmnenlpdeolaaa
set_option maxRecDepth 100000
namespace Go.Proofs.Ytdmnenlpdeolaaa
open Go.AM
def SD (T:List Int) (b a:Nat):Prop:=(a:Int)≠(b:Int)∧domB T a b=true
def BI (T:List Int) (b k:Nat) (best:Int):Prop:=(best=-1∧∀ a,a < k→¬ SD T b a)∨∃ s:Nat,best=s∧s < k∧SD T b s∧∀ a,a < k→SD T b a→domB T a s=true
theorem BI.skip {T:List Int} {b k:Nat} {best:Int} (h:BI T b k best) (hs:¬ SD T b k):BI T b (k+1) best:=by
 rcases h with ⟨h1,h2⟩ | ⟨s,h1,h2,h3,h4⟩
 ·exact .inl ⟨h1,fun a ha=>by
   by_cases e:a=k
   ·rw [e];exact hs
   ·exact h2 a (by omega)⟩
 ·exact .inr ⟨s,h1,by omega,h3,fun a ha hS=>by
   by_cases e:a=k
   ·rw [e] at hS;exact absurd hS hs
   ·exact h4 a (by omega) hS⟩
theorem BI.take {G:List (List Int)} {q:Int} {T:List Int} {lvl:Nat→Nat} (ok:TreeOk G q T lvl) {b k:Nat} {best:Int} (h:BI T b k best) (hs:SD T b k) (hself:domB T k k=true) (hc:best < 0∨domB T best k=true):BI T b (k+1) k:=by
 refine .inr ⟨k,rfl,by omega,hs,fun a ha hS=>?_⟩
 by_cases e:a=k
 ·rw [e];exact hself
 ·rcases h with ⟨_,h2⟩ | ⟨s,h1,h2,h3,h4⟩
  ·exact absurd hS (h2 a (by omega))
  ·rcases hc with hc | hc
   ·omega
   ·rw [h1] at hc
    exact ok.tra (h4 a (by omega) hS) hc
theorem BI.keep {G:List (List Int)} {q:Int} {T:List Int} {lvl:Nat→Nat} (ok:TreeOk G q T lvl) {b k:Nat} {best:Int} (h:BI T b k best) (hs:SD T b k) (hc:¬ best < 0) (hd:domB T best k=false):BI T b (k+1) best:=by
 rcases h with ⟨h1,_⟩ | ⟨s,h1,h2,h3,h4⟩
 ·omega
 ·refine .inr ⟨s,h1,by omega,h3,fun a ha hS=>?_⟩
  by_cases e:a=k
  ·rw [e]
   rw [h1] at hd
   rcases ok.lin h3.2 hs.2 with k1 | k1
   ·rw [k1] at hd;cases hd
   ·exact k1
  ·exact h4 a (by omega) hS
theorem BI.fin {G:List (List Int)} {q:Int} {T:List Int} {lvl:Nat→Nat} (ok:TreeOk G q T lvl) {b:Nat} {best:Int} (hR:Rch G [q] b) (h:BI T b G.length best):best=T.getD b 0:=by
 have hbn:=rch_lt hR
 have hbT:b < T.length:=by rw [ok.len];exact hbn
 by_cases e:(b:Int)=q
 ·rw [ok.rt b e.symm hbn]
  rcases h with ⟨h1,_⟩ | ⟨s,_,_,h3,_⟩
  ·exact h1
  ·exfalso
   have h5:=ok.dom_nat hR |>.1 h3.2
   cases h5 with
   | refl=>exact h3.1 rfl
   | up k1 _=>
     have:=ok.nat k1
     exact this.2.1 e
 ·obtain ⟨d,hd,h1,h2⟩:=ok.id b hR e
  have hT:T[b]?=some (d:Int):=by rw [some_getD hbT 0,hd]
  have hdb:domB T d b=true:=(ok.dom_nat hR).2 (.up hT (.refl d))
  have hS:SD T b d:=⟨fun e=>by have:d=b:=by omega
                               rw [this] at h2;omega,hdb⟩
  rcases h with ⟨_,h4⟩ | ⟨s,h3,_,h5,h6⟩
  ·exact absurd hS (h4 d (rch_lt h1))
  ·rw [hd,h3]
   have k1:=h6 d (rch_lt h1) hS
   have k2:=ok.up (a:=s) hbn h5.1 h5.2 (by rw [hd];omega)
   rw [hd] at k2
   exact ok.anti k2 k1
section
variable {CT:Nat→Option CFun}
structure CQ9 (CT:Nat→Option CFun):Prop where
 r:CR CT
 wo:CT k_f44=some (.code s_f44)
 dm:CT k_f28=some (.code s_f28)
end
end Go.Proofs.Ytdmnenlpdeolaaa
set_option maxRecDepth 100000
namespace Go.Proofs.Ytdmnenlpdeolaaa
open Go.AM
section
variable {CT:Nat→Option CFun}
end
end Go.Proofs.Ytdmnenlpdeolaaa
set_option maxRecDepth 100000
namespace Go.Proofs.Ytdmnenlpdeolaaa
open Go.AM
def Bg (m:Nat) (H:Heap) (vs:List V) (R:List (List V)):Prop:=
 vs.length=R.length∧∀ (j:Nat) (r:List V),R[j]?=some r→∃ x,vs[j]?=some x∧OwnN m H x r
theorem Bg.trim {m L o:Nat} {H:Heap} {vs:List V} {R:List (List V)} (h:Bg m H vs R) (hc:getC H o 0=some vs) (ho:o < L) (fr:List V):Bg m (trim L fr H) vs R:=
 ⟨h.1,fun j r hr=>by obtain ⟨x,h1,h2⟩:=h.2 j r hr;exact ⟨x,h1,h2.trim hc ho (List.mem_of_getElem? h1) fr⟩⟩
theorem Bg.ext {m:Nat} {H H':Heap} {vs:List V} {R:List (List V)} (h:Bg m H vs R) (k:Ext H H'):Bg m H' vs R:=
 ⟨h.1,fun j r hr=>by obtain ⟨x,h1,h2⟩:=h.2 j r hr;exact ⟨x,h1,h2.ext k⟩⟩
theorem Bg.rows {m o:Nat} {H:Heap} {vs:List V} {R:List (List V)} (h:Bg m H vs R) (hc:getC H o 0=some vs):RdRows H (.sl o 0 0 R.length 1) R:=
 ⟨vs,by rw [← h.1];exact getC_sl hc,trivial,h.1,fun i r hr=>by obtain ⟨x,h1,h2⟩:=h.2 i r hr;exact ⟨x,h1,h2.rd,h2.wide⟩⟩
theorem Bg.put {m o i:Nat} {H:Heap} {vs:List V} {R:List (List V)} {x:V} {r:List V} (h:Bg m H vs R) (ho:o < m) (hi:i < R.length) (hx:OwnN m H x r) (c:List V):Bg m (H.set o (.cells 0 c)) (vs.set i x) (R.set i r):=by
 refine ⟨by rw [List.length_set,List.length_set];exact h.1,fun j s hs=>?_⟩
 by_cases e:i=j
 ·subst e
  rw [List.getElem?_set_self hi] at hs
  obtain rfl:=Option.some.inj hs
  exact ⟨x,List.getElem?_set_self (by rw [h.1];exact hi),hx.set ho _⟩
 ·rw [List.getElem?_set_ne e] at hs
  obtain ⟨y,h1,h2⟩:=h.2 j s hs
  exact ⟨y,by rw [List.getElem?_set_ne e];exact h1,h2.set ho _⟩
end Go.Proofs.Ytdmnenlpdeolaaa
set_option maxRecDepth 100000
namespace Go.Proofs.Ytdmnenlpdeolaaa
open Go.AM
section
variable {CT:Nat→Option CFun}
end
end Go.Proofs.Ytdmnenlpdeolaaa
set_option maxRecDepth 100000
namespace Go.Proofs.Ytdmnenlpdeolaaa
open Go.AM
section
variable {CT:Nat→Option CFun}
end
end Go.Proofs.Ytdmnenlpdeolaaa
set_option maxRecDepth 100000
namespace Go.Proofs.Ytdmnenlpdeolaaa
open Go.AM
section
variable {CT:Nat→Option CFun}
end
end Go.Proofs.Ytdmnenlpdeolaaa
set_option maxRecDepth 100000
namespace Go.Proofs.Ytdmnenlpdeolaaa
open Go.AM
theorem frG_small {G:List (List Int)} {q:Int} {T:List Int} {lvl:Nat→Nat} (ok:TreeOk G q T lvl):∀ r∈frG T G,r.length≤G.length:=by
 intro r hr
 obtain ⟨a,ha⟩:=List.mem_iff_getElem?.1 hr
 have han:=(List.getElem?_eq_some_iff.1 ha).1
 rw [frG_len] at han
 rw [← getD_some ha []]
 refine up_len' (frG_up T G han) fun z hz=>?_
 obtain ⟨x,_,h,_⟩:=(frG_mem ok han z).1 hz
 have:=(normG_get G x z).1 h
 exact ⟨by omega,by omega⟩
section
variable {CT:Nat→Option CFun}
end
end Go.Proofs.Ytdmnenlpdeolaaa
set_option maxRecDepth 100000
namespace Go.Proofs.Ytdmnenlpdeolaaa
open Go.AM
section
variable {CT:Nat→Option CFun}
theorem mk_false (H:Heap) (n:Nat) (hn:n < 2 ^ 40):makeV H [.s (.bool false)] 1 1 (.s (.int .i64 n)) (.s (.int .i64 n))=some (.sl H.length 0 0 n 1,hh1 H (List.replicate n false)):=by
 have:=make_n (H:=H) (zero:=[.s (.bool false)]) (sz:=1) (bytes:=1) (k:=.i64) (k':=.i64) (n:=n) (by omega)
 rw [this,flat_one,hh1,obB,List.map_replicate]
 rfl
end
end Go.Proofs.Ytdmnenlpdeolaaa
set_option maxRecDepth 100000
namespace Go.Proofs.Ytdmnenlpdeolaaa
open Go.AM
def markR (n:Nat) (B:List Bool) (z:Int):List Bool:=if InR n z then B.set z.toNat true else B
theorem markR_len (n:Nat):∀ (l:List Int) (B:List Bool),(l.foldl (markR n) B).length=B.length:=by
 intro l
 induction l with
 | nil=>intro B;rfl
 | cons z l ih=>
   intro B
   rw [List.foldl_cons,ih,markR]
   split
   ·rw [List.length_set]
   ·rfl
theorem markR_get (n:Nat):∀ (l:List Int) (B:List Bool) (k:Nat),B.length=n→k < n→((l.foldl (markR n) B).getD k false=true↔B.getD k false=true∨(k:Int)∈l):=by
 intro l
 induction l with
 | nil=>intro B k _ _;simp
 | cons z l ih=>
   intro B k hB hk
   rw [List.foldl_cons,List.mem_cons]
   by_cases hz:InR n z
   ·have hz':=hz
    obtain ⟨h1,h2⟩:=hz'
    rw [markR,if_pos hz,ih _ k (by rw [List.length_set];exact hB) hk,getD_setB B z.toNat k (by omega),Bool.or_eq_true,decide_eq_true_iff]
    constructor
    ·rintro ((e | e) | e)
     ·exact .inr (.inl (by omega))
     ·exact .inl e
     ·exact .inr (.inr e)
    ·rintro (e | e | e)
     ·exact .inl (.inr e)
     ·exact .inl (.inl (by omega))
     ·exact .inr e
   ·rw [markR,if_neg hz,ih _ k hB hk]
    have hz':¬ (0≤z∧z < n):=hz
    constructor
    ·rintro (e | e)
     ·exact .inl e
     ·exact .inr (.inr e)
    ·rintro (e | e | e)
     ·exact .inl e
     ·omega
     ·exact .inr e
section
variable {CT:Nat→Option CFun}
theorem mt_l0 (base:Nat) {A X:Heap} {v lv xv:V} {q:Int} {n:Nat} {l:List Int} (hb:base≤A.length) (hn:n < 2 ^ 20) (hvl:∀ H',xLen H' .s v=some (.s (.int .i64 n))) (hl:Rd A lv (l.map iV)) (hlw:Wide1 lv) (hll:l.length < 2 ^ 40) (B:List Bool) (hB:B.length=n) (o:Ob):
 itW (evC (callW CT) itW base s_f6_l0) [] (A.length+2) (frOf 213 [(0,v),(1,.s (.int .i64 q)),(2,lv),(7,.sl A.length 0 0 n 1),(8,xv),(9,.s (.int .i64 0))]) (A ++ [obB B] ++ [o])=some (.ext 0,frOf 213 [(0,v),(1,.s (.int .i64 q)),(2,lv),(7,.sl A.length 0 0 n 1),(8,xv),(9,.s (.int .i64 l.length)),(57,bl false)],A ++ [obB (l.foldl (markR n) B)] ++ [o]):=by
 have hlen2:∀ B,(A ++ [obB B] ++ [o]).length=A.length+2:=fun B=>by simp
 have hE:∀ B,Ext A (A ++ [obB B] ++ [o]):=fun B=>(Ext.app _ _).trans (Ext.app _ _)
 have hst:=it_fun l.length (fun i=>itW (evC (callW CT) itW base s_f6_l0) [] (A.length+2) (frOf 213 [(0,v),(1,.s (.int .i64 q)),(2,lv),(7,.sl A.length 0 0 n 1),(8,xv),(9,.s (.int .i64 i))]) (A ++ [obB ((l.take i).foldl (markR n) B)] ++ [o])) (by
  intro i hi
  have hlt':((i:Int) < (l.length:Int)):=by omega
  have hwk:=w64 (n:=i) (by omega)
  rw [foldl_succ (markR n) B l i (some_getD hi 0)]
  have hlen:((l.take i).foldl (markR n) B).length=n:=by rw [markR_len,hB]
  obtain ⟨t,ht⟩:∃ t,(l.take i).foldl (markR n) B=t:=⟨_,rfl⟩
  rw [ht] at hlen ⊢
  obtain ⟨e1,e2,e3⟩:=iV_at (hl.ext (hE t)) hlw (some_getD hi (0:Int))
  have hlv:=iV_len (hl.ext (hE t))
  obtain ⟨z,hzz⟩:∃ z,l.getD i 0=z:=⟨_,rfl⟩
  rw [hzz] at e3 ⊢
  rw [itW_step,markR]
  by_cases h1:0≤z
  ·by_cases h2:z < n
   ·obtain ⟨k,rfl⟩:=Int.eq_ofNat_of_zero_le h1
    have hk:k < n:=by omega
    rw [if_pos ⟨h1,h2⟩,Int.toNat_natCast]
    have gg:getC (A ++ [obB t] ++ [o]) A.length 0=some (t.map bV):=getC_app (getC_new A 0 _)
    have g1:=bA_at gg hk hlen
    have g2:=bA_set (base:=base) gg hb hk hlen
    rw [set_two] at g2
    simp only [bl,a_f6,s_f6_l0_b,s_f6_l1_b,s_f6_l2_b,s_f6_l3_b,s_f6_l4_b,aa,bl,i64,reduceIte,reduceCtorEq,Nat.reduceEqDiff,Nat.reduceLT,Nat.reduceLeDiff,Nat.reduceBEq,Nat.reduceAdd,fillA,splice,Nat.reduceMul,amY,op_eqP,ge_iff_le,hvl,hlv,hlt',e2,e3,h1,h2,g1.1,g2,hwk,trim_same (hlen2 _)]
   ·rw [if_neg (fun h=>h2 h.2)]
    simp only [bl,a_f6,s_f6_l0_b,s_f6_l1_b,s_f6_l2_b,s_f6_l3_b,s_f6_l4_b,aa,bl,i64,reduceIte,reduceCtorEq,Nat.reduceEqDiff,Nat.reduceLT,Nat.reduceLeDiff,Nat.reduceBEq,Nat.reduceAdd,fillA,splice,Nat.reduceMul,amY,op_eqP,ge_iff_le,hvl,hlv,hlt',e2,e3,h1,h2,hwk,trim_same (hlen2 _)]
  ·rw [if_neg (fun h=>h1 h.1)]
   simp only [bl,a_f6,s_f6_l0_b,s_f6_l1_b,s_f6_l2_b,s_f6_l3_b,s_f6_l4_b,aa,bl,i64,reduceIte,reduceCtorEq,Nat.reduceEqDiff,Nat.reduceLT,Nat.reduceLeDiff,Nat.reduceBEq,Nat.reduceAdd,fillA,splice,Nat.reduceMul,amY,op_eqP,ge_iff_le,hvl,hlv,hlt',e2,e3,h1,hwk,trim_same (hlen2 _)]) 0 (Nat.zero_le _)
 rw [cast0,List.take_zero,List.take_length] at hst
 refine hst.trans ?_
 have hlv:=iV_len (hl.ext (hE (l.foldl (markR n) B)))
 rw [itW_step]
 simp only [bl,a_f6,s_f6_l0_b,s_f6_l1_b,s_f6_l2_b,s_f6_l3_b,s_f6_l4_b,aa,bl,i64,reduceIte,reduceCtorEq,Nat.reduceEqDiff,Nat.reduceLT,Nat.reduceLeDiff,Nat.reduceBEq,Nat.reduceAdd,fillA,splice,Nat.reduceMul,amY,op_eqP,hlv,Int.lt_irrefl,trim_same (hlen2 _)]
theorem mt_l1 (base:Nat) {C:Heap} {v gv:V} {q:Int} {n j m:Nat} {Z:List Int} (hb:base≤j) (hn:n < 2 ^ 20) (hvl:∀ H',xLen H' .s v=some (.s (.int .i64 n))) (hg:OwnN m C gv (Z.map iV)) (hj:j < m) (hZl:Z.length < 2 ^ 40) (hZr:∀ z∈Z,0≤z∧z < n) (B:List Bool) (hB:B.length=n) (hC:getC C j 0=some (B.map bV)):
 itW (evC (callW CT) itW base s_f6_l1) [] C.length (frOf 213 [(0,v),(1,.s (.int .i64 q)),(7,.sl j 0 0 n 1),(10,gv),(11,.s (.int .i64 0))]) C=some (.ext 2,frOf 213 [(0,v),(1,.s (.int .i64 q)),(7,.sl j 0 0 n 1),(10,gv),(11,.s (.int .i64 Z.length)),(88,bl false)],C.set j (obB (marks Z B))):=by
 have hlen2:∀ B,(C.set j (obB B)).length=C.length:=fun B=>by simp
 have hown:∀ B,OwnN m (C.set j (obB B)) gv (Z.map iV):=fun B=>hg.set hj _
 have hgl:∀ B,xLen (C.set j (obB B)) .s gv=some (.s (.int .i64 Z.length)):=fun B=>iV_len (hown B).rd
 have hst:=it_fun Z.length (fun i=>itW (evC (callW CT) itW base s_f6_l1) [] C.length (frOf 213 [(0,v),(1,.s (.int .i64 q)),(7,.sl j 0 0 n 1),(10,gv),(11,.s (.int .i64 i))]) (C.set j (obB (marks (Z.take i) B)))) (by
  intro i hi
  have hlt':((i:Int) < (Z.length:Int)):=by omega
  have hwk:=w64 (n:=i) (by omega)
  have hs:marks (Z.take (i+1)) B=(marks (Z.take i) B).set (Z.getD i 0).toNat true:=foldl_succ _ _ Z i (some_getD hi 0)
  rw [hs]
  have hlen:(marks (Z.take i) B).length=n:=by rw [marks_len,hB]
  obtain ⟨t,ht⟩:∃ t,marks (Z.take i) B=t:=⟨_,rfl⟩
  rw [ht] at hlen ⊢
  obtain ⟨e1,e2,e3⟩:=iV_at (hown t).rd hg.wide (some_getD hi (0:Int))
  have hlv:=hgl t
  have hzi:=hZr _ (List.mem_of_getElem? (some_getD hi 0))
  obtain ⟨z,hzz⟩:∃ z,Z.getD i 0=z:=⟨_,rfl⟩
  rw [hzz] at e3 hzi ⊢
  obtain ⟨k,rfl⟩:=Int.eq_ofNat_of_zero_le hzi.1
  have hk:k < n:=by omega
  have hn0:¬ ((k:Int) < 0):=by omega
  have hn1:¬ ((n:Int)≤(k:Int)):=by omega
  rw [itW_step,Int.toNat_natCast]
  have gg:getC (C.set j (obB t)) j 0=some (t.map bV):=getC_put hC
  have g1:=bA_at gg hk hlen
  have g2:=bA_set (base:=base) gg hb hk hlen
  rw [List.set_set] at g2
  simp only [bl,a_f6,s_f6_l0_b,s_f6_l1_b,s_f6_l2_b,s_f6_l3_b,s_f6_l4_b,aa,bl,i64,reduceIte,reduceCtorEq,Nat.reduceEqDiff,Nat.reduceLT,Nat.reduceLeDiff,Nat.reduceBEq,Nat.reduceAdd,fillA,splice,Nat.reduceMul,amY,op_eqP,ge_iff_le,hvl,hlv,hlt',e2,e3,hn0,hn1,g1.1,g2,hwk,trim_same (hlen2 _)]) 0 (Nat.zero_le _)
 rw [cast0,List.take_zero,List.take_length,show marks [] B=B from rfl,obB,getC_same hC] at hst
 refine hst.trans ?_
 have hlv:=hgl (marks Z B)
 rw [itW_step]
 simp only [bl,a_f6,s_f6_l0_b,s_f6_l1_b,s_f6_l2_b,s_f6_l3_b,s_f6_l4_b,aa,bl,i64,reduceIte,reduceCtorEq,Nat.reduceEqDiff,Nat.reduceLT,Nat.reduceLeDiff,Nat.reduceBEq,Nat.reduceAdd,fillA,splice,Nat.reduceMul,amY,op_eqP,hlv,Int.lt_irrefl,trim_same (hlen2 _)]
theorem mt_l3 (base:Nat) {C:Heap} {v bv sv:V} {j b:Nat} {put seen:List Bool} {G:List (List Int)} {q:Int} {P:Nat→Prop} (hb:base≤C.length) (hn:G.length < 2 ^ 20) (hvl:∀ H',xLen H' .s v=some (.s (.int .i64 G.length))) (hp:getC C j 0=some (put.map bV)) (hpl:put.length=G.length) (hs:Rd C sv (seen.map bV)) (hsw:Wide1 sv) (hsl:seen.length=G.length) (hbv:RdRows C bv (rowsV (backG G))) (hbr:∀ r∈backG G,r.length < 2 ^ 40) (hseen:∀ k,seen.getD k false=true↔Rch G [q] k) (hput:∀ k,k < G.length→(put.getD k false=true↔P k)) {L:Nat} (hL:C.length+1≤L):
 ∀ (m:Nat) (H:Heap) (nv:V) (W:List Bool) (S:List Int) (c:Nat),S.length+cntF W < m→BS C H W S nv→MI G q P put b (fun _=>False) (W,S,c)→S.length+c+cntF W≤G.length→
 ∃ H' nv' W' c',itW (evC (callW CT) itW base s_f6_l3) [18,19,168] L (frOf 213 [(0,v),(7,.sl j 0 0 G.length 1),(12,bv),(13,sv),(14,.s (.int .i64 b)),(15,.sl C.length 0 0 G.length 1),(16,nv),(17,.s (.int .i64 c))]) H=
   some (.ext 6,frOf 213 [(0,v),(7,.sl j 0 0 G.length 1),(12,bv),(13,sv),(14,.s (.int .i64 b)),(15,.sl C.length 0 0 G.length 1),(16,nv'),(17,.s (.int .i64 (c':Nat))),(156,bl false)],H')∧Ext C H'∧MI G q P put b (fun _=>False) (W',[],c'):=by
 intro m
 induction m with
 | zero=>intro H nv W S c h;omega
 | succ m ih=>
   intro H nv W S c hm hB hI hc
   have hHL:=getC_lt hB.was
   have hnl:=iV_len hB.next.rd
   cases S with
   | nil=>
     refine ⟨_,nv,W,c,?_,hB.ext.trim (m:=L) (by omega) (frOf 213 [(0,v),(7,.sl j 0 0 G.length 1),(12,bv),(13,sv),(14,.s (.int .i64 b)),(15,.sl C.length 0 0 G.length 1),(16,nv),(17,.s (.int .i64 c)),(156,bl false)]),hI⟩
     rw [List.length_nil,cast0] at hnl
     rw [itW_step]
     simp only [bl,a_f6,s_f6_l0_b,s_f6_l1_b,s_f6_l2_b,s_f6_l3_b,s_f6_l4_b,aa,bl,i64,reduceIte,reduceCtorEq,Nat.reduceEqDiff,Nat.reduceLT,Nat.reduceLeDiff,Nat.reduceBEq,Nat.reduceAdd,fillA,splice,Nat.reduceMul,amY,op_eqP,hnl,gt_iff_lt,Int.lt_irrefl]
   | cons z S=>
     obtain ⟨x,rfl,hx,k1,k2⟩:=mRound hseen hput hI
     have h0':(0:Int) < ((S.length+1:Nat):Int):=by omega
     obtain ⟨w,w1,w2⟩:=hB.next.tail
     obtain ⟨fa,f1,f2⟩:=iV_at (k:=0) hB.next.rd hB.next.wide (show ((x:Int) :: S)[0]?=some (x:Int) from rfl)
     rw [cast0] at f1
     have hB2:BS C H W S w:=⟨hB.ext,hB.was,w2⟩
     obtain ⟨ra,rv,r1,r3,r4,r2⟩:=rows_ext hbv (rowsV_get (some_getD (show x < (backG G).length by rw [backG_len];exact hx) []))
     have hbrow:=back_row G hx
     have hrl:=hbr _ (List.mem_of_getElem? (some_getD (show x < (backG G).length by rw [backG_len];exact hx) []))
     have hlS:((x:Int) :: S).length=S.length+1:=rfl
     obtain ⟨H1,nv1,p1,p2⟩:=mt_l2 (CT:=CT) base (b:=b) hb hn hvl hp hpl hs hsw hsl r1 r2 r3 r4 hrl (L:=H.length) (by omega) (fun z hz=>by obtain ⟨y,e,hy,_⟩:=hbrow z hz;exact ⟨y,e,hy⟩) ((backG G).getD x []) 0 H w (W,S,c) rfl (Nat.zero_le _) hB2 hI.len (by show S.length+c+cntF W≤_;omega)
     rw [cast0] at p1
     have hbd:∀ (row:List Int),(∀ z∈row,∃ y:Nat,z=y∧y < G.length)→∀ s:MS,s.1.length=G.length→(row.foldl (mSt seen put) s).2.1.length+(row.foldl (mSt seen put) s).2.2+cntF (row.foldl (mSt seen put) s).1≤s.2.1.length+s.2.2+cntF s.1:=by
      intro row
      induction row with
      | nil=>intro _ s _;exact Nat.le_refl _
      | cons z row ih2=>
        intro hr s hsl
        obtain ⟨y,rfl,hy⟩:=hr z List.mem_cons_self
        obtain ⟨m1,m2⟩:=mSt_bd seen put s hsl hy
        have:=ih2 (fun z hz=>hr z (List.mem_cons_of_mem _ hz)) _ m1
        rw [List.foldl_cons]
        omega
     have hbd1:=hbd _ (fun z hz=>by obtain ⟨y,e,hy,_⟩:=hbrow z hz;exact ⟨y,e,hy⟩) (W,S,c) hI.len
     obtain ⟨s',hs'⟩:∃ s',((backG G).getD x []).foldl (mSt seen put) (W,S,c)=s':=⟨_,rfl⟩
     rw [hs'] at p1 p2 k1 k2 hbd1
     obtain ⟨W1,S1,c1⟩:=s'
     have hbd2:S1.length+c1+cntF W1≤S.length+c+cntF W:=hbd1
     have k2':S1.length+cntF W1≤S.length+cntF W:=k2
     obtain ⟨H',nv',W',c',q1,q2,q3⟩:=ih (Go.AM.trim L (frOf 213 [(0,v),(7,.sl j 0 0 G.length 1),(12,bv),(13,sv),(14,.s (.int .i64 b)),(15,.sl C.length 0 0 G.length 1),(16,nv1),(17,.s (.int .i64 c1))]) H1) nv1 W1 S1 c1 (by omega) (p2.trim hL (frOf_mem (s:=16) (by omega) rfl)) k1 (by omega)
     refine ⟨H',nv',W',c',?_,q2,q3⟩
     rw [itW_step]
     simp only [bl] at p1 q1
     simp only [bl,a_f6,s_f6_l0_b,s_f6_l1_b,s_f6_l2_b,s_f6_l3_b,s_f6_l4_b,aa,bl,i64,reduceIte,reduceCtorEq,Nat.reduceEqDiff,Nat.reduceLT,Nat.reduceLeDiff,Nat.reduceBEq,Nat.reduceAdd,fillA,splice,Nat.reduceMul,amY,op_eqP,hnl,gt_iff_lt,h0',f1,f2,w1,p1]
     exact q1
end
end Go.Proofs.Ytdmnenlpdeolaaa
set_option maxRecDepth 100000
namespace Go.Proofs.Ytdmnenlpdeolaaa
open Go.AM
theorem back_small (G:List (List Int)):∀ r∈backG G,r.length≤G.length:=by
 intro r hr
 obtain ⟨a,ha⟩:=List.mem_iff_getElem?.1 hr
 have han:=(List.getElem?_eq_some_iff.1 ha).1
 rw [backG_len] at han
 rw [← getD_some ha []]
 have hu:Up ((backG G).getD a []):=by rw [backG_get G a han];exact col_up _ _ _
 refine up_len' hu fun z hz=>?_
 obtain ⟨y,rfl,hy,_⟩:=back_row G han z hz
 exact ⟨by omega,by omega⟩
section
variable {CT:Nat→Option CFun}
theorem mt_l4 (base:Nat) {A:Heap} {v bv sv:V} {j:Nat} {put seen:List Bool} {G:List (List Int)} {q:Nat} {T:List Int} {lvl:Nat→Nat} {l:List Int} (ok:TreeOk G q T lvl) (hq:q < G.length) (hb:base≤A.length) (hn:G.length < 2 ^ 20) (hvl:∀ H',xLen H' .s v=some (.s (.int .i64 G.length))) (hp:getC A j 0=some (put.map bV)) (hpl:put.length=G.length) (hs:Rd A sv (seen.map bV)) (hsw:Wide1 sv) (hsl:seen.length=G.length) (hbv:RdRows A bv (rowsV (backG G))) (hseen:∀ k,seen.getD k false=true↔Rch G [(q:Int)] k) (hput:∀ k,k < G.length→(put.getD k false=true↔PutP (frG T G) q l k)):
 ∃ H',itW (evC (callW CT) itW base s_f6_l4) [] A.length (frOf 213 [(0,v),(7,.sl j 0 0 G.length 1),(12,bv),(13,sv),(14,.s (.int .i64 0))]) A=some (.ext 4,frOf 213 [(0,v),(7,.sl j 0 0 G.length 1),(12,bv),(13,sv),(14,.s (.int .i64 G.length)),(132,bl false)],H')∧Ext A H':=by
 have hjA:=getC_lt hp
 obtain ⟨C,e1,a1⟩:=it_rel G.length (fun _ (C:Heap)=>Ext A C) (fun k C=>itW (evC (callW CT) itW base s_f6_l4) [] A.length (frOf 213 [(0,v),(7,.sl j 0 0 G.length 1),(12,bv),(13,sv),(14,.s (.int .i64 k))]) C) (by
  intro b C hbn hE
  have hlt':((b:Int) < (G.length:Int)):=by omega
  have hwk:=w64 (n:=b) (by omega)
  have hle:=hE.le
  have gp:=bA_at (getC_ext hp hE) hbn hpl
  obtain ⟨sa,s1,s2⟩:=bV_at (hs.ext hE) hsw (k:=b) (by omega)
  cases hpb:put.getD b false with
  | true=>
    rw [hpb] at gp
    refine ⟨_,?_,hE.trim (Nat.le_refl _) (frOf 213 [(0,v),(7,.sl j 0 0 G.length 1),(12,bv),(13,sv),(14,.s (.int .i64 (b+1:Nat)))])⟩
    rw [itW_step]
    simp only [bl,a_f6,s_f6_l0_b,s_f6_l1_b,s_f6_l2_b,s_f6_l3_b,s_f6_l4_b,aa,bl,i64,reduceIte,reduceCtorEq,Nat.reduceEqDiff,Nat.reduceLT,Nat.reduceLeDiff,Nat.reduceBEq,Nat.reduceAdd,fillA,splice,Nat.reduceMul,amY,op_eqP,hvl,hlt',gp.1,gp.2,hwk]
  | false=>
    rw [hpb] at gp
    cases hsb:seen.getD b false with
    | false=>
      rw [hsb] at s2
      refine ⟨_,?_,hE.trim (Nat.le_refl _) (frOf 213 [(0,v),(7,.sl j 0 0 G.length 1),(12,bv),(13,sv),(14,.s (.int .i64 (b+1:Nat)))])⟩
      rw [itW_step]
      simp only [bl,a_f6,s_f6_l0_b,s_f6_l1_b,s_f6_l2_b,s_f6_l3_b,s_f6_l4_b,aa,bl,i64,reduceIte,reduceCtorEq,Nat.reduceEqDiff,Nat.reduceLT,Nat.reduceLeDiff,Nat.reduceBEq,Nat.reduceAdd,fillA,splice,Nat.reduceMul,amY,op_eqP,hvl,hlt',gp.1,gp.2,s1,s2,hwk]
    | true=>
      rw [hsb] at s2
      have hnP:¬ PutP (frG T G) q l b:=fun e=>by rw [(hput b hbn).2 e] at hpb;cases hpb
      have hRb:=(hseen b).1 hsb
      obtain ⟨d,hd,h1⟩:=meet_one ok hq hRb hnP
      have hmk:=mk_false C G.length (by omega)
      have gg:getC (C ++ [obB (List.replicate G.length false)] ++ [Ob.cells 0 [iV b]]) C.length 0=some ((List.replicate G.length false).map bV):=getC_app (getC_new C 0 _)
      have g1:=bA_at gg hbn (by simp)
      have g2:=bA_set (base:=base) gg (by omega) hbn (by simp)
      rw [set_two] at g2
      have hB0:BS C (C ++ [obB ((List.replicate G.length false).set b true)] ++ [Ob.cells 0 [iV b]]) ((List.replicate G.length false).set b true) [(b:Int)] (.sl (C.length+1) 0 0 1 1):=by
       refine ⟨(Ext.app _ _).trans (Ext.app _ _),getC_app (getC_new C 0 _),?_⟩
       have:=OwnF.new (m:=C.length+1) (H:=C ++ [obB ((List.replicate G.length false).set b true)]) (x:=iV b) (by simp)
       rwa [len_snoc] at this
      have hcf:cntF ((List.replicate G.length false).set b true)+1=cntF (List.replicate G.length false):=cntF_set _ _ (by rw [List.getElem?_replicate];simp;exact hbn)
      have hcl:cntF (List.replicate G.length false)≤G.length:=by
       have:∀ n,cntF (List.replicate n false)=n:=by
        intro n
        induction n with
        | zero=>rfl
        | succ n ih=>rw [List.replicate_succ,cntF,ih];simp;omega
       rw [this];exact Nat.le_refl _
      obtain ⟨H',nv',W',c',p1,p2,p3⟩:=mt_l3 (CT:=CT) base (b:=b) (L:=C.length+2) (by omega) hn hvl (getC_ext hp hE) hpl (hs.ext hE) hsw hsl (hbv.ext hE) (fun r hr=>by have:=back_small G r hr;omega) hseen hput (by omega) _ _ _ _ [(b:Int)] 0 (Nat.lt_succ_self _) hB0 (mStart hbn hnP hput) (by show 1+0+_≤_;omega)
      have hc1:c'=1:=mEnd hput p3 hd h1
      subst hc1
      have hl2:(C ++ [obB ((List.replicate G.length false).set b true)] ++ [Ob.cells 0 [iV b]]).length=C.length+2:=by simp
      have hne:(((1:Nat):Int) != 1)=false:=rfl
      refine ⟨_,?_,(hE.trans p2).trim (Nat.le_refl _) (frOf 213 [(0,v),(7,.sl j 0 0 G.length 1),(12,bv),(13,sv),(14,.s (.int .i64 (b+1:Nat)))])⟩
      rw [itW_step]
      simp only [bl,cast0,iV] at p1
      simp only [iV] at g2 hl2
      simp only [hh1] at hmk
      have hl1:(C ++ [obB (List.replicate G.length false)]).length=C.length+1:=by simp
      simp only [bl,a_f6,s_f6_l0_b,s_f6_l1_b,s_f6_l2_b,s_f6_l3_b,s_f6_l4_b,aa,bl,i64,reduceIte,reduceCtorEq,Nat.reduceEqDiff,Nat.reduceLT,Nat.reduceLeDiff,Nat.reduceBEq,Nat.reduceAdd,fillA,splice,Nat.reduceMul,amY,op_eqP,hvl,hlt',gp.1,gp.2,s1,s2,op_mkSl,hmk,hl1,g1.1,g2,hl2,p1,hne,hwk]) 0 A (Nat.zero_le _) (Ext.refl A)
 rw [cast0] at e1
 refine ⟨_,e1.trans ?_,a1.trim (Nat.le_refl _) (frOf 213 [(0,v),(7,.sl j 0 0 G.length 1),(12,bv),(13,sv),(14,.s (.int .i64 G.length)),(132,bl false)])⟩
 rw [itW_step]
 simp only [bl,a_f6,s_f6_l0_b,s_f6_l1_b,s_f6_l2_b,s_f6_l3_b,s_f6_l4_b,aa,bl,i64,reduceIte,reduceCtorEq,Nat.reduceEqDiff,Nat.reduceLT,Nat.reduceLeDiff,Nat.reduceBEq,Nat.reduceAdd,fillA,splice,Nat.reduceMul,amY,op_eqP,hvl,Int.lt_irrefl]
end
end Go.Proofs.Ytdmnenlpdeolaaa
set_option maxRecDepth 100000
namespace Go.Proofs.Ytdmnenlpdeolaaa
open Go.AM
theorem getD_get (B:List Bool) (k:Nat):B.getD k false=true↔B[k]?=some true:=by
 rw [List.getD]
 cases B[k]? with
 | none=>simp
 | some b=>simp
section
variable {CT:Nat→Option CFun}
set_option maxHeartbeats 1000000 in
theorem meet_law (h:CL9 CT) (hI:CI CT) (hF:CT k_f16=some (.code s_f16)) (hR:CT k_f21=some (.code s_f21)) (hR1:CT k_f38=some (.code s_f38)) (hL:CT k_f6=some (.code s_f6)) (base:Nat) (H:Heap) (hb:base≤H.length) (v lv:V) (G:List (List Int)) (q:Int) (l:List Int) (hv:RdRows H v (rowsV G)) (hl:Rd H lv (l.map iV)) (hlw:Wide1 lv):
 ∃ H',callW CT (.fn k_f6 [] []) [v,.s (.int .i64 q),lv] base H=some (.s (.bool true),H'):=by
 have hg:=great9_fun h.great base H v G hv
 have hll:=iV_len hl
 have hvl:=rows_lenV hv
 have hw0:=h.wakes base H
 cases hgr:great9 G with
 | true=>
   rw [hgr] at hg
   refine ⟨H,callW_fn (c:=s_f6) hL (by simp [s_f6]) ?_⟩
   simp only [s_f6,a_f6,s_f6_l0_b,s_f6_l1_b,s_f6_l2_b,s_f6_l3_b,s_f6_l4_b,aa,bl,i64,reduceIte,reduceCtorEq,Nat.reduceEqDiff,Nat.reduceLT,Nat.reduceLeDiff,Nat.reduceBEq,Nat.reduceAdd,fillA,splice,Nat.reduceMul,amY,op_eqP,hg,hll,hw0]
 | false=>
   rw [hgr] at hg
   obtain ⟨hn,hr⟩:=great9_small hgr
   by_cases h16:(G.length:Int) > 16
   ·refine ⟨H,callW_fn (c:=s_f6) hL (by simp [s_f6]) ?_⟩
    simp only [s_f6,a_f6,s_f6_l0_b,s_f6_l1_b,s_f6_l2_b,s_f6_l3_b,s_f6_l4_b,aa,bl,i64,reduceIte,reduceCtorEq,Nat.reduceEqDiff,Nat.reduceLT,Nat.reduceLeDiff,Nat.reduceBEq,Nat.reduceAdd,fillA,splice,Nat.reduceMul,amY,op_eqP,hg,hll,hvl,h16,hw0]
   by_cases hq0:q < 0
   ·refine ⟨H,callW_fn (c:=s_f6) hL (by simp [s_f6]) ?_⟩
    simp only [s_f6,a_f6,s_f6_l0_b,s_f6_l1_b,s_f6_l2_b,s_f6_l3_b,s_f6_l4_b,aa,bl,i64,reduceIte,reduceCtorEq,Nat.reduceEqDiff,Nat.reduceLT,Nat.reduceLeDiff,Nat.reduceBEq,Nat.reduceAdd,fillA,splice,Nat.reduceMul,amY,op_eqP,hg,hll,hvl,h16,hq0,hw0]
   by_cases hq1:(G.length:Int)≤q
   ·refine ⟨H,callW_fn (c:=s_f6) hL (by simp [s_f6]) ?_⟩
    simp only [s_f6,a_f6,s_f6_l0_b,s_f6_l1_b,s_f6_l2_b,s_f6_l3_b,s_f6_l4_b,aa,bl,i64,reduceIte,reduceCtorEq,Nat.reduceEqDiff,Nat.reduceLT,Nat.reduceLeDiff,Nat.reduceBEq,Nat.reduceAdd,fillA,splice,Nat.reduceMul,amY,op_eqP,ge_iff_le,hg,hll,hvl,h16,hq0,hq1,hw0]
   by_cases hl16:(l.length:Int) > 16
   ·refine ⟨H,callW_fn (c:=s_f6) hL (by simp [s_f6]) ?_⟩
    simp only [s_f6,a_f6,s_f6_l0_b,s_f6_l1_b,s_f6_l2_b,s_f6_l3_b,s_f6_l4_b,aa,bl,i64,reduceIte,reduceCtorEq,Nat.reduceEqDiff,Nat.reduceLT,Nat.reduceLeDiff,Nat.reduceBEq,Nat.reduceAdd,fillA,splice,Nat.reduceMul,amY,op_eqP,ge_iff_le,hg,hll,hvl,h16,hq0,hq1,hl16,hw0]
   obtain ⟨k,rfl⟩:=Int.eq_ofNat_of_zero_le (show 0≤q by omega)
   have hk:k < G.length:=by omega
   have hmk:=mk_false H G.length (by omega)
   have g1:=bA_at (hh1_get H (List.replicate G.length false)) hk (by simp)
   have g2:=bA_set (hh1_get H (List.replicate G.length false)) hb hk (by simp)
   rw [hh1_set] at g2
   obtain ⟨B0,hB0⟩:∃ B0,(List.replicate G.length false).set k true=B0:=⟨_,rfl⟩
   have hB0l:B0.length=G.length:=by rw [← hB0];simp
   have hB0g:∀ i,B0.getD i false=true↔i=k:=fun i=>by
    rw [← hB0,getD_setB _ _ _ (by rw [List.length_replicate];exact hk),Bool.or_eq_true,decide_eq_true_iff]
    constructor
    ·rintro (e | e)
     ·exact e.symm
     ·rw [List.getD,List.getElem?_replicate] at e
      split at e <;> simp at e
    ·intro e;exact .inl e.symm
   rw [hB0] at g2
   have hlX:Rd (hh1 H B0 ++ [Ob.cells 0 [iV k]]) lv (l.map iV):=(hl.ext (hh1_ext H B0)).ext (Ext.app _ _)
   have hgX:=getC_new (hh1 H B0) 0 [iV k]
   obtain ⟨g',ap⟩:=append_full (base:=base) (bytes:=8) hgX (by rw [hh1_len];omega) hlX (by simp [iV,V.one]) (by simp;omega)
   rw [set_snoc,hh1_len] at ap
   have hcons:[iV k] ++ l.map iV=(((k:Int) :: l).map iV):=rfl
   rw [hcons] at ap
   obtain ⟨o,ho⟩:∃ o,o=Ob.cells g' (((k:Int) :: l).map iV):=⟨_,rfl⟩
   rw [← ho] at ap
   have hX8:∀ B,Rd (H ++ [obB B] ++ [o]) (.sl (H.length+1) g' 0 (1+l.length) 1) (((k:Int) :: l).map iV):=fun B=>by
    have hc:getC (H ++ [obB B] ++ [o]) (H.length+1) g'=some (((k:Int) :: l).map iV):=by
     have:=getC_new (H ++ [obB B]) g' (((k:Int) :: l).map iV)
     rw [len_snoc] at this
     rw [ho];exact this
    have:=Rd.sl (off:=0) (n:=1+l.length) hc (by simp;omega)
    rwa [List.drop_zero,List.take_of_length_le (by simp;omega)] at this
   have h0:=mt_l0 (CT:=CT) (xv:=.sl (H.length+1) g' 0 (1+l.length) 1) (q:=(k:Int)) base (X:=H) hb (by omega) hvl hl hlw (by omega) B0 hB0l o
   obtain ⟨B1,hB1⟩:∃ B1,l.foldl (markR G.length) B0=B1:=⟨_,rfl⟩
   have hB1l:B1.length=G.length:=by rw [← hB1,markR_len,hB0l]
   have hB1g:∀ i,i < G.length→(B1.getD i false=true↔i=k∨(i:Int)∈l):=fun i hi=>by
    rw [← hB1,markR_get _ _ _ _ hB0l hi,hB0g]
   rw [hB1] at h0
   have eA:Ext H (H ++ [obB B1] ++ [o]):=(Ext.app _ _).trans (Ext.app _ _)
   have lA:∀ B,(H ++ [obB B] ++ [o]).length=H.length+2:=fun B=>by simp
   obtain ⟨fv,H2,T,lvl,c1,c2,c3,c4⟩:=frontier_f h.t h.dom hF base (H ++ [obB B1] ++ [o]) v G (k:Int) (hv.ext eA) (by rw [lA];omega) (by omega) (fun r h=>by have:=hr r h;omega)
   have hsm:=frG_small c4
   have e2:=eA.trans c2
   have l2:=c2.le
   rw [lA] at l2
   obtain ⟨gv,H3,Z,i1,i2,i3,i4,i5⟩:=iterate_own hI base H2 (l:=(k:Int) :: l) (by omega) c3 ((hX8 B1).ext c2) trivial (by simp;omega) (by rw [frG_len];omega) (fun r hr'=>by have:=hsm r hr';omega)
   have hZr:∀ z∈Z,0≤z∧z < G.length:=fun z hz=>by
    have:=itR_in ((i5 z).1 hz)
    exact ⟨this.1,by have:=this.2;rw [frG_len] at this;omega⟩
   have hZl:Z.length < 2 ^ 40:=by
    have:=up_len' i4 hZr
    omega
   have e3:=e2.trans i2
   have hgP:getC H3 H.length 0=some (B1.map bV):=getC_ext (getC_ext (getC_app (getC_new H 0 _)) c2) i2
   have h1:=mt_l1 (CT:=CT) (v:=v) (q:=(k:Int)) base hb (by omega) hvl i3 (j:=H.length) (by omega) hZl hZr B1 hB1l hgP
   have hgP4:=getC_put (c':=(marks Z B1).map bV) hgP
   have e4:Ext H (H3.set H.length (obB (marks Z B1))):=e3.set (Nat.le_refl _) _
   obtain ⟨H4,hH4⟩:∃ H4,H3.set H.length (obB (marks Z B1))=H4:=⟨_,rfl⟩
   rw [show H3.set H.length (.cells 0 ((marks Z B1).map bV))=H4 from hH4] at hgP4
   rw [hH4] at h1 e4
   have hPl:(marks Z B1).length=G.length:=by rw [marks_len,hB1l]
   obtain ⟨bv,H5,b1,b2,b3,_⟩:=back_f h.t.g base H4 v G (hv.ext e4) (by have:=e4.le;omega) (by omega) (fun r h=>by have:=hr r h;omega)
   have e5:=e4.trans b2
   have l5:=e5.le
   obtain ⟨sv,H6,S,s1,s2,s3,s4,s5,s6⟩:=reach_f hR hR1 base (H5 ++ [Ob.cells 0 [iV k]]) v (.sl H5.length 0 0 1 1) G [(k:Int)] (by simp;omega) ((hv.ext e5).ext (Ext.app _ _)) (one_rd H5 (iV k)) trivial (by simp) (by omega) (fun r h=>by have:=hr r h;omega)
   have e56:Ext H5 H6:=(Ext.app _ _).trans s2
   have hput:∀ i,i < G.length→((marks Z B1).getD i false=true↔PutP (frG T G) k l i):=fun i hi=>by
    rw [marks_get Z B1 i (fun z hz=>by rw [hB1l];exact hZr z hz),hB1g i hi,i5]
    unfold PutP
    rw [or_assoc]
   obtain ⟨H7,m1,m2⟩:=mt_l4 (CT:=CT) (l:=l) base c4 hk (A:=H6) (by have:=e56.le;omega) (by omega) hvl (getC_ext (getC_ext hgP4 b2) e56) hPl s3 s4 s5 (b3.ext e56) (fun i=>by rw [getD_get];exact s6 i) hput
   have hw:=h.wakes base H7
   have hbl:∀ H',xLen H' .s bv=some (.s (.int .i64 G.length)):=by
    have:=rows_lenV b3
    rwa [backG_len] at this
   have hsl:=s3.len
   rw [List.length_map,s5] at hsl
   have hne:((G.length:Int) != (G.length:Int))=false:=by simp
   have hxl:∀ B,xLen (H ++ [obB B] ++ [o]) .s lv=some (.s (.int .i64 l.length)):=fun B=>iV_len (hl.ext ((Ext.app _ _).trans (Ext.app _ _)))
   have lX:∀ B,(hh1 H B ++ [o]).length=H.length+2:=fun B=>by simp [hh1]
   have l5':(H5 ++ [Ob.cells 0 [iV (k:Int)]]).length=H5.length+1:=by simp
   simp only [bl] at h0 h1 m1
   simp only [iV] at ap s1 l5' hlX
   rw [show H ++ [obB B0] ++ [o]=hh1 H B0 ++ [o] from rfl] at h0
   refine ⟨H7,callW_fn (c:=s_f6) hL (by simp [s_f6]) ?_⟩
   simp only [List.length_cons,List.length_nil,Nat.zero_add,List.length_map] at ap
   simp only [s_f6,a_f6,s_f6_l0_b,s_f6_l1_b,s_f6_l2_b,s_f6_l3_b,s_f6_l4_b,aa,bl,i64,reduceIte,reduceCtorEq,Nat.reduceEqDiff,Nat.reduceLT,Nat.reduceLeDiff,Nat.reduceBEq,Nat.reduceAdd,fillA,splice,Nat.reduceMul,amY,op_eqP,ge_iff_le,hg,hll,hvl,h16,hq0,hq1,hl16,op_mkSl,hmk,g1.1,g2,hh1_len,ap,lX,h0,lA,c1,i1,h1,b1,s1,hbl,hsl,hne,m1,hw]
end
end Go.Proofs.Ytdmnenlpdeolaaa
