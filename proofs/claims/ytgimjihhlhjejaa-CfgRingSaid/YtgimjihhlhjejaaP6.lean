/- Texts of the proof: CgSccG1, TarN, CgSccG2, CgSccG3, CgSccG4, CgSccG5, CgS4, CfgO1, CfgO2, CfgO3, CfgO4, CgS6, CfgW1, CfgW2, CfgW3, CfgW4, CgS7, CfgR1, CfgR2, CfgR3. -/
import Derived.Test.YtgimjihhlhjejaaP0
import Derived.Test.YtgimjihhlhjejaaP1
import Derived.Test.YtgimjihhlhjejaaP2
import Derived.Test.YtgimjihhlhjejaaP3
import Derived.Test.YtgimjihhlhjejaaP4
import Derived.Test.YtgimjihhlhjejaaP5
set_option linter.all false
set_option maxRecDepth 100000
namespace Go.Proofs.Ytgimjihhlhjejaa
open Go.AM
section
variable {CT:Nat→Option CFun}
theorem mul64_fun (hT:CT k_f65=some (.code s_f65)) (base:Nat) (H:Heap) (n:Nat) (hn:n < 2 ^ 32):
 callW CT (.fn k_f65 [] []) [.s (.int .u64 1),.s (.int .u64 n)] base H=some (.tup [.s (.int .u64 0),.s (.int .u64 n)],H):=by
 have a1:=w64_and 1 4294967295 (by decide) (by decide)
 have a2:=w64_and n 4294967295 (by omega) (by decide)
 have e1:(1 &&& 4294967295:Nat)=1:=by decide
 have e2:(n &&& 4294967295:Nat)=n:=by
  rw [show (4294967295:Nat)=2 ^ 32 - 1 by decide,Nat.and_two_pow_sub_one_eq_mod]
  exact Nat.mod_eq_of_lt hn
 rw [e1] at a1
 rw [e2] at a2
 have s1:=w64_shr 1 32 .u64 (by decide)
 have s2:=w64_shr n 32 .u64 (by decide)
 have s3:=w64_shr 0 32 .u64 (by decide)
 have e3:n / 2 ^ 32=0:=Nat.div_eq_of_lt hn
 rw [e3] at s2
 have a3:=w64_and 0 4294967295 (by decide) (by decide)
 have m1:IntKind.u64.wrap (1 * (n:Int))=(n:Int):=by rw [IntKind.wrap_u64];omega
 have m2:IntKind.u64.wrap ((0:Int) * (n:Int))=0:=by rw [IntKind.wrap_u64];omega
 have m3:IntKind.u64.wrap ((1:Int) * 0)=0:=by rfl
 have m4:IntKind.u64.wrap ((0:Int) * 0)=0:=by rfl
 have m5:IntKind.u64.wrap ((0:Int)+0)=0:=by rfl
 have s4:=w64_shr n 32 .i64 (by decide)
 have s5:=w64_shr 1 32 .i64 (by decide)
 have s6:=w64_shr 0 32 .i64 (by decide)
 rw [e3] at s4
 refine callW_fn (c:=s_f65) hT (by simp [s_f65]) ?_
 simp only [show ((1:Nat):Int)=1 from rfl,show ((4294967295:Nat):Int)=4294967295 from rfl,show ((32:Nat):Int)=32 from rfl,show ((0:Nat):Int)=0 from rfl,show (1 / 2 ^ 32:Nat)=0 by decide,show (0 / 2 ^ 32:Nat)=0 by decide,show (0 &&& 4294967295:Nat)=0 by decide] at a1 a2 a3 s1 s2 s3 s4 s5 s6
 simp only [s_f65,a_f65,aa,bl,i64,reduceIte,reduceCtorEq,Nat.reduceEqDiff,Nat.reduceLT,Nat.reduceLeDiff,Nat.reduceBEq,Nat.reduceAdd,fillA,splice,Nat.reduceMul,amY,op_eqP,a1,a2,a3,s1,s2,s3,s4,s5,s6,m1,m2,m3,m4,m5]
theorem mul_fun (hM:CT k_f61=some (.code s_f61)) (hT:CT k_f65=some (.code s_f65)) (base:Nat) (H:Heap) (n:Nat) (hn:n < 2 ^ 32):
 callW CT (.fn k_f61 [] []) [.s (.int .u64 1),.s (.int .u64 n)] base H=some (.tup [.s (.int .u64 0),.s (.int .u64 n)],H):=by
 have m:=mul64_fun hT base H n hn
 refine callW_fn (c:=s_f61) hM (by simp [s_f61]) ?_
 simp only [s_f61,a_f61,aa,bl,i64,reduceIte,reduceCtorEq,Nat.reduceEqDiff,Nat.reduceLT,Nat.reduceLeDiff,Nat.reduceBEq,Nat.reduceAdd,fillA,splice,Nat.reduceMul,amY,op_eqP,m]
def filled (n k:Nat):List V:=List.replicate k (iV (-1)) ++ List.replicate (n - k) (iV 0)
theorem rep_loop (base:Nat) (A:Heap) (n:Nat) (hb:base≤A.length) (hn:n < 2 ^ 32):∀ (m k:Nat),n≤k+m→(1≤k∨k=n)→k≤n→
 itW (evC (callW CT) itW base s_f51_l0) [] (A.length+1) (frOf 48 [(7,.sl A.length 0 0 n 1),(8,.s (.int .i64 k))]) (A ++ [.cells 0 (filled n k)])=some (.ext 0,frOf 48 [(7,.sl A.length 0 0 n 1),(8,.s (.int .i64 n)),(37,bl false)],A ++ [.cells 0 (filled n n)]):=by
 have ts:∀ (fr:List V) (ob:Ob),trim (A.length+1) fr (A ++ [ob])=A ++ [ob]:=fun fr ob=>trim_same (by simp)
 intro m
 induction m with
 | zero=>
   intro k h1 h2 h3
   obtain rfl:k=n:=by omega
   rw [itW_step]
   simp only [a_f51,s_f51_l0_b,aa,bl,i64,reduceIte,reduceCtorEq,Nat.reduceEqDiff,Nat.reduceLT,Nat.reduceLeDiff,Nat.reduceBEq,Nat.reduceAdd,fillA,splice,Nat.reduceMul,amY,op_eqP,Int.lt_irrefl,ts,bl]
 | succ m ih=>
   intro k h1 h2 h3
   by_cases hk:k=n
   ·subst hk
    rw [itW_step]
    simp only [a_f51,s_f51_l0_b,aa,bl,i64,reduceIte,reduceCtorEq,Nat.reduceEqDiff,Nat.reduceLT,Nat.reduceLeDiff,Nat.reduceBEq,Nat.reduceAdd,fillA,splice,Nat.reduceMul,amY,op_eqP,Int.lt_irrefl,ts,bl]
   ·have hlt:(k:Int) < (n:Int):=by omega
    have hz:∀ x y:Nat,(0:Int)≤x↔True:=fun x y=>by simp
    have i1:(0:Int)≤(k:Int)∧(k:Int)≤n∧(n:Int)≤n∧1=1:=by omega
    have i2:(0:Int)≤0∧(0:Int)≤k∧(k:Int)≤n∧1=1:=by omega
    have i3:((n:Int) - k).toNat=n - k:=by omega
    have i4:((k:Int) - 0).toNat=k:=by omega
    have hc:getC (A ++ [.cells 0 (filled n k)]) A.length 0=some (filled n k):=getC_new _ _ _
    have hl:(filled n k).length=n:=by simp [filled];omega
    have hcp:copyV (A ++ [.cells 0 (filled n k)]) base 1 (.sl A.length 0 k (n - k) 1) (.sl A.length 0 0 k 1)=some (.s (.int .i64 (min k (n - k):Nat)),A ++ [.cells 0 (filled n (k+min k (n - k)))]):=by
     have ht:(filled n k).take k=List.replicate k (iV (-1)):=List.take_left' (by simp)
     have he:elems (A ++ [.cells 0 (filled n k)]) 1 (.sl A.length 0 0 k 1)=some (k,List.replicate k (iV (-1))):=by
      simp only [elems,hc,List.drop_zero,Nat.mul_one,ht,List.length_replicate,if_true]
     have hall:(List.replicate k (iV (-1))).all V.one=true:=by
      rw [List.all_eq_true]
      intro x hx
      rw [(List.mem_replicate.1 hx).2]
      rfl
     have hsp:splice (filled n k) k ((List.replicate k (iV (-1))).take (min k (n - k) * 1))=filled n (k+min k (n - k)):=by
      have hd:(filled n k).drop (k+min k (n - k))=List.replicate (n - k - min k (n - k)) (iV 0):=by
       rw [filled,← List.drop_drop,List.drop_left' (by simp),List.drop_replicate]
      have hm:min (min k (n - k)) k=min k (n - k):=by omega
      rw [splice,ht,Nat.mul_one,List.take_replicate,List.length_replicate,hm,hd,filled,List.replicate_append_replicate,Nat.sub_sub]
     simp only [copyV,he,hall,if_true,true_and,hb,hc,hl,hsp,set_snoc,show k+(n - k) * 1≤n by omega,i64]
    have hw:IntKind.i64.wrap ((k:Int)+(min k (n - k):Nat))=((k+min k (n - k):Nat):Int):=by rw [IntKind.wrap_i64];omega
    have ih':=ih (k+min k (n - k)) (by omega) (by omega) (by omega)
    rw [itW_step]
    simp only [a_f51,s_f51_l0_b,aa,bl,i64,reduceIte,reduceCtorEq,Nat.reduceEqDiff,Nat.reduceLT,Nat.reduceLeDiff,Nat.reduceBEq,Nat.reduceAdd,fillA,splice,Nat.reduceMul,amY,op_eqP,hlt,op_copy,xslice_sl,bndV_none,bndV_int,cutSl_some,i1,i2,i3,i4,and_self,Int.toNat_natCast,Int.toNat_zero,hcp,hw,ts]
    exact ih'
theorem repeat_fun (hR:CT k_f51=some (.code s_f51)) (hM:CT k_f61=some (.code s_f61)) (hT:CT k_f65=some (.code s_f65)) (base:Nat) (H:Heap) (v:V) (hv:Rd H v [iV (-1)]) (n:Nat) (hn:n < 2 ^ 32) (hb:base≤H.length):
 callW CT (.fn k_f51 [] []) [v,.s (.int .i64 n)] base H=some (.sl H.length 0 0 n 1,H ++ [.cells 0 (List.replicate n (iV (-1)))]):=by
 have hm:=mul_fun hM hT base H n hn
 have hl:=hv.len
 have hmk:=make_n (H:=H) (zero:=[.s (.int .i64 0)]) (sz:=1) (bytes:=8) (k:=.i64) (k':=.i64) (n:=n) (by omega)
 rw [flat_one] at hmk
 have w1:IntKind.u64.wrap 1=1:=rfl
 have w2:IntKind.u64.wrap (n:Int)=n:=by rw [IntKind.wrap_u64];omega
 have w3:IntKind.i64.wrap (n:Int)=n:=by rw [IntKind.wrap_i64];omega
 have z1:decide ((n:Int) < 0)=false:=by rw [decide_eq_false_iff_not];omega
 have z2:decide ((n:Int) > 9223372036854775807)=false:=by rw [decide_eq_false_iff_not];omega
 have z3:decide ((0:Int) > 0)=false:=by decide
 have hex:=hv.ext (Ext.app H [Ob.cells 0 (List.replicate n (.s (.int .i64 0)))])
 have hcp:copyV (H ++ [.cells 0 (List.replicate n (.s (.int .i64 0)))]) base 1 (.sl H.length 0 0 n 1) v=some (.s (.int .i64 (min 1 n:Nat)),H ++ [.cells 0 (filled n (min 1 n))]):=by
  have hc:getC (H ++ [Ob.cells 0 (List.replicate n (.s (.int .i64 0)))]) H.length 0=some (List.replicate n (.s (.int .i64 0))):=getC_new _ _ _
  have he:=hex.2
  simp only [List.length_cons,List.length_nil,Nat.zero_add] at he
  have hall:[iV (-1)].all V.one=true:=rfl
  have hsp:splice (List.replicate n (.s (.int .i64 0))) 0 ([iV (-1)].take (min 1 n * 1))=filled n (min 1 n):=by
   cases n with
   | zero=>rfl
   | succ n=>
     have:min 1 (n+1)=1:=by omega
     rw [this]
     simp [splice,filled,iV]
  rw [copyV_of (off:=0) (len:=n) hex.1 he hall hb hc (by rw [List.length_replicate];omega),hsp,set_snoc]
 have hrl:=rep_loop (CT:=CT) base H n hb hn n (min 1 n) (by omega) (by omega) (by omega)
 have hf:filled n n=List.replicate n (iV (-1)):=by simp [filled]
 have hlen1:∀ ob,(H ++ [ob]).length=H.length+1:=fun ob=>by simp
 rw [hf] at hrl
 refine callW_fn (c:=s_f51) hR (by simp [s_f51]) ?_
 simp only [List.length_cons,List.length_nil,Nat.zero_add] at hl
 simp only [s_f51,a_f51,s_f51_l0_b,aa,bl,i64,reduceIte,reduceCtorEq,Nat.reduceEqDiff,Nat.reduceLT,Nat.reduceLeDiff,Nat.reduceBEq,Nat.reduceAdd,fillA,splice,Nat.reduceMul,amY,op_eqP,hl,show ((1:Nat):Int)=1 from rfl,z1,w1,w2,w3,hm,z2,z3,op_mkSl,hmk,op_copy,hcp,hlen1,hrl]
theorem indexI_fun (hT:CT k_f53=some (.code s_f53)) (base:Nat) {H:Heap} {v:V} {l:List Int} (hr:Rd H v (l.map iV)) (hw:Wide1 v) (hn:l.length < 2 ^ 60) (y:Int):
 callW CT (.fn k_f53 [] []) [v,.s (.int .i64 y)] base H=some (.s (.int .i64 (if y∈l then (l.idxOf y:Nat) else -1)),H):=by
 have e1:=iV_len hr
 have hst:∀ i,i < l.length→(y == l.getD i 0)=false→itW (evC (callW CT) itW base s_f53_l0) [] H.length (frOf 19 [(0,v),(1,.s (.int .i64 y)),(7,.s (.int .i64 l.length)),(8,.s (.int .i64 i))]) H=itW (evC (callW CT) itW base s_f53_l0) [] H.length (frOf 19 [(0,v),(1,.s (.int .i64 y)),(7,.s (.int .i64 l.length)),(8,.s (.int .i64 (i+1:Nat)))]) H:=by
  intro i hi hp
  have hlt':((i:Int) < (l.length:Int)):=by omega
  obtain ⟨a,a1,a2⟩:=iV_get hr hw hi
  have w:=w64 (n:=i) (by omega)
  rw [itW_step]
  simp only [a_f53,s_f53_l0_b,aa,bl,i64,reduceIte,reduceCtorEq,Nat.reduceEqDiff,Nat.reduceLT,Nat.reduceLeDiff,Nat.reduceBEq,Nat.reduceAdd,fillA,splice,Nat.reduceMul,amY,op_eqP,hlt',a1,a2,hp,w,trim_same rfl]
 refine callW_fn (c:=s_f53) hT (by simp [s_f53]) ?_
 rcases it_find l.length (fun i=>y == l.getD i 0) (fun i=>itW (evC (callW CT) itW base s_f53_l0) [] H.length (frOf 19 [(0,v),(1,.s (.int .i64 y)),(7,.s (.int .i64 l.length)),(8,.s (.int .i64 i))]) H) hst with ⟨h1,h2⟩ | ⟨i,hi,h1,h2,h3⟩
 ·have hny:y ∉ l:=fun hm=>by
   obtain ⟨i,hi,e⟩:=List.getElem_of_mem hm
   have:=h1 i hi
   simp only [List.getD,List.getElem?_eq_getElem hi,Option.getD_some,e,beq_self_eq_true] at this
   cases this
  rw [if_neg hny]
  have hend:itW (evC (callW CT) itW base s_f53_l0) [] H.length (frOf 19 [(0,v),(1,.s (.int .i64 y)),(7,.s (.int .i64 l.length)),(8,.s (.int .i64 l.length))]) H=some (.ext 0,frOf 19 [(0,v),(1,.s (.int .i64 y)),(7,.s (.int .i64 l.length)),(8,.s (.int .i64 l.length)),(9,bl false)],H):=by
   rw [itW_step]
   simp only [a_f53,s_f53_l0_b,aa,bl,i64,reduceIte,reduceCtorEq,Nat.reduceEqDiff,Nat.reduceLT,Nat.reduceLeDiff,Nat.reduceBEq,Nat.reduceAdd,fillA,splice,Nat.reduceMul,amY,op_eqP,Int.lt_irrefl,trim_same rfl,bl]
  have h4:=h2.trans hend
  simp only [bl,show ((0:Nat):Int)=0 from rfl] at h4
  simp only [s_f53,a_f53,s_f53_l0_b,aa,bl,i64,reduceIte,reduceCtorEq,Nat.reduceEqDiff,Nat.reduceLT,Nat.reduceLeDiff,Nat.reduceBEq,Nat.reduceAdd,fillA,splice,Nat.reduceMul,amY,op_eqP,e1,h4]
 ·have hg:l[i]?=some y:=by rw [some_getD hi 0,eq_of_beq h1]
  have hm:y∈l:=List.mem_of_getElem? hg
  have hix:l.idxOf y=i:=by
   refine Nat.le_antisymm ?_ ?_
   ·have:=List.idxOf_lt_length_of_mem hm
    rcases Nat.lt_or_ge i (l.idxOf y) with hlt | hge
    ·exact absurd hg (by
      have:=List.not_of_lt_findIdx (xs:=l) (p:=(· == y)) (i:=i) hlt
      rw [List.getElem?_eq_getElem hi]
      intro e0
      simp only [Option.some.injEq] at e0
      rw [e0] at this
      simp at this)
    ·exact hge
   ·rcases Nat.lt_or_ge (l.idxOf y) i with hlt | hge
    ·have:=h2 _ hlt
     have h5:=List.getElem_idxOf (List.idxOf_lt_length_of_mem hm)
     simp only [List.getD,List.getElem?_eq_getElem (List.idxOf_lt_length_of_mem hm),Option.getD_some,h5,beq_self_eq_true] at this
     cases this
    ·exact hge
  rw [if_pos hm,hix]
  have hlt':((i:Int) < (l.length:Int)):=by omega
  obtain ⟨a,a1,a2⟩:=iV_get hr hw hi
  have hend:itW (evC (callW CT) itW base s_f53_l0) [] H.length (frOf 19 [(0,v),(1,.s (.int .i64 y)),(7,.s (.int .i64 l.length)),(8,.s (.int .i64 i))]) H=some (.ret,frOf 19 [(4,.s (.int .i64 i))],H):=by
   rw [itW_step]
   simp only [a_f53,s_f53_l0_b,aa,bl,i64,reduceIte,reduceCtorEq,Nat.reduceEqDiff,Nat.reduceLT,Nat.reduceLeDiff,Nat.reduceBEq,Nat.reduceAdd,fillA,splice,Nat.reduceMul,amY,op_eqP,hlt',a1,a2,h1]
  have h4:=h3.trans hend
  simp only [show ((0:Nat):Int)=0 from rfl] at h4
  simp only [s_f53,a_f53,s_f53_l0_b,aa,bl,i64,reduceIte,reduceCtorEq,Nat.reduceEqDiff,Nat.reduceLT,Nat.reduceLeDiff,Nat.reduceBEq,Nat.reduceAdd,fillA,splice,Nat.reduceMul,amY,op_eqP,e1,h4]
theorem contains_fun (hC:CT k_f34=some (.code s_f34)) (hT:CT k_f53=some (.code s_f53)) (base:Nat) {H:Heap} {v:V} {l:List Int} (hr:Rd H v (l.map iV)) (hw:Wide1 v) (hn:l.length < 2 ^ 60) (y:Int):
 callW CT (.fn k_f34 [] []) [v,.s (.int .i64 y)] base H=some (.s (.bool (decide (y∈l))),H):=by
 have h:=indexI_fun hT base hr hw hn y
 refine callW_fn (c:=s_f34) hC (by simp [s_f34]) ?_
 simp only [s_f34,a_f34,aa,bl,i64,reduceIte,reduceCtorEq,Nat.reduceEqDiff,Nat.reduceLT,Nat.reduceLeDiff,Nat.reduceBEq,Nat.reduceAdd,fillA,splice,Nat.reduceMul,amY,op_eqP,h]
 by_cases hm:y∈l
 ·simp [hm]
 ·simp [hm]
def cntZ (l:List Int):Int:=l.foldl (fun n k=>if n < k+1 then k+1 else n) 0
theorem count_fun (hC:CT k_f33=some (.code s_f33)) (base:Nat) {H:Heap} {v:V} {l:List Int} (hr:Rd H v (l.map iV)) (hw:Wide1 v) (hn:l.length < 2 ^ 60) (hl:∀ x∈l,0≤x∧x < 2 ^ 40):
 callW CT (.fn k_f33 [] []) [v] base H=some (.s (.int .i64 (cntZ l)),H):=by
 have e1:=iV_len hr
 have key:∀ i,i < l.length→itW (evC (callW CT) itW base s_f33_l0) [] H.length (frOf 18 [(3,.s (.int .i64 (cntZ (l.take i)))),(6,v),(7,.s (.int .i64 l.length)),(8,.s (.int .i64 i))]) H=itW (evC (callW CT) itW base s_f33_l0) [] H.length (frOf 18 [(3,.s (.int .i64 (cntZ (l.take (i+1))))),(6,v),(7,.s (.int .i64 l.length)),(8,.s (.int .i64 (i+1:Nat)))]) H:=by
  intro i hi
  have hlt':((i:Int) < (l.length:Int)):=by omega
  obtain ⟨a,a1,a2⟩:=iV_get hr hw hi
  have w:=w64 (n:=i) (by omega)
  have hx:=hl (l.getD i 0) (List.mem_of_getElem? (some_getD hi 0))
  have w2:IntKind.i64.wrap (l.getD i 0+1)=l.getD i 0+1:=by rw [IntKind.wrap_i64];omega
  have ht:cntZ (l.take (i+1))=(if cntZ (l.take i) < l.getD i 0+1 then l.getD i 0+1 else cntZ (l.take i)):=by
   rw [List.take_add_one,some_getD hi 0]
   simp [cntZ,List.foldl_append]
  rw [ht,itW_step]
  simp only [a_f33,s_f33_l0_b,aa,bl,i64,reduceIte,reduceCtorEq,Nat.reduceEqDiff,Nat.reduceLT,Nat.reduceLeDiff,Nat.reduceBEq,Nat.reduceAdd,fillA,splice,Nat.reduceMul,amY,op_eqP,hlt',a1,a2,w,w2,trim_same rfl]
 have h2:=it_fun l.length (fun i=>itW (evC (callW CT) itW base s_f33_l0) [] H.length (frOf 18 [(3,.s (.int .i64 (cntZ (l.take i)))),(6,v),(7,.s (.int .i64 l.length)),(8,.s (.int .i64 i))]) H) key 0 (Nat.zero_le _)
 have hend:itW (evC (callW CT) itW base s_f33_l0) [] H.length (frOf 18 [(3,.s (.int .i64 (cntZ (l.take l.length)))),(6,v),(7,.s (.int .i64 l.length)),(8,.s (.int .i64 l.length))]) H=some (.ext 0,frOf 18 [(3,.s (.int .i64 (cntZ l))),(6,v),(7,.s (.int .i64 l.length)),(8,.s (.int .i64 l.length)),(9,bl false)],H):=by
  rw [itW_step,List.take_length]
  simp only [a_f33,s_f33_l0_b,aa,bl,i64,reduceIte,reduceCtorEq,Nat.reduceEqDiff,Nat.reduceLT,Nat.reduceLeDiff,Nat.reduceBEq,Nat.reduceAdd,fillA,splice,Nat.reduceMul,amY,op_eqP,Int.lt_irrefl,trim_same rfl,bl]
 have h4:=h2.trans hend
 simp only [bl,show ((0:Nat):Int)=0 from rfl,List.take_zero,show cntZ []=0 from rfl] at h4
 refine callW_fn (c:=s_f33) hC (by simp [s_f33]) ?_
 simp only [s_f33,a_f33,s_f33_l0_b,aa,bl,i64,reduceIte,reduceCtorEq,Nat.reduceEqDiff,Nat.reduceLT,Nat.reduceLeDiff,Nat.reduceBEq,Nat.reduceAdd,fillA,splice,Nat.reduceMul,amY,op_eqP,e1,h4]
end
end Go.Proofs.Ytgimjihhlhjejaa
namespace Go.AM
def numE (E:Nat→Nat→Bool):Nat→List Int × Nat
 | 0=>([],0)
 | i+1=>match (List.range i).find? (fun k=>E i k) with
   | some k=>((numE E i).1 ++ [(numE E i).1.getD k 0],(numE E i).2)
   | none=>((numE E i).1 ++ [((numE E i).2:Int)],(numE E i).2+1)
theorem numE_some {E:Nat→Nat→Bool} {i k:Nat} (h:(List.range i).find? (fun k=>E i k)=some k):numE E (i+1)=((numE E i).1 ++ [(numE E i).1.getD k 0],(numE E i).2):=by
 rw [numE,h]
theorem numE_none {E:Nat→Nat→Bool} {i:Nat} (h:(List.range i).find? (fun k=>E i k)=none):numE E (i+1)=((numE E i).1 ++ [((numE E i).2:Int)],(numE E i).2+1):=by
 rw [numE,h]
theorem numE_len (E:Nat→Nat→Bool):∀ i,(numE E i).1.length=i:=by
 intro i
 induction i with
 | zero=>rfl
 | succ i ih=>
   cases hk:(List.range i).find? (fun k=>E i k) with
   | some k=>rw [numE_some hk];simp [ih]
   | none=>rw [numE_none hk];simp [ih]
structure EqOn (E:Nat→Nat→Bool) (n:Nat):Prop where
 refl:∀ a,a < n→E a a=true
 symm:∀ a b,a < n→b < n→E a b=true→E b a=true
 trans:∀ a b c,a < n→b < n→c < n→E a b=true→E b c=true→E a c=true
structure NumOk (E:Nat→Nat→Bool) (i:Nat) (l:List Int) (c:Nat):Prop where
 len:l.length=i
 same:∀ a b,a < i→b < i→(l.getD a 0=l.getD b 0↔E a b=true)
 lt:∀ a,a < i→0≤l.getD a 0∧l.getD a 0 < c
 onto:∀ j,j < c→∃ a,a < i∧l.getD a 0=(j:Int)
theorem getD_snoc_lt {l:List Int} {a:Nat} (x:Int) (h:a < l.length):(l ++ [x]).getD a 0=l.getD a 0:=by
 rw [List.getD,List.getD,List.getElem?_append_left h]
theorem getD_snoc_eq {l:List Int} {a:Nat} (x:Int) (h:a=l.length):(l ++ [x]).getD a 0=x:=by
 subst h
 rw [List.getD,List.getElem?_append_right (Nat.le_refl _)]
 simp
theorem numE_ok {E:Nat→Nat→Bool} {n:Nat} (hE:EqOn E n):∀ i,i≤n→NumOk E i (numE E i).1 (numE E i).2:=by
 intro i
 induction i with
 | zero=>intro _;exact ⟨rfl,fun a b h=>absurd h (by omega),fun a h=>absurd h (by omega),fun j h=>absurd h (by simp [numE])⟩
 | succ i ih=>
   intro hi
   have h:=ih (by omega)
   have hlen:=h.len
   cases hk:(List.range i).find? (fun k=>E i k) with
   | some k=>
     rw [numE_some hk]
     have hkE:=List.find?_some hk
     have hki:k < i:=List.mem_range.1 (List.mem_of_find?_eq_some hk)
     refine ⟨by simp [hlen],fun a b ha hb=>?_,fun a ha=>?_,fun j hj=>?_⟩
     ·by_cases ea:a=i
      ·by_cases eb:b=i
       ·rw [ea,eb];simp [hE.refl i (by omega)]
       ·rw [ea,getD_snoc_eq _ hlen.symm,getD_snoc_lt _ (by omega),h.same k b hki (by omega)]
        exact ⟨fun e=>hE.trans _ _ _ (by omega) (by omega) (by omega) hkE e,fun e=>hE.trans _ _ _ (by omega) (by omega) (by omega) (hE.symm _ _ (by omega) (by omega) hkE) e⟩
      ·by_cases eb:b=i
       ·rw [eb,getD_snoc_eq _ hlen.symm,getD_snoc_lt _ (by omega),h.same a k (by omega) hki]
        exact ⟨fun e=>hE.trans _ _ _ (by omega) (by omega) (by omega) e (hE.symm _ _ (by omega) (by omega) hkE),fun e=>hE.trans _ _ _ (by omega) (by omega) (by omega) e hkE⟩
       ·rw [getD_snoc_lt _ (by omega),getD_snoc_lt _ (by omega)];exact h.same a b (by omega) (by omega)
     ·by_cases ea:a=i
      ·rw [ea,getD_snoc_eq _ hlen.symm];exact h.lt k hki
      ·rw [getD_snoc_lt _ (by omega)];exact h.lt a (by omega)
     ·obtain ⟨a,ha,e⟩:=h.onto j hj
      exact ⟨a,by omega,by rw [getD_snoc_lt _ (by omega)];exact e⟩
   | none=>
     rw [numE_none hk]
     have hno:∀ k,k < i→E i k=false:=fun k hk2=>by
      have:=List.find?_eq_none.1 hk k (List.mem_range.2 hk2)
      simpa using this
     have hne:∀ a,a < i→(numE E i).1.getD a 0≠((numE E i).2:Int):=fun a ha e=>by have:=(h.lt a ha).2;omega
     refine ⟨by simp [hlen],fun a b ha hb=>?_,fun a ha=>?_,fun j hj=>?_⟩
     ·by_cases ea:a=i
      ·by_cases eb:b=i
       ·rw [ea,eb];simp [hE.refl i (by omega)]
       ·rw [ea,getD_snoc_eq _ hlen.symm,getD_snoc_lt _ (by omega),hno b (by omega)]
        exact ⟨fun e=>absurd e.symm (hne b (by omega)),fun e=>by cases e⟩
      ·by_cases eb:b=i
       ·rw [eb,getD_snoc_eq _ hlen.symm,getD_snoc_lt _ (by omega)]
        refine ⟨fun e=>absurd e (hne a (by omega)),fun e=>?_⟩
        have:=hE.symm _ _ (by omega) (by omega) e
        rw [hno a (by omega)] at this
        cases this
       ·rw [getD_snoc_lt _ (by omega),getD_snoc_lt _ (by omega)];exact h.same a b (by omega) (by omega)
     ·by_cases ea:a=i
      ·rw [ea,getD_snoc_eq _ hlen.symm];omega
      ·rw [getD_snoc_lt _ (by omega)];have:=h.lt a (by omega);omega
     ·by_cases ej:j=(numE E i).2
      ·exact ⟨i,by omega,by rw [getD_snoc_eq _ hlen.symm,ej]⟩
      ·obtain ⟨a,ha,e⟩:=h.onto j (by omega)
       exact ⟨a,by omega,by rw [getD_snoc_lt _ (by omega)];exact e⟩
theorem numE_le (E:Nat→Nat→Bool):∀ i,(numE E i).2≤i:=by
 intro i
 induction i with
 | zero=>exact Nat.le_refl _
 | succ i ih=>
   cases hk:(List.range i).find? (fun k=>E i k) with
   | some k=>rw [numE_some hk];show (numE E i).2≤_;omega
   | none=>rw [numE_none hk];show (numE E i).2+1≤_;omega
def numK (κ:Nat→Int):Nat→List Int × List Int
 | 0=>([],[])
 | i+1=>if κ i∈(numK κ i).2 then ((numK κ i).1 ++ [(((numK κ i).2.idxOf (κ i):Nat):Int)],(numK κ i).2) else ((numK κ i).1 ++ [((numK κ i).2.length:Int)],(numK κ i).2 ++ [κ i])
theorem numK_old {κ:Nat→Int} {i:Nat} (h:κ i∈(numK κ i).2):numK κ (i+1)=((numK κ i).1 ++ [(((numK κ i).2.idxOf (κ i):Nat):Int)],(numK κ i).2):=by
 rw [numK,if_pos h]
theorem numK_new {κ:Nat→Int} {i:Nat} (h:κ i ∉ (numK κ i).2):numK κ (i+1)=((numK κ i).1 ++ [((numK κ i).2.length:Int)],(numK κ i).2 ++ [κ i]):=by
 rw [numK,if_neg h]
theorem idxOf_snoc {ks:List Int} {x k:Int} (h:x∈ks):(ks ++ [k]).idxOf x=ks.idxOf x:=by rw [List.idxOf_append,if_pos h]
theorem numK_num {E:Nat→Nat→Bool} {κ:Nat→Int} {n:Nat} (h:∀ a b,a < n→b < n→(E a b=true↔κ a=κ b)):∀ i,i≤n→(numK κ i).1=(numE E i).1∧(numK κ i).2.length=(numE E i).2∧(∀ a,a < i→κ a∈(numK κ i).2∧(numE E i).1.getD a 0=((numK κ i).2.idxOf (κ a):Nat))∧(∀ x∈(numK κ i).2,∃ a,a < i∧κ a=x):=by
 intro i
 induction i with
 | zero=>intro _;exact ⟨rfl,rfl,fun a h=>absurd h (by omega),fun x hx=>by simp [numK] at hx⟩
 | succ i ih=>
   intro hi
   obtain ⟨h1,h2,h3,h4⟩:=ih (by omega)
   have hlen:=numE_len E i
   cases hk:(List.range i).find? (fun k=>E i k) with
   | some k=>
     rw [numE_some hk]
     have hkE:=List.find?_some hk
     have hki:k < i:=List.mem_range.1 (List.mem_of_find?_eq_some hk)
     have hkk:=(h i k (by omega) (by omega)).1 hkE
     have hmem:κ i∈(numK κ i).2:=by rw [hkk];exact (h3 k hki).1
     rw [numK_old hmem]
     refine ⟨by rw [h1,(h3 k hki).2,hkk],h2,fun a ha=>?_,fun x hx=>?_⟩
     ·by_cases ea:a=i
      ·rw [ea,getD_snoc_eq _ hlen.symm,(h3 k hki).2,hkk];exact ⟨(h3 k hki).1,rfl⟩
      ·rw [getD_snoc_lt _ (by omega)];exact h3 a (by omega)
     ·obtain ⟨a,ha,e⟩:=h4 x hx;exact ⟨a,by omega,e⟩
   | none=>
     rw [numE_none hk]
     have hmem:κ i ∉ (numK κ i).2:=fun hm=>by
      obtain ⟨a,ha,e⟩:=h4 _ hm
      have h5:=List.find?_eq_none.1 hk a (List.mem_range.2 ha)
      exact h5 ((h i a (by omega) (by omega)).2 e.symm)
     rw [numK_new hmem]
     refine ⟨by rw [h1,h2],by simp [h2],fun a ha=>?_,fun x hx=>?_⟩
     ·by_cases ea:a=i
      ·rw [ea,getD_snoc_eq _ hlen.symm]
       refine ⟨by simp,?_⟩
       rw [List.idxOf_append,if_neg hmem]
       simp [h2]
      ·rw [getD_snoc_lt _ (by omega),idxOf_snoc (h3 a (by omega)).1]
       exact ⟨List.mem_append_left _ (h3 a (by omega)).1,(h3 a (by omega)).2⟩
     ·rcases List.mem_append.1 hx with hx | hx
      ·obtain ⟨a,ha,e⟩:=h4 x hx;exact ⟨a,by omega,e⟩
      ·exact ⟨i,by omega,(List.mem_singleton.1 hx).symm⟩
end Go.AM
set_option maxRecDepth 100000
namespace Go.Proofs.Ytgimjihhlhjejaa
open Go.AM
open Tar (Ok mes)
structure CS (m0 n i iw il ic:Nat) (vr:V) (H:Heap) (vt:V) (s:Tar.St):Prop where
 hi:getC H i 0=some [vr,.sl iw 0 0 n 1,.sl il 0 0 n 1,vt,.sl ic 0 0 n 1,I s.clock]
 cw:getC H iw 0=some (fV n s.when)
 cl:getC H il 0=some (fV n s.low)
 cc:getC H ic 0=some (cV n s.comp)
 ot:OwnC 1 H vt (s.wait.map fun (v:Nat)=>[I v])
 nd:[i,iw,il,ic].Nodup
 ft:∀ x∈[i,iw,il,ic],Off vt x
 bs:∀ x∈[i,iw,il,ic],m0≤x
 bt:Past vt m0
 lt:∀ x∈[i,iw,il,ic],x < H.length
theorem past_off {v:V} {m x:Nat} (hv:∀ id g k w,v=.sl id g 0 k w→id < x):Off v x:=fun id g n w e e0=>by have:=hv id g n w e;omega
theorem ownC_ltw {w:Nat} {H:Heap} {v:V} {R:List (List V)} (h:OwnC w H v R):∀ id g n u,v=.sl id g 0 n u→id < H.length:=by
 intro id g n u e
 obtain ⟨_,⟨_,rfl | rfl⟩ | ⟨id2,g2,c2,rfl,hc2,_⟩⟩:=h
 ·cases e
 ·cases e
 ·cases e;exact getC_lt hc2
theorem CS.ts {m0 n i iw il ic:Nat} {vr:V} {H:Heap} {vt:V} {s:Tar.St} (c:CS m0 n i iw il ic vr H vt s) (hw:s.way=[]):TS m0 n ⟨i,H.length,H.length+2,iw,il,ic⟩ vr (H ++ [.cells 0 [.ref i 0 0]] ++ [.cells 0 []] ++ [.cells 0 [.esl]]) vt .esl s:=by
 have hm:m0≤H.length:=by
  have h1:=c.bs i (by simp)
  have h2:=c.lt i (by simp)
  omega
 have li:=c.lt i (by simp)
 have lw:=c.lt iw (by simp)
 have ll:=c.lt il (by simp)
 have lc:=c.lt ic (by simp)
 have nd:=c.nd
 simp only [List.nodup_cons,List.mem_cons,List.not_mem_nil,or_false,not_or,List.nodup_nil,and_true,not_false_eq_true] at nd
 obtain ⟨⟨n1,n2,n3⟩,⟨n4,n5⟩,n6⟩:=nd
 refine ⟨getC_app (getC_app (getC_new _ _ _)),getC_app (getC_app (getC_app c.hi)),?_,getC_app (getC_app (getC_app c.cw)),getC_app (getC_app (getC_app c.cl)),getC_app (getC_app (getC_app c.cc)),((c.ot.app _).app _).app _,?_,?_,?_,?_,?_,?_,c.bt,?_,?_⟩
 ·have:=getC_new (H ++ [Ob.cells 0 [V.ref i 0 0]] ++ [Ob.cells 0 []]) 0 [V.esl]
  rwa [List.length_append,List.length_append] at this
 ·rw [hw]
  exact ⟨fun r hr=>by simp at hr,.inl ⟨rfl,.inr rfl⟩⟩
 ·simp only [Ids.all,List.nodup_cons,List.mem_cons,List.not_mem_nil,or_false,not_or,List.nodup_nil,and_true,not_false_eq_true]
  omega
 ·intro x hx
  simp only [Ids.all,List.mem_cons,List.not_mem_nil,or_false] at hx
  rcases hx with rfl | rfl | rfl | rfl | rfl | rfl
  ·exact c.ft _ (by simp)
  ·exact past_off (m:=0) (ownC_ltw c.ot)
  ·exact past_off (m:=0) fun id g k w e=>Nat.lt_add_right 2 (ownC_ltw c.ot id g k w e)
  ·exact c.ft _ (by simp)
  ·exact c.ft _ (by simp)
  ·exact c.ft _ (by simp)
 ·intro x _ id g k w e;cases e
 ·intro _ _ _ _ _ id g k w e;cases e
 ·intro x hx
  simp only [Ids.all,List.mem_cons,List.not_mem_nil,or_false] at hx
  rcases hx with rfl | rfl | rfl | rfl | rfl | rfl
  ·exact c.bs _ (by simp)
  ·exact hm
  ·omega
  ·exact c.bs _ (by simp)
  ·exact c.bs _ (by simp)
  ·exact c.bs _ (by simp)
 ·intro id g k w e;cases e
 ·intro x hx
  simp only [Ids.all,List.mem_cons,List.not_mem_nil,or_false] at hx
  simp only [List.length_append,List.length_cons,List.length_nil]
  omega
theorem TS.cs {m0 n i b y iw il ic:Nat} {vr:V} {H:Heap} {vt vy:V} {s:Tar.St} (t:TS m0 n ⟨i,b,y,iw,il,ic⟩ vr H vt vy s):CS m0 n i iw il ic vr H vt s:=by
 have nd:=t.nds
 refine ⟨t.hi,t.cw,t.cl,t.cc,t.ot,?_,fun x hx=>t.ft x ?_,fun x hx=>t.bs x ?_,t.bt,fun x hx=>t.lt x ?_⟩
 ·simp only [List.nodup_cons,List.mem_cons,List.not_mem_nil,or_false,not_or,List.nodup_nil,and_true,not_false_eq_true]
  simp only at nd
  omega
 all_goals simp only [Ids.all,List.mem_cons,List.not_mem_nil,or_false] at hx ⊢
 all_goals omega
section
variable {CT:Nat→Option CFun}
theorem walk_enter (hE:CT k_f52=some (.code s_f52)) (hT:CT k_f62=some (.code s_f62)) (hX:CT k_f53=some (.code s_f53)) {base m0 n:Nat} (hbm:base≤m0) {i iw il ic:Nat} {vr:V} {G:Nat→List Nat} {H0:Heap} (hrow:∀ H,KeepD m0 [] H0 H→RdRows H vr (rowsN n G)) (hn:n < 2 ^ 38) (hG:∀ v,(G v).length < 2 ^ 40) (hin:∀ v,∀ u∈G v,u < n)
 {H:Heap} {vt:V} {s:Tar.St} (c:CS m0 n i iw il ic vr H vt s) (ok:Ok G n s) (hw:s.way=[]) (hk:KeepD m0 [] H0 H) {root:Nat} (hr:root < n) (h0:s.when root=0):
 ∃ vt' H' s',callW CT (.fn k_f52 [] []) [.ref i 0 0,I root] base H=some (.tup [],H')∧CS m0 n i iw il ic vr H' vt' s'∧Ok G n s'∧s'.way=[]∧KeepD m0 [] H H'∧H.length≤H'.length∧(∀ v,s.when v≠0→s'.when v≠0)∧s'.when root≠0:=by
 have t:=c.ts hw
 have hcl:=ok.clock
 have hwt:=ok.wait
 have hwy:=ok.way
 have hm:m0≤H.length:=by
  have h1:=c.bs i (by simp)
  have h2:=c.lt i (by simp)
  omega
 obtain ⟨vt1,vy1,H1,e1,t1,l1,k1⟩:=begin_fun hT hbm t hr (by omega) (by omega) (by omega)
 have o1:=Tar.ok_root ok hw h0 hr
 have kH0:KeepD m0 [] H (H ++ [.cells 0 [.ref i 0 0]] ++ [.cells 0 []] ++ [.cells 0 [.esl]]):=⟨by simp;omega,fun x hx _=>by rw [List.getElem?_append_left (by simp;omega),List.getElem?_append_left (by simp;omega),List.getElem?_append_left (by omega)]⟩
 have kH1:KeepD m0 [] H H1:=kH0.trans ⟨by simp at l1;omega,fun x hx _=>k1 x (by simp;omega) (fun hd=>by have:=t.bs x hd;omega) (fun id g k w e e0=>by have:=t.bt id g k w e;omega) (fun id g k w e e0=>by have:=t.by' id g k w e;omega)⟩ (Nat.le_refl _)
 obtain ⟨vt',vy',H',s',e2,t2,ok2,w2,k2,l2,m2⟩:=enter_loop (L:=H1.length) hT hX hbm t1.lt (by simp at l1;omega) hrow hn hG hin _ H1 vt1 vy1 _ (Nat.lt_succ_self _) (hk.trans kH1 (Nat.le_refl _)) (Nat.le_refl _) t1 o1
 have hlen1:∀ ob,(H ++ [ob]).length=H.length+1:=fun ob=>by simp
 refine ⟨vt',H',s',callW_fnA (c:=s_f52) (k:=2) hE rfl (by decide) s_f52_first ?_,t2.cs,ok2,w2,kH1.trans k2 (Nat.le_refl _),?_,fun v hv=>m2 v ?_,m2 root ?_⟩
 ·simp only [entE,I] at e1 e2
  have hb2:base≤H.length+2:=by omega
  simp only [s_f52,a_f52,s_f52_l0_b,s_f52_l1_b,aa,bl,i64,reduceIte,reduceCtorEq,Nat.reduceEqDiff,Nat.reduceLT,Nat.reduceLeDiff,Nat.reduceBEq,Nat.reduceAdd,fillA,splice,Nat.reduceMul,amY,op_eqP,I,hb2,hlen1,xsub_mkFn,List.map_nil,List.map_cons,ev,List.getD_cons_zero,List.getD_cons_succ,e1,e2,resultV,List.mapM_nil]
  rfl
 ·simp at l1;omega
 ·show Tar.upd s.when root (s.clock+1) v≠0
  by_cases ev:v=root
  ·rw [ev,Tar.upd_self];omega
  ·rw [Tar.upd_ne _ _ ev];exact hv
 ·show Tar.upd s.when root (s.clock+1) root≠0
  rw [Tar.upd_self];omega
end
end Go.Proofs.Ytgimjihhlhjejaa
set_option maxRecDepth 100000
namespace Go.Proofs.Ytgimjihhlhjejaa
open Go.AM
open Tar (Ok mes)
theorem CS.trim {m0 n i iw il ic L:Nat} {vr:V} {H:Heap} {vt:V} {s:Tar.St} (t:CS m0 n i iw il ic vr H vt s) (hL:∀ x∈[i,iw,il,ic],x < L) (fr:List V):CS m0 n i iw il ic vr (Go.AM.trim L fr H) vt s:=by
 have hu:∀ id g k w,vt=.sl id g 0 k w→(Go.AM.trim L fr H)[id]?=H[id]?:=by
  intro id g k w e
  rcases trim_cells L fr H with e0 | ⟨e0,_,h0⟩
  ·rw [e0]
  ·have:=h0 i 0 _ (hL i (by simp)) t.hi vt (by simp)
   rw [e] at this
   simp only [idsUnder,decide_eq_true_eq] at this
   rw [e0,List.getElem?_take_of_lt this]
 refine ⟨trim_get t.hi (hL _ (by simp)),trim_get t.cw (hL _ (by simp)),trim_get t.cl (hL _ (by simp)),trim_get t.cc (hL _ (by simp)),t.ot.keep fun id g k e=>hu id g k 1 e,t.nd,t.ft,t.bs,t.bt,fun x hx=>?_⟩
 rcases trim_cells L fr H with e0 | ⟨e0,_,_⟩
 ·rw [e0];exact t.lt x hx
 ·rw [e0,List.length_take]
  have:=hL x hx
  have:=t.lt x hx
  omega
def gN (G:List (List Int)) (v:Nat):List Nat:=((normG G).getD v []).map Int.toNat
theorem gN_in (G:List (List Int)) (v:Nat):∀ u∈gN G v,u < G.length:=by
 intro u hu
 obtain ⟨x,hx,rfl⟩:=List.mem_map.1 hu
 have:=(normG_get G v x).1 hx
 omega
theorem gN_mem (G:List (List Int)) (v u:Nat):u∈gN G v↔(u:Int)∈G.getD v []∧u < G.length:=by
 constructor
 ·intro hu
  obtain ⟨x,hx,rfl⟩:=List.mem_map.1 hu
  obtain ⟨h1,h2,h3⟩:=(normG_get G v x).1 hx
  rw [Int.toNat_of_nonneg h2]
  exact ⟨h1,by omega⟩
 ·intro h
  exact List.mem_map.2 ⟨(u:Int),(normG_get G v u).2 ⟨h.1,by omega,by omega⟩,by omega⟩
theorem gN_rows (G:List (List Int)):rowsN G.length (gN G)=rowsV (normG G):=by
 have hl:=normG_len G
 apply List.ext_getElem?
 intro i
 unfold rowsN rowsV
 rw [List.getElem?_map,List.getElem?_map]
 by_cases hi:i < G.length
 ·have hi':i < (normG G).length:=by omega
  have hgi:(normG G)[i]?=some ((normG G).getD i []):=some_getD hi' []
  rw [List.getElem?_range hi,hgi]
  simp only [Option.map_some,gN,List.map_map]
  congr 1
  apply List.map_congr_left
  intro x hx
  have:=(normG_get G i x).1 hx
  show I ((x.toNat:Nat):Int)=iV x
  rw [Int.toNat_of_nonneg this.2.1]
  rfl
 ·rw [List.getElem?_eq_none (by simpa using hi),List.getElem?_eq_none (by omega)]
  rfl
theorem gN_small {G:List (List Int)} {b:Nat} (hr:∀ r∈G,r.length < b) (hb:0 < b) (v:Nat):(gN G v).length < b:=by
 unfold gN
 rw [List.length_map]
 by_cases hv:v < (normG G).length
 ·exact normG_small hr _ (List.mem_of_getElem? (some_getD hv []))
 ·rw [List.getD,List.getElem?_eq_none (by omega)];exact hb
theorem rc_rch (G:List (List Int)) (a:Nat) (ha:a < G.length) (b:Nat):Tar.Rc (gN G) a b↔Rch G [(a:Int)] b:=by
 constructor
 ·intro h
  induction h with
  | refl=>exact .base a (by simp) ha
  | tail _ e ih=>
    rename_i x c _
    have:=(gN_mem G x c).1 e
    exact .step x c ih this.1 this.2
 ·intro h
  induction h with
  | base k h1 h2=>
    simp only [List.mem_singleton] at h1
    obtain rfl:k=a:=by omega
    exact .refl _
  | step i k _ h1 h2 ih=>exact ih.tail ((gN_mem G i k).2 ⟨h1,h2⟩)
noncomputable def eqG (G:List (List Int)) (a b:Nat):Bool:=leadsB G a b && leadsB G b a
theorem eqG_iff (G:List (List Int)) (a b:Nat):eqG G a b=true↔Rch G [(a:Int)] b∧Rch G [(b:Int)] a:=by
 unfold eqG
 rw [Bool.and_eq_true,leadsB_nat,leadsB_nat]
theorem eqG_rc (G:List (List Int)) {a b:Nat} (ha:a < G.length) (hb:b < G.length):eqG G a b=true↔Tar.Rc (gN G) a b∧Tar.Rc (gN G) b a:=by
 rw [eqG_iff,rc_rch G a ha,rc_rch G b hb]
theorem eqG_on (G:List (List Int)):EqOn (eqG G) G.length:=by
 refine ⟨fun a ha=>?_,fun a b ha hb h=>?_,fun a b c ha hb hc h1 h2=>?_⟩
 ·rw [eqG_rc G ha ha];exact ⟨.refl _,.refl _⟩
 ·rw [eqG_rc G ha hb] at h;rw [eqG_rc G hb ha];exact ⟨h.2,h.1⟩
 ·rw [eqG_rc G ha hb] at h1;rw [eqG_rc G hb hc] at h2;rw [eqG_rc G ha hc];exact ⟨h1.1.trans h2.1,h2.2.trans h1.2⟩
noncomputable def compsG (G:List (List Int)):List Int:=(numE (eqG G) G.length).1
noncomputable def cntG (G:List (List Int)):Nat:=(numE (eqG G) G.length).2
theorem compsG_ok (G:List (List Int)):NumOk (eqG G) G.length (compsG G) (cntG G):=numE_ok (eqG_on G) _ (Nat.le_refl _)
theorem compsG_len (G:List (List Int)):(compsG G).length=G.length:=(compsG_ok G).len
theorem cntG_le (G:List (List Int)):cntG G≤G.length:=numE_le _ _
def kap (f:Nat→Option Nat) (v:Nat):Int:=match f v with
 | some r=>(r:Int)
 | none=>-1
theorem cV_kap (n:Nat) (f:Nat→Option Nat):cV n f=((List.range n).map (kap f)).map iV:=by
 unfold cV
 rw [List.map_map]
 apply List.map_congr_left
 intro v _
 show oV (f v)=iV (kap f v)
 unfold kap oV
 cases f v <;> rfl
def fillZ (n:Nat) (l:List Int):List Int:=l ++ List.replicate (n - l.length) 0
theorem fillZ_set {n:Nat} {l:List Int} (h:l.length < n) (x:Int):(fillZ n l).set l.length x=fillZ n (l ++ [x]):=by
 unfold fillZ
 rw [List.set_append_right _ _ (Nat.le_refl _),Nat.sub_self]
 obtain ⟨m,hm⟩:∃ m,n - l.length=m+1:=⟨n - l.length - 1,by omega⟩
 have:n - (l ++ [x]).length=m:=by simp;omega
 rw [hm,this,List.replicate_succ,List.set_cons_zero,List.append_assoc]
 rfl
theorem fillZ_len {n:Nat} {l:List Int} (h:l.length≤n):(fillZ n l).length=n:=by unfold fillZ;simp;omega
theorem fillZ_full {n:Nat} {l:List Int} (h:l.length=n):fillZ n l=l:=by unfold fillZ;rw [h];simp
theorem fillZ_nil (n:Nat):fillZ n []=List.replicate n 0:=by simp [fillZ]
section
variable {CT:Nat→Option CFun}
structure CC (CT:Nat→Option CFun):Prop where
 g:CG CT
 comps:CT k_f32=some (.code s_f32)
 nodes:CT k_f50=some (.code s_f50)
 rep:CT k_f51=some (.code s_f51)
 mul:CT k_f61=some (.code s_f61)
 mul64:CT k_f65=some (.code s_f65)
 enter:CT k_f52=some (.code s_f52)
 enter1:CT k_f62=some (.code s_f62)
 index:CT k_f53=some (.code s_f53)
theorem comps_l0 (h:CC CT) {base m0 n L:Nat} (hbm:base≤m0) {i iw il ic:Nat} {vr:V} {G:Nat→List Nat} {H0:Heap} (hrow:∀ H,KeepD m0 [] H0 H→RdRows H vr (rowsN n G)) (hn:n < 2 ^ 38) (hG:∀ v,(G v).length < 2 ^ 40) (hin:∀ v,∀ u∈G v,u < n) (hL:∀ x∈[i,iw,il,ic],x < L) (hmL:m0≤L)
 {H:Heap} {vt:V} {s:Tar.St} (c:CS m0 n i iw il ic vr H vt s) (ok:Ok G n s) (hw:s.way=[]) (hk:KeepD m0 [] H0 H) (hLH:L≤H.length):
 ∃ vt' H' s',itW (evC (callW CT) itW base s_f32_l0) [] L (frOf 85 [(3,.ref i 0 0),(4,I n),(37,I n),(38,I 0)]) H=some (.ext 0,frOf 85 [(3,.ref i 0 0),(4,I n),(37,I n),(38,I n),(39,bl false)],H')∧CS m0 n i iw il ic vr H' vt' s'∧Ok G n s'∧s'.way=[]∧KeepD m0 [] H0 H'∧L≤H'.length∧∀ v,v < n→s'.when v≠0:=by
 obtain ⟨⟨H1,vt1,s1⟩,e1,c1,ok1,w1,k1,l1,d1⟩:=it_rel n (fun j (x:Heap × V × Tar.St)=>CS m0 n i iw il ic vr x.1 x.2.1 x.2.2∧Ok G n x.2.2∧x.2.2.way=[]∧KeepD m0 [] H0 x.1∧L≤x.1.length∧∀ v,v < j→x.2.2.when v≠0) (fun j x=>itW (evC (callW CT) itW base s_f32_l0) [] L (frOf 85 [(3,.ref i 0 0),(4,I n),(37,I n),(38,I j)]) x.1) (by
  rintro j ⟨H,vt,s⟩ hj ⟨c,ok,hw,hk,hLH,hd⟩
  simp only at c ok hw hk hLH hd ⊢
  have hlt':((j:Int) < (n:Int)):=by omega
  have hwk:=w64 (n:=j) (by omega)
  have hi:=c.hi
  have cw:=c.cw
  have hix:(0≤(j:Int)∧(j:Int) < (n:Int)∧1=1):=by omega
  have wi:=take1_of (fV_get s.when hj)
  by_cases h0:s.when j=0
  ·obtain ⟨vt',H',s',q1,q2,q3,q4,q5,q6,q7,q8⟩:=walk_enter h.enter h.enter1 h.index hbm hrow hn hG hin c ok hw hk hj h0
   refine ⟨(Go.AM.trim L (frOf 85 [(3,.ref i 0 0),(4,I n),(37,I n),(38,I (j+1:Nat))]) H',vt',s'),?_,q2.trim hL _,q3,q4,KeepD.trim (hk.trans q5 (Nat.le_refl _)) hmL _,trim_le (by omega),fun v hv=>?_⟩
   ·have hz:(((s.when j:Nat):Int) == 0)=true:=by rw [h0];rfl
    rw [itW_step]
    simp only [I] at q1 hi wi
    simp only [I,a_f32,s_f32_l0_b,s_f32_l1_b,aa,bl,i64,reduceIte,reduceCtorEq,Nat.reduceEqDiff,Nat.reduceLT,Nat.reduceLeDiff,Nat.reduceBEq,Nat.reduceAdd,fillA,splice,Nat.reduceMul,amY,op_eqP,hlt',hi,cw,hix,wi,hz,q1,hwk]
   ·by_cases ev:v=j
    ·rw [ev];exact q8
    ·exact q7 v (hd v (by omega))
  ·refine ⟨(Go.AM.trim L (frOf 85 [(3,.ref i 0 0),(4,I n),(37,I n),(38,I (j+1:Nat))]) H,vt,s),?_,c.trim hL _,ok,hw,KeepD.trim hk hmL _,trim_le hLH,fun v hv=>?_⟩
   ·have hz:(((s.when j:Nat):Int) == 0)=false:=by rw [beq_eq_false_iff_ne];omega
    rw [itW_step]
    simp only [I] at hi wi
    simp only [I,a_f32,s_f32_l0_b,s_f32_l1_b,aa,bl,i64,reduceIte,reduceCtorEq,Nat.reduceEqDiff,Nat.reduceLT,Nat.reduceLeDiff,Nat.reduceBEq,Nat.reduceAdd,fillA,splice,Nat.reduceMul,amY,op_eqP,hlt',hi,cw,hix,wi,hz,hwk]
   ·by_cases ev:v=j
    ·rw [ev];exact h0
    ·exact hd v (by omega)) 0 (H,vt,s) (Nat.zero_le _) ⟨c,ok,hw,hk,hLH,fun v hv=>absurd hv (by omega)⟩
 simp only at e1 c1 ok1 w1 k1 l1 d1
 refine ⟨vt1,Go.AM.trim L (frOf 85 [(3,.ref i 0 0),(4,I n),(37,I n),(38,I n),(39,bl false)]) H1,s1,e1.trans ?_,c1.trim hL _,ok1,w1,KeepD.trim k1 hmL _,trim_le l1,d1⟩
 rw [itW_step]
 simp only [I,bl,a_f32,s_f32_l0_b,s_f32_l1_b,aa,bl,i64,reduceIte,reduceCtorEq,Nat.reduceEqDiff,Nat.reduceLT,Nat.reduceLeDiff,Nat.reduceBEq,Nat.reduceAdd,fillA,splice,Nat.reduceMul,amY,op_eqP,Int.lt_irrefl]
theorem set_two (A:Heap) (m o x:Ob):(A ++ [m] ++ [o]).set A.length x=A ++ [x] ++ [o]:=by simp
theorem get_two (A:Heap) (m o:Ob):(A ++ [m] ++ [o])[A.length]?=some m:=by simp
def mapOb (ks:List Int):Ob:=.map (esG (fun (k:Int)=>Value.int .i64 k) ks fun k=>iV (ks.idxOf k:Nat))
theorem mapOb_new {ks:List Int} {k:Int} (hk:k ∉ ks):Ob.map (esG (fun (k:Int)=>Value.int .i64 k) ks (fun k=>iV (ks.idxOf k:Nat)) ++ [(.int .i64 k,iV (ks.length:Nat))])=mapOb (ks ++ [k]):=by
 have h1:iV (ks.length:Nat)=(fun x=>iV ((ks ++ [k]).idxOf x:Nat)) k:=by
  have:(ks ++ [k]).idxOf k=ks.length:=by rw [List.idxOf_append,if_neg hk];simp
  simp only [this]
 have:=esG_new (enc:=fun (k:Int)=>Value.int .i64 k) (ks:=ks) (f:=fun k=>iV (ks.idxOf k:Nat)) (g:=fun x=>iV ((ks ++ [k]).idxOf x:Nat)) (k:=k) (fun x hx=>by simp only [idxOf_snoc hx])
 rw [mapOb,← this,h1]
theorem comps_l1 (base:Nat) {A:Heap} {cv:V} {n:Nat} {κ:Nat→Int} (hb:base≤A.length) (hn:n < 2 ^ 38) (hr:Rd A cv (((List.range n).map κ).map iV)) (hw:Wide1 cv):
 itW (evC (callW CT) itW base s_f32_l1) [] (A.length+2) (frOf 85 [(6,.mp A.length),(7,.sl (A.length+1) 0 0 n 1),(59,cv),(60,I n),(61,I 0)]) (A ++ [mapOb []] ++ [.cells 0 ((fillZ n []).map iV)])=some (.ext 2,frOf 85 [(6,.mp A.length),(7,.sl (A.length+1) 0 0 n 1),(59,cv),(60,I n),(61,I n),(62,bl false)],A ++ [mapOb (numK κ n).2] ++ [.cells 0 ((numK κ n).1.map iV)]):=by
 have ts:∀ (fr:List V) (m o:Ob),Go.AM.trim (A.length+2) fr (A ++ [m] ++ [o])=A ++ [m] ++ [o]:=fun fr m o=>trim_same (by simp)
 have hlen:∀ i,(numK κ i).1.length=i:=by
  intro i
  induction i with
  | zero=>rfl
  | succ i ih=>rw [numK];split <;> simp [ih]
 have hst:∀ i,i < n→itW (evC (callW CT) itW base s_f32_l1) [] (A.length+2) (frOf 85 [(6,.mp A.length),(7,.sl (A.length+1) 0 0 n 1),(59,cv),(60,I n),(61,I i)]) (A ++ [mapOb (numK κ i).2] ++ [.cells 0 ((fillZ n (numK κ i).1).map iV)])=itW (evC (callW CT) itW base s_f32_l1) [] (A.length+2) (frOf 85 [(6,.mp A.length),(7,.sl (A.length+1) 0 0 n 1),(59,cv),(60,I n),(61,I (i+1:Nat))]) (A ++ [mapOb (numK κ (i+1)).2] ++ [.cells 0 ((fillZ n (numK κ (i+1)).1).map iV)]):=by
  intro i hi
  have hlt':((i:Int) < (n:Int)):=by omega
  have hwk:=w64 (n:=i) (by omega)
  have hx:((List.range n).map κ).getD i 0=κ i:=by simp [hi]
  obtain ⟨a,a1,a2⟩:=iV_get ((hr.ext (Ext.app A [mapOb (numK κ i).2])).ext (Ext.app _ [.cells 0 ((fillZ n (numK κ i).1).map iV)])) hw (k:=i) (by simp [hi])
  rw [hx] at a2
  have hixi:(0≤(i:Int)∧(i:Int) < (n:Int)∧1=1):=by omega
  have hH:=get_two A (mapOb (numK κ i).2) (.cells 0 ((fillZ n (numK κ i).1).map iV))
  have hg:=get_g (enc:=fun (k:Int)=>Value.int .i64 k) same_i64 key_i64 hH (.s (.int .i64 0)) true (κ i)
  have hll:=len_g hH
  have hl2:∀ m o,(A ++ [m] ++ [o]).length=A.length+2:=fun m o=>by simp
  have hcell:∀ m c,getC (A ++ [m] ++ [.cells 0 c]) (A.length+1) 0=some c:=fun m c=>by
   have:=getC_new (A ++ [m]) 0 c
   rwa [List.length_append] at this
  have hset:∀ m c c',(A ++ [m] ++ [Ob.cells 0 c]).set (A.length+1) (.cells 0 c')=A ++ [m] ++ [.cells 0 c']:=fun m c c'=>by
   have:=set_snoc (A ++ [m]) (Ob.cells 0 c) (.cells 0 c')
   rwa [List.length_append] at this
  have hfl:(fillZ n (numK κ i).1).length=n:=fillZ_len (by rw [hlen];omega)
  have hst:∀ m (x:Int),storeV (A ++ [m] ++ [Ob.cells 0 ((fillZ n (numK κ i).1).map iV)]) base 1 (.s (.int .i64 x)) (.ref (A.length+1) 0 i)=some (A ++ [m] ++ [.cells 0 ((fillZ n ((numK κ i).1 ++ [x])).map iV)]):=by
   intro m x
   have e:=fillZ_set (n:=n) (l:=(numK κ i).1) (by rw [hlen];omega) x
   rw [hlen] at e
   rw [← e,List.map_set,storeV_at (hcell m _) (by omega) rfl (by rw [List.length_map,hfl];exact hi),hset]
   rfl
  by_cases hm:κ i∈(numK κ i).2
  ·have hm':decide (κ i∈(numK κ i).2)=true:=decide_eq_true hm
   rw [numK_old hm,itW_step]
   simp only [if_true,hm,hm',bl,iV] at hg
   simp only [I,a_f32,s_f32_l0_b,s_f32_l1_b,aa,bl,i64,reduceIte,reduceCtorEq,Nat.reduceEqDiff,Nat.reduceLT,Nat.reduceLeDiff,Nat.reduceBEq,Nat.reduceAdd,fillA,splice,Nat.reduceMul,amY,op_eqP,hlt',a1,a2,hg,hixi,hst,hwk,ts]
  ·have hm':decide (κ i∈(numK κ i).2)=false:=decide_eq_false hm
   have hu:=upd_g (base:=base) (enc:=fun (k:Int)=>Value.int .i64 k) same_i64 key_i64 hb hH (κ i) (iV ((numK κ i).2.length:Nat))
   rw [if_neg hm,mapOb_new hm,set_two] at hu
   rw [numK_new hm,itW_step]
   simp only [if_false,if_true,hm,hm',bl] at hg
   simp only [iV] at hu
   simp only [I,a_f32,s_f32_l0_b,s_f32_l1_b,aa,bl,i64,reduceIte,reduceCtorEq,Nat.reduceEqDiff,Nat.reduceLT,Nat.reduceLeDiff,Nat.reduceBEq,Nat.reduceAdd,fillA,splice,Nat.reduceMul,amY,op_eqP,hlt',a1,a2,hg,hll,op_mapUpd,hu,hixi,hst,hwk,ts]
 have h2:=it_fun n (fun i=>itW (evC (callW CT) itW base s_f32_l1) [] (A.length+2) (frOf 85 [(6,.mp A.length),(7,.sl (A.length+1) 0 0 n 1),(59,cv),(60,I n),(61,I i)]) (A ++ [mapOb (numK κ i).2] ++ [.cells 0 ((fillZ n (numK κ i).1).map iV)])) hst 0 (Nat.zero_le _)
 refine h2.trans ?_
 rw [itW_step,fillZ_full (hlen n)]
 simp only [I,bl,a_f32,s_f32_l0_b,s_f32_l1_b,aa,bl,i64,reduceIte,reduceCtorEq,Nat.reduceEqDiff,Nat.reduceLT,Nat.reduceLeDiff,Nat.reduceBEq,Nat.reduceAdd,fillA,splice,Nat.reduceMul,amY,op_eqP,Int.lt_irrefl,ts]
end
end Go.Proofs.Ytgimjihhlhjejaa
set_option maxRecDepth 100000
namespace Go.Proofs.Ytgimjihhlhjejaa
open Go.AM
open Tar (Ok mes)
section
variable {CT:Nat→Option CFun}
theorem nodes_fun (hN:CT k_f50=some (.code s_f50)) (base:Nat) {H:Heap} {v:V} {n:Nat} (hl:∀ H',xLen H' .s v=some (.s (.int .i64 n))):callW CT (.fn k_f50 [] []) [v] base H=some (.s (.int .i64 n),H):=by
 refine callW_fn (c:=s_f50) hN (by simp [s_f50]) ?_
 simp only [s_f50,a_f50,aa,bl,i64,reduceIte,reduceCtorEq,Nat.reduceEqDiff,Nat.reduceLT,Nat.reduceLeDiff,Nat.reduceBEq,Nat.reduceAdd,fillA,splice,Nat.reduceMul,amY,op_eqP,hl]
theorem own_len {m:Nat} {H:Heap} {v:V} {R:List (List V)} (h:OwnRows m H v R):(∃ id g,v=.sl id g 0 R.length 1∧m≤id)∧v.one=true:=by
 obtain ⟨id,g,vs,rfl,hc,hm,_⟩:=h
 exact ⟨⟨id,g,rfl,hm⟩,rfl⟩
theorem comps_f (h:CC CT) (base:Nat) (H:Heap) (v:V) (G:List (List Int)) (hv:RdRows H v (rowsV G)) (hb:base≤H.length) (hn:G.length < 2 ^ 32) (hr:∀ r∈G,r.length < 2 ^ 40):
 ∃ v' H',callW CT (.fn k_f32 [] []) [v] base H=some (v',H')∧Ext H H'∧OwnN H.length H' v' ((compsG G).map iV):=by
 obtain ⟨vr,N,p1,p2,p3⟩:=norm_f h.g base H v G hv hb (by omega) hr
 obtain ⟨⟨idr,gr,evr,_⟩,hvr1⟩:=own_len p3
 have hle:=p2.le
 have hnl:=fun H'=>rows_lenV p3.rd H'
 rw [normG_len] at hnl
 have hvrc:vr.cells=[vr]:=by rw [evr];rfl
 obtain ⟨n,hnn⟩:∃ n,G.length=n:=⟨_,rfl⟩
 rw [hnn] at hnl hn
 have hnd:=nodes_fun (CT:=CT) h.nodes base (H:=N ++ [.cells 0 [vr,nilS,nilS,nilS,nilS,.s (.int .i64 0)]]) hnl
 have hmk:=fun H=>make_n (H:=H) (zero:=[.s (.int .i64 0)]) (sz:=1) (bytes:=8) (k:=.i64) (k':=.i64) (n:=n) (by omega)
 simp only [flat_one] at hmk
 obtain ⟨Z,hZ⟩:∃ Z,List.replicate n (V.s (.int .i64 0))=Z:=⟨_,rfl⟩
 have hrp:=repeat_fun h.rep h.mul h.mul64 (N.length+4) (N ++ [.cells 0 [vr,nilS,nilS,nilS,nilS,.s (.int .i64 0)]] ++ [.cells 0 Z] ++ [.cells 0 Z] ++ [.cells 0 [iV (-1)]]) (.sl (N.length+3) 0 0 1 1) (by
  have:=one_rd (N ++ [.cells 0 [vr,nilS,nilS,nilS,nilS,.s (.int .i64 0)]] ++ [.cells 0 Z] ++ [.cells 0 Z]) (iV (-1))
  have e:(N ++ [.cells 0 [vr,nilS,nilS,nilS,nilS,.s (.int .i64 0)]] ++ [.cells 0 Z] ++ [.cells 0 Z]:Heap).length=N.length+3:=by simp
  rwa [e] at this) n hn (by simp)
 have e4:(N ++ [.cells 0 [vr,nilS,nilS,nilS,nilS,.s (.int .i64 0)]] ++ [.cells 0 Z] ++ [.cells 0 Z] ++ [.cells 0 [iV (-1)]]:Heap).length=N.length+4:=by simp
 rw [e4] at hrp
 obtain ⟨F,hF⟩:∃ F:List V→Heap,∀ c,N ++ [.cells 0 c] ++ [.cells 0 Z] ++ [.cells 0 Z] ++ [.cells 0 [iV (-1)]] ++ [.cells 0 (List.replicate n (iV (-1)))]=F c:=⟨_,fun _=>rfl⟩
 have hFs:∀ c c',(F c).set N.length (.cells 0 c')=F c':=fun c c'=>by rw [← hF,← hF];simp
 have hFg:∀ c,getC (F c) N.length 0=some c:=fun c=>by rw [← hF];exact getC_app (getC_app (getC_app (getC_app (getC_new _ _ _))))
 have hFl:∀ c,(F c).length=N.length+5:=fun c=>by rw [← hF];simp
 obtain ⟨C,hC⟩:∃ C:Heap,F [vr,.sl (N.length+1) 0 0 n 1,.sl (N.length+2) 0 0 n 1,nilS,.sl (N.length+4) 0 0 n 1,.s (.int .i64 0)]=C:=⟨_,rfl⟩
 have hC0:=hFg [vr,.sl (N.length+1) 0 0 n 1,.sl (N.length+2) 0 0 n 1,nilS,.sl (N.length+4) 0 0 n 1,.s (.int .i64 0)]
 have hCl:C.length=N.length+5:=by rw [← hC];exact hFl _
 rw [hC] at hC0
 rw [hF] at hrp
 have hbN:base≤N.length:=by omega
 have hi1:getC C (N.length+1) 0=some Z:=by
  rw [← hC,← hF]
  have:=getC_new (N ++ [.cells 0 [vr,.sl (N.length+1) 0 0 n 1,.sl (N.length+2) 0 0 n 1,nilS,.sl (N.length+4) 0 0 n 1,.s (.int .i64 0)]]) 0 Z
  rw [List.length_append] at this
  exact getC_app (getC_app (getC_app this))
 have hi2:getC C (N.length+2) 0=some Z:=by
  rw [← hC,← hF]
  have:=getC_new (N ++ [.cells 0 [vr,.sl (N.length+1) 0 0 n 1,.sl (N.length+2) 0 0 n 1,nilS,.sl (N.length+4) 0 0 n 1,.s (.int .i64 0)]] ++ [.cells 0 Z]) 0 Z
  rw [List.length_append,List.length_append] at this
  exact getC_app (getC_app this)
 have hi4:getC C (N.length+4) 0=some (List.replicate n (iV (-1))):=by
  rw [← hC,← hF]
  have:=getC_new (N ++ [.cells 0 [vr,.sl (N.length+1) 0 0 n 1,.sl (N.length+2) 0 0 n 1,nilS,.sl (N.length+4) 0 0 n 1,.s (.int .i64 0)]] ++ [.cells 0 Z] ++ [.cells 0 Z] ++ [.cells 0 [iV (-1)]]) 0 (List.replicate n (iV (-1)))
  simp only [List.length_append,List.length_cons,List.length_nil] at this
  exact this
 have hZf:Z=fV n (fun _=>0):=by rw [← hZ];unfold fV;rw [List.map_const',List.length_range];rfl
 have hcs:CS N.length n N.length (N.length+1) (N.length+2) (N.length+4) vr C nilS Tar.St.start:=by
  refine ⟨hC0,by rw [hi1,hZf];rfl,by rw [hi2,hZf];rfl,by rw [hi4];unfold cV;rw [show (fun v=>oV (Tar.St.start.comp v))=fun _=>iV (-1) from rfl,List.map_const',List.length_range],⟨fun r hr=>by simp [Tar.St.start] at hr,.inl ⟨rfl,.inl rfl⟩⟩,?_,fun x _ id g k w e=>by (cases e),?_,fun id g k w e=>by (cases e),?_⟩
  ·simp only [List.nodup_cons,List.mem_cons,List.not_mem_nil,or_false,not_or,List.nodup_nil,and_true,not_false_eq_true];omega
  ·intro x hx;simp only [List.mem_cons,List.not_mem_nil,or_false] at hx;omega
  ·intro x hx;simp only [List.mem_cons,List.not_mem_nil,or_false] at hx;omega
 have hkC:KeepD N.length [] N C:=⟨by omega,fun x hx _=>by rw [← hC,← hF];simp only [List.append_assoc];rw [List.getElem?_append_left hx]⟩
 have hrow:∀ H,KeepD N.length [] N H→RdRows H vr (rowsN n (gN G)):=fun H k=>by
  rw [← hnn,gN_rows]
  exact p3.rd.ext (KeepD.ext k)
 obtain ⟨vt',D,s',q1,q2,q3,q4,q5,q6,q7⟩:=comps_l0 h (L:=C.length) (m0:=N.length) (by omega) hrow (by omega) (fun v=>gN_small hr (by omega) v) (fun v u hu=>by rw [← hnn];exact gN_in G v u hu) hcs.lt (by omega) hcs (Tar.ok_start (gN G) n) rfl hkC (Nat.le_refl _)
 have hrd:Rd D (.sl (N.length+4) 0 0 n 1) (((List.range n).map (kap s'.comp)).map iV):=by
  have:=getC_sl q2.cc
  rw [cV_kap] at this
  simpa using this
 have hkap:∀ a b,a < n→b < n→(eqG G a b=true↔kap s'.comp a=kap s'.comp b):=by
  intro a b ha hb'
  rw [eqG_rc G (by omega) (by omega),← Tar.comp_same q3 q4 q7 ha hb']
  obtain ⟨r,hr1⟩:=Tar.comp_end q3 q4 q7 a ha
  obtain ⟨q,hq1⟩:=Tar.comp_end q3 q4 q7 b hb'
  unfold kap
  rw [hr1,hq1]
  simp only [Option.some.injEq]
  omega
 have hnum:=(numK_num hkap n (Nat.le_refl _)).1
 have hl1:=comps_l1 (CT:=CT) base (A:=D) (cv:=.sl (N.length+4) 0 0 n 1) (n:=n) (κ:=kap s'.comp) (by omega) (by omega) hrd trivial
 have hDl:∀ ob,(D ++ [ob]).length=D.length+1:=fun ob=>by simp
 have hD2:∀ ob ob2,(D ++ [ob] ++ [ob2]).length=D.length+2:=fun ob ob2=>by simp
 have hfz:(fillZ n []).map iV=Z:=by rw [fillZ_nil,← hZ,List.map_replicate];rfl
 rw [hfz] at hl1
 have hm0:mapOb []=.map []:=rfl
 rw [hm0] at hl1
 have hDi:=getC_app q2.hi (G:=[mapOb []])
 have hDi2:=getC_app hDi (G:=[.cells 0 Z])
 rw [hm0] at hDi hDi2
 refine ⟨.sl (D.length+1) 0 0 n 1,D ++ [mapOb (numK (kap s'.comp) n).2] ++ [.cells 0 ((numK (kap s'.comp) n).1.map iV)],callW_fn (c:=s_f32) h.comps (by simp [s_f32]) ?_,?_,?_⟩
 ·simp only [nilS] at hnd hrp hC
  simp only [I] at q1 hl1 hDi hDi2
  simp only [iV,show ((0:Nat):Int)=0 from rfl] at hrp
  have hi2:=q2.hi
  simp only [I] at hi2
  simp only [s_f32,a_f32,s_f32_l0_b,s_f32_l1_b,aa,bl,i64,reduceIte,reduceCtorEq,Nat.reduceEqDiff,Nat.reduceLT,Nat.reduceLeDiff,Nat.reduceBEq,Nat.reduceAdd,fillA,splice,Nat.reduceMul,amY,op_eqP,p1,hvrc,hvr1,hnd,op_mkSl,hmk,hZ,hrp,hFg,hFs,hbN,hC,q1,hDl,hDi,hDi2,hi2,hD2,bl,hl1]
 ·exact ((p2.trans (KeepD.ext q5)).trans (Ext.app _ _)).trans (Ext.app _ _)
 ·have e1:(numK (kap s'.comp) n).1=compsG G:=by rw [hnum,compsG,hnn]
  have e2:=compsG_len G
  have hg:=getC_new (D ++ [mapOb (numK (kap s'.comp) n).2]) 0 ((numK (kap s'.comp) n).1.map iV)
  rw [hDl,e1] at hg
  rw [e1]
  have hle2:=(KeepD.ext q5).le
  refine .inr ⟨D.length+1,0,(compsG G).map iV,?_,hg,Nat.le_refl _,List.take_length,by omega⟩
  rw [List.length_map,e2,hnn]
end
end Go.Proofs.Ytgimjihhlhjejaa
set_option maxRecDepth 100000
namespace Go.Proofs.Ytgimjihhlhjejaa
open Go.AM
def fillV (n:Nat) (z:V) (l:List V):List V:=l ++ List.replicate (n - l.length) z
theorem fillV_set {n:Nat} {z:V} {l:List V} (h:l.length < n) (x:V):(fillV n z l).set l.length x=fillV n z (l ++ [x]):=by
 unfold fillV
 rw [List.set_append_right _ _ (Nat.le_refl _),Nat.sub_self]
 obtain ⟨m,hm⟩:∃ m,n - l.length=m+1:=⟨n - l.length - 1,by omega⟩
 have:n - (l ++ [x]).length=m:=by simp;omega
 rw [hm,this,List.replicate_succ,List.set_cons_zero,List.append_assoc]
 rfl
theorem fillV_len {n:Nat} {z:V} {l:List V} (h:l.length≤n):(fillV n z l).length=n:=by unfold fillV;simp;omega
theorem fillV_full {n:Nat} {z:V} {l:List V} (h:l.length=n):fillV n z l=l:=by unfold fillV;rw [h];simp
noncomputable def cycG (G:List (List Int)) (i:Nat):Bool:=decide (∃ k∈(normG G).getD i [],leadsB G k i=true)
noncomputable def cycL (G:List (List Int)):List Bool:=(List.range G.length).map (cycG G)
noncomputable def cycA (G:List (List Int)) (i:Nat):Bool:=decide ((((compsG G).count ((compsG G).getD i 0):Nat):Int) > 1) || decide ((i:Int)∈G.getD i [])
theorem rc_head {G:Nat→List Nat} {a b:Nat} (h:Tar.Rc G a b):a=b∨∃ k∈G a,Tar.Rc G k b:=by
 induction h with
 | refl=>exact .inl rfl
 | tail h1 e ih=>
   rename_i x c
   rcases ih with rfl | ⟨k,hk,hr⟩
   ·exact .inr ⟨c,e,.refl _⟩
   ·exact .inr ⟨k,hk,hr.tail e⟩
theorem count_two {l:List Int} {i j:Nat} (hij:i≠j) (hi:i < l.length) (hj:j < l.length) (h:l.getD i 0=l.getD j 0):1 < l.count (l.getD i 0):=by
 have key:∀ (l:List Int) (x:Int) (i j:Nat),i < j→l[i]?=some x→l[j]?=some x→1 < l.count x:=by
  intro l
  induction l with
  | nil=>intro x i j _ h;simp at h
  | cons y l ih=>
    intro x i j hlt h1 h2
    cases j with
    | zero=>omega
    | succ j=>
      rw [List.getElem?_cons_succ] at h2
      cases i with
      | zero=>
        simp only [List.getElem?_cons_zero,Option.some.injEq] at h1
        subst h1
        have:=List.count_pos_iff.2 (List.mem_of_getElem? h2)
        rw [List.count_cons_self]
        omega
      | succ i=>
        rw [List.getElem?_cons_succ] at h1
        have:=ih x i j (by omega) h1 h2
        rw [List.count_cons]
        omega
 have h1:=some_getD hi (0:Int)
 have h2:=some_getD hj (0:Int)
 rw [← h] at h2
 rcases Nat.lt_or_gt_of_ne hij with hlt | hlt
 ·exact key l _ i j hlt h1 h2
 ·exact key l _ j i hlt h2 h1
theorem two_count {l:List Int} {i:Nat} (hi:i < l.length) (h:1 < l.count (l.getD i 0)):∃ j,j≠i∧j < l.length∧l.getD j 0=l.getD i 0:=by
 have h1:=some_getD hi (0:Int)
 obtain ⟨x,hx⟩:∃ x,l.getD i 0=x:=⟨_,rfl⟩
 rw [hx] at h h1
 have hs:l=l.take i ++ x :: l.drop (i+1):=by
  have hd:l.drop i=x :: l.drop (i+1):=by rw [List.drop_eq_getElem_cons hi,(List.getElem?_eq_some_iff.1 h1).2]
  rw [← hd,List.take_append_drop]
 have hc:0 < (l.take i).count x∨0 < (l.drop (i+1)).count x:=by
  rw [hs,List.count_append,List.count_cons_self] at h
  omega
 rcases hc with hc | hc
 ·obtain ⟨j,hj⟩:=List.mem_iff_getElem?.1 (List.count_pos_iff.1 hc)
  have hji:j < i:=by
   have:=(List.getElem?_eq_some_iff.1 hj).1
   rw [List.length_take] at this
   omega
  rw [List.getElem?_take_of_lt hji] at hj
  exact ⟨j,by omega,by omega,by rw [hx];exact getD_some hj 0⟩
 ·obtain ⟨j,hj⟩:=List.mem_iff_getElem?.1 (List.count_pos_iff.1 hc)
  rw [List.getElem?_drop] at hj
  exact ⟨i+1+j,by omega,(List.getElem?_eq_some_iff.1 hj).1,by rw [hx];exact getD_some hj 0⟩
theorem cycA_eq (G:List (List Int)) {i:Nat} (hi:i < G.length):cycA G i=cycG G i:=by
 have ok:=compsG_ok G
 have hl:=compsG_len G
 rw [Bool.eq_iff_iff]
 unfold cycA cycG
 rw [Bool.or_eq_true,decide_eq_true_iff,decide_eq_true_iff,decide_eq_true_iff]
 constructor
 ·rintro (h | h)
  ·obtain ⟨j,hji,hj,e⟩:=two_count (l:=compsG G) (i:=i) (by omega) (by omega)
   have:=(ok.same j i (by omega) hi).1 e
   rw [eqG_rc G (by omega) hi] at this
   rcases rc_head this.2 with e0 | ⟨k,hk,hr⟩
   ·exact absurd e0.symm hji
   ·have hk':=(gN_mem G i k).1 hk
    refine ⟨(k:Int),(normG_get G i k).2 ⟨hk'.1,by omega,by omega⟩,?_⟩
    rw [leadsB_nat,← rc_rch G k hk'.2]
    exact hr.trans this.1
  ·refine ⟨(i:Int),(normG_get G i i).2 ⟨h,by omega,by omega⟩,?_⟩
   rw [leadsB_nat]
   exact .base i (by simp) hi
 ·rintro ⟨k,hk,hr⟩
  obtain ⟨h1,h2,h3⟩:=(normG_get G i k).1 hk
  obtain ⟨q,rfl⟩:=Int.eq_ofNat_of_zero_le h2
  rw [leadsB_nat,← rc_rch G q (by omega)] at hr
  by_cases e:q=i
  ·subst e;exact .inr h1
  ·left
   have he:=(ok.same i q hi (by omega)).2 ((eqG_rc G hi (by omega)).2 ⟨Tar.Rc.one ((gN_mem G i q).2 ⟨h1,by omega⟩),hr⟩)
   have:=count_two (l:=compsG G) (Ne.symm e) (by omega) (by omega) he
   omega
theorem cntZ_eq {l:List Int} {c:Nat} (h1:∀ x∈l,0≤x∧x < c) (h2:∀ j,j < c→(j:Int)∈l):cntZ l=c:=by
 have hle:∀ (l:List Int) (a:Int),a≤c→(∀ x∈l,x < c)→l.foldl (fun n k=>if n < k+1 then k+1 else n) a≤c:=by
  intro l
  induction l with
  | nil=>intro a h _;exact h
  | cons x l ih=>
    intro a ha h
    rw [List.foldl_cons]
    refine ih _ ?_ fun y hy=>h y (List.mem_cons_of_mem _ hy)
    have:=h x List.mem_cons_self
    split <;> omega
 have hge:∀ (l:List Int) (a:Int),a≤l.foldl (fun n k=>if n < k+1 then k+1 else n) a∧∀ x∈l,x+1≤l.foldl (fun n k=>if n < k+1 then k+1 else n) a:=by
  intro l
  induction l with
  | nil=>intro a;exact ⟨Int.le_refl _,fun x hx=>by cases hx⟩
  | cons y l ih=>
    intro a
    rw [List.foldl_cons]
    obtain ⟨i1,i2⟩:=ih (if a < y+1 then y+1 else a)
    have hya:y+1≤(if a < y+1 then y+1 else a)∧a≤(if a < y+1 then y+1 else a):=by split <;> omega
    refine ⟨by omega,fun x hx=>?_⟩
    rcases List.mem_cons.1 hx with rfl | hx
    ·omega
    ·exact i2 x hx
 have a1:=hle l 0 (by omega) fun x hx=>(h1 x hx).2
 have a2:=hge l 0
 unfold cntZ
 cases c with
 | zero=>have:=a2.1;omega
 | succ c=>
   have:=a2.2 (c:Int) (h2 c (by omega))
   omega
theorem comps_bound (G:List (List Int)):∀ x∈compsG G,0≤x∧x < cntG G:=by
 intro x hx
 obtain ⟨a,ha⟩:=List.mem_iff_getElem?.1 hx
 have hl:=compsG_len G
 have:=(compsG_ok G).lt a (by have:=(List.getElem?_eq_some_iff.1 ha).1;omega)
 rwa [getD_some ha 0] at this
theorem comps_cnt (G:List (List Int)):cntZ (compsG G)=cntG G:=cntZ_eq (comps_bound G) fun j hj=>by
 have hl:=compsG_len G
 obtain ⟨a,ha,e⟩:=(compsG_ok G).onto j hj
 exact List.mem_iff_getElem?.2 ⟨a,by rw [some_getD (by omega) (0:Int),e]⟩
section
variable {CT:Nat→Option CFun}
def cntV (m:Nat) (l:List Int):List Int:=(List.range m).map fun (k:Nat)=>((l.count (k:Int):Nat):Int)
theorem cntV_len (m:Nat) (l:List Int):(cntV m l).length=m:=by simp [cntV]
theorem cntV_get {m k:Nat} (l:List Int) (hk:k < m):(cntV m l)[k]?=some ((l.count (k:Int):Nat):Int):=by simp [cntV,hk]
theorem cntV_snoc {m k:Nat} (l:List Int) (hk:k < m):(cntV m l).set k (((l.count (k:Int):Nat):Int)+1)=cntV m (l ++ [(k:Int)]):=by
 apply List.ext_getElem?
 intro i
 rw [List.getElem?_set,cntV_len]
 by_cases hi:i < m
 ·rw [cntV_get _ hi,cntV_get _ hi,List.count_append]
  by_cases e:k=i
  ·subst e;simp [hk]
  ·rw [if_neg e]
   have e':¬ ((k:Int)=(i:Int)):=by omega
   simp [List.count_cons,e']
 ·rw [List.getElem?_eq_none (by rw [cntV_len];omega),List.getElem?_eq_none (by rw [cntV_len];omega),if_neg (by omega)]
theorem cntV_nil (m:Nat):cntV m []=List.replicate m 0:=by
 unfold cntV
 rw [show (fun (k:Nat)=>(((([]:List Int).count (k:Int)):Nat):Int))=fun _=>0 by funext k;rfl,List.map_const',List.length_range]
theorem cyc_l0 (base:Nat) {A:Heap} {v cv:V} {l:List Int} {m:Nat} (hb:base≤A.length) (hr:Rd A cv (l.map iV)) (hw:Wide1 cv) (hn:l.length < 2 ^ 40) (hl:∀ x∈l,0≤x∧x < (m:Int)):
 itW (evC (callW CT) itW base s_f25_l0) [] (A.length+1) (frOf 56 [(0,v),(3,cv),(4,.sl A.length 0 0 m 1),(15,cv),(16,.s (.int .i64 l.length)),(17,.s (.int .i64 0))]) (A ++ [.cells 0 ((cntV m []).map iV)])=some (.ext 0,frOf 56 [(0,v),(3,cv),(4,.sl A.length 0 0 m 1),(15,cv),(16,.s (.int .i64 l.length)),(17,.s (.int .i64 l.length)),(18,bl false)],A ++ [.cells 0 ((cntV m l).map iV)]):=by
 have ts:∀ (fr:List V) (o:Ob),Go.AM.trim (A.length+1) fr (A ++ [o])=A ++ [o]:=fun fr o=>trim_same (by simp)
 have hst:∀ i,i < l.length→itW (evC (callW CT) itW base s_f25_l0) [] (A.length+1) (frOf 56 [(0,v),(3,cv),(4,.sl A.length 0 0 m 1),(15,cv),(16,.s (.int .i64 l.length)),(17,.s (.int .i64 i))]) (A ++ [.cells 0 ((cntV m (l.take i)).map iV)])=itW (evC (callW CT) itW base s_f25_l0) [] (A.length+1) (frOf 56 [(0,v),(3,cv),(4,.sl A.length 0 0 m 1),(15,cv),(16,.s (.int .i64 l.length)),(17,.s (.int .i64 (i+1:Nat)))]) (A ++ [.cells 0 ((cntV m (l.take (i+1))).map iV)]):=by
  intro i hi
  have hlt':((i:Int) < (l.length:Int)):=by omega
  have hwk:=w64 (n:=i) (by omega)
  obtain ⟨a,a1,a2⟩:=iV_get (hr.ext (Ext.app A [.cells 0 ((cntV m (l.take i)).map iV)])) hw hi
  have hx:=hl (l.getD i 0) (List.mem_of_getElem? (some_getD hi 0))
  obtain ⟨k,hk⟩:=Int.eq_ofNat_of_zero_le hx.1
  rw [hk] at hx a2
  have hkm:k < m:=by omega
  have hc:getC (A ++ [.cells 0 ((cntV m (l.take i)).map iV)]) A.length 0=some ((cntV m (l.take i)).map iV):=getC_new _ _ _
  obtain ⟨b1,b2⟩:=at_sl (n:=m) hc hkm (w:=iV (((l.take i).count (k:Int):Nat):Int)) (by rw [List.getElem?_map,cntV_get _ hkm];rfl)
  have htk:l.take (i+1)=l.take i ++ [(k:Int)]:=by rw [List.take_add_one,some_getD hi 0,hk];rfl
  have hct:(l.take i).count (k:Int)≤i:=Nat.le_trans List.count_le_length (by rw [List.length_take];omega)
  have hw2:IntKind.i64.wrap ((((l.take i).count (k:Int):Nat):Int)+1)=(((l.take i).count (k:Int):Nat):Int)+1:=by rw [IntKind.wrap_i64];omega
  have st:=storeV_at (v:=iV ((((l.take i).count (k:Int):Nat):Int)+1)) (base:=base) hc hb rfl (off:=k) (by rw [List.length_map,cntV_len];exact hkm)
  rw [set_snoc,← List.map_set,cntV_snoc _ hkm,← htk] at st
  rw [itW_step]
  simp only [iV] at b2 st
  simp only [a_f25,s_f25_l0_b,s_f25_l1_b,aa,bl,i64,reduceIte,reduceCtorEq,Nat.reduceEqDiff,Nat.reduceLT,Nat.reduceLeDiff,Nat.reduceBEq,Nat.reduceAdd,fillA,splice,Nat.reduceMul,amY,op_eqP,hlt',a1,a2,b1,b2,hw2,st,hwk,ts]
 have h2:=it_fun l.length (fun i=>itW (evC (callW CT) itW base s_f25_l0) [] (A.length+1) (frOf 56 [(0,v),(3,cv),(4,.sl A.length 0 0 m 1),(15,cv),(16,.s (.int .i64 l.length)),(17,.s (.int .i64 i))]) (A ++ [.cells 0 ((cntV m (l.take i)).map iV)])) hst 0 (Nat.zero_le _)
 refine h2.trans ?_
 rw [itW_step,List.take_length]
 simp only [bl,a_f25,s_f25_l0_b,s_f25_l1_b,aa,bl,i64,reduceIte,reduceCtorEq,Nat.reduceEqDiff,Nat.reduceLT,Nat.reduceLeDiff,Nat.reduceBEq,Nat.reduceAdd,fillA,splice,Nat.reduceMul,amY,op_eqP,Int.lt_irrefl,ts]
theorem cyc_l1 (hC:CT k_f34=some (.code s_f34)) (hT:CT k_f53=some (.code s_f53)) (base:Nat) {A:Heap} {v cv sv:V} {G:List (List Int)} {m:Nat} (hb:base≤A.length) (hv:RdRows A v (rowsV G)) (hr:Rd A cv ((compsG G).map iV)) (hw:Wide1 cv) (hs:Rd A sv ((cntV m (compsG G)).map iV)) (hsw:Wide1 sv) (hn:G.length < 2 ^ 40) (hrr:∀ r∈G,r.length < 2 ^ 40) (hl:∀ x∈compsG G,0≤x∧x < (m:Int)):
 itW (evC (callW CT) itW base s_f25_l1) [] (A.length+1) (frOf 56 [(0,v),(4,sv),(7,.sl A.length 0 0 G.length 1),(31,cv),(32,.s (.int .i64 G.length)),(33,.s (.int .i64 0))]) (A ++ [.cells 0 (fillV G.length (bV false) [])])=some (.ext 2,frOf 56 [(0,v),(4,sv),(7,.sl A.length 0 0 G.length 1),(31,cv),(32,.s (.int .i64 G.length)),(33,.s (.int .i64 G.length)),(34,bl false)],A ++ [.cells 0 ((cycL G).map bV)]):=by
 have ts:∀ (fr:List V) (o:Ob),Go.AM.trim (A.length+1) fr (A ++ [o])=A ++ [o]:=fun fr o=>trim_same (by simp)
 have hlc:=compsG_len G
 have hst:∀ i,i < G.length→itW (evC (callW CT) itW base s_f25_l1) [] (A.length+1) (frOf 56 [(0,v),(4,sv),(7,.sl A.length 0 0 G.length 1),(31,cv),(32,.s (.int .i64 G.length)),(33,.s (.int .i64 i))]) (A ++ [.cells 0 (fillV G.length (bV false) (((List.range i).map (cycG G)).map bV))])=itW (evC (callW CT) itW base s_f25_l1) [] (A.length+1) (frOf 56 [(0,v),(4,sv),(7,.sl A.length 0 0 G.length 1),(31,cv),(32,.s (.int .i64 G.length)),(33,.s (.int .i64 (i+1:Nat)))]) (A ++ [.cells 0 (fillV G.length (bV false) (((List.range (i+1)).map (cycG G)).map bV))]):=by
  intro i hi
  obtain ⟨o,ho⟩:∃ o,fillV G.length (bV false) (((List.range i).map (cycG G)).map bV)=o:=⟨_,rfl⟩
  have hol:o.length=G.length:=by rw [← ho];exact fillV_len (by simp;omega)
  have hos:∀ x,o.set i x=fillV G.length (bV false) ((((List.range i).map (cycG G)).map bV) ++ [x]):=fun x=>by
   have:=fillV_set (n:=G.length) (z:=bV false) (l:=((List.range i).map (cycG G)).map bV) (by simp;omega) x
   rwa [ho,List.length_map,List.length_map,List.length_range] at this
  have hrs:(((List.range (i+1)).map (cycG G)).map bV)=(((List.range i).map (cycG G)).map bV) ++ [bV (cycG G i)]:=by rw [List.range_succ];simp
  rw [ho,hrs]
  have hlt':((i:Int) < (G.length:Int)):=by omega
  have hwk:=w64 (n:=i) (by omega)
  have he:Ext A (A ++ [.cells 0 o]):=Ext.app _ _
  obtain ⟨a,a1,a2⟩:=iV_get (hr.ext he) hw (k:=i) (by omega)
  have hx:=hl ((compsG G).getD i 0) (List.mem_of_getElem? (some_getD (by omega) 0))
  obtain ⟨k,hk⟩:=Int.eq_ofNat_of_zero_le hx.1
  rw [hk] at hx a2
  obtain ⟨b,b1,b2⟩:=iV_get (hs.ext he) hsw (k:=k) (by rw [cntV_len];omega)
  rw [getD_some (cntV_get _ (by omega)) 0] at b2
  have hc:getC (A ++ [.cells 0 o]) A.length 0=some o:=getC_new _ _ _
  have hixi:(0≤(i:Int)∧(i:Int) < (G.length:Int)∧1=1):=by omega
  have hst:∀ b,storeV (A ++ [.cells 0 o]) base 1 (.s (.bool b)) (.ref A.length 0 i)=some (A ++ [.cells 0 (fillV G.length (bV false) ((((List.range i).map (cycG G)).map bV) ++ [bV b]))]):=fun b=>by
   rw [storeV_at hc hb rfl (by rw [hol];exact hi),set_snoc]
   rw [show (V.s (.bool b))=bV b from rfl,hos]
  have hcy:=cycA_eq G hi
  unfold cycA at hcy
  rw [hk] at hcy
  rw [itW_step]
  cases hcc:decide ((((compsG G).count (k:Int):Nat):Int) > 1) with
  | true=>
    rw [hcc,Bool.true_or] at hcy
    rw [← hcy]
    simp only [a_f25,s_f25_l0_b,s_f25_l1_b,aa,bl,i64,reduceIte,reduceCtorEq,Nat.reduceEqDiff,Nat.reduceLT,Nat.reduceLeDiff,Nat.reduceBEq,Nat.reduceAdd,fillA,splice,Nat.reduceMul,amY,op_eqP,hlt',a1,a2,b1,b2,hcc,hixi,hst,hwk,ts]
  | false=>
    rw [hcc,Bool.false_or] at hcy
    rw [← hcy]
    obtain ⟨ra,rx,r1,r2,r3,r4⟩:=rows_at (hv.ext he) (some_getD hi [])
    have hct:=contains_fun hC hT base r3 r4 (by have:=hrr _ (List.mem_of_getElem? (some_getD hi []));omega) (i:Int)
    simp only [a_f25,s_f25_l0_b,s_f25_l1_b,aa,bl,i64,reduceIte,reduceCtorEq,Nat.reduceEqDiff,Nat.reduceLT,Nat.reduceLeDiff,Nat.reduceBEq,Nat.reduceAdd,fillA,splice,Nat.reduceMul,amY,op_eqP,hlt',a1,a2,b1,b2,hcc,hixi,r1,r2,hct,hst,hwk,ts]
 have h2:=it_fun G.length (fun i=>itW (evC (callW CT) itW base s_f25_l1) [] (A.length+1) (frOf 56 [(0,v),(4,sv),(7,.sl A.length 0 0 G.length 1),(31,cv),(32,.s (.int .i64 G.length)),(33,.s (.int .i64 i))]) (A ++ [.cells 0 (fillV G.length (bV false) (((List.range i).map (cycG G)).map bV))])) hst 0 (Nat.zero_le _)
 refine h2.trans ?_
 rw [itW_step,fillV_full (by simp)]
 simp only [bl,a_f25,s_f25_l0_b,s_f25_l1_b,aa,bl,i64,reduceIte,reduceCtorEq,Nat.reduceEqDiff,Nat.reduceLT,Nat.reduceLeDiff,Nat.reduceBEq,Nat.reduceAdd,fillA,splice,Nat.reduceMul,amY,op_eqP,Int.lt_irrefl,ts,cycL]
structure CY (CT:Nat→Option CFun):Prop where
 c:CC CT
 cyc:CT k_f25=some (.code s_f25)
 cnt:CT k_f33=some (.code s_f33)
 con:CT k_f34=some (.code s_f34)
theorem cyclic_f (h:CY CT) (base:Nat) (H:Heap) (v:V) (G:List (List Int)) (hv:RdRows H v (rowsV G)) (hb:base≤H.length) (hn:G.length < 2 ^ 32) (hr:∀ r∈G,r.length < 2 ^ 40):
 ∃ v' H',callW CT (.fn k_f25 [] []) [v] base H=some (v',H')∧Ext H H'∧OwnN H.length H' v' ((cycL G).map bV):=by
 obtain ⟨cv,A,p1,p2,p3⟩:=comps_f h.c base H v G hv hb hn hr
 have hle:=p2.le
 have hlc:=compsG_len G
 have hbd:=comps_bound G
 have hcl:=cntG_le G
 have hcnt:=count_fun h.cnt base p3.rd p3.wide (by omega) (fun x hx=>by have:=hbd x hx;omega)
 rw [comps_cnt] at hcnt
 have hmk:=fun H=>make_n (H:=H) (zero:=[.s (.int .i64 0)]) (sz:=1) (bytes:=8) (k:=.i64) (k':=.i64) (n:=cntG G) (by omega)
 have hmk2:=fun H=>make_n (H:=H) (zero:=[.s (.bool false)]) (sz:=1) (bytes:=1) (k:=.i64) (k':=.i64) (n:=G.length) (by omega)
 simp only [flat_one] at hmk hmk2
 have hl0:=cyc_l0 (CT:=CT) base (v:=v) (m:=cntG G) (by omega) p3.rd p3.wide (by omega) hbd
 have hz:(cntV (cntG G) []).map iV=List.replicate (cntG G) (.s (.int .i64 0)):=by rw [cntV_nil,List.map_replicate];rfl
 have hz2:fillV G.length (bV false) []=List.replicate G.length (.s (.bool false)):=by simp [fillV,bV]
 have hcvl:=fun H'=>iV_len (p3.rd.ext (Ext.app A H'))
 have hcvl2:=fun o H'=>iV_len ((p3.rd.ext (Ext.app A [o])).ext (Ext.app (A ++ [o]) H'))
 have hvl:=rows_lenV hv
 have e1:∀ ob:Ob,(A ++ [ob]).length=A.length+1:=fun ob=>by simp
 have e2:∀ ob ob2:Ob,(A ++ [ob] ++ [ob2]).length=A.length+2:=fun ob ob2=>by simp
 have hsv:Rd (A ++ [.cells 0 ((cntV (cntG G) (compsG G)).map iV)]) (.sl A.length 0 0 (cntG G) 1) ((cntV (cntG G) (compsG G)).map iV):=by
  have:=getC_sl (getC_new A 0 ((cntV (cntG G) (compsG G)).map iV))
  rwa [List.length_map,cntV_len] at this
 have hl1:=cyc_l1 h.con h.c.index base (A:=A ++ [.cells 0 ((cntV (cntG G) (compsG G)).map iV)]) (v:=v) (cv:=cv) (sv:=.sl A.length 0 0 (cntG G) 1) (G:=G) (m:=cntG G) (by rw [e1];omega) (hv.ext (p2.trans (Ext.app _ _))) (p3.rd.ext (Ext.app _ _)) p3.wide hsv trivial (by omega) hr hbd
 rw [e1,hz2] at hl1
 rw [hz,hlc] at hl0
 simp only [hlc] at hcvl hcvl2
 refine ⟨.sl (A.length+1) 0 0 G.length 1,A ++ [.cells 0 ((cntV (cntG G) (compsG G)).map iV)] ++ [.cells 0 ((cycL G).map bV)],callW_fn (c:=s_f25) h.cyc (by simp [s_f25]) ?_,(p2.trans (Ext.app _ _)).trans (Ext.app _ _),?_⟩
 ·simp only [bl] at hl0 hl1
  simp only [s_f25,a_f25,s_f25_l0_b,s_f25_l1_b,aa,bl,i64,reduceIte,reduceCtorEq,Nat.reduceEqDiff,Nat.reduceLT,Nat.reduceLeDiff,Nat.reduceBEq,Nat.reduceAdd,fillA,splice,Nat.reduceMul,amY,op_eqP,p1,hcnt,op_mkSl,hmk,hcvl,e1,hl0,hvl,hmk2,hcvl2,e2,hl1]
  trace_state
 ·have hg:=getC_new (A ++ [Ob.cells 0 ((cntV (cntG G) (compsG G)).map iV)]) 0 ((cycL G).map bV)
  rw [e1] at hg
  have hll:(cycL G).length=G.length:=by simp [cycL]
  refine .inr ⟨A.length+1,0,(cycL G).map bV,?_,hg,Nat.le_refl _,List.take_length,by omega⟩
  rw [List.length_map,hll]
end
end Go.Proofs.Ytgimjihhlhjejaa
set_option maxRecDepth 100000
namespace Go.Proofs.Ytgimjihhlhjejaa
open Go.AM
end Go.Proofs.Ytgimjihhlhjejaa
set_option maxRecDepth 100000
namespace Go.Proofs.Ytgimjihhlhjejaa
open Go.AM
section
variable {CT:Nat→Option CFun}
end
def MutL (lo hi o n:Nat) (D0 D:Heap) (lens:List Nat):Prop:=∃ m' vs R,o < m'∧m'≤D0.length∧lo≤o∧o < hi∧hi≤D0.length∧R.length=n∧R.map List.length=lens∧D0.length≤D.length∧(∀ id,id < D0.length→id < lo∨hi≤id→D[id]?=D0[id]?)∧getC D o 0=some vs∧BagO m' D vs R∧(∀ (j id g k:Nat),vs[j]?=some (.sl id g 0 k 1)→lo≤id∧(id < hi∨D0.length≤id))∧∀ (j:Nat) (x:V),vs[j]?=some x→x=nilS∨x=.esl∨∃ id g k,x=.sl id g 0 k 1
theorem own_shape {m:Nat} {H:Heap} {v:V} {l:List V} (h:OwnN m H v l):v=nilS∨v=.esl∨∃ id g k,v=.sl id g 0 k 1:=by
 rcases h with ⟨_,h | h⟩ | ⟨id,g,c,rfl,_⟩
 ·exact .inl h
 ·exact .inr (.inl h)
 ·exact .inr (.inr ⟨_,_,_,rfl⟩)
theorem MutL.start {lo hi:Nat} {D0:Heap} {o m':Nat} {vs:List V} {R:List (List V)} (ho:o < m') (hm:m'≤D0.length) (h1:lo≤o) (h2:o < hi) (h3:hi≤D0.length) (hc:getC D0 o 0=some vs) (hB:BagO m' D0 vs R) (hids:∀ (j id g k:Nat),vs[j]?=some (.sl id g 0 k 1)→lo≤id∧id < hi):MutL lo hi o R.length D0 D0 (R.map List.length):=
 ⟨m',vs,R,ho,hm,h1,h2,h3,rfl,rfl,Nat.le_refl _,fun _ _ _=>rfl,hc,hB,fun j id g k h=>⟨(hids j id g k h).1,.inl (hids j id g k h).2⟩,fun j x hx=>by
  have hj:=(List.getElem?_eq_some_iff.1 hx).1
  obtain ⟨y,h1,h2⟩:=hB.2.1 j _ (List.getElem?_eq_getElem (show j < R.length by rw [← hB.1];exact hj))
  rw [hx] at h1
  obtain rfl:=Option.some.inj h1
  exact own_shape h2⟩
theorem MutL.old {lo hi o n:Nat} {D0 D:Heap} {lens:List Nat} (h:MutL lo hi o n D0 D lens):D0.length≤D.length∧∀ id,id < D0.length→id < lo∨hi≤id→D[id]?=D0[id]?:=by
 obtain ⟨m',vs,R,h1,hm',h2,h3,h4,h5,h6,h7,h8,h9,h10,h11,_⟩:=h
 exact ⟨h7,h8⟩
theorem MutL.trim {lo hi o n:Nat} {D0 D:Heap} {lens:List Nat} (h:MutL lo hi o n D0 D lens) {L:Nat} (hL:D0.length≤L) (fr:List V):MutL lo hi o n D0 (Go.AM.trim L fr D) lens:=by
 obtain ⟨m',vs,R,h1,hm',h2,h3,h4,h5,h6,h7,h8,h9,h10,h11,h12⟩:=h
 have hid:∀ id,id < L→(Go.AM.trim L fr D)[id]?=D[id]?:=fun id hid=>trim_id L fr D hid
 refine ⟨m',vs,R,h1,hm',h2,h3,h4,h5,h6,?_,fun id hi1 hi2=>by rw [hid id (by omega)];exact h8 id hi1 hi2,trim_get h9 (by omega),h10.trim h9 (by omega) _,h11,h12⟩
 rcases trim_or L fr D with e | ⟨e,_⟩
 ·rw [e];exact h7
 ·rw [e,List.length_take];omega
theorem MutL.row {lo hi o n base:Nat} {D0 D:Heap} {lens:List Nat} (h:MutL lo hi o n D0 D lens) (hb:base≤lo) {i len:Nat} (hil:lens[i]?=some len) (hlen:len < 2 ^ 40):
 ∃ x,xIndexAddr 1 (.sl o 0 0 n 1) (.s (.int .i64 i))=some (.ref o 0 i)∧xLoad D false 1 (.ref o 0 i)=some x∧xLen D .s x=some (.s (.int .i64 len))∧(∀ (k:Nat) (z:Int),k < len→∃ a D',xIndexAddr 1 x (.s (.int .i64 k))=some a∧storeV D base 1 (.s (.int .i64 z)) a=some D'∧MutL lo hi o n D0 D' lens)∧(∀ z:Int,∃ v' D1 D2,appendV (D ++ [.cells 0 [.s (.int .i64 z)]]) base 1 8 x (.sl D.length 0 0 1 1)=some (v',D1)∧storeV D1 base 1 v' (.ref o 0 i)=some D2∧MutL lo hi o n D0 D2 (lens.set i (len+1)))∧(∀ p,p < D0.length→p < lo∨hi≤p→apartO (some (some p)) (V.appObj x)=true):=by
 obtain ⟨m',vs,R,h1,hm',h2,h3,h4,h5,h6,h7,h8,h9,h10,h11,h12⟩:=h
 have hiR:i < R.length:=by
  have:=(List.getElem?_eq_some_iff.1 hil).1
  rwa [← h6,List.length_map] at this
 have hRi:=some_getD hiR ([]:List V)
 have hRl:(R.getD i []).length=len:=by
  rw [← h6,List.getElem?_map,hRi] at hil
  exact Option.some.inj hil
 obtain ⟨x,hx,hox⟩:=h10.2.1 i _ hRi
 have hxi:=(List.getElem?_eq_some_iff.1 hx).1
 obtain ⟨a1,a2⟩:=at_sl (n:=n) h9 (by omega) hx
 refine ⟨x,a1,a2,by rw [hox.rd.len,hRl],fun k z hk=>?_,fun z=>?_,fun p hp hq=>?_⟩
 ·rcases hox with ⟨e,_⟩ | ⟨id,g,c,e,k1,k2,k3,k4⟩
  ·rw [e] at hRl;simp at hRl;omega
  ·subst e
   rw [hRl] at k2 k3
   have hck:k < c.length:=by omega
   have hid:=h11 i id g _ hx
   have hst:=storeV_at (v:=.s (.int .i64 z)) (base:=base) k1 (by omega) rfl (off:=k) hck
   have hx2:c[k]?=some c[k]:=List.getElem?_eq_getElem hck
   have hT:Touch (V.sl id g 0 (R.getD i []).length 1) (V.sl id g 0 (R.getD i []).length 1) D (D.set id (.cells g (c.set k (.s (.int .i64 z))))):=.inr ⟨id,g,_,_,_,rfl,rfl,rfl⟩
   have hown:OwnN m' (D.set id (.cells g (c.set k (.s (.int .i64 z))))) (V.sl id g 0 (R.getD i []).length 1) ((R.getD i []).set k (.s (.int .i64 z))):=.inr ⟨id,g,c.set k (.s (.int .i64 z)),by rw [List.length_set],getC_put k1,by rw [List.length_set,List.length_set,hRl];exact k2,by rw [List.length_set,List.take_set,hRl,k3],k4⟩
   obtain ⟨t1,t2,_⟩:=h10.touch (i:=i) h1 h9 hx hT (fun id' g' n' e=>by cases e;exact k4) hown
   have hvs:vs.set i (V.sl id g 0 (R.getD i []).length 1)=vs:=by
    apply List.ext_getElem?
    intro j
    by_cases e:i=j
    ·subst e;rw [List.getElem?_set_self hxi,hx]
    ·rw [List.getElem?_set_ne e]
   rw [hvs,getC_same t1] at t2
   refine ⟨.ref id g k,_,?_,hst,m',vs,_,h1,hm',h2,h3,h4,by rw [List.length_set];exact h5,?_,by rw [List.length_set];exact h7,fun id' p1 p2=>?_,t1,t2,h11,h12⟩
   ·rw [hRl];exact (at_sl k1 (by omega) hx2).1
   ·rw [List.map_set,List.length_set,h6,hRl]
    apply List.ext_getElem?
    intro j
    by_cases e:i=j
    ·subst e;rw [List.getElem?_set_self (by have:=(List.getElem?_eq_some_iff.1 hil).1;exact this),hil]
    ·rw [List.getElem?_set_ne e]
   ·rw [List.getElem?_set_ne (by omega)];exact h8 id' p1 p2
 ·obtain ⟨v',D1,q1,q2,q3,q4,q5⟩:=own_append2 (x:=.s (.int .i64 z)) (base:=base) (bytes:=8) hox (by omega) rfl (by rw [hRl];omega) (by omega)
  have hol:=getC_lt h9
  have hox':∀ g k,x≠.sl o g 0 k 1:=fun g k e=>by have:=own_at hox _ _ _ e;omega
  have hc1:getC D1 o 0=some vs:=by
   simp only [getC] at h9 ⊢
   rw [q4 o hol hox'];exact h9
  have hB:=h10.swap h1 hx hRi q2 q4 q5
  refine ⟨v',D1,_,q1,storeV_at hc1 (by omega) q2.one hxi,m',vs.set i v',R.set i (R.getD i [] ++ [.s (.int .i64 z)]),h1,hm',h2,h3,h4,by rw [List.length_set];exact h5,?_,by rw [List.length_set];omega,fun id p1 p2=>?_,getC_put hc1,hB,fun j id g k hj=>?_,fun j y hj=>?_⟩
  ·rw [List.map_set,h6,List.length_append,hRl];rfl
  ·rw [List.getElem?_set_ne (by omega),q4 id (by omega) (fun g k e=>by subst e;have:=h11 i id g k hx;omega)]
   exact h8 id p1 p2
  ·by_cases e:i=j
   ·subst e
    rw [List.getElem?_set_self hxi] at hj
    rcases q5 id g k (Option.some.inj hj) with e2 | ⟨g2,k2,e2⟩
    ·exact ⟨by omega,.inr (by omega)⟩
    ·subst e2;exact h11 i id g2 k2 hx
   ·rw [List.getElem?_set_ne e] at hj
    exact h11 j id g k hj
  ·by_cases e:i=j
   ·subst e
    rw [List.getElem?_set_self hxi] at hj
    rw [← Option.some.inj hj]
    exact own_shape q2
   ·rw [List.getElem?_set_ne e] at hj
    exact h12 j y hj
 ·rcases h12 i x hx with rfl | rfl | ⟨id,g,k,rfl⟩
  ·rfl
  ·rfl
  ·have:=h11 i id g k hx
   simp only [V.appObj,apartO,bne_iff_ne]
   omega
end Go.Proofs.Ytgimjihhlhjejaa
set_option maxRecDepth 100000
namespace Go.Proofs.Ytgimjihhlhjejaa
open Go.AM
section
variable {CT:Nat→Option CFun}
end
end Go.Proofs.Ytgimjihhlhjejaa
set_option maxRecDepth 100000
namespace Go.Proofs.Ytgimjihhlhjejaa
open Go.AM
section
variable {CT:Nat→Option CFun}
end
end Go.Proofs.Ytgimjihhlhjejaa
set_option maxRecDepth 100000
namespace Go.Proofs.Ytgimjihhlhjejaa
open Go.AM
structure CU (CT:Nat→Option CFun):Prop where
 uses:CT k_f8=some (.code s_f8)
 some':CT k_f19=some (.code s_f19)
 del:CT k_f26=some (.code s_f26)
 idx:CT k_f35=some (.code s_f35)
 some1:CT k_f27=some (.code s_f27)
section
variable {CT:Nat→Option CFun}
end
end Go.Proofs.Ytgimjihhlhjejaa
set_option maxRecDepth 100000
namespace Go.Proofs.Ytgimjihhlhjejaa
open Go.AM
end Go.Proofs.Ytgimjihhlhjejaa
set_option maxRecDepth 100000
namespace Go.Proofs.Ytgimjihhlhjejaa
open Go.AM
theorem fin_upm (r:List Int):Up (fin r)∧∀ x,x∈fin r↔x∈r:=by
 have hs:(sortZ r).Pairwise (·≤·):=by
  have:=List.pairwise_mergeSort (le:=fun x y:Int=>decide (x≤y)) (by intro a b c;simp only [decide_eq_true_eq];omega) (by intro a b;simp only [Bool.or_eq_true,decide_eq_true_eq];omega) r
  simp only [decide_eq_true_eq] at this
  exact this
 have hm:∀ x,x∈sortZ r↔x∈r:=fun x=>by rw [sortZ,List.mem_mergeSort]
 unfold fin
 cases hz:sortZ r with
 | nil=>rw [hz] at hm;exact ⟨trivial,hm⟩
 | cons p l=>
   rw [hz] at hm hs
   obtain ⟨q1,q2⟩:=chg_up l p hs
   exact ⟨q1,fun x=>by rw [← hm x];exact q2 x⟩
section
variable {bs:List BlkD} (hg:ofBad bs=false)
include hg
theorem rowsO_get {i:Nat} {b:BlkD} (hb:bs[i]?=some b):(ofRows bs).getD i []=fin (succR (labsOf bs) b):=by
 rw [List.getD,ofRows,List.getElem?_map,hb];rfl
theorem rowsO_mem {i:Nat} {b:BlkD} (hb:bs[i]?=some b) (z:Int):z∈(ofRows bs).getD i []↔b.op≠14∧∃ l∈b.labs,z=(fidx (labsOf bs) l:Int):=by
 rw [rowsO_get hg hb,(fin_upm _).2,succR]
 by_cases e:b.op=14
 ·rw [if_pos e];simp [e]
 ·rw [if_neg e,List.mem_map]
  exact ⟨fun ⟨l,h1,h2⟩=>⟨e,l,h1,h2.symm⟩,fun ⟨_,l,h1,h2⟩=>⟨l,h1,h2.symm⟩⟩
end
section
variable {CT:Nat→Option CFun}
end
end Go.Proofs.Ytgimjihhlhjejaa
set_option maxRecDepth 100000
namespace Go.Proofs.Ytgimjihhlhjejaa
open Go.AM
structure WC (H:Heap) (h p3 p9:Nat) (bv sv qv lv:V) (bs:List BlkD) (b:BlkD):Prop where
 x1:xLoad H false 1 (.ref h 0 2)=some bv
 hv:RdBlks H bv bs
 x3s:xLoad H false 1 (.ref p3 0 0)=some sv
 hs:RdRows H sv (rowsV (ofRows bs))
 x3p:xLoad H false 1 (.ref p3 0 1)=some qv
 hq:RdRows H qv (rowsV (backG (ofRows bs)))
 x9o:xLoad H false 1 (.ref p9 0 0)=some (.s (.int .u8 b.op))
 x9l:xLoad H false 1 (.ref p9 0 7)=some lv
 hl:Rd H lv (b.labs.map Sb)
 hlw:Wide1 lv
 n:bs.length < 2 ^ 18
 nl:∀ b∈bs,b.labs.length < 2 ^ 18
section
variable {CT:Nat→Option CFun}
end
end Go.Proofs.Ytgimjihhlhjejaa
set_option maxRecDepth 100000
namespace Go.Proofs.Ytgimjihhlhjejaa
open Go.AM
structure DI (G:List (List Int)) (r:List Int) (W:List Bool) (S:List Int):Prop where
 len:W.length=G.length
 sW:∀ k,W.getD k false=true→Rch G r k
 sS:∀ z∈S,∃ k:Nat,z=k∧Rch G r k
 clo:∀ k,W.getD k false=true→∀ y∈G.getD k [],(∃ j:Nat,y=j∧W.getD j false=true)∨y∈S
 ini:∀ y∈r,(∃ j:Nat,y=j∧W.getD j false=true)∨y∈S
section
variable {G:List (List Int)} (hin:∀ i,∀ z∈G.getD i [],∃ k:Nat,z=k∧k < G.length)
include hin
theorem DI.start (r:List Int) (hr:∀ z∈r,∃ k:Nat,z=k∧k < G.length):DI G r (List.replicate G.length false) r:=by
 have h0:∀ k,(List.replicate G.length false).getD k false=true→False:=fun k h=>by
  rw [List.getD,List.getElem?_replicate] at h
  split at h <;> simp at h
 exact ⟨by simp,fun k h=>(h0 k h).elim,fun z hz=>by obtain ⟨k,e,hk⟩:=hr z hz;exact ⟨k,e,.base k (e ▸ hz) hk⟩,fun k h=>(h0 k h).elim,fun y hy=>.inr hy⟩
theorem DI.skip {r:List Int} {W:List Bool} {S:List Int} {b:Nat} (h:DI G r W (S ++ [(b:Int)])) (hb:W.getD b false=true):DI G r W S:=by
 have key:∀ y:Int,(∃ j:Nat,y=j∧W.getD j false=true)∨y∈S ++ [(b:Int)]→(∃ j:Nat,y=j∧W.getD j false=true)∨y∈S:=fun y hy=>by
  rcases hy with e | e
  ·exact .inl e
  ·rcases List.mem_append.1 e with e | e
   ·exact .inr e
   ·rw [List.mem_singleton] at e;exact .inl ⟨b,e,hb⟩
 exact ⟨h.len,h.sW,fun z hz=>h.sS z (List.mem_append_left _ hz),fun k hk y hy=>key y (h.clo k hk y hy),fun y hy=>key y (h.ini y hy)⟩
theorem DI.mark {r:List Int} {W:List Bool} {S:List Int} {b:Nat} (h:DI G r W (S ++ [(b:Int)])):DI G r (W.set b true) (S ++ G.getD b []):=by
 obtain ⟨k,e,hR⟩:=h.sS b (List.mem_append_right _ (List.mem_singleton.2 rfl))
 have:k=b:=by omega
 subst this
 have hbl:k < W.length:=by rw [h.len];exact rch_lt hR
 have hm:∀ j,W.getD j false=true→(W.set k true).getD j false=true:=fun j hj=>by
  by_cases e:k=j
  ·subst e;rw [List.getD,List.getElem?_set_self hbl];rfl
  ·rw [List.getD,List.getElem?_set_ne e];exact hj
 have hself:(W.set k true).getD k false=true:=by rw [List.getD,List.getElem?_set_self hbl];rfl
 have key:∀ y:Int,(∃ j:Nat,y=j∧W.getD j false=true)∨y∈S ++ [(k:Int)]→(∃ j:Nat,y=j∧(W.set k true).getD j false=true)∨y∈S ++ G.getD k []:=fun y hy=>by
  rcases hy with ⟨j,e1,e2⟩ | e
  ·exact .inl ⟨j,e1,hm j e2⟩
  ·rcases List.mem_append.1 e with e | e
   ·exact .inr (List.mem_append_left _ e)
   ·rw [List.mem_singleton] at e;exact .inl ⟨k,e,hself⟩
 refine ⟨by rw [List.length_set];exact h.len,fun j hj=>?_,fun z hz=>?_,fun j hj y hy=>?_,fun y hy=>key y (h.ini y hy)⟩
 ·by_cases e:k=j
  ·subst e;exact hR
  ·rw [List.getD,List.getElem?_set_ne e] at hj;exact h.sW j hj
 ·rcases List.mem_append.1 hz with hz | hz
  ·exact h.sS z (List.mem_append_left _ hz)
  ·obtain ⟨j,e,hj⟩:=hin k z hz
   exact ⟨j,e,.step k j hR (e ▸ hz) hj⟩
 ·by_cases e:k=j
  ·subst e;exact .inr (List.mem_append_right _ hy)
  ·rw [List.getD,List.getElem?_set_ne e] at hj
   exact key y (h.clo j hj y hy)
omit hin in
theorem DI.done {r:List Int} {W:List Bool} (h:DI G r W []) (k:Nat):W.getD k false=true↔Rch G r k:=by
 refine ⟨h.sW k,fun hR=>?_⟩
 induction hR with
 | base k h1 _=>
   rcases h.ini _ h1 with ⟨j,e,hj⟩ | e
   ·have:j=k:=by omega
    rw [← this];exact hj
   ·cases e
 | step i k _ h2 _ ih=>
   rcases h.clo i ih _ h2 with ⟨j,e,hj⟩ | e
   ·have:j=k:=by omega
    rw [← this];exact hj
   ·cases e
end
theorem rch_from {G:List (List Int)} {r:List Int} {x:Nat} (h:Rch G r x):∃ k:Nat,(k:Int)∈r∧k < G.length∧Rch G [(k:Int)] x:=by
 induction h with
 | base k h1 h2=>exact ⟨k,h1,h2,.base k (List.mem_singleton.2 rfl) h2⟩
 | step i k _ h2 h3 ih=>
   obtain ⟨j,j1,j2,j3⟩:=ih
   exact ⟨j,j1,j2,.step i k j3 h2 h3⟩
theorem cyc_iff {G:List (List Int)} {i:Nat} (hi:i < G.length):cycG G i=true↔Rch G (G.getD i []) i:=by
 unfold cycG
 rw [decide_eq_true_iff]
 constructor
 ·rintro ⟨k,hk,hl⟩
  obtain ⟨h1,h2,h3⟩:=(normG_get G i k).1 hk
  obtain ⟨j,rfl⟩:=Int.eq_ofNat_of_zero_le h2
  have:=(leadsB_nat G j i).1 hl
  exact rch_mono (fun x hx=>by rw [List.mem_singleton] at hx;rw [hx];exact h1) this
 ·intro h
  obtain ⟨k,h1,h2,h3⟩:=rch_from h
  exact ⟨(k:Int),(normG_get G i k).2 ⟨h1,by omega,by omega⟩,(leadsB_nat G k i).2 h3⟩
section
variable {CT:Nat→Option CFun}
end
end Go.Proofs.Ytgimjihhlhjejaa
set_option maxRecDepth 100000
namespace Go.Proofs.Ytgimjihhlhjejaa
open Go.AM
section
variable {CT:Nat→Option CFun}
structure CZ (CT:Nat→Option CFun):Prop where
 o:CO CT
 y:CY CT
 loops:CT k_f15=some (.code s_f15)
theorem cycL_len (G:List (List Int)):(cycL G).length=G.length:=by simp [cycL]
theorem loops_fun (h:CZ CT) (base:Nat) (H:Heap) (hb:base≤H.length) {nm:ByteArray} {pv bv:V} {bs:List BlkD} (hp:pv.one=true) (hv:RdBlks H bv bs) (hn:bs.length < 2 ^ 18) (hll:∀ b∈bs,b.labs.length < 2 ^ 18):
 ∃ (H':Heap) (lov:V),callW CT (.fn k_f15 [] []) [.agg (fnC nm pv bv)] base H=some (lov,H')∧Ext H H'∧((ofBad bs=true∧lov=nilS)∨(ofBad bs=false∧OwnN H.length H' lov ((cycL (ofRows bs)).map bV))):=by
 have hbo:=hv.one
 have eb:Ext H (H ++ [Ob.cells 0 (fnC nm pv bv)]):=Ext.app _ _
 have z0:=(box_at (Ext.refl (H ++ [Ob.cells 0 (fnC nm pv bv)]))).2 hp hbo
 obtain ⟨H2,sv,qv,e,a1,a2,a3,a4,a5⟩:=of_fun h.o base (H ++ [Ob.cells 0 (fnC nm pv bv)]) (by simp;omega) (nm:=nm) hp (hv.ext eb) hn hll
 have svc:=cells_of_one a3
 have qvc:=cells_of_one a4
 have l2:=a2.le
 rw [len_snoc] at l2
 have q1:base≤H2.length:=by omega
 rcases a5 with ⟨k1,k2,k3,k4⟩ | ⟨k1,k2,mid,k3,k4,k5,_⟩
 ·refine ⟨H2 ++ [Ob.cells 0 [sv,qv]],nilS,callW_fnA (c:=s_f15) (k:=1) h.loops rfl (by decide) s_f15_first ?_,(eb.trans a2).trans (Ext.app _ _),.inl ⟨k1,rfl⟩⟩
  subst k4
  have hne:((4:Int) != 0)=true:=rfl
  simp only [fnC] at z0 a1 ⊢
  simp only [s_f15,a_f15,aa,bl,i64,reduceIte,reduceCtorEq,Nat.reduceEqDiff,Nat.reduceLT,Nat.reduceLeDiff,Nat.reduceBEq,Nat.reduceAdd,fillA,splice,Nat.reduceMul,amY,op_eqP,hp,hbo,Bool.and_self,z0,a1,q1,a3,a4,svc,qvc,hne,nilS]
 ·subst k2
  have e3:Ext H2 (H2 ++ [Ob.cells 0 [sv,qv]]):=Ext.app _ _
  obtain ⟨lov,H3,c1,c2,c3⟩:=cyclic_f h.y base (H2 ++ [Ob.cells 0 [sv,qv]]) sv (ofRows bs) ((k5.b.rd).ext e3) (by simp;omega) (by rw [ofRows_len];omega) (fun r hr=>by have:=ofRows_small (B:=2 ^ 18) (by decide) hll r hr;omega)
  refine ⟨H3,lov,callW_fnA (c:=s_f15) (k:=1) h.loops rfl (by decide) s_f15_first ?_,((eb.trans a2).trans e3).trans c2,.inr ⟨k1,c3.mono (by rw [len_snoc];omega)⟩⟩
  have hne:((0:Int) != 0)=false:=rfl
  have x3:xLoad (H2 ++ [Ob.cells 0 [sv,qv]]) false 1 (.ref H2.length 0 0)=some sv:=by rw [xo_ref,getC_new];rfl
  simp only [fnC] at z0 a1 ⊢
  simp only [s_f15,a_f15,aa,bl,i64,reduceIte,reduceCtorEq,Nat.reduceEqDiff,Nat.reduceLT,Nat.reduceLeDiff,Nat.reduceBEq,Nat.reduceAdd,fillA,splice,Nat.reduceMul,amY,op_eqP,hp,hbo,Bool.and_self,z0,a1,q1,a3,a4,svc,qvc,hne,x3,c1]
end
end Go.Proofs.Ytgimjihhlhjejaa
set_option maxRecDepth 100000
namespace Go.Proofs.Ytgimjihhlhjejaa
open Go.AM
abbrev k_f6:Nat:=6
def s_f6_r0_k:List Nat:=[2,3,4,5,6,7,8,9,10,11,12,13,14,15,16,17,18,19,20,21,22,23,24,25,26,27,28,29,30,31,32,33,34,35,36,37,38,39,40,41,42,43,44,45,46,47,48,49,50,51,52,53,54,55,56,57,58,59,60,61,62,63,64,65,66,67,68,69,70,71,72,73,74,75,76,77,78,79,80,81,82,83]
theorem s_f6_r0_kT:killV s_f6_r0_k (startV 84 [] 2)=[]:=by kernel_rfl
theorem s_f6_r0_kA0:s_f6_r0_k.contains 0=false:=by kernel_rfl
theorem s_f6_r0_kA1:s_f6_r0_k.contains 1=false:=by kernel_rfl
def s_f6_r0:List AOper:=[
 ⟨some 4,(.move (.c (.s (.bool false)))),none⟩]
def s_f6_r0_tale:=hT s_f6_r0 s_f6_r0_k [] 5 [] [] [.cc (.s (.bool false))] (by kernel_rfl) (by kernel_rfl)
def s_f6_r1:List AOper:=[
 ⟨some 13,(.move (.t 0)),none⟩,
 ⟨some 14,(.bin .rem (.t 13) (.c (.s (.int .u8 40)))),none⟩,
 ⟨some 15,(.conv .i64 (.t 14)),none⟩,
 ⟨some 16,(.bin .add (.c (.s (.int .i64 1))) (.t 15)),none⟩,
 ⟨some 5,(.move (.t 16)),none⟩]
def s_f6_r1_tale:=hT s_f6_r1 [0,13,14,15,16] [5] 17 [] [(5,(.op (.bin .add (.c (.s (.int .i64 1))) (.t 1)) [(.c (.s (.int .i64 1))),(.op (.conv .i64 (.t 0)) [(.op (.bin .rem (.t 0) (.c (.s (.int .u8 40)))) [(.t 0),(.c (.s (.int .u8 40)))])])]))] [.tt 0,.sub 0 [1,0] [],.sub 0 [1] [],.sub 0 [] [],.sub 0 [] []] (by kernel_rfl) (by kernel_rfl)
def s_f6_r2:List AOper:=[
 ⟨some 17,(.move (.t 1)),none⟩,
 ⟨some 18,(.conv .i64 (.t 17)),none⟩,
 ⟨some 19,(.move (.t 5)),none⟩,
 ⟨some 20,(.bin .add (.t 19) (.c (.s (.int .i64 1)))),none⟩,
 ⟨some 21,(.bin .rem (.t 18) (.t 20)),none⟩,
 ⟨some 6,(.move (.t 21)),none⟩]
def s_f6_r2_tale:=hT s_f6_r2 [1,17,18,19,20,21] [6] 22 [] [(6,(.op (.bin .rem (.t 0) (.t 1)) [(.op (.conv .i64 (.t 0)) [(.t 1)]),(.op (.bin .add (.t 0) (.c (.s (.int .i64 1)))) [(.t 5),(.c (.s (.int .i64 1)))])]))] [.tt 1,.sub 0 [0] [],.tt 5,.sub 0 [1] [],.sub 0 [] [],.sub 0 [] []] (by kernel_rfl) (by kernel_rfl)
def s_f6_r3:List AOper:=[⟨some 7,(.alloc [(.s (.string ⟨#[]⟩)),(.s (.slice none 0 0)),(.s (.slice none 0 0))]),none⟩]
def s_f6_r3_x:=hX s_f6_r3 [] [⟨some 7,(.alloc [(.s (.string ⟨#[]⟩)),(.s (.slice none 0 0)),(.s (.slice none 0 0))]),none⟩] rfl
def s_f6_r4:List AOper:=[
 ⟨some 8,(.move (.c (.s (.int .i64 0)))),none⟩]
def s_f6_r4_tale:=hT s_f6_r4 [] [8] 9 [] [(8,(.c (.s (.int .i64 0))))] [.cc (.s (.int .i64 0))] (by kernel_rfl) (by kernel_rfl)
def s_f6_r5:List AOper:=[
 ⟨some 22,(.move (.t 8)),none⟩,
 ⟨some 23,(.move (.t 5)),none⟩,
 ⟨some 24,(.bin .lss (.t 22) (.t 23)),none⟩]
def s_f6_r5_tale:=hT s_f6_r5 [22,23] [24] 25 [] [(24,(.op (.bin .lss (.t 0) (.t 1)) [(.t 8),(.t 5)]))] [.tt 8,.tt 5,.sub 0 [] []] (by kernel_rfl) (by kernel_rfl)
def s_f6_r6t6:List AOper:=[⟨none,(.store 1 (.t 34) (.t 33)),none⟩]
def s_f6_r6p5:List AOper:=[⟨some 34,(.fieldAddr 2 (.t 7)),none⟩]
def s_f6_r6t5:List AOper:=s_f6_r6p5 ++ s_f6_r6t6
def s_f6_r6p4:List AOper:=[⟨some 33,(.append 2 40 (.t 28) (.t 32)),none⟩]
def s_f6_r6t4:List AOper:=s_f6_r6p4 ++ s_f6_r6t5
def s_f6_r6p3:List AOper:=[⟨some 32,(.buildSl 2 1 [(.s (.string ⟨#[]⟩)),(.s (.slice none 0 0))] [(0,(.t 31))]),none⟩]
def s_f6_r6t3:List AOper:=s_f6_r6p3 ++ s_f6_r6t4
def s_f6_r6p2:List AOper:=[⟨some 31,(.build [(.s (.string ⟨#[]⟩)),(.s (.slice none 0 0))] [(0,1),(1,1)] [(0,(.t 30))]),none⟩]
def s_f6_r6t2:List AOper:=s_f6_r6p2 ++ s_f6_r6t3
def s_f6_r6p1:List AOper:=[⟨some 30,(.callR (.c (.fn 17 [] [])) [(.t 29)]),none⟩]
def s_f6_r6t1:List AOper:=s_f6_r6p1 ++ s_f6_r6t2
def s_f6_r6p0:List AOper:=[⟨some 27,(.fieldAddr 2 (.t 7)),none⟩,⟨some 28,(.load false 1 (.t 27)),none⟩,⟨some 29,(.move (.t 8)),none⟩]
def s_f6_r6:List AOper:=s_f6_r6p0 ++ s_f6_r6t1
def s_f6_r6p0_tale:=hT s_f6_r6p0 [24,27] [28,29] 30 [] [(28,(.op (.load false 1 (.t 0)) [(.op (.fieldAddr 2 (.t 0)) [(.t 7)])])),(29,(.t 8))] [.sub 0 [0] [],.sub 0 [] [],.tt 8] (by kernel_rfl) (by kernel_rfl)
def s_f6_r6_x:=hS s_f6_r6 s_f6_r6p0 s_f6_r6t1 [24,27] [28,29] [24,27,28,29,30,31,32,33,34] rfl (by kernel_rfl)
def s_f6_r6t1_x:=hO s_f6_r6t1 s_f6_r6p1 s_f6_r6t2 [29] [24,27,28,29,30,31,32,33,34] [⟨some 30,(.callR (.c (.fn 17 [] [])) [(.t 29)]),none⟩] rfl rfl (by kernel_rfl)
def s_f6_r6p2_tale:=hT s_f6_r6p2 [30] [31] 32 [] [(31,(.op (.build [(.s (.string ⟨#[]⟩)),(.s (.slice none 0 0))] [(0,1),(1,1)] [(0,(.t 0))]) [(.t 30)]))] [.sub 0 [] []] (by kernel_rfl) (by kernel_rfl)
def s_f6_r6t2_x:=hS s_f6_r6t2 s_f6_r6p2 s_f6_r6t3 [30] [31] [24,27,28,29,30,31,32,33,34] rfl (by kernel_rfl)
def s_f6_r6t3_x:=hO s_f6_r6t3 s_f6_r6p3 s_f6_r6t4 [31] [24,27,28,29,30,31,32,33,34] [⟨some 32,(.buildSl 2 1 [(.s (.string ⟨#[]⟩)),(.s (.slice none 0 0))] [(0,(.t 31))]),none⟩] rfl rfl (by kernel_rfl)
def s_f6_r6t4_x:=hO s_f6_r6t4 s_f6_r6p4 s_f6_r6t5 [28,32] [24,27,28,29,30,31,32,33,34] [⟨some 33,(.append 2 40 (.t 28) (.t 32)),none⟩] rfl rfl (by kernel_rfl)
def s_f6_r6p5_tale:=hT s_f6_r6p5 [] [34] 35 [] [(34,(.op (.fieldAddr 2 (.t 0)) [(.t 7)]))] [.sub 0 [] []] (by kernel_rfl) (by kernel_rfl)
def s_f6_r6t5_x:=hS s_f6_r6t5 s_f6_r6p5 s_f6_r6t6 [] [34] [24,27,28,29,30,31,32,33,34] rfl (by kernel_rfl)
def s_f6_r6t6_x:=hX s_f6_r6t6 [24,27,28,29,30,31,32,33,34] [⟨none,(.store 1 (.t 34) (.t 33)),none⟩] rfl
def s_f6_r7:List AOper:=[
 ⟨some 25,(.move (.t 8)),none⟩,
 ⟨some 26,(.bin .add (.t 25) (.c (.s (.int .i64 1)))),none⟩,
 ⟨some 8,(.move (.t 26)),none⟩]
def s_f6_r7_tale:=hT s_f6_r7 [25,26] [8] 27 [] [(8,(.op (.bin .add (.t 0) (.c (.s (.int .i64 1)))) [(.t 8),(.c (.s (.int .i64 1)))]))] [.tt 8,.sub 0 [] [],.sub 0 [] []] (by kernel_rfl) (by kernel_rfl)
def s_f6_l0_b:ACode:=
 (.seq (.seq (.regionE s_f6_r5 [22,23] [24])
 (.cond (.t 24)
 .skip
 (.exit 0)))
 (.seq (.block 1
 (.region s_f6_r6 [] [24,27,28,29,30,31,32,33,34]))
 (.regionE s_f6_r7 [25,26] [8])))
def s_f6_l0:ACode:=s_f6_l0_b
def s_f6_l0_ev:=hE s_f6_l0 s_f6_l0_b rfl
def s_f6_r8:List AOper:=[
 ⟨some 9,(.move (.c (.s (.int .i64 0)))),none⟩]
def s_f6_r8_tale:=hT s_f6_r8 [8,24] [9] 10 [] [(9,(.c (.s (.int .i64 0))))] [.cc (.s (.int .i64 0))] (by kernel_rfl) (by kernel_rfl)
def s_f6_r9:List AOper:=[
 ⟨some 35,(.move (.t 9)),none⟩,
 ⟨some 36,(.move (.t 5)),none⟩,
 ⟨some 37,(.bin .lss (.t 35) (.t 36)),none⟩]
def s_f6_r9_tale:=hT s_f6_r9 [35,36] [37] 38 [] [(37,(.op (.bin .lss (.t 0) (.t 1)) [(.t 9),(.t 5)]))] [.tt 9,.tt 5,.sub 0 [] []] (by kernel_rfl) (by kernel_rfl)
def s_f6_r10t5:List AOper:=[⟨none,(.store 8 (.t 10) (.t 44)),none⟩]
def s_f6_r10p4:List AOper:=[⟨some 10,(.alloc [(.s (.int .u8 0)),(.s (.string ⟨#[]⟩)),(.s (.string ⟨#[]⟩)),(.s (.string ⟨#[]⟩)),(.s (.int .i64 0)),(.s (.string ⟨#[]⟩)),(.s (.slice none 0 0)),(.s (.slice none 0 0))]),none⟩]
def s_f6_r10t4:List AOper:=s_f6_r10p4 ++ s_f6_r10t5
def s_f6_r10p3:List AOper:=[⟨some 44,(.build [(.s (.int .u8 0)),(.s (.string ⟨#[]⟩)),(.s (.string ⟨#[]⟩)),(.s (.string ⟨#[]⟩)),(.s (.int .i64 0)),(.s (.string ⟨#[]⟩)),(.s (.slice none 0 0)),(.s (.slice none 0 0))] [(0,1),(1,1),(2,1),(3,1),(4,1),(5,1),(6,1),(7,1)] [(0,(.c (.s (.int .u8 13)))),(7,(.t 43))]),none⟩]
def s_f6_r10t3:List AOper:=s_f6_r10p3 ++ s_f6_r10t4
def s_f6_r10p2:List AOper:=[⟨some 43,(.buildSl 1 1 [(.s (.string ⟨#[]⟩))] [(0,(.t 42))]),none⟩]
def s_f6_r10t2:List AOper:=s_f6_r10p2 ++ s_f6_r10t3
def s_f6_r10p1:List AOper:=[⟨some 42,(.call (.c (.fn 17 [] [])) [(.t 41)]),none⟩]
def s_f6_r10t1:List AOper:=s_f6_r10p1 ++ s_f6_r10t2
def s_f6_r10p0:List AOper:=[⟨some 40,(.move (.t 9)),none⟩,⟨some 41,(.bin .add (.t 40) (.c (.s (.int .i64 1)))),none⟩]
def s_f6_r10:List AOper:=s_f6_r10p0 ++ s_f6_r10t1
def s_f6_r10p0_tale:=hT s_f6_r10p0 [37,40] [41] 42 [] [(41,(.op (.bin .add (.t 0) (.c (.s (.int .i64 1)))) [(.t 9),(.c (.s (.int .i64 1)))]))] [.tt 9,.sub 0 [] []] (by kernel_rfl) (by kernel_rfl)
def s_f6_r10_x:=hS s_f6_r10 s_f6_r10p0 s_f6_r10t1 [37,40] [41] [37,40,41,42,43,44] rfl (by kernel_rfl)
def s_f6_r10t1_x:=hO s_f6_r10t1 s_f6_r10p1 s_f6_r10t2 [41] [37,40,41,42,43,44] [⟨some 42,(.call (.c (.fn 17 [] [])) [(.t 41)]),none⟩] rfl rfl (by kernel_rfl)
def s_f6_r10t2_x:=hO s_f6_r10t2 s_f6_r10p2 s_f6_r10t3 [42] [37,40,41,42,43,44] [⟨some 43,(.buildSl 1 1 [(.s (.string ⟨#[]⟩))] [(0,(.t 42))]),none⟩] rfl rfl (by kernel_rfl)
def s_f6_r10p3_tale:=hT s_f6_r10p3 [43] [44] 45 [] [(44,(.op (.build [(.s (.int .u8 0)),(.s (.string ⟨#[]⟩)),(.s (.string ⟨#[]⟩)),(.s (.string ⟨#[]⟩)),(.s (.int .i64 0)),(.s (.string ⟨#[]⟩)),(.s (.slice none 0 0)),(.s (.slice none 0 0))] [(0,1),(1,1),(2,1),(3,1),(4,1),(5,1),(6,1),(7,1)] [(0,(.c (.s (.int .u8 13)))),(7,(.t 1))]) [(.c (.s (.int .u8 13))),(.t 43)]))] [.sub 0 [] []] (by kernel_rfl) (by kernel_rfl)
def s_f6_r10t3_x:=hS s_f6_r10t3 s_f6_r10p3 s_f6_r10t4 [43] [44] [37,40,41,42,43,44] rfl (by kernel_rfl)
def s_f6_r10t4_x:=hO s_f6_r10t4 s_f6_r10p4 s_f6_r10t5 [] [37,40,41,42,43,44] [⟨some 10,(.alloc [(.s (.int .u8 0)),(.s (.string ⟨#[]⟩)),(.s (.string ⟨#[]⟩)),(.s (.string ⟨#[]⟩)),(.s (.int .i64 0)),(.s (.string ⟨#[]⟩)),(.s (.slice none 0 0)),(.s (.slice none 0 0))]),none⟩] rfl rfl (by kernel_rfl)
def s_f6_r10t5_x:=hX s_f6_r10t5 [37,40,41,42,43,44] [⟨none,(.store 8 (.t 10) (.t 44)),none⟩] rfl
def s_f6_r11:List AOper:=[
 ⟨some 45,(.move (.t 9)),none⟩,
 ⟨some 46,(.move (.t 5)),none⟩,
 ⟨some 47,(.bin .sub (.t 46) (.c (.s (.int .i64 1)))),none⟩,
 ⟨some 48,(.bin .eql (.t 45) (.t 47)),none⟩]
def s_f6_r11_tale:=hT s_f6_r11 [45,46,47] [48] 49 [] [(48,(.op (.bin .eql (.t 0) (.t 1)) [(.t 9),(.op (.bin .sub (.t 0) (.c (.s (.int .i64 1)))) [(.t 5),(.c (.s (.int .i64 1)))])]))] [.tt 9,.tt 5,.sub 0 [1] [],.sub 0 [] []] (by kernel_rfl) (by kernel_rfl)
def s_f6_r12t4:List AOper:=[⟨none,(.store 1 (.t 52) (.t 51)),none⟩]
def s_f6_r12p3:List AOper:=[⟨some 52,(.fieldAddr 7 (.t 10)),none⟩]
def s_f6_r12t3:List AOper:=s_f6_r12p3 ++ s_f6_r12t4
def s_f6_r12p2:List AOper:=[⟨some 51,(.buildSl 1 1 [(.s (.string ⟨#[]⟩))] [(0,(.t 50))]),none⟩]
def s_f6_r12t2:List AOper:=s_f6_r12p2 ++ s_f6_r12t3
def s_f6_r12p1:List AOper:=[⟨some 50,(.call (.c (.fn 17 [] [])) [(.t 49)]),none⟩]
def s_f6_r12t1:List AOper:=s_f6_r12p1 ++ s_f6_r12t2
def s_f6_r12p0:List AOper:=[⟨some 49,(.move (.t 6)),none⟩]
def s_f6_r12:List AOper:=s_f6_r12p0 ++ s_f6_r12t1
def s_f6_r12p0_tale:=hT s_f6_r12p0 [48] [49] 50 [] [(49,(.t 6))] [.tt 6] (by kernel_rfl) (by kernel_rfl)
def s_f6_r12_x:=hS s_f6_r12 s_f6_r12p0 s_f6_r12t1 [48] [49] [48,49,50,51,52] rfl (by kernel_rfl)
def s_f6_r12t1_x:=hO s_f6_r12t1 s_f6_r12p1 s_f6_r12t2 [49] [48,49,50,51,52] [⟨some 50,(.call (.c (.fn 17 [] [])) [(.t 49)]),none⟩] rfl rfl (by kernel_rfl)
def s_f6_r12t2_x:=hO s_f6_r12t2 s_f6_r12p2 s_f6_r12t3 [50] [48,49,50,51,52] [⟨some 51,(.buildSl 1 1 [(.s (.string ⟨#[]⟩))] [(0,(.t 50))]),none⟩] rfl rfl (by kernel_rfl)
def s_f6_r12p3_tale:=hT s_f6_r12p3 [] [52] 53 [] [(52,(.op (.fieldAddr 7 (.t 0)) [(.t 10)]))] [.sub 0 [] []] (by kernel_rfl) (by kernel_rfl)
def s_f6_r12t3_x:=hS s_f6_r12t3 s_f6_r12p3 s_f6_r12t4 [] [52] [48,49,50,51,52] rfl (by kernel_rfl)
def s_f6_r12t4_x:=hX s_f6_r12t4 [48,49,50,51,52] [⟨none,(.store 1 (.t 52) (.t 51)),none⟩] rfl
def s_f6_r13:List AOper:=[
 ⟨some 53,(.move (.t 6)),none⟩,
 ⟨some 54,(.move (.t 5)),none⟩,
 ⟨some 55,(.bin .eql (.t 53) (.t 54)),none⟩]
def s_f6_r13_tale:=hT s_f6_r13 [53,54] [55] 56 [] [(55,(.op (.bin .eql (.t 0) (.t 1)) [(.t 6),(.t 5)]))] [.tt 6,.tt 5,.sub 0 [] []] (by kernel_rfl) (by kernel_rfl)
def s_f6_r14t1:List AOper:=[⟨none,(.store 8 (.t 10) (.t 56)),none⟩]
def s_f6_r14p0:List AOper:=[⟨some 56,(.build [(.s (.int .u8 0)),(.s (.string ⟨#[]⟩)),(.s (.string ⟨#[]⟩)),(.s (.string ⟨#[]⟩)),(.s (.int .i64 0)),(.s (.string ⟨#[]⟩)),(.s (.slice none 0 0)),(.s (.slice none 0 0))] [(0,1),(1,1),(2,1),(3,1),(4,1),(5,1),(6,1),(7,1)] [(0,(.c (.s (.int .u8 14))))]),none⟩]
def s_f6_r14:List AOper:=s_f6_r14p0 ++ s_f6_r14t1
def s_f6_r14p0_tale:=hT s_f6_r14p0 [55] [56] 57 [] [(56,(.op (.build [(.s (.int .u8 0)),(.s (.string ⟨#[]⟩)),(.s (.string ⟨#[]⟩)),(.s (.string ⟨#[]⟩)),(.s (.int .i64 0)),(.s (.string ⟨#[]⟩)),(.s (.slice none 0 0)),(.s (.slice none 0 0))] [(0,1),(1,1),(2,1),(3,1),(4,1),(5,1),(6,1),(7,1)] [(0,(.c (.s (.int .u8 14))))]) [(.c (.s (.int .u8 14)))]))] [.sub 0 [] []] (by kernel_rfl) (by kernel_rfl)
def s_f6_r14_x:=hS s_f6_r14 s_f6_r14p0 s_f6_r14t1 [55] [56] [55,56] rfl (by kernel_rfl)
def s_f6_r14t1_x:=hX s_f6_r14t1 [55,56] [⟨none,(.store 8 (.t 10) (.t 56)),none⟩] rfl
def s_f6_r15t3:List AOper:=[⟨none,(.store 1 (.t 63) (.t 61)),none⟩]
def s_f6_r15p2:List AOper:=[⟨some 62,(.indexAddr 2 (.t 58) (.t 59)),none⟩,⟨some 63,(.fieldAddr 1 (.t 62)),none⟩]
def s_f6_r15t2:List AOper:=s_f6_r15p2 ++ s_f6_r15t3
def s_f6_r15p1:List AOper:=[⟨some 61,(.buildSl 8 1 [(.s (.int .u8 0)),(.s (.string ⟨#[]⟩)),(.s (.string ⟨#[]⟩)),(.s (.string ⟨#[]⟩)),(.s (.int .i64 0)),(.s (.string ⟨#[]⟩)),(.s (.slice none 0 0)),(.s (.slice none 0 0))] [(0,(.t 60))]),none⟩]
def s_f6_r15t1:List AOper:=s_f6_r15p1 ++ s_f6_r15t2
def s_f6_r15p0:List AOper:=[⟨some 57,(.fieldAddr 2 (.t 7)),none⟩,⟨some 58,(.load false 1 (.t 57)),none⟩,⟨some 59,(.move (.t 9)),none⟩,⟨some 60,(.load true 8 (.t 10)),none⟩]
def s_f6_r15:List AOper:=s_f6_r15p0 ++ s_f6_r15t1
def s_f6_r15p0_tale:=hT s_f6_r15p0 [10,48,55,57] [58,59,60] 61 [] [(58,(.op (.load false 1 (.t 0)) [(.op (.fieldAddr 2 (.t 0)) [(.t 7)])])),(59,(.t 9)),(60,(.op (.load true 8 (.t 0)) [(.t 10)]))] [.sub 0 [0] [],.sub 0 [] [],.tt 9,.sub 2 [] []] (by kernel_rfl) (by kernel_rfl)
def s_f6_r15_x:=hS s_f6_r15 s_f6_r15p0 s_f6_r15t1 [10,48,55,57] [58,59,60] [10,48,55,57,58,59,60,61,62,63] rfl (by kernel_rfl)
def s_f6_r15t1_x:=hO s_f6_r15t1 s_f6_r15p1 s_f6_r15t2 [60] [10,48,55,57,58,59,60,61,62,63] [⟨some 61,(.buildSl 8 1 [(.s (.int .u8 0)),(.s (.string ⟨#[]⟩)),(.s (.string ⟨#[]⟩)),(.s (.string ⟨#[]⟩)),(.s (.int .i64 0)),(.s (.string ⟨#[]⟩)),(.s (.slice none 0 0)),(.s (.slice none 0 0))] [(0,(.t 60))]),none⟩] rfl rfl (by kernel_rfl)
def s_f6_r15p2_tale:=hT s_f6_r15p2 [58,59,62] [63] 64 [] [(63,(.op (.fieldAddr 1 (.t 0)) [(.op (.indexAddr 2 (.t 0) (.t 1)) [(.t 58),(.t 59)])]))] [.sub 0 [0] [],.sub 0 [] []] (by kernel_rfl) (by kernel_rfl)
def s_f6_r15t2_x:=hS s_f6_r15t2 s_f6_r15p2 s_f6_r15t3 [58,59,62] [63] [10,48,55,57,58,59,60,61,62,63] rfl (by kernel_rfl)
def s_f6_r15t3_x:=hX s_f6_r15t3 [10,48,55,57,58,59,60,61,62,63] [⟨none,(.store 1 (.t 63) (.t 61)),none⟩] rfl
def s_f6_r16:List AOper:=[
 ⟨some 38,(.move (.t 9)),none⟩,
 ⟨some 39,(.bin .add (.t 38) (.c (.s (.int .i64 1)))),none⟩,
 ⟨some 9,(.move (.t 39)),none⟩]
def s_f6_r16_tale:=hT s_f6_r16 [38,39] [9] 40 [] [(9,(.op (.bin .add (.t 0) (.c (.s (.int .i64 1)))) [(.t 9),(.c (.s (.int .i64 1)))]))] [.tt 9,.sub 0 [] [],.sub 0 [] []] (by kernel_rfl) (by kernel_rfl)
def s_f6_l1_b:ACode:=
 (.seq (.seq (.regionE s_f6_r9 [35,36] [37])
 (.cond (.t 37)
 .skip
 (.exit 2)))
 (.seq (.block 3
 (.seq (.region s_f6_r10 [] [37,40,41,42,43,44])
 (.seq (.seq (.regionE s_f6_r11 [45,46,47] [48])
 (.cond (.t 48)
 (.seq (.region s_f6_r12 [] [48,49,50,51,52])
 (.seq (.regionE s_f6_r13 [53,54] [55])
 (.cond (.t 55)
 (.region s_f6_r14 [] [55,56])
 .skip)))
 .skip))
 (.region s_f6_r15 [] [10,48,55,57,58,59,60,61,62,63]))))
 (.regionE s_f6_r16 [38,39] [9])))
def s_f6_l1:ACode:=s_f6_l1_b
def s_f6_l1_ev:=hE s_f6_l1 s_f6_l1_b rfl
def s_f6_r17t2:List AOper:=[⟨some 11,(.move (.t 65)),none⟩]
def s_f6_r17p1:List AOper:=[⟨some 65,(.call (.c (.fn 15 [] [])) [(.t 64)]),none⟩]
def s_f6_r17t1:List AOper:=s_f6_r17p1 ++ s_f6_r17t2
def s_f6_r17p0:List AOper:=[⟨some 64,(.load true 3 (.t 7)),none⟩]
def s_f6_r17:List AOper:=s_f6_r17p0 ++ s_f6_r17t1
def s_f6_r17p0_tale:=hT s_f6_r17p0 [7,9,37] [64] 65 [] [(64,(.op (.load true 3 (.t 0)) [(.t 7)]))] [.sub 0 [] []] (by kernel_rfl) (by kernel_rfl)
def s_f6_r17_x:=hS s_f6_r17 s_f6_r17p0 s_f6_r17t1 [7,9,37] [64] [7,9,37,64,65] rfl (by kernel_rfl)
def s_f6_r17t1_x:=hO s_f6_r17t1 s_f6_r17p1 s_f6_r17t2 [64] [7,9,37,64,65] [⟨some 65,(.call (.c (.fn 15 [] [])) [(.t 64)]),none⟩] rfl rfl (by kernel_rfl)
def s_f6_r17t2_tale:=hT s_f6_r17t2 [7,9,37,64,65] [11] 12 [] [(11,(.t 65))] [.tt 65] (by kernel_rfl) (by kernel_rfl)
def s_f6_r17t2_x:=hL s_f6_r17t2 [7,9,37,64,65] [11]
def s_f6_r18:List AOper:=[
 ⟨some 66,(.move (.t 11)),none⟩,
 ⟨some 67,(.lenS .s (.t 66)),none⟩,
 ⟨some 68,(.move (.t 5)),none⟩,
 ⟨some 69,(.bin .neq (.t 67) (.t 68)),none⟩]
def s_f6_r18_tale:=hT s_f6_r18 [66,67,68] [69] 70 [] [(69,(.op (.bin .neq (.t 0) (.t 1)) [(.op (.lenS .s (.t 0)) [(.t 11)]),(.t 5)]))] [.tt 11,.sub 0 [0] [],.tt 5,.sub 0 [] []] (by kernel_rfl) (by kernel_rfl)
def s_f6_r19:List AOper:=[
 ⟨some 4,(.move (.c (.s (.bool false)))),none⟩]
def s_f6_r19_tale:=hT s_f6_r19 [5,6,11,69] [4] 5 [] [(4,(.c (.s (.bool false))))] [.cc (.s (.bool false))] (by kernel_rfl) (by kernel_rfl)
def s_f6_r20:List AOper:=[
 ⟨some 12,(.move (.c (.s (.int .i64 0)))),none⟩]
def s_f6_r20_tale:=hT s_f6_r20 [69] [12] 13 [] [(12,(.c (.s (.int .i64 0))))] [.cc (.s (.int .i64 0))] (by kernel_rfl) (by kernel_rfl)
def s_f6_r21:List AOper:=[
 ⟨some 70,(.move (.t 12)),none⟩,
 ⟨some 71,(.move (.t 5)),none⟩,
 ⟨some 72,(.bin .lss (.t 70) (.t 71)),none⟩]
def s_f6_r21_tale:=hT s_f6_r21 [70,71] [72] 73 [] [(72,(.op (.bin .lss (.t 0) (.t 1)) [(.t 12),(.t 5)]))] [.tt 12,.tt 5,.sub 0 [] []] (by kernel_rfl) (by kernel_rfl)
def s_f6_r22:List AOper:=[
 ⟨some 75,(.move (.t 11)),none⟩,
 ⟨some 76,(.move (.t 12)),none⟩,
 ⟨some 77,(.indexAddr 1 (.t 75) (.t 76)),none⟩,
 ⟨some 78,(.load false 1 (.t 77)),none⟩,
 ⟨some 79,(.move (.t 12)),none⟩,
 ⟨some 80,(.move (.t 6)),none⟩,
 ⟨some 81,(.bin .geq (.t 79) (.t 80)),none⟩,
 ⟨some 82,(.eqB true (.t 78) (.t 81)),none⟩]
def s_f6_r22_tale:=hT s_f6_r22 [72,75,76,77,78,79,80,81] [82] 83 [] [(82,(.op (.eqB true (.t 0) (.t 1)) [(.op (.load false 1 (.t 0)) [(.op (.indexAddr 1 (.t 0) (.t 1)) [(.t 11),(.t 12)])]),(.op (.bin .geq (.t 0) (.t 1)) [(.t 12),(.t 6)])]))] [.tt 11,.tt 12,.sub 0 [0,0] [],.sub 0 [0] [],.tt 12,.tt 6,.sub 0 [1] [],.sub 0 [] []] (by kernel_rfl) (by kernel_rfl)
def s_f6_r23:List AOper:=[
 ⟨some 4,(.move (.c (.s (.bool false)))),none⟩]
def s_f6_r23_tale:=hT s_f6_r23 [5,6,11,12,82] [4] 5 [] [(4,(.c (.s (.bool false))))] [.cc (.s (.bool false))] (by kernel_rfl) (by kernel_rfl)
def s_f6_r24:List AOper:=[
 ⟨some 73,(.move (.t 12)),none⟩,
 ⟨some 74,(.bin .add (.t 73) (.c (.s (.int .i64 1)))),none⟩,
 ⟨some 12,(.move (.t 74)),none⟩]
def s_f6_r24_tale:=hT s_f6_r24 [73,74,82] [12] 75 [] [(12,(.op (.bin .add (.t 0) (.c (.s (.int .i64 1)))) [(.t 12),(.c (.s (.int .i64 1)))]))] [.tt 12,.sub 0 [] [],.sub 0 [] []] (by kernel_rfl) (by kernel_rfl)
def s_f6_l2_b:ACode:=
 (.seq (.seq (.regionE s_f6_r21 [70,71] [72])
 (.cond (.t 72)
 .skip
 (.exit 4)))
 (.seq (.block 5
 (.seq (.regionE s_f6_r22 [72,75,76,77,78,79,80,81] [82])
 (.cond (.t 82)
 (.seq (.regionE s_f6_r23 [5,6,11,12,82] [4])
 .ret)
 .skip)))
 (.regionE s_f6_r24 [73,74,82] [12])))
def s_f6_l2:ACode:=s_f6_l2_b
def s_f6_l2_ev:=hE s_f6_l2 s_f6_l2_b rfl
def s_f6_r25t1:List AOper:=[⟨some 4,(.move (.t 83)),none⟩]
def s_f6_r25p0:List AOper:=[⟨some 83,(.call (.c (.fn 11 [] [])) []),none⟩]
def s_f6_r25:List AOper:=s_f6_r25p0 ++ s_f6_r25t1
def s_f6_r25_x:=hO s_f6_r25 s_f6_r25p0 s_f6_r25t1 [5,6,11,12,72] [5,6,11,12,72,83] [⟨some 83,(.call (.c (.fn 11 [] [])) []),none⟩] rfl rfl (by kernel_rfl)
def s_f6_r25t1_tale:=hT s_f6_r25t1 [5,6,11,12,72,83] [4] 5 [] [(4,(.t 83))] [.tt 83] (by kernel_rfl) (by kernel_rfl)
def s_f6_r25t1_x:=hL s_f6_r25t1 [5,6,11,12,72,83] [4]
def s_f6:ACFun:={ ntmps:=84,results:=[(.tmp 4)],body:=
 (.seq (.regionE s_f6_r0 s_f6_r0_k [])
 (.seq (.regionE s_f6_r1 [0,13,14,15,16] [5])
 (.seq (.regionE s_f6_r2 [1,17,18,19,20,21] [6])
 (.seq (.region s_f6_r3 [] [])
 (.seq (.seq (.regionE s_f6_r4 [] [8])
 (.block 0
 (.loop [] s_f6_l0)))
 (.seq (.seq (.regionE s_f6_r8 [8,24] [9])
 (.block 2
 (.loop [] s_f6_l1)))
 (.seq (.region s_f6_r17 [] [7,9,37,64,65])
 (.seq (.seq (.regionE s_f6_r18 [66,67,68] [69])
 (.cond (.t 69)
 (.seq (.regionE s_f6_r19 [5,6,11,69] [4])
 .ret)
 .skip))
 (.seq (.seq (.regionE s_f6_r20 [69] [12])
 (.block 4
 (.loop [] s_f6_l2)))
 (.seq (.region s_f6_r25 [] [5,6,11,12,72,83])
 .ret)))))))))) }
abbrev k_f17:Nat:=17
def s_f17_r0_k:List Nat:=[1,2,3,4,5,6,7,8,9,10,11,12,13]
theorem s_f17_r0_kT:killV s_f17_r0_k (startV 14 [] 1)=[]:=by kernel_rfl
theorem s_f17_r0_kA0:s_f17_r0_k.contains 0=false:=by kernel_rfl
def s_f17_r0:List AOper:=[
 ⟨some 2,(.move (.c (.s (.string ⟨#[]⟩)))),none⟩]
def s_f17_r0_tale:=hT s_f17_r0 s_f17_r0_k [] 3 [] [] [.cc (.s (.string ⟨#[]⟩))] (by kernel_rfl) (by kernel_rfl)
def s_f17_r1t3:List AOper:=[⟨some 13,(.bin .add (.c (.s (.string ⟨#[98]⟩))) (.t 12)),none⟩,⟨some 2,(.move (.t 13)),none⟩]
def s_f17_r1p2:List AOper:=[⟨some 12,(.bstr (.t 11)),none⟩]
def s_f17_r1t2:List AOper:=s_f17_r1p2 ++ s_f17_r1t3
def s_f17_r1p1:List AOper:=[⟨some 11,(.buildSl 1 2 [(.s (.int .u8 0)),(.s (.int .u8 0))] [(0,(.t 6)),(1,(.t 10))]),none⟩]
def s_f17_r1t1:List AOper:=s_f17_r1p1 ++ s_f17_r1t2
def s_f17_r1p0:List AOper:=[⟨some 3,(.move (.t 0)),none⟩,⟨some 4,(.bin .quo (.t 3) (.c (.s (.int .i64 10)))),none⟩,⟨some 5,(.bin .add (.c (.s (.int .i64 48))) (.t 4)),none⟩,⟨some 6,(.conv .u8 (.t 5)),none⟩,⟨some 7,(.move (.t 0)),none⟩,⟨some 8,(.bin .rem (.t 7) (.c (.s (.int .i64 10)))),none⟩,⟨some 9,(.bin .add (.c (.s (.int .i64 48))) (.t 8)),none⟩,⟨some 10,(.conv .u8 (.t 9)),none⟩]
def s_f17_r1:List AOper:=s_f17_r1p0 ++ s_f17_r1t1
def s_f17_r1p0_tale:=hT s_f17_r1p0 [0,3,4,5,7,8,9] [6,10] 11 [] [(6,(.op (.conv .u8 (.t 0)) [(.op (.bin .add (.c (.s (.int .i64 48))) (.t 1)) [(.c (.s (.int .i64 48))),(.op (.bin .quo (.t 0) (.c (.s (.int .i64 10)))) [(.t 0),(.c (.s (.int .i64 10)))])])])),(10,(.op (.conv .u8 (.t 0)) [(.op (.bin .add (.c (.s (.int .i64 48))) (.t 1)) [(.c (.s (.int .i64 48))),(.op (.bin .rem (.t 0) (.c (.s (.int .i64 10)))) [(.t 0),(.c (.s (.int .i64 10)))])])]))] [.tt 0,.sub 0 [0,1] [],.sub 0 [0] [],.sub 0 [] [],.tt 0,.sub 1 [0,1] [],.sub 1 [0] [],.sub 1 [] []] (by kernel_rfl) (by kernel_rfl)
def s_f17_r1_x:=hS s_f17_r1 s_f17_r1p0 s_f17_r1t1 [0,3,4,5,7,8,9] [6,10] [0,3,4,5,6,7,8,9,10,11,12,13] rfl (by kernel_rfl)
def s_f17_r1t1_x:=hO s_f17_r1t1 s_f17_r1p1 s_f17_r1t2 [6,10] [0,3,4,5,6,7,8,9,10,11,12,13] [⟨some 11,(.buildSl 1 2 [(.s (.int .u8 0)),(.s (.int .u8 0))] [(0,(.t 6)),(1,(.t 10))]),none⟩] rfl rfl (by kernel_rfl)
def s_f17_r1t2_x:=hO s_f17_r1t2 s_f17_r1p2 s_f17_r1t3 [11] [0,3,4,5,6,7,8,9,10,11,12,13] [⟨some 12,(.bstr (.t 11)),none⟩] rfl rfl (by kernel_rfl)
def s_f17_r1t3_tale:=hT s_f17_r1t3 [0,3,4,5,6,7,8,9,10,11,12,13] [2] 14 [] [(2,(.op (.bin .add (.c (.s (.string ⟨#[98]⟩))) (.t 1)) [(.c (.s (.string ⟨#[98]⟩))),(.t 12)]))] [.sub 0 [] [],.sub 0 [] []] (by kernel_rfl) (by kernel_rfl)
def s_f17_r1t3_x:=hL s_f17_r1t3 [0,3,4,5,6,7,8,9,10,11,12,13] [2]
def s_f17:ACFun:={ ntmps:=14,results:=[(.tmp 2)],body:=
 (.seq (.regionE s_f17_r0 s_f17_r0_k [])
 (.seq (.region s_f17_r1 [] [0,3,4,5,6,7,8,9,10,11,12,13])
 .ret)) }
def a_f6:=ai @s_f6_r0_tale (ai @s_f6_r0_kT (ai @s_f6_r0_kA0 (ai @s_f6_r0_kA1 (ai @s_f6_r1_tale (ai @s_f6_r2_tale (ai @s_f6_r3_x (ai @s_f6_r4_tale (ai @s_f6_r5_tale (ai @s_f6_r6p0_tale (ai @s_f6_r6_x (ai @s_f6_r6t1_x (ai @s_f6_r6p2_tale (ai @s_f6_r6t2_x (ai @s_f6_r6t3_x (ai @s_f6_r6t4_x (ai @s_f6_r6p5_tale (ai @s_f6_r6t5_x (ai @s_f6_r6t6_x (ai @s_f6_r7_tale (ai @s_f6_l0_ev (ai @s_f6_r8_tale (ai @s_f6_r9_tale (ai @s_f6_r10p0_tale (ai @s_f6_r10_x (ai @s_f6_r10t1_x (ai @s_f6_r10t2_x (ai @s_f6_r10p3_tale (ai @s_f6_r10t3_x (ai @s_f6_r10t4_x (ai @s_f6_r10t5_x (ai @s_f6_r11_tale (ai @s_f6_r12p0_tale (ai @s_f6_r12_x (ai @s_f6_r12t1_x (ai @s_f6_r12t2_x (ai @s_f6_r12p3_tale (ai @s_f6_r12t3_x (ai @s_f6_r12t4_x (ai @s_f6_r13_tale (ai @s_f6_r14p0_tale (ai @s_f6_r14_x (ai @s_f6_r14t1_x (ai @s_f6_r15p0_tale (ai @s_f6_r15_x (ai @s_f6_r15t1_x (ai @s_f6_r15p2_tale (ai @s_f6_r15t2_x (ai @s_f6_r15t3_x (ai @s_f6_r16_tale (ai @s_f6_l1_ev (ai @s_f6_r17p0_tale (ai @s_f6_r17_x (ai @s_f6_r17t1_x (ai @s_f6_r17t2_tale (ai @s_f6_r17t2_x (ai @s_f6_r18_tale (ai @s_f6_r19_tale (ai @s_f6_r20_tale (ai @s_f6_r21_tale (ai @s_f6_r22_tale (ai @s_f6_r23_tale (ai @s_f6_r24_tale (ai @s_f6_l2_ev (ai @s_f6_r25_x (ai @s_f6_r25t1_tale (@s_f6_r25t1_x))))))))))))))))))))))))))))))))))))))))))))))))))))))))))))))))))
def a_f17:=ai @s_f17_r0_tale (ai @s_f17_r0_kT (ai @s_f17_r0_kA0 (ai @s_f17_r1p0_tale (ai @s_f17_r1_x (ai @s_f17_r1t1_x (ai @s_f17_r1t2_x (ai @s_f17_r1t3_tale (@s_f17_r1t3_x))))))))
theorem GA7_17:compK Try.prog PX0 17=some (false,s_f17.ntmps,s_f17.results,s_f17.body.bare):=by kernel_rfl
theorem GA7_6:compK Try.prog PX0 6=some (false,s_f6.ntmps,s_f6.results,s_f6.body.bare):=by kernel_rfl
end Go.Proofs.Ytgimjihhlhjejaa
set_option maxRecDepth 100000
namespace Go.Proofs.Ytgimjihhlhjejaa
open Go.AM
theorem op_bstr (call:CallF) (base:Nat) (fr:List V) (H:Heap) (x:Opd):evOp call base fr H (.bstr x)=(bstrV H (ev fr x)).map fun v=>(v,H):=rfl
def dig (i:Nat):List UInt8:=[UInt8.ofNat (48+i / 10),UInt8.ofNat (48+i % 10)]
def dg (i:Nat):Ob:=.cells 0 [.s (.int .u8 (48+i / 10:Nat)),.s (.int .u8 (48+i % 10:Nat))]
def nameB (i:Nat):ByteArray:=⟨#[98]⟩ ++ ⟨(dig i).toArray⟩
theorem nameB_inj:∀ i j,i < 42→j < 42→nameB i=nameB j→i=j:=by
 have h:((List.range 42).all fun i=>(List.range 42).all fun j=>(i == j) || !((nameB i).data.toList == (nameB j).data.toList))=true:=by kernel_rfl
 intro i j hi hj e
 rw [List.all_eq_true] at h
 have h1:=h i (List.mem_range.2 hi)
 rw [List.all_eq_true] at h1
 have h2:=h1 j (List.mem_range.2 hj)
 rw [e] at h2
 simpa using h2
section
variable {CT:Nat→Option CFun}
theorem name_fun (hT:CT k_f17=some (.code s_f17)) (base:Nat) (H:Heap) {i:Nat} (hi:i < 100):callW CT (.fn k_f17 [] []) [.s (.int .i64 i)] base H=some (Sb (nameB i),H ++ [dg i]):=by
 unfold dg
 have q1:IntKind.i64.wrap ((i:Int).tdiv 10)=((i / 10:Nat):Int):=by
  rw [Int.tdiv_eq_ediv_of_nonneg (by omega),IntKind.wrap_i64];omega
 have q2:(i:Int).tmod 10=((i % 10:Nat):Int):=by
  rw [Int.tmod_eq_emod_of_nonneg (by omega)];omega
 have q3:IntKind.i64.wrap (48+((i / 10:Nat):Int))=((48+i / 10:Nat):Int):=by rw [IntKind.wrap_i64];omega
 have q4:IntKind.i64.wrap (48+((i % 10:Nat):Int))=((48+i % 10:Nat):Int):=by rw [IntKind.wrap_i64];omega
 have q5:IntKind.u8.wrap ((48+i / 10:Nat):Int)=((48+i / 10:Nat):Int):=by simp only [IntKind.wrap,IntKind.bits,IntKind.signed];simp;omega
 have q6:IntKind.u8.wrap ((48+i % 10:Nat):Int)=((48+i % 10:Nat):Int):=by simp only [IntKind.wrap,IntKind.bits,IntKind.signed];simp;omega
 have h10:((10:Int)=0)=False:=by simp
 have hel:bstrV (H ++ [Ob.cells 0 [.s (.int .u8 (48+i / 10:Nat)),.s (.int .u8 (48+i % 10:Nat))]]) (.sl H.length 0 0 2 1)=some (.s (.string ⟨(dig i).toArray⟩)):=by
  have hg:=getC_new H 0 [V.s (.int .u8 (48+i / 10:Nat)),.s (.int .u8 (48+i % 10:Nat))]
  simp only [bstrV,elems,hg]
  rfl
 have hsz:¬ ((((⟨#[98]⟩:ByteArray).size+(⟨(dig i).toArray⟩:ByteArray).size:Nat):Int) > IntKind.i64.max):=by
  have:((⟨#[98]⟩:ByteArray).size+(⟨(dig i).toArray⟩:ByteArray).size)=3:=rfl
  rw [this];decide
 refine callW_fn (c:=s_f17) hT (by simp [s_f17]) ?_
 simp only [s_f17,a_f17,aa,bl,i64,reduceIte,reduceCtorEq,Nat.reduceEqDiff,Nat.reduceLT,Nat.reduceLeDiff,Nat.reduceBEq,Nat.reduceAdd,fillA,splice,Nat.reduceMul,amY,op_eqP,h10,q1,q2,q3,q4,q5,q6,op_bstr,hel,hsz,nameB]
theorem trim_held {L p g:Nat} {D:Heap} {c:List V} (fr:List V) (hc:getC D p g=some c) (hp:p < L) {v:V} (hv:v∈c) (hn:idsUnder L 8 v=false):trim L fr D=D:=by
 rcases trim_cells L fr D with e | ⟨_,_,h⟩
 ·exact e
 ·have:=h p g c hp hc v hv
  rw [hn] at this
  cases this
def rowsN0 (n:Nat):List (List V):=(List.range n).map fun j=>[Sb (nameB j),nilS]
theorem rowsN0_succ (n:Nat):rowsN0 (n+1)=rowsN0 n ++ [[Sb (nameB n),nilS]]:=by
 unfold rowsN0
 rw [List.range_succ,List.map_append]
 rfl
def eS0:ByteArray:=⟨#[]⟩
theorem ring_l0 (hN:CT k_f17=some (.code s_f17)) (base:Nat) {k:Nat} {to:Int} (H:Heap) (hb:base≤H.length) (hk:k≤40) (hk0:0 < k):
 ∃ D id g,itW (evC (callW CT) itW base s_f6_l0) [] (H.length+1) (frOf 84 [(5,Iz k),(6,Iz to),(7,.ref H.length 0 0),(8,Iz 0)]) (H ++ [.cells 0 [Sb eS0,nilS,nilS]])=some (.ext 0,frOf 84 [(5,Iz k),(6,Iz to),(7,.ref H.length 0 0),(8,Iz k),(24,bl false)],D)∧Ext H D∧H.length+1≤D.length∧getC D H.length 0=some [Sb eS0,nilS,.sl id g 0 k 2]∧getC D id g=some (rowsN0 k).flatten∧H.length < id∧id < D.length:=by
 obtain ⟨⟨D,bv⟩,e1,e2,e3,e4,e5⟩:=it_rel (S:=Heap × V) k (fun i s=>Ext H s.1∧H.length+1≤s.1.length∧getC s.1 H.length 0=some [Sb eS0,nilS,s.2]∧AccW (H.length+1) 2 s.1 s.2 (rowsN0 i)) (fun i s=>itW (evC (callW CT) itW base s_f6_l0) [] (H.length+1) (frOf 84 [(5,Iz k),(6,Iz to),(7,.ref H.length 0 0),(8,Iz i)]) s.1) (by
  rintro i ⟨D,bv⟩ hi ⟨h1,h2,h3,h4⟩
  simp only at h1 h2 h3 h4
  have hlt':((i:Int) < (k:Int)):=by omega
  have hwk:=w64 (n:=i) (by omega)
  have hn:=fun base H=>name_fun hN base H (i:=i) (by omega)
  have x7:xLoad D false 1 (.ref H.length 0 2)=some bv:=by rw [xo_ref,h3];rfl
  obtain ⟨D2,hD2⟩:∃ D2,D ++ [dg i] ++ [Ob.cells 0 [Sb (nameB i),nilS]]=D2:=⟨_,rfl⟩
  have l2:D2.length=D.length+2:=by rw [← hD2];simp
  have e2:Ext D D2:=by rw [← hD2];exact (Ext.app _ _).trans (Ext.app _ _)
  have hg:getC D2 (D.length+1) 0=some [Sb (nameB i),nilS]:=by
   have:=getC_new (D ++ [dg i]) 0 [Sb (nameB i),nilS]
   rw [len_snoc,hD2] at this
   exact this
  have hx:elems D2 2 (.sl (D.length+1) 0 0 1 2)=some ([[Sb (nameB i),nilS]].length,[[Sb (nameB i),nilS]].flatten):=by
   simp only [elems,hg];rfl
  have h4':AccW (H.length+1) 2 D2 bv (rowsN0 i):=h4.keep fun id g n e=>e2.get (h4.lt id g n e)
  have hrl:(rowsN0 i).length=i:=by simp [rowsN0]
  obtain ⟨v',D3,q1,q2,q3,q4⟩:=h4'.append (base:=base) (bytes:=40) (by omega) (by omega) (S:=[[Sb (nameB i),nilS]]) (by intro r hr;rw [List.mem_singleton] at hr;rw [hr];rfl) (by simp) hx rfl (by rw [hrl];simp;omega)
  have hne:∀ g n,bv≠.sl H.length g 0 n 2:=fun g n e=>by
   obtain ⟨_,⟨_,e2⟩ | ⟨id,g',e2,_,hm⟩⟩:=h4
   ·rw [e] at e2;cases e2
   ·rw [e] at e2;cases e2;omega
  have g3:getC D3 H.length 0=some [Sb eS0,nilS,bv]:=by
   have h3':=getC_ext h3 e2
   have:=getC_lt h3'
   simp only [getC] at h3' ⊢
   rw [q4 H.length this hne];exact h3'
  have st:=storeV_at (v:=v') (base:=base) g3 hb q2.rd.one (off:=2) (by simp)
  rw [← rowsN0_succ] at q2
  obtain ⟨hR,⟨hR0,_⟩ | ⟨id,g,rfl,hc,hm⟩⟩:=q2
  ·simp [rowsN0] at hR0
  ·have hl1:(rowsN0 (i+1)).length=i+1:=by simp [rowsN0]
   have g4:=getC_put (c':=[Sb eS0,nilS,V.sl id g 0 (rowsN0 (i+1)).length 2]) g3
   have ht:=trim_held (L:=H.length+1) (frOf 84 [(5,Iz k),(6,Iz to),(7,.ref H.length 0 0),(8,Iz (i+1:Nat))]) g4 (by omega) (v:=V.sl id g 0 (rowsN0 (i+1)).length 2) (by simp) (by simp [idsUnder];omega)
   have eH3:Ext H (D3.set H.length (.cells 0 [Sb eS0,nilS,V.sl id g 0 (rowsN0 (i+1)).length 2])):=by
    refine Ext.set ?_ (Nat.le_refl _) _
    refine Ext.of_get (by omega) fun j hj=>?_
    rw [q4 j (by omega) (fun g' n e=>by
     obtain ⟨_,⟨_,e2⟩ | ⟨id,g',e2,_,hm⟩⟩:=h4
     ·rw [e] at e2;cases e2
     ·rw [e] at e2;cases e2;omega),e2.get (by omega),h1.get hj]
   refine ⟨(D3.set H.length (.cells 0 [Sb eS0,nilS,V.sl id g 0 (rowsN0 (i+1)).length 2]),V.sl id g 0 (rowsN0 (i+1)).length 2),?_,eH3,by rw [List.length_set];omega,g4,hR,.inr ⟨id,g,rfl,by rw [getC_other (by omega)];exact hc,hm⟩⟩
   have hl3:(D ++ [dg i]).length=D.length+1:=by simp
   simp only [List.set_cons_succ,List.set_cons_zero] at st
   simp only [nilS,Iz] at hD2 st ht
   rw [itW_step]
   simp only [Iz,bl,nilS,a_f6,s_f6_l0_b,s_f6_l1_b,s_f6_l2_b,aa,bl,i64,reduceIte,reduceCtorEq,Nat.reduceEqDiff,Nat.reduceLT,Nat.reduceLeDiff,Nat.reduceBEq,Nat.reduceAdd,fillA,splice,Nat.reduceMul,amY,op_eqP,hlt',x7,hn,hl3,hD2,q1,st,hwk,ht]) 0 (H ++ [.cells 0 [Sb eS0,nilS,nilS]],nilS) (Nat.zero_le _) ⟨Ext.app _ _,by simp,getC_new H 0 _,AccW.start _ _ _⟩
 simp only at e1 e2 e3 e4 e5
 obtain ⟨hR,⟨hR0,_⟩ | ⟨id,g,rfl,hc,hm⟩⟩:=e5
 ·have:=congrArg List.length hR0
  simp [rowsN0] at this
  omega
 ·have hl1:(rowsN0 k).length=k:=by simp [rowsN0]
  have hlt:=getC_lt hc
  rw [hl1] at e4
  have ht:=trim_held (L:=H.length+1) (frOf 84 [(5,Iz k),(6,Iz to),(7,.ref H.length 0 0),(8,Iz k),(24,bl false)]) e4 (by omega) (v:=V.sl id g 0 k 2) (by simp) (by simp [idsUnder];omega)
  rw [cast0] at e1
  refine ⟨D,id,g,e1.trans ?_,e2,e3,e4,hc,by omega,hlt⟩
  rw [itW_step]
  simp only [Iz,bl] at ht
  simp only [Iz,bl,a_f6,s_f6_l0_b,s_f6_l1_b,s_f6_l2_b,aa,bl,i64,reduceIte,reduceCtorEq,Nat.reduceEqDiff,Nat.reduceLT,Nat.reduceLeDiff,Nat.reduceBEq,Nat.reduceAdd,fillA,splice,Nat.reduceMul,amY,op_eqP,Int.lt_irrefl,ht]
end
end Go.Proofs.Ytgimjihhlhjejaa
set_option maxRecDepth 100000
namespace Go.Proofs.Ytgimjihhlhjejaa
open Go.AM
def ring (k to j:Nat):BlkD:=if j+1 < k then ⟨nameB j,1,13,[nameB (j+1)]⟩ else if to=k then ⟨nameB j,1,14,[]⟩ else ⟨nameB j,1,13,[nameB to]⟩
def OkCv (D:Heap) (L:Nat) (b:BlkD) (cv:V):Prop:=∃ (c:Nat) (x:InsC),cv=.sl c 0 0 1 8∧L≤c∧getC D c 0=some x.cells∧x.op=b.op∧x.av=nilS∧((x.lv=nilS∧b.labs=[])∨∃ l lab,x.lv=.sl l 0 0 1 1∧L≤l∧getC D l 0=some [Sb lab]∧b.labs=[lab])
theorem OkCv.keep {D D':Heap} {L:Nat} {b:BlkD} {cv:V} (h:OkCv D L b cv) (hk:∀ id g c,L≤id→getC D id g=some c→getC D' id g=some c):OkCv D' L b cv:=by
 obtain ⟨c,x,h1,h2,h3,h4,h5,h6⟩:=h
 refine ⟨c,x,h1,h2,hk _ _ _ h2 h3,h4,h5,?_⟩
 rcases h6 with h6 | ⟨l,lab,k1,k2,k3,k4⟩
 ·exact .inl h6
 ·exact .inr ⟨l,lab,k1,k2,hk _ _ _ k2 k3,k4⟩
theorem flat_set2:∀ (R:List (List V)) (i:Nat) (a b v:V),(∀ r∈R,r.length=2)→R[i]?=some [a,b]→R.flatten.set (i * 2+1) v=(R.set i [a,v]).flatten:=by
 intro R
 induction R with
 | nil=>intro i a b v _ h;simp at h
 | cons r R ih=>
   intro i a b v hR hr
   cases i with
   | zero=>
     rw [List.getElem?_cons_zero] at hr
     obtain rfl:=Option.some.inj hr
     simp
   | succ i=>
     rw [List.getElem?_cons_succ] at hr
     have hl:=hR r List.mem_cons_self
     rw [List.flatten_cons,List.set_cons_succ,List.flatten_cons,List.set_append_right _ _ (by omega),hl,← ih i a b v (fun x hx=>hR x (List.mem_cons_of_mem _ hx)) hr]
     congr 2
     omega
structure RS2 (H D:Heap) (L id g k to i:Nat):Prop where
 ext:Ext H D
 le:L≤D.length
 p7:getC D H.length 0=some [Sb eS0,nilS,.sl id g 0 k 2]
 rows:∃ R:List (List V),R.length=k∧getC D id g=some R.flatten∧(∀ r∈R,r.length=2)∧∀ j,j < k→∃ cv,R[j]?=some [Sb (nameB j),cv]∧(j < i→OkCv D L (ring k to j) cv)∧(i≤j→cv=nilS)
theorem RS2.next {H D Db:Heap} {L id g k to i c:Nat} {x:InsC} (h:RS2 H D L id g k to i) (hi:i < k) (hp:H.length < L) (hid:id < L) (hih:H.length < id) (hE:Ext D Db) (hc:L≤c) (hgc:getC Db c 0=some x.cells) (h1:x.op=(ring k to i).op) (h2:x.av=nilS) (h3:(x.lv=nilS∧(ring k to i).labs=[])∨∃ l lab,x.lv=.sl l 0 0 1 1∧L≤l∧getC Db l 0=some [Sb lab]∧(ring k to i).labs=[lab]) (base:Nat) (hb:base≤id):
 ∃ R:List (List V),storeV Db base 1 (.sl c 0 0 1 8) (.ref id g (i * 2+1))=some (Db.set id (.cells g R.flatten))∧RS2 H (Db.set id (.cells g R.flatten)) L id g k to (i+1)∧V.sl c 0 0 1 8∈R.flatten:=by
 obtain ⟨e1,e2,e3,R,r1,r2,r3,r4⟩:=h
 obtain ⟨cv,q1,_,q3⟩:=r4 i hi
 have r2':=getC_ext r2 hE
 have hfl:=flat_len (w:=2) R r3
 have hlt:i * 2+1 < R.flatten.length:=by rw [hfl,r1];omega
 have st:=storeV_at (v:=.sl c 0 0 1 8) (base:=base) r2' hb rfl hlt
 rw [flat_set2 R i _ _ _ r3 q1] at st
 have hkeep:∀ id' g' c',L≤id'→getC D id' g'=some c'→getC (Db.set id (.cells g (R.set i [Sb (nameB i),V.sl c 0 0 1 8]).flatten)) id' g'=some c':=fun id' g' c' hl hg=>by
  rw [getC_other (by omega)];exact getC_ext hg hE
 have hkeep2:∀ id' g' c',L≤id'→getC Db id' g'=some c'→getC (Db.set id (.cells g (R.set i [Sb (nameB i),V.sl c 0 0 1 8]).flatten)) id' g'=some c':=fun id' g' c' hl hg=>by
  rw [getC_other (by omega)];exact hg
 refine ⟨_,st,⟨(e1.trans hE).set (by omega) _,by rw [List.length_set];have:=hE.le;omega,by rw [getC_other (by omega)];exact getC_ext e3 hE,R.set i [Sb (nameB i),V.sl c 0 0 1 8],by rw [List.length_set];exact r1,getC_put r2',fun r hr=>?_,fun j hj=>?_⟩,?_⟩
 ·rcases List.mem_or_eq_of_mem_set hr with e | e
  ·exact r3 r e
  ·rw [e];rfl
 ·by_cases e:i=j
  ·subst e
   refine ⟨_,List.getElem?_set_self (by omega),fun _=>?_,fun h=>absurd h (by omega)⟩
   exact OkCv.keep ⟨c,x,rfl,hc,hgc,h1,h2,h3⟩ hkeep2
  ·obtain ⟨cv',k1,k2,k3⟩:=r4 j hj
   exact ⟨cv',by rw [List.getElem?_set_ne e];exact k1,fun h=>(k2 (by omega)).keep hkeep,fun h=>k3 (by omega)⟩
 ·rw [List.mem_flatten]
  exact ⟨[Sb (nameB i),V.sl c 0 0 1 8],List.mem_of_getElem? (List.getElem?_set_self (by omega)),by simp⟩
section
variable {CT:Nat→Option CFun}
theorem ring_l1 (hN:CT k_f17=some (.code s_f17)) (base:Nat) {k to L id g:Nat} (H D0:Heap) (hb:base≤H.length) (hk:k≤40) (hk0:0 < k) (hto:to≤k) (hp:H.length < L) (hid:id < L) (hih:H.length < id) (hD0:D0.length=L) (h0:RS2 H D0 L id g k to 0):
 ∃ D,itW (evC (callW CT) itW base s_f6_l1) [] L (frOf 84 [(5,Iz k),(6,Iz to),(7,.ref H.length 0 0),(9,Iz 0)]) D0=some (.ext 2,frOf 84 [(5,Iz k),(6,Iz to),(7,.ref H.length 0 0),(9,Iz k),(37,bl false)],D)∧RS2 H D L id g k to k:=by
 obtain ⟨D,e1,e2⟩:=it_rel (S:=Heap) k (fun i D=>RS2 H D L id g k to i) (fun i D=>itW (evC (callW CT) itW base s_f6_l1) [] L (frOf 84 [(5,Iz k),(6,Iz to),(7,.ref H.length 0 0),(9,Iz i)]) D) (by
  intro i D hi hS
  have hlt':((i:Int) < (k:Int)):=by omega
  have hwk:=w64 (n:=i) (by omega)
  have hwk2:IntKind.i64.wrap ((k:Int) - 1)=(k:Int) - 1:=by rw [IntKind.wrap_i64];omega
  have hn:=fun base H=>name_fun hN base H (i:=i+1) (by omega)
  have hnt:=fun base H=>name_fun hN base H (i:=to) (by omega)
  have x7:xLoad D false 1 (.ref H.length 0 2)=some (.sl id g 0 k 2):=by rw [xo_ref,hS.p7];rfl
  have hle:=hS.le
  have ia:xIndexAddr 2 (.sl id g 0 k 2) (.s (.int .i64 i))=some (.ref id g (i * 2)):=by rw [xi_sl,if_pos ⟨by omega,by omega,rfl⟩,Int.toNat_natCast,Nat.zero_add]
  obtain ⟨E,hE⟩:∃ E,D ++ [dg (i+1)] ++ [Ob.cells 0 [Sb (nameB (i+1))]]=E:=⟨_,rfl⟩
  have lE:E.length=D.length+2:=by rw [← hE];simp
  have eE:Ext D E:=by rw [← hE];exact (Ext.app _ _).trans (Ext.app _ _)
  have gE:getC E (D.length+1) 0=some [Sb (nameB (i+1))]:=by
   have:=getC_new (D ++ [dg (i+1)]) 0 [Sb (nameB (i+1))]
   rw [len_snoc,hE] at this
   exact this
  have hl1:(D ++ [dg (i+1)]).length=D.length+1:=by simp
  have hbE:base≤D.length+2:=by omega
  by_cases hlast:i+1 < k
  ·have hne:((i:Int) == (k:Int) - 1)=false:=by rw [beq_eq_false_iff_ne];omega
   have hr:ring k to i=⟨nameB i,1,13,[nameB (i+1)]⟩:=by unfold ring;rw [if_pos hlast]
   obtain ⟨x,hx⟩:∃ x:InsC,x=⟨13,eS0,eS0,eS0,0,eS0,nilS,.sl (D.length+1) 0 0 1 1⟩:=⟨_,rfl⟩
   have eDb:Ext D (E ++ [Ob.cells 0 x.cells] ++ [Ob.cells 0 x.cells]):=(eE.trans (Ext.app _ _)).trans (Ext.app _ _)
   have gc:getC (E ++ [Ob.cells 0 x.cells] ++ [Ob.cells 0 x.cells]) (D.length+3) 0=some x.cells:=by
    have:=getC_new (E ++ [Ob.cells 0 x.cells]) 0 x.cells
    rw [len_snoc,lE] at this
    exact this
   obtain ⟨R,s1,s2,s3⟩:=hS.next hi hp hid hih eDb (c:=D.length+3) (by omega) gc (by rw [hx,hr]) (by rw [hx]) (.inr ⟨D.length+1,nameB (i+1),by rw [hx],by omega,getC_app (getC_app gE),by rw [hr]⟩) base (by omega)
   have hgid:getC ((E ++ [Ob.cells 0 x.cells] ++ [Ob.cells 0 x.cells]).set id (.cells g R.flatten)) id g=some R.flatten:=by
    obtain ⟨R0,_,z1,_⟩:=hS.rows
    exact getC_put (getC_ext z1 eDb)
   have ht:=trim_held (L:=L) (frOf 84 [(5,Iz k),(6,Iz to),(7,.ref H.length 0 0),(9,Iz (i+1:Nat))]) hgid hid s3 (by simp [idsUnder];omega)
   have gx:xLoad (E ++ [Ob.cells 0 x.cells]) true 8 (.ref (D.length+2) 0 0)=some (.agg x.cells):=by
    have:=getC_new E 0 x.cells
    rw [lE] at this
    rw [xo_ref,this];rfl
   have x72:xLoad (E ++ [Ob.cells 0 x.cells]) false 1 (.ref H.length 0 2)=some (.sl id g 0 k 2):=xLoad_ext (eE.trans (Ext.app _ _)) x7
   have hl3:(E ++ [Ob.cells 0 x.cells]).length=D.length+3:=by rw [len_snoc,lE]
   have hss:∀ a b,(E ++ [a]).set (D.length+2) b=E ++ [b]:=fun a b=>by
    have:=set_snoc E a b
    rwa [lE] at this
   have hgg:∀ c,getC (E ++ [Ob.cells 0 c]) (D.length+2) 0=some c:=fun c=>by
    have:=getC_new E 0 c
    rwa [lE] at this
   obtain ⟨Dn,hDn⟩:∃ Dn,(E ++ [Ob.cells 0 x.cells] ++ [Ob.cells 0 x.cells]).set id (.cells g R.flatten)=Dn:=⟨_,rfl⟩
   rw [hDn] at s1 s2 ht
   refine ⟨Dn,?_,s2⟩
   clear hDn hgid gc eDb
   subst hx
   simp only [InsC.cells,nilS,Iz,eS0] at gx x72 hl3 s1 ht ⊢
   rw [itW_step]
   simp only [Iz,bl,nilS,a_f6,s_f6_l0_b,s_f6_l1_b,s_f6_l2_b,aa,bl,i64,reduceIte,reduceCtorEq,Nat.reduceEqDiff,Nat.reduceLT,Nat.reduceLeDiff,Nat.reduceBEq,Nat.reduceAdd,fillA,splice,Nat.reduceMul,amY,op_eqP,hlt',hwk,hwk2,hn,hl1,hE,lE,hbE,hgg,hss,hne,x72,gx,hl3,ia,s1,ht]
  ·have hik:i+1=k:=by omega
   have heq:((i:Int) == (k:Int) - 1)=true:=by rw [beq_iff_eq];omega
   obtain ⟨x0,hx0⟩:∃ x:InsC,x=⟨13,eS0,eS0,eS0,0,eS0,nilS,.sl (D.length+1) 0 0 1 1⟩:=⟨_,rfl⟩
   obtain ⟨x1,hx1⟩:∃ x:InsC,x=⟨13,eS0,eS0,eS0,0,eS0,nilS,.sl (D.length+4) 0 0 1 1⟩:=⟨_,rfl⟩
   have hF:∀ c,(E ++ [Ob.cells 0 c] ++ [dg to] ++ [Ob.cells 0 [Sb (nameB to)]]).length=D.length+5:=fun c=>by simp [lE]
   have hF3:∀ c,(E ++ [Ob.cells 0 c] ++ [dg to]).length=D.length+4:=fun c=>by simp [lE]
   have hF4:∀ c,(E ++ [Ob.cells 0 c]).length=D.length+3:=fun c=>by simp [lE]
   have hgg:∀ c,getC (E ++ [Ob.cells 0 c]) (D.length+2) 0=some c:=fun c=>by
    have:=getC_new E 0 c
    rwa [lE] at this
   have hss:∀ a b,(E ++ [a]).set (D.length+2) b=E ++ [b]:=fun a b=>by
    have:=set_snoc E a b
    rwa [lE] at this
   have hgF:∀ c,getC (E ++ [Ob.cells 0 c] ++ [dg to] ++ [Ob.cells 0 [Sb (nameB to)]]) (D.length+2) 0=some c:=fun c=>getC_app (getC_app (hgg c))
   have hsF:∀ a b,(E ++ [a] ++ [dg to] ++ [Ob.cells 0 [Sb (nameB to)]]).set (D.length+2) b=E ++ [b] ++ [dg to] ++ [Ob.cells 0 [Sb (nameB to)]]:=fun a b=>by
    rw [← lE];simp
   have hgl:∀ c,getC (E ++ [Ob.cells 0 c] ++ [dg to] ++ [Ob.cells 0 [Sb (nameB to)]]) (D.length+4) 0=some [Sb (nameB to)]:=fun c=>by
    have:=getC_new (E ++ [Ob.cells 0 c] ++ [dg to]) 0 [Sb (nameB to)]
    rwa [hF3] at this
   have eF:∀ c,Ext D (E ++ [Ob.cells 0 c] ++ [dg to] ++ [Ob.cells 0 [Sb (nameB to)]]):=fun c=>((eE.trans (Ext.app _ _)).trans (Ext.app _ _)).trans (Ext.app _ _)
   have fin:∀ x:InsC,x.op=(ring k to i).op→x.av=nilS→((x.lv=nilS∧(ring k to i).labs=[])∨(x.lv=.sl (D.length+4) 0 0 1 1∧(ring k to i).labs=[nameB to]))→∃ Dn,storeV (E ++ [Ob.cells 0 x.cells] ++ [dg to] ++ [Ob.cells 0 [Sb (nameB to)]] ++ [Ob.cells 0 x.cells]) base 1 (.sl (D.length+5) 0 0 1 8) (.ref id g (i * 2+1))=some Dn∧RS2 H Dn L id g k to (i+1)∧trim L (frOf 84 [(5,Iz k),(6,Iz to),(7,.ref H.length 0 0),(9,Iz (i+1:Nat))]) Dn=Dn∧xLoad (E ++ [Ob.cells 0 x.cells] ++ [dg to] ++ [Ob.cells 0 [Sb (nameB to)]]) true 8 (.ref (D.length+2) 0 0)=some (.agg x.cells)∧xLoad (E ++ [Ob.cells 0 x.cells] ++ [dg to] ++ [Ob.cells 0 [Sb (nameB to)]]) false 1 (.ref H.length 0 2)=some (.sl id g 0 k 2):=by
    intro x h1 h2 h3
    have eDb:=(eF x.cells).trans (Ext.app _ [Ob.cells 0 x.cells])
    have gc:getC (E ++ [Ob.cells 0 x.cells] ++ [dg to] ++ [Ob.cells 0 [Sb (nameB to)]] ++ [Ob.cells 0 x.cells]) (D.length+5) 0=some x.cells:=by
     have:=getC_new (E ++ [Ob.cells 0 x.cells] ++ [dg to] ++ [Ob.cells 0 [Sb (nameB to)]]) 0 x.cells
     rwa [hF] at this
    obtain ⟨R,s1,s2,s3⟩:=hS.next hi hp hid hih eDb (c:=D.length+5) (by omega) gc h1 h2 (by
     rcases h3 with h3 | ⟨h3,h4⟩
     ·exact .inl h3
     ·exact .inr ⟨D.length+4,nameB to,h3,by omega,getC_app (hgl _),h4⟩) base (by omega)
    have hgid:getC ((E ++ [Ob.cells 0 x.cells] ++ [dg to] ++ [Ob.cells 0 [Sb (nameB to)]] ++ [Ob.cells 0 x.cells]).set id (.cells g R.flatten)) id g=some R.flatten:=by
     obtain ⟨R0,_,z1,_⟩:=hS.rows
     exact getC_put (getC_ext z1 eDb)
    have ht:=trim_held (L:=L) (frOf 84 [(5,Iz k),(6,Iz to),(7,.ref H.length 0 0),(9,Iz (i+1:Nat))]) hgid hid s3 (by simp [idsUnder];omega)
    exact ⟨_,s1,s2,ht,by rw [xo_ref,hgF];rfl,xLoad_ext (eF _) x7⟩
   have hrr:ring k to i=if to=k then ⟨nameB i,1,14,[]⟩ else ⟨nameB i,1,13,[nameB to]⟩:=by unfold ring;rw [if_neg hlast]
   by_cases htk:to=k
   ·rw [if_pos htk] at hrr
    have ht2:((to:Int) == (k:Int))=true:=by rw [htk];simp
    obtain ⟨Dn,s1,s2,ht,gx,x72⟩:=fin ⟨14,eS0,eS0,eS0,0,eS0,nilS,nilS⟩ (by rw [hrr]) rfl (.inl ⟨rfl,by rw [hrr]⟩)
    refine ⟨Dn,?_,s2⟩
    simp only [InsC.cells,nilS,Iz,eS0] at gx x72 s1 ht ⊢
    rw [itW_step]
    simp only [Iz,bl,nilS,a_f6,s_f6_l0_b,s_f6_l1_b,s_f6_l2_b,aa,bl,i64,reduceIte,reduceCtorEq,Nat.reduceEqDiff,Nat.reduceLT,Nat.reduceLeDiff,Nat.reduceBEq,Nat.reduceAdd,fillA,splice,Nat.reduceMul,amY,op_eqP,hlt',hwk,hwk2,hn,hnt,hl1,hE,lE,hbE,hgg,hss,heq,hF4,hF3,hgF,hsF,ht2,x72,gx,hF,ia,s1,ht]
   ·rw [if_neg htk] at hrr
    have ht2:((to:Int) == (k:Int))=false:=by rw [beq_eq_false_iff_ne];omega
    obtain ⟨Dn,s1,s2,ht,gx,x72⟩:=fin x1 (by rw [hx1,hrr]) (by rw [hx1]) (.inr ⟨by rw [hx1],by rw [hrr]⟩)
    refine ⟨Dn,?_,s2⟩
    subst hx1
    simp only [InsC.cells,nilS,Iz,eS0] at gx x72 s1 ht ⊢
    rw [itW_step]
    simp only [Iz,bl,nilS,a_f6,s_f6_l0_b,s_f6_l1_b,s_f6_l2_b,aa,bl,i64,reduceIte,reduceCtorEq,Nat.reduceEqDiff,Nat.reduceLT,Nat.reduceLeDiff,Nat.reduceBEq,Nat.reduceAdd,fillA,splice,Nat.reduceMul,amY,op_eqP,hlt',hwk,hwk2,hn,hnt,hl1,hE,lE,hbE,hgg,hss,heq,hF4,hF3,hgF,hsF,ht2,x72,gx,hF,ia,s1,ht]) 0 D0 (Nat.zero_le _) h0
 rw [cast0] at e1
 refine ⟨_,e1.trans ?_,e2⟩
 obtain ⟨R,r1,r2,r3,r4⟩:=e2.rows
 obtain ⟨cv,q1,q2,_⟩:=r4 0 hk0
 obtain ⟨c,x,rfl,hc,_⟩:=q2 hk0
 have ht:=trim_held (L:=L) (frOf 84 [(5,Iz k),(6,Iz to),(7,.ref H.length 0 0),(9,Iz k),(37,bl false)]) r2 hid (v:=V.sl c 0 0 1 8) (by rw [List.mem_flatten];exact ⟨_,List.mem_of_getElem? q1,by simp⟩) (by simp [idsUnder];omega)
 rw [itW_step]
 simp only [Iz,bl] at ht
 simp only [Iz,bl,a_f6,s_f6_l0_b,s_f6_l1_b,s_f6_l2_b,aa,bl,i64,reduceIte,reduceCtorEq,Nat.reduceEqDiff,Nat.reduceLT,Nat.reduceLeDiff,Nat.reduceBEq,Nat.reduceAdd,fillA,splice,Nat.reduceMul,amY,op_eqP,Int.lt_irrefl,ht]
end
end Go.Proofs.Ytgimjihhlhjejaa
set_option maxRecDepth 100000
namespace Go.Proofs.Ytgimjihhlhjejaa
open Go.AM
def ringB (k to:Nat):List BlkD:=(List.range k).map (ring k to)
theorem ringB_len (k to:Nat):(ringB k to).length=k:=by simp [ringB]
theorem ringB_get {k to j:Nat} (hj:j < k):(ringB k to)[j]?=some (ring k to j):=by
 rw [ringB,List.getElem?_map,List.getElem?_range hj];rfl
theorem ring_label (k to j:Nat):(ring k to j).label=nameB j:=by
 unfold ring
 split
 ·rfl
 ·split <;> rfl
theorem ring_n (k to j:Nat):(ring k to j).n=1:=by
 unfold ring
 split
 ·rfl
 ·split <;> rfl
theorem ring_labs (k to:Nat):labsOf (ringB k to)=(List.range k).map nameB:=by
 rw [labsOf,ringB,List.map_map]
 apply List.map_congr_left
 intro j _
 exact ring_label k to j
theorem ring_rd {H D:Heap} {L id g k to:Nat} (h:RS2 H D L id g k to k) (hk:k≤40):RdBlks D (.sl id g 0 k 2) (ringB k to):=by
 obtain ⟨_,_,_,R,r1,r2,r3,r4⟩:=h
 refine ⟨⟨R,?_,by rw [r1,ringB_len],fun i b hb=>?_⟩,by rw [ringB_len];omega⟩
 ·have:=RdW.sl r2 r3
  rwa [r1] at this
 ·have hi:=(List.getElem?_eq_some_iff.1 hb).1
  rw [ringB_len] at hi
  rw [ringB_get hi] at hb
  obtain rfl:=Option.some.inj hb
  obtain ⟨cv,q1,q2,_⟩:=r4 i hi
  obtain ⟨c,x,rfl,hc,gc,x1,x2,x3⟩:=q2 hi
  refine ⟨_,q1,⟨⟨.sl c 0 0 1 8,[x.cells],by rw [ring_label],?_,by rw [ring_n];rfl,fun _=>⟨x,by rw [ring_n];rfl,x1,by rw [x2];rfl,?_,?_⟩⟩,by rw [ring_n];decide,?_⟩⟩
  ·exact RdW.sl (R:=[x.cells]) (by simpa using gc) (by intro r hr;rw [List.mem_singleton] at hr;rw [hr];rfl)
  ·rcases x3 with ⟨e1,e2⟩ | ⟨l,lab,e1,_,e2,e3⟩
   ·rw [e1,e2];exact Rd.nil D
   ·rw [e1,e3]
    have:=getC_sl e2
    exact this
  ·rcases x3 with ⟨e1,e2⟩ | ⟨l,lab,e1,_,e2,e3⟩
   ·rw [e1];trivial
   ·rw [e1];trivial
  ·rcases x3 with ⟨e1,e2⟩ | ⟨l,lab,e1,_,e2,e3⟩
   ·rw [e2];decide
   ·rw [e3];simp
theorem fidx_name {k j:Nat} (hk:k≤40) (hj:j < k):nameB j∈(List.range k).map nameB∧fidx ((List.range k).map nameB) (nameB j)=j:=by
 have hm:nameB j∈(List.range k).map nameB:=List.mem_map.2 ⟨j,List.mem_range.2 hj,rfl⟩
 refine ⟨hm,?_⟩
 have h1:=fidx_get hm
 have h2:=fidx_lt hm
 rw [List.length_map,List.length_range] at h2
 rw [List.getElem?_map,List.getElem?_range h2] at h1
 exact nameB_inj _ _ (by omega) (by omega) (Option.some.inj h1)
theorem ring_good {k to:Nat} (hk:k≤40) (hto:to≤k):ofBad (ringB k to)=false:=by
 unfold ofBad
 rw [List.any_eq_false]
 intro b hb
 rw [ringB,List.mem_map] at hb
 obtain ⟨j,hj,rfl⟩:=hb
 rw [List.mem_range] at hj
 have hl:labsOf (ringB k to)=(List.range k).map nameB:=ring_labs k to
 rw [Bool.not_eq_true]
 unfold badD
 rw [hl,ring_n]
 unfold ring
 split
 ·have:=memD_iff.2 (fidx_name hk (show j+1 < k by assumption)).1
  simp [this]
 ·split
  ·rfl
  ·have:=memD_iff.2 (fidx_name hk (show to < k by omega)).1
   simp [this]
theorem ring_row {k to j:Nat} (hk:k≤40) (hto:to≤k) (hj:j < k) (z:Int):z∈(ofRows (ringB k to)).getD j []↔(j+1 < k∧z=((j+1:Nat):Int))∨(j+1=k∧to < k∧z=(to:Int)):=by
 rw [rowsO_mem (ring_good hk hto) (ringB_get hj),ring_labs]
 unfold ring
 by_cases h1:j+1 < k
 ·rw [if_pos h1]
  have e:=(fidx_name hk h1).2
  constructor
  ·rintro ⟨_,l,hl,rfl⟩
   rw [List.mem_singleton] at hl
   rw [hl,e]
   exact .inl ⟨h1,rfl⟩
  ·rintro (⟨_,rfl⟩ | ⟨h,_⟩)
   ·exact ⟨by simp,_,List.mem_singleton.2 rfl,by rw [e]⟩
   ·omega
 ·rw [if_neg h1]
  by_cases h2:to=k
  ·rw [if_pos h2]
   constructor
   ·rintro ⟨h,_⟩;exact absurd rfl h
   ·rintro (⟨h,_⟩ | ⟨_,h,_⟩) <;> omega
  ·rw [if_neg h2]
   have e:=(fidx_name hk (show to < k by omega)).2
   constructor
   ·rintro ⟨_,l,hl,rfl⟩
    rw [List.mem_singleton] at hl
    rw [hl,e]
    exact .inr ⟨by omega,by omega,rfl⟩
   ·rintro (⟨h,_⟩ | ⟨_,_,rfl⟩)
    ·omega
    ·exact ⟨by simp,_,List.mem_singleton.2 rfl,by rw [e]⟩
theorem ring_cyc {k to i:Nat} (hk:k≤40) (hto:to≤k) (hi:i < k):cycG (ofRows (ringB k to)) i=decide (to≤i):=by
 have hlen:(ofRows (ringB k to)).length=k:=by rw [ofRows_len,ringB_len]
 rw [Bool.eq_iff_iff,cyc_iff (by rw [hlen];exact hi),decide_eq_true_iff]
 have hrow:=fun j hj z=>ring_row hk hto (j:=j) hj z
 constructor
 ·intro h
  refine Classical.byContradiction fun hn=>?_
  have key:∀ x,Rch (ofRows (ringB k to)) ((ofRows (ringB k to)).getD i []) x→i < x:=by
   intro x hx
   induction hx with
   | base x h1 _=>rcases (hrow i hi _).1 h1 with ⟨_,e⟩ | ⟨_,_,e⟩ <;> omega
   | step j x h1 h2 h3 ih=>
     have hjk:=rch_lt h1
     rw [hlen] at hjk
     rcases (hrow j hjk _).1 h2 with ⟨_,e⟩ | ⟨_,_,e⟩ <;> omega
  exact Nat.lt_irrefl _ (key i h)
 ·intro h
  have htk:to < k:=by omega
  have up:∀ d x,Rch (ofRows (ringB k to)) ((ofRows (ringB k to)).getD i []) x→x+d < k→Rch (ofRows (ringB k to)) ((ofRows (ringB k to)).getD i []) (x+d):=by
   intro d
   induction d with
   | zero=>intro x hx _;exact hx
   | succ d ih=>
     intro x hx hd
     have:=ih x hx (by omega)
     exact .step (x+d) (x+(d+1)) this ((hrow (x+d) (by omega) _).2 (.inl ⟨by omega,rfl⟩)) (by rw [hlen];exact hd)
  have hto0:Rch (ofRows (ringB k to)) ((ofRows (ringB k to)).getD i []) to:=by
   by_cases hl:i+1=k
   ·exact .base to ((hrow i hi _).2 (.inr ⟨hl,htk,rfl⟩)) (by rw [hlen];exact htk)
   ·have h1:Rch (ofRows (ringB k to)) ((ofRows (ringB k to)).getD i []) (i+1):=.base (i+1) ((hrow i hi _).2 (.inl ⟨by omega,rfl⟩)) (by rw [hlen];omega)
    have h2:=up (k - 1 - (i+1)) (i+1) h1 (by omega)
    rw [show i+1+(k - 1 - (i+1))=k - 1 by omega] at h2
    exact .step (k - 1) to h2 ((hrow (k - 1) (by omega) _).2 (.inr ⟨by omega,htk,rfl⟩)) (by rw [hlen];exact htk)
  have:=up (i - to) to hto0 (by omega)
  rwa [show to+(i - to)=i by omega] at this
section
variable {CT:Nat→Option CFun}
theorem ring_l2 (base:Nat) {H:Heap} {k to:Nat} {lov:V} (hk:k≤40) (hto:to≤k) (hlo:Rd H lov ((cycL (ofRows (ringB k to))).map bV)) (hlow:Wide1 lov):
 itW (evC (callW CT) itW base s_f6_l2) [] H.length (frOf 84 [(5,Iz k),(6,Iz to),(11,lov),(12,Iz 0)]) H=some (.ext 4,frOf 84 [(5,Iz k),(6,Iz to),(11,lov),(12,Iz k),(72,bl false)],H):=by
 have hlen:(ofRows (ringB k to)).length=k:=by rw [ofRows_len,ringB_len]
 have hst:=it_fun k (fun i=>itW (evC (callW CT) itW base s_f6_l2) [] H.length (frOf 84 [(5,Iz k),(6,Iz to),(11,lov),(12,Iz i)]) H) (by
  intro i hi
  have hlt':((i:Int) < (k:Int)):=by omega
  have hwk:=w64 (n:=i) (by omega)
  obtain ⟨a,a1,a2⟩:=hlo.at' hlow (i:=i) (x:=.s (.bool (decide (to≤i)))) (by rw [List.getElem?_map,cycL,List.getElem?_map,List.getElem?_range (by rw [hlen];exact hi)];show some (bV _)=_;rw [ring_cyc hk hto hi];rfl)
  have hbb:((decide (to≤i) == decide ((to:Int)≤(i:Int))) != true)=false:=by
   have:decide (to≤i)=decide ((to:Int)≤(i:Int)):=by rw [Bool.eq_iff_iff,decide_eq_true_iff,decide_eq_true_iff];omega
   rw [this];cases decide ((to:Int)≤(i:Int)) <;> rfl
  rw [itW_step]
  simp only [Iz,a_f6,s_f6_l0_b,s_f6_l1_b,s_f6_l2_b,aa,bl,i64,reduceIte,reduceCtorEq,Nat.reduceEqDiff,Nat.reduceLT,Nat.reduceLeDiff,Nat.reduceBEq,Nat.reduceAdd,fillA,splice,Nat.reduceMul,amY,op_eqP,ge_iff_le,hlt',a1,a2,hbb,hwk,trim_same rfl]) 0 (Nat.zero_le _)
 rw [cast0] at hst
 refine hst.trans ?_
 rw [itW_step]
 simp only [Iz,bl,a_f6,s_f6_l0_b,s_f6_l1_b,s_f6_l2_b,aa,bl,i64,reduceIte,reduceCtorEq,Nat.reduceEqDiff,Nat.reduceLT,Nat.reduceLeDiff,Nat.reduceBEq,Nat.reduceAdd,fillA,splice,Nat.reduceMul,amY,op_eqP,Int.lt_irrefl,trim_same rfl]
theorem ring_law (h:CZ CT) (hN:CT k_f17=some (.code s_f17)) (hL:CT k_f6=some (.code s_f6)) (hw:∀ base H,callW CT (.fn k_f11 [] []) [] base H=some (.s (.bool true),H)) (base:Nat) (H:Heap) (hb:base≤H.length) (n back:Int) (hn0:0≤n) (hn1:n < 256) (hb0:0≤back) (hb1:back < 256):
 ∃ H',callW CT (.fn k_f6 [] []) [.s (.int .u8 n),.s (.int .u8 back)] base H=some (.s (.bool true),H'):=by
 obtain ⟨k,hk⟩:∃ k:Nat,(k:Int)=1+n % 40:=⟨(1+n % 40).toNat,by omega⟩
 obtain ⟨to,hto⟩:∃ to:Nat,(to:Int)=back % ((k:Int)+1):=⟨(back % ((k:Int)+1)).toNat,by have:=Int.emod_nonneg back (show ((k:Int)+1)≠0 by omega);omega⟩
 have htk:to≤k:=by have:=Int.emod_lt_of_pos back (show 0 < (k:Int)+1 by omega);omega
 have hk40:k≤40:=by omega
 have hk0:0 < k:=by omega
 obtain ⟨D0,id,g,a1,a2,a3,a4,a5,a6,a7⟩:=ring_l0 (CT:=CT) (to:=(to:Int)) hN base H hb hk40 hk0
 have hR0:RS2 H D0 D0.length id g k to 0:=by
  refine ⟨a2,Nat.le_refl _,a4,rowsN0 k,by simp [rowsN0],a5,fun r hr=>?_,fun j hj=>⟨nilS,?_,fun h=>absurd h (Nat.not_lt_zero _),fun _=>rfl⟩⟩
  ·rw [rowsN0,List.mem_map] at hr
   obtain ⟨j,_,rfl⟩:=hr
   rfl
  ·rw [rowsN0,List.getElem?_map,List.getElem?_range hj];rfl
 obtain ⟨D,b1,b2⟩:=ring_l1 (CT:=CT) hN base (k:=k) (to:=to) (L:=D0.length) H D0 hb hk40 hk0 htk (by omega) a7 a6 rfl hR0
 have hrd:=ring_rd b2 hk40
 have hDl:=b2.le
 obtain ⟨H2,lov,c1,c2,c3⟩:=loops_fun h base D (by omega) (nm:=eS0) (pv:=nilS) rfl hrd (by rw [ringB_len];omega) (fun b hb=>by
  rw [ringB,List.mem_map] at hb
  obtain ⟨j,_,rfl⟩:=hb
  unfold ring
  split
  ·exact show (1:Nat) < 2 ^ 18 by decide
  ·split
   ·exact show (0:Nat) < 2 ^ 18 by decide
   ·exact show (1:Nat) < 2 ^ 18 by decide)
 rw [ring_good hk40 htk] at c3
 rcases c3 with ⟨e,_⟩ | ⟨_,c3⟩
 ·cases e
 have hl2:=ring_l2 (CT:=CT) base hk40 htk c3.rd c3.wide
 have hll:=c3.rd.len
 rw [List.length_map,cycL_len,ofRows_len,ringB_len] at hll
 have hne:((k:Int) != (k:Int))=false:=by simp
 have ht:=hw base H2
 have gx:xLoad D true 3 (.ref H.length 0 0)=some (.agg (fnC eS0 nilS (.sl id g 0 k 2))):=by rw [xo_ref,b2.p7];rfl
 have w1:IntKind.u8.wrap (n.tmod 40)=n % 40:=by
  rw [Int.tmod_eq_emod_of_nonneg hn0]
  simp only [IntKind.wrap,IntKind.bits,IntKind.signed];simp;omega
 have h40:((40:Int)=0)=False:=by simp
 have w1':n.tmod 40=n % 40:=Int.tmod_eq_emod_of_nonneg hn0
 have w2:IntKind.i64.wrap (n % 40)=n % 40:=by rw [IntKind.wrap_i64];omega
 have w3:IntKind.i64.wrap (1+n % 40)=(k:Int):=by rw [IntKind.wrap_i64];omega
 have w4:IntKind.i64.wrap back=back:=by rw [IntKind.wrap_i64];omega
 have w5:IntKind.i64.wrap ((k:Int)+1)=(k:Int)+1:=by rw [IntKind.wrap_i64];omega
 have h6:(((k:Int)+1)=0)=False:=by simp;omega
 have w6:back.tmod ((k:Int)+1)=(to:Int):=by rw [Int.tmod_eq_emod_of_nonneg hb0];omega
 have l0:(H ++ [Ob.cells 0 [Sb eS0,nilS,nilS]]).length=H.length+1:=by simp
 refine ⟨H2,callW_fn (c:=s_f6) hL (by simp [s_f6]) ?_⟩
 simp only [Iz,bl,nilS,eS0] at a1 b1 l0 hl2
 simp only [fnC,nilS,eS0] at gx c1
 simp only [s_f6,a_f6,s_f6_l0_b,s_f6_l1_b,s_f6_l2_b,aa,bl,i64,reduceIte,reduceCtorEq,Nat.reduceEqDiff,Nat.reduceLT,Nat.reduceLeDiff,Nat.reduceBEq,Nat.reduceAdd,fillA,splice,Nat.reduceMul,amY,op_eqP,h40,w1',w2,w3,w4,w5,h6,w6,l0,a1,b1,gx,c1,hll,hne,hl2,ht]
end
end Go.Proofs.Ytgimjihhlhjejaa
