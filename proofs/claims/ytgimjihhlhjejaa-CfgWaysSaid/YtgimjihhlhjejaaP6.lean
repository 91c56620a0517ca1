/- Texts of the proof: CgSccG1, TarN, CgSccG2, CgSccG3, CgSccG4, CgSccG5, CgS4, CfgO1, CfgO2, CfgO3, CfgO4, CgS6, CfgW1, CfgW2, CfgW3, CfgW4. -/
import Derived.Test.YtgimjihhlhjejaaP0
import Derived.Test.YtgimjihhlhjejaaP1
import Derived.Test.YtgimjihhlhjejaaP2
import Derived.Test.YtgimjihhlhjejaaP3
import Derived.Test.YtgimjihhlhjejaaP4
import Derived.Test.YtgimjihhlhjejaaP5
set_option linter.all false
set_option maxRecDepth 100000
namespace Go.Proofs.Ytgimjihhlhjejaa
open Go.AM
section
variable {CT:Nat→Option CFun}
theorem mul64_fun (hT:CT k_f65=some (.code s_f65)) (base:Nat) (H:Heap) (n:Nat) (hn:n < 2 ^ 32):
 callW CT (.fn k_f65 [] []) [.s (.int .u64 1),.s (.int .u64 n)] base H=some (.tup [.s (.int .u64 0),.s (.int .u64 n)],H):=by
 have a1:=w64_and 1 4294967295 (by decide) (by decide)
 have a2:=w64_and n 4294967295 (by omega) (by decide)
 have e1:(1 &&& 4294967295:Nat)=1:=by decide
 have e2:(n &&& 4294967295:Nat)=n:=by
  rw [show (4294967295:Nat)=2 ^ 32 - 1 by decide,Nat.and_two_pow_sub_one_eq_mod]
  exact Nat.mod_eq_of_lt hn
 rw [e1] at a1
 rw [e2] at a2
 have s1:=w64_shr 1 32 .u64 (by decide)
 have s2:=w64_shr n 32 .u64 (by decide)
 have s3:=w64_shr 0 32 .u64 (by decide)
 have e3:n / 2 ^ 32=0:=Nat.div_eq_of_lt hn
 rw [e3] at s2
 have a3:=w64_and 0 4294967295 (by decide) (by decide)
 have m1:IntKind.u64.wrap (1 * (n:Int))=(n:Int):=by rw [IntKind.wrap_u64];omega
 have m2:IntKind.u64.wrap ((0:Int) * (n:Int))=0:=by rw [IntKind.wrap_u64];omega
 have m3:IntKind.u64.wrap ((1:Int) * 0)=0:=by rfl
 have m4:IntKind.u64.wrap ((0:Int) * 0)=0:=by rfl
 have m5:IntKind.u64.wrap ((0:Int)+0)=0:=by rfl
 have s4:=w64_shr n 32 .i64 (by decide)
 have s5:=w64_shr 1 32 .i64 (by decide)
 have s6:=w64_shr 0 32 .i64 (by decide)
 rw [e3] at s4
 refine callW_fn (c:=s_f65) hT (by simp [s_f65]) ?_
 simp only [show ((1:Nat):Int)=1 from rfl,show ((4294967295:Nat):Int)=4294967295 from rfl,show ((32:Nat):Int)=32 from rfl,show ((0:Nat):Int)=0 from rfl,show (1 / 2 ^ 32:Nat)=0 by decide,show (0 / 2 ^ 32:Nat)=0 by decide,show (0 &&& 4294967295:Nat)=0 by decide] at a1 a2 a3 s1 s2 s3 s4 s5 s6
 simp only [s_f65,a_f65,aa,bl,i64,reduceIte,reduceCtorEq,Nat.reduceEqDiff,Nat.reduceLT,Nat.reduceLeDiff,Nat.reduceBEq,Nat.reduceAdd,fillA,splice,Nat.reduceMul,amY,op_eqP,a1,a2,a3,s1,s2,s3,s4,s5,s6,m1,m2,m3,m4,m5]
theorem mul_fun (hM:CT k_f61=some (.code s_f61)) (hT:CT k_f65=some (.code s_f65)) (base:Nat) (H:Heap) (n:Nat) (hn:n < 2 ^ 32):
 callW CT (.fn k_f61 [] []) [.s (.int .u64 1),.s (.int .u64 n)] base H=some (.tup [.s (.int .u64 0),.s (.int .u64 n)],H):=by
 have m:=mul64_fun hT base H n hn
 refine callW_fn (c:=s_f61) hM (by simp [s_f61]) ?_
 simp only [s_f61,a_f61,aa,bl,i64,reduceIte,reduceCtorEq,Nat.reduceEqDiff,Nat.reduceLT,Nat.reduceLeDiff,Nat.reduceBEq,Nat.reduceAdd,fillA,splice,Nat.reduceMul,amY,op_eqP,m]
def filled (n k:Nat):List V:=List.replicate k (iV (-1)) ++ List.replicate (n - k) (iV 0)
theorem rep_loop (base:Nat) (A:Heap) (n:Nat) (hb:base≤A.length) (hn:n < 2 ^ 32):∀ (m k:Nat),n≤k+m→(1≤k∨k=n)→k≤n→
 itW (evC (callW CT) itW base s_f51_l0) [] (A.length+1) (frOf 48 [(7,.sl A.length 0 0 n 1),(8,.s (.int .i64 k))]) (A ++ [.cells 0 (filled n k)])=some (.ext 0,frOf 48 [(7,.sl A.length 0 0 n 1),(8,.s (.int .i64 n)),(37,bl false)],A ++ [.cells 0 (filled n n)]):=by
 have ts:∀ (fr:List V) (ob:Ob),trim (A.length+1) fr (A ++ [ob])=A ++ [ob]:=fun fr ob=>trim_same (by simp)
 intro m
 induction m with
 | zero=>
   intro k h1 h2 h3
   obtain rfl:k=n:=by omega
   rw [itW_step]
   simp only [a_f51,s_f51_l0_b,aa,bl,i64,reduceIte,reduceCtorEq,Nat.reduceEqDiff,Nat.reduceLT,Nat.reduceLeDiff,Nat.reduceBEq,Nat.reduceAdd,fillA,splice,Nat.reduceMul,amY,op_eqP,Int.lt_irrefl,ts,bl]
 | succ m ih=>
   intro k h1 h2 h3
   by_cases hk:k=n
   ·subst hk
    rw [itW_step]
    simp only [a_f51,s_f51_l0_b,aa,bl,i64,reduceIte,reduceCtorEq,Nat.reduceEqDiff,Nat.reduceLT,Nat.reduceLeDiff,Nat.reduceBEq,Nat.reduceAdd,fillA,splice,Nat.reduceMul,amY,op_eqP,Int.lt_irrefl,ts,bl]
   ·have hlt:(k:Int) < (n:Int):=by omega
    have hz:∀ x y:Nat,(0:Int)≤x↔True:=fun x y=>by simp
    have i1:(0:Int)≤(k:Int)∧(k:Int)≤n∧(n:Int)≤n∧1=1:=by omega
    have i2:(0:Int)≤0∧(0:Int)≤k∧(k:Int)≤n∧1=1:=by omega
    have i3:((n:Int) - k).toNat=n - k:=by omega
    have i4:((k:Int) - 0).toNat=k:=by omega
    have hc:getC (A ++ [.cells 0 (filled n k)]) A.length 0=some (filled n k):=getC_new _ _ _
    have hl:(filled n k).length=n:=by simp [filled];omega
    have hcp:copyV (A ++ [.cells 0 (filled n k)]) base 1 (.sl A.length 0 k (n - k) 1) (.sl A.length 0 0 k 1)=some (.s (.int .i64 (min k (n - k):Nat)),A ++ [.cells 0 (filled n (k+min k (n - k)))]):=by
     have ht:(filled n k).take k=List.replicate k (iV (-1)):=List.take_left' (by simp)
     have he:elems (A ++ [.cells 0 (filled n k)]) 1 (.sl A.length 0 0 k 1)=some (k,List.replicate k (iV (-1))):=by
      simp only [elems,hc,List.drop_zero,Nat.mul_one,ht,List.length_replicate,if_true]
     have hall:(List.replicate k (iV (-1))).all V.one=true:=by
      rw [List.all_eq_true]
      intro x hx
      rw [(List.mem_replicate.1 hx).2]
      rfl
     have hsp:splice (filled n k) k ((List.replicate k (iV (-1))).take (min k (n - k) * 1))=filled n (k+min k (n - k)):=by
      have hd:(filled n k).drop (k+min k (n - k))=List.replicate (n - k - min k (n - k)) (iV 0):=by
       rw [filled,← List.drop_drop,List.drop_left' (by simp),List.drop_replicate]
      have hm:min (min k (n - k)) k=min k (n - k):=by omega
      rw [splice,ht,Nat.mul_one,List.take_replicate,List.length_replicate,hm,hd,filled,List.replicate_append_replicate,Nat.sub_sub]
     simp only [copyV,he,hall,if_true,true_and,hb,hc,hl,hsp,set_snoc,show k+(n - k) * 1≤n by omega,i64]
    have hw:IntKind.i64.wrap ((k:Int)+(min k (n - k):Nat))=((k+min k (n - k):Nat):Int):=by rw [IntKind.wrap_i64];omega
    have ih':=ih (k+min k (n - k)) (by omega) (by omega) (by omega)
    rw [itW_step]
    simp only [a_f51,s_f51_l0_b,aa,bl,i64,reduceIte,reduceCtorEq,Nat.reduceEqDiff,Nat.reduceLT,Nat.reduceLeDiff,Nat.reduceBEq,Nat.reduceAdd,fillA,splice,Nat.reduceMul,amY,op_eqP,hlt,op_copy,xslice_sl,bndV_none,bndV_int,cutSl_some,i1,i2,i3,i4,and_self,Int.toNat_natCast,Int.toNat_zero,hcp,hw,ts]
    exact ih'
theorem repeat_fun (hR:CT k_f51=some (.code s_f51)) (hM:CT k_f61=some (.code s_f61)) (hT:CT k_f65=some (.code s_f65)) (base:Nat) (H:Heap) (v:V) (hv:Rd H v [iV (-1)]) (n:Nat) (hn:n < 2 ^ 32) (hb:base≤H.length):
 callW CT (.fn k_f51 [] []) [v,.s (.int .i64 n)] base H=some (.sl H.length 0 0 n 1,H ++ [.cells 0 (List.replicate n (iV (-1)))]):=by
 have hm:=mul_fun hM hT base H n hn
 have hl:=hv.len
 have hmk:=make_n (H:=H) (zero:=[.s (.int .i64 0)]) (sz:=1) (bytes:=8) (k:=.i64) (k':=.i64) (n:=n) (by omega)
 rw [flat_one] at hmk
 have w1:IntKind.u64.wrap 1=1:=rfl
 have w2:IntKind.u64.wrap (n:Int)=n:=by rw [IntKind.wrap_u64];omega
 have w3:IntKind.i64.wrap (n:Int)=n:=by rw [IntKind.wrap_i64];omega
 have z1:decide ((n:Int) < 0)=false:=by rw [decide_eq_false_iff_not];omega
 have z2:decide ((n:Int) > 9223372036854775807)=false:=by rw [decide_eq_false_iff_not];omega
 have z3:decide ((0:Int) > 0)=false:=by decide
 have hex:=hv.ext (Ext.app H [Ob.cells 0 (List.replicate n (.s (.int .i64 0)))])
 have hcp:copyV (H ++ [.cells 0 (List.replicate n (.s (.int .i64 0)))]) base 1 (.sl H.length 0 0 n 1) v=some (.s (.int .i64 (min 1 n:Nat)),H ++ [.cells 0 (filled n (min 1 n))]):=by
  have hc:getC (H ++ [Ob.cells 0 (List.replicate n (.s (.int .i64 0)))]) H.length 0=some (List.replicate n (.s (.int .i64 0))):=getC_new _ _ _
  have he:=hex.2
  simp only [List.length_cons,List.length_nil,Nat.zero_add] at he
  have hall:[iV (-1)].all V.one=true:=rfl
  have hsp:splice (List.replicate n (.s (.int .i64 0))) 0 ([iV (-1)].take (min 1 n * 1))=filled n (min 1 n):=by
   cases n with
   | zero=>rfl
   | succ n=>
     have:min 1 (n+1)=1:=by omega
     rw [this]
     simp [splice,filled,iV]
  rw [copyV_of (off:=0) (len:=n) hex.1 he hall hb hc (by rw [List.length_replicate];omega),hsp,set_snoc]
 have hrl:=rep_loop (CT:=CT) base H n hb hn n (min 1 n) (by omega) (by omega) (by omega)
 have hf:filled n n=List.replicate n (iV (-1)):=by simp [filled]
 have hlen1:∀ ob,(H ++ [ob]).length=H.length+1:=fun ob=>by simp
 rw [hf] at hrl
 refine callW_fn (c:=s_f51) hR (by simp [s_f51]) ?_
 simp only [List.length_cons,List.length_nil,Nat.zero_add] at hl
 simp only [s_f51,a_f51,s_f51_l0_b,aa,bl,i64,reduceIte,reduceCtorEq,Nat.reduceEqDiff,Nat.reduceLT,Nat.reduceLeDiff,Nat.reduceBEq,Nat.reduceAdd,fillA,splice,Nat.reduceMul,amY,op_eqP,hl,show ((1:Nat):Int)=1 from rfl,z1,w1,w2,w3,hm,z2,z3,op_mkSl,hmk,op_copy,hcp,hlen1,hrl]
theorem indexI_fun (hT:CT k_f53=some (.code s_f53)) (base:Nat) {H:Heap} {v:V} {l:List Int} (hr:Rd H v (l.map iV)) (hw:Wide1 v) (hn:l.length < 2 ^ 60) (y:Int):
 callW CT (.fn k_f53 [] []) [v,.s (.int .i64 y)] base H=some (.s (.int .i64 (if y∈l then (l.idxOf y:Nat) else -1)),H):=by
 have e1:=iV_len hr
 have hst:∀ i,i < l.length→(y == l.getD i 0)=false→itW (evC (callW CT) itW base s_f53_l0) [] H.length (frOf 19 [(0,v),(1,.s (.int .i64 y)),(7,.s (.int .i64 l.length)),(8,.s (.int .i64 i))]) H=itW (evC (callW CT) itW base s_f53_l0) [] H.length (frOf 19 [(0,v),(1,.s (.int .i64 y)),(7,.s (.int .i64 l.length)),(8,.s (.int .i64 (i+1:Nat)))]) H:=by
  intro i hi hp
  have hlt':((i:Int) < (l.length:Int)):=by omega
  obtain ⟨a,a1,a2⟩:=iV_get hr hw hi
  have w:=w64 (n:=i) (by omega)
  rw [itW_step]
  simp only [a_f53,s_f53_l0_b,aa,bl,i64,reduceIte,reduceCtorEq,Nat.reduceEqDiff,Nat.reduceLT,Nat.reduceLeDiff,Nat.reduceBEq,Nat.reduceAdd,fillA,splice,Nat.reduceMul,amY,op_eqP,hlt',a1,a2,hp,w,trim_same rfl]
 refine callW_fn (c:=s_f53) hT (by simp [s_f53]) ?_
 rcases it_find l.length (fun i=>y == l.getD i 0) (fun i=>itW (evC (callW CT) itW base s_f53_l0) [] H.length (frOf 19 [(0,v),(1,.s (.int .i64 y)),(7,.s (.int .i64 l.length)),(8,.s (.int .i64 i))]) H) hst with ⟨h1,h2⟩ | ⟨i,hi,h1,h2,h3⟩
 ·have hny:y ∉ l:=fun hm=>by
   obtain ⟨i,hi,e⟩:=List.getElem_of_mem hm
   have:=h1 i hi
   simp only [List.getD,List.getElem?_eq_getElem hi,Option.getD_some,e,beq_self_eq_true] at this
   cases this
  rw [if_neg hny]
  have hend:itW (evC (callW CT) itW base s_f53_l0) [] H.length (frOf 19 [(0,v),(1,.s (.int .i64 y)),(7,.s (.int .i64 l.length)),(8,.s (.int .i64 l.length))]) H=some (.ext 0,frOf 19 [(0,v),(1,.s (.int .i64 y)),(7,.s (.int .i64 l.length)),(8,.s (.int .i64 l.length)),(9,bl false)],H):=by
   rw [itW_step]
   simp only [a_f53,s_f53_l0_b,aa,bl,i64,reduceIte,reduceCtorEq,Nat.reduceEqDiff,Nat.reduceLT,Nat.reduceLeDiff,Nat.reduceBEq,Nat.reduceAdd,fillA,splice,Nat.reduceMul,amY,op_eqP,Int.lt_irrefl,trim_same rfl,bl]
  have h4:=h2.trans hend
  simp only [bl,show ((0:Nat):Int)=0 from rfl] at h4
  simp only [s_f53,a_f53,s_f53_l0_b,aa,bl,i64,reduceIte,reduceCtorEq,Nat.reduceEqDiff,Nat.reduceLT,Nat.reduceLeDiff,Nat.reduceBEq,Nat.reduceAdd,fillA,splice,Nat.reduceMul,amY,op_eqP,e1,h4]
 ·have hg:l[i]?=some y:=by rw [some_getD hi 0,eq_of_beq h1]
  have hm:y∈l:=List.mem_of_getElem? hg
  have hix:l.idxOf y=i:=by
   refine Nat.le_antisymm ?_ ?_
   ·have:=List.idxOf_lt_length_of_mem hm
    rcases Nat.lt_or_ge i (l.idxOf y) with hlt | hge
    ·exact absurd hg (by
      have:=List.not_of_lt_findIdx (xs:=l) (p:=(· == y)) (i:=i) hlt
      rw [List.getElem?_eq_getElem hi]
      intro e0
      simp only [Option.some.injEq] at e0
      rw [e0] at this
      simp at this)
    ·exact hge
   ·rcases Nat.lt_or_ge (l.idxOf y) i with hlt | hge
    ·have:=h2 _ hlt
     have h5:=List.getElem_idxOf (List.idxOf_lt_length_of_mem hm)
     simp only [List.getD,List.getElem?_eq_getElem (List.idxOf_lt_length_of_mem hm),Option.getD_some,h5,beq_self_eq_true] at this
     cases this
    ·exact hge
  rw [if_pos hm,hix]
  have hlt':((i:Int) < (l.length:Int)):=by omega
  obtain ⟨a,a1,a2⟩:=iV_get hr hw hi
  have hend:itW (evC (callW CT) itW base s_f53_l0) [] H.length (frOf 19 [(0,v),(1,.s (.int .i64 y)),(7,.s (.int .i64 l.length)),(8,.s (.int .i64 i))]) H=some (.ret,frOf 19 [(4,.s (.int .i64 i))],H):=by
   rw [itW_step]
   simp only [a_f53,s_f53_l0_b,aa,bl,i64,reduceIte,reduceCtorEq,Nat.reduceEqDiff,Nat.reduceLT,Nat.reduceLeDiff,Nat.reduceBEq,Nat.reduceAdd,fillA,splice,Nat.reduceMul,amY,op_eqP,hlt',a1,a2,h1]
  have h4:=h3.trans hend
  simp only [show ((0:Nat):Int)=0 from rfl] at h4
  simp only [s_f53,a_f53,s_f53_l0_b,aa,bl,i64,reduceIte,reduceCtorEq,Nat.reduceEqDiff,Nat.reduceLT,Nat.reduceLeDiff,Nat.reduceBEq,Nat.reduceAdd,fillA,splice,Nat.reduceMul,amY,op_eqP,e1,h4]
theorem contains_fun (hC:CT k_f34=some (.code s_f34)) (hT:CT k_f53=some (.code s_f53)) (base:Nat) {H:Heap} {v:V} {l:List Int} (hr:Rd H v (l.map iV)) (hw:Wide1 v) (hn:l.length < 2 ^ 60) (y:Int):
 callW CT (.fn k_f34 [] []) [v,.s (.int .i64 y)] base H=some (.s (.bool (decide (y∈l))),H):=by
 have h:=indexI_fun hT base hr hw hn y
 refine callW_fn (c:=s_f34) hC (by simp [s_f34]) ?_
 simp only [s_f34,a_f34,aa,bl,i64,reduceIte,reduceCtorEq,Nat.reduceEqDiff,Nat.reduceLT,Nat.reduceLeDiff,Nat.reduceBEq,Nat.reduceAdd,fillA,splice,Nat.reduceMul,amY,op_eqP,h]
 by_cases hm:y∈l
 ·simp [hm]
 ·simp [hm]
def cntZ (l:List Int):Int:=l.foldl (fun n k=>if n < k+1 then k+1 else n) 0
theorem count_fun (hC:CT k_f33=some (.code s_f33)) (base:Nat) {H:Heap} {v:V} {l:List Int} (hr:Rd H v (l.map iV)) (hw:Wide1 v) (hn:l.length < 2 ^ 60) (hl:∀ x∈l,0≤x∧x < 2 ^ 40):
 callW CT (.fn k_f33 [] []) [v] base H=some (.s (.int .i64 (cntZ l)),H):=by
 have e1:=iV_len hr
 have key:∀ i,i < l.length→itW (evC (callW CT) itW base s_f33_l0) [] H.length (frOf 18 [(3,.s (.int .i64 (cntZ (l.take i)))),(6,v),(7,.s (.int .i64 l.length)),(8,.s (.int .i64 i))]) H=itW (evC (callW CT) itW base s_f33_l0) [] H.length (frOf 18 [(3,.s (.int .i64 (cntZ (l.take (i+1))))),(6,v),(7,.s (.int .i64 l.length)),(8,.s (.int .i64 (i+1:Nat)))]) H:=by
  intro i hi
  have hlt':((i:Int) < (l.length:Int)):=by omega
  obtain ⟨a,a1,a2⟩:=iV_get hr hw hi
  have w:=w64 (n:=i) (by omega)
  have hx:=hl (l.getD i 0) (List.mem_of_getElem? (some_getD hi 0))
  have w2:IntKind.i64.wrap (l.getD i 0+1)=l.getD i 0+1:=by rw [IntKind.wrap_i64];omega
  have ht:cntZ (l.take (i+1))=(if cntZ (l.take i) < l.getD i 0+1 then l.getD i 0+1 else cntZ (l.take i)):=by
   rw [List.take_add_one,some_getD hi 0]
   simp [cntZ,List.foldl_append]
  rw [ht,itW_step]
  simp only [a_f33,s_f33_l0_b,aa,bl,i64,reduceIte,reduceCtorEq,Nat.reduceEqDiff,Nat.reduceLT,Nat.reduceLeDiff,Nat.reduceBEq,Nat.reduceAdd,fillA,splice,Nat.reduceMul,amY,op_eqP,hlt',a1,a2,w,w2,trim_same rfl]
 have h2:=it_fun l.length (fun i=>itW (evC (callW CT) itW base s_f33_l0) [] H.length (frOf 18 [(3,.s (.int .i64 (cntZ (l.take i)))),(6,v),(7,.s (.int .i64 l.length)),(8,.s (.int .i64 i))]) H) key 0 (Nat.zero_le _)
 have hend:itW (evC (callW CT) itW base s_f33_l0) [] H.length (frOf 18 [(3,.s (.int .i64 (cntZ (l.take l.length)))),(6,v),(7,.s (.int .i64 l.length)),(8,.s (.int .i64 l.length))]) H=some (.ext 0,frOf 18 [(3,.s (.int .i64 (cntZ l))),(6,v),(7,.s (.int .i64 l.length)),(8,.s (.int .i64 l.length)),(9,bl false)],H):=by
  rw [itW_step,List.take_length]
  simp only [a_f33,s_f33_l0_b,aa,bl,i64,reduceIte,reduceCtorEq,Nat.reduceEqDiff,Nat.reduceLT,Nat.reduceLeDiff,Nat.reduceBEq,Nat.reduceAdd,fillA,splice,Nat.reduceMul,amY,op_eqP,Int.lt_irrefl,trim_same rfl,bl]
 have h4:=h2.trans hend
 simp only [bl,show ((0:Nat):Int)=0 from rfl,List.take_zero,show cntZ []=0 from rfl] at h4
 refine callW_fn (c:=s_f33) hC (by simp [s_f33]) ?_
 simp only [s_f33,a_f33,s_f33_l0_b,aa,bl,i64,reduceIte,reduceCtorEq,Nat.reduceEqDiff,Nat.reduceLT,Nat.reduceLeDiff,Nat.reduceBEq,Nat.reduceAdd,fillA,splice,Nat.reduceMul,amY,op_eqP,e1,h4]
end
end Go.Proofs.Ytgimjihhlhjejaa
namespace Go.AM
def numE (E:Nat→Nat→Bool):Nat→List Int × Nat
 | 0=>([],0)
 | i+1=>match (List.range i).find? (fun k=>E i k) with
   | some k=>((numE E i).1 ++ [(numE E i).1.getD k 0],(numE E i).2)
   | none=>((numE E i).1 ++ [((numE E i).2:Int)],(numE E i).2+1)
theorem numE_some {E:Nat→Nat→Bool} {i k:Nat} (h:(List.range i).find? (fun k=>E i k)=some k):numE E (i+1)=((numE E i).1 ++ [(numE E i).1.getD k 0],(numE E i).2):=by
 rw [numE,h]
theorem numE_none {E:Nat→Nat→Bool} {i:Nat} (h:(List.range i).find? (fun k=>E i k)=none):numE E (i+1)=((numE E i).1 ++ [((numE E i).2:Int)],(numE E i).2+1):=by
 rw [numE,h]
theorem numE_len (E:Nat→Nat→Bool):∀ i,(numE E i).1.length=i:=by
 intro i
 induction i with
 | zero=>rfl
 | succ i ih=>
   cases hk:(List.range i).find? (fun k=>E i k) with
   | some k=>rw [numE_some hk];simp [ih]
   | none=>rw [numE_none hk];simp [ih]
structure EqOn (E:Nat→Nat→Bool) (n:Nat):Prop where
 refl:∀ a,a < n→E a a=true
 symm:∀ a b,a < n→b < n→E a b=true→E b a=true
 trans:∀ a b c,a < n→b < n→c < n→E a b=true→E b c=true→E a c=true
structure NumOk (E:Nat→Nat→Bool) (i:Nat) (l:List Int) (c:Nat):Prop where
 len:l.length=i
 same:∀ a b,a < i→b < i→(l.getD a 0=l.getD b 0↔E a b=true)
 lt:∀ a,a < i→0≤l.getD a 0∧l.getD a 0 < c
 onto:∀ j,j < c→∃ a,a < i∧l.getD a 0=(j:Int)
theorem getD_snoc_lt {l:List Int} {a:Nat} (x:Int) (h:a < l.length):(l ++ [x]).getD a 0=l.getD a 0:=by
 rw [List.getD,List.getD,List.getElem?_append_left h]
theorem getD_snoc_eq {l:List Int} {a:Nat} (x:Int) (h:a=l.length):(l ++ [x]).getD a 0=x:=by
 subst h
 rw [List.getD,List.getElem?_append_right (Nat.le_refl _)]
 simp
theorem numE_ok {E:Nat→Nat→Bool} {n:Nat} (hE:EqOn E n):∀ i,i≤n→NumOk E i (numE E i).1 (numE E i).2:=by
 intro i
 induction i with
 | zero=>intro _;exact ⟨rfl,fun a b h=>absurd h (by omega),fun a h=>absurd h (by omega),fun j h=>absurd h (by simp [numE])⟩
 | succ i ih=>
   intro hi
   have h:=ih (by omega)
   have hlen:=h.len
   cases hk:(List.range i).find? (fun k=>E i k) with
   | some k=>
     rw [numE_some hk]
     have hkE:=List.find?_some hk
     have hki:k < i:=List.mem_range.1 (List.mem_of_find?_eq_some hk)
     refine ⟨by simp [hlen],fun a b ha hb=>?_,fun a ha=>?_,fun j hj=>?_⟩
     ·by_cases ea:a=i
      ·by_cases eb:b=i
       ·rw [ea,eb];simp [hE.refl i (by omega)]
       ·rw [ea,getD_snoc_eq _ hlen.symm,getD_snoc_lt _ (by omega),h.same k b hki (by omega)]
        exact ⟨fun e=>hE.trans _ _ _ (by omega) (by omega) (by omega) hkE e,fun e=>hE.trans _ _ _ (by omega) (by omega) (by omega) (hE.symm _ _ (by omega) (by omega) hkE) e⟩
      ·by_cases eb:b=i
       ·rw [eb,getD_snoc_eq _ hlen.symm,getD_snoc_lt _ (by omega),h.same a k (by omega) hki]
        exact ⟨fun e=>hE.trans _ _ _ (by omega) (by omega) (by omega) e (hE.symm _ _ (by omega) (by omega) hkE),fun e=>hE.trans _ _ _ (by omega) (by omega) (by omega) e hkE⟩
       ·rw [getD_snoc_lt _ (by omega),getD_snoc_lt _ (by omega)];exact h.same a b (by omega) (by omega)
     ·by_cases ea:a=i
      ·rw [ea,getD_snoc_eq _ hlen.symm];exact h.lt k hki
      ·rw [getD_snoc_lt _ (by omega)];exact h.lt a (by omega)
     ·obtain ⟨a,ha,e⟩:=h.onto j hj
      exact ⟨a,by omega,by rw [getD_snoc_lt _ (by omega)];exact e⟩
   | none=>
     rw [numE_none hk]
     have hno:∀ k,k < i→E i k=false:=fun k hk2=>by
      have:=List.find?_eq_none.1 hk k (List.mem_range.2 hk2)
      simpa using this
     have hne:∀ a,a < i→(numE E i).1.getD a 0≠((numE E i).2:Int):=fun a ha e=>by have:=(h.lt a ha).2;omega
     refine ⟨by simp [hlen],fun a b ha hb=>?_,fun a ha=>?_,fun j hj=>?_⟩
     ·by_cases ea:a=i
      ·by_cases eb:b=i
       ·rw [ea,eb];simp [hE.refl i (by omega)]
       ·rw [ea,getD_snoc_eq _ hlen.symm,getD_snoc_lt _ (by omega),hno b (by omega)]
        exact ⟨fun e=>absurd e.symm (hne b (by omega)),fun e=>by cases e⟩
      ·by_cases eb:b=i
       ·rw [eb,getD_snoc_eq _ hlen.symm,getD_snoc_lt _ (by omega)]
        refine ⟨fun e=>absurd e (hne a (by omega)),fun e=>?_⟩
        have:=hE.symm _ _ (by omega) (by omega) e
        rw [hno a (by omega)] at this
        cases this
       ·rw [getD_snoc_lt _ (by omega),getD_snoc_lt _ (by omega)];exact h.same a b (by omega) (by omega)
     ·by_cases ea:a=i
      ·rw [ea,getD_snoc_eq _ hlen.symm];omega
      ·rw [getD_snoc_lt _ (by omega)];have:=h.lt a (by omega);omega
     ·by_cases ej:j=(numE E i).2
      ·exact ⟨i,by omega,by rw [getD_snoc_eq _ hlen.symm,ej]⟩
      ·obtain ⟨a,ha,e⟩:=h.onto j (by omega)
       exact ⟨a,by omega,by rw [getD_snoc_lt _ (by omega)];exact e⟩
theorem numE_le (E:Nat→Nat→Bool):∀ i,(numE E i).2≤i:=by
 intro i
 induction i with
 | zero=>exact Nat.le_refl _
 | succ i ih=>
   cases hk:(List.range i).find? (fun k=>E i k) with
   | some k=>rw [numE_some hk];show (numE E i).2≤_;omega
   | none=>rw [numE_none hk];show (numE E i).2+1≤_;omega
def numK (κ:Nat→Int):Nat→List Int × List Int
 | 0=>([],[])
 | i+1=>if κ i∈(numK κ i).2 then ((numK κ i).1 ++ [(((numK κ i).2.idxOf (κ i):Nat):Int)],(numK κ i).2) else ((numK κ i).1 ++ [((numK κ i).2.length:Int)],(numK κ i).2 ++ [κ i])
theorem numK_old {κ:Nat→Int} {i:Nat} (h:κ i∈(numK κ i).2):numK κ (i+1)=((numK κ i).1 ++ [(((numK κ i).2.idxOf (κ i):Nat):Int)],(numK κ i).2):=by
 rw [numK,if_pos h]
theorem numK_new {κ:Nat→Int} {i:Nat} (h:κ i ∉ (numK κ i).2):numK κ (i+1)=((numK κ i).1 ++ [((numK κ i).2.length:Int)],(numK κ i).2 ++ [κ i]):=by
 rw [numK,if_neg h]
theorem idxOf_snoc {ks:List Int} {x k:Int} (h:x∈ks):(ks ++ [k]).idxOf x=ks.idxOf x:=by rw [List.idxOf_append,if_pos h]
theorem numK_num {E:Nat→Nat→Bool} {κ:Nat→Int} {n:Nat} (h:∀ a b,a < n→b < n→(E a b=true↔κ a=κ b)):∀ i,i≤n→(numK κ i).1=(numE E i).1∧(numK κ i).2.length=(numE E i).2∧(∀ a,a < i→κ a∈(numK κ i).2∧(numE E i).1.getD a 0=((numK κ i).2.idxOf (κ a):Nat))∧(∀ x∈(numK κ i).2,∃ a,a < i∧κ a=x):=by
 intro i
 induction i with
 | zero=>intro _;exact ⟨rfl,rfl,fun a h=>absurd h (by omega),fun x hx=>by simp [numK] at hx⟩
 | succ i ih=>
   intro hi
   obtain ⟨h1,h2,h3,h4⟩:=ih (by omega)
   have hlen:=numE_len E i
   cases hk:(List.range i).find? (fun k=>E i k) with
   | some k=>
     rw [numE_some hk]
     have hkE:=List.find?_some hk
     have hki:k < i:=List.mem_range.1 (List.mem_of_find?_eq_some hk)
     have hkk:=(h i k (by omega) (by omega)).1 hkE
     have hmem:κ i∈(numK κ i).2:=by rw [hkk];exact (h3 k hki).1
     rw [numK_old hmem]
     refine ⟨by rw [h1,(h3 k hki).2,hkk],h2,fun a ha=>?_,fun x hx=>?_⟩
     ·by_cases ea:a=i
      ·rw [ea,getD_snoc_eq _ hlen.symm,(h3 k hki).2,hkk];exact ⟨(h3 k hki).1,rfl⟩
      ·rw [getD_snoc_lt _ (by omega)];exact h3 a (by omega)
     ·obtain ⟨a,ha,e⟩:=h4 x hx;exact ⟨a,by omega,e⟩
   | none=>
     rw [numE_none hk]
     have hmem:κ i ∉ (numK κ i).2:=fun hm=>by
      obtain ⟨a,ha,e⟩:=h4 _ hm
      have h5:=List.find?_eq_none.1 hk a (List.mem_range.2 ha)
      exact h5 ((h i a (by omega) (by omega)).2 e.symm)
     rw [numK_new hmem]
     refine ⟨by rw [h1,h2],by simp [h2],fun a ha=>?_,fun x hx=>?_⟩
     ·by_cases ea:a=i
      ·rw [ea,getD_snoc_eq _ hlen.symm]
       refine ⟨by simp,?_⟩
       rw [List.idxOf_append,if_neg hmem]
       simp [h2]
      ·rw [getD_snoc_lt _ (by omega),idxOf_snoc (h3 a (by omega)).1]
       exact ⟨List.mem_append_left _ (h3 a (by omega)).1,(h3 a (by omega)).2⟩
     ·rcases List.mem_append.1 hx with hx | hx
      ·obtain ⟨a,ha,e⟩:=h4 x hx;exact ⟨a,by omega,e⟩
      ·exact ⟨i,by omega,(List.mem_singleton.1 hx).symm⟩
end Go.AM
set_option maxRecDepth 100000
namespace Go.Proofs.Ytgimjihhlhjejaa
open Go.AM
open Tar (Ok mes)
structure CS (m0 n i iw il ic:Nat) (vr:V) (H:Heap) (vt:V) (s:Tar.St):Prop where
 hi:getC H i 0=some [vr,.sl iw 0 0 n 1,.sl il 0 0 n 1,vt,.sl ic 0 0 n 1,I s.clock]
 cw:getC H iw 0=some (fV n s.when)
 cl:getC H il 0=some (fV n s.low)
 cc:getC H ic 0=some (cV n s.comp)
 ot:OwnC 1 H vt (s.wait.map fun (v:Nat)=>[I v])
 nd:[i,iw,il,ic].Nodup
 ft:∀ x∈[i,iw,il,ic],Off vt x
 bs:∀ x∈[i,iw,il,ic],m0≤x
 bt:Past vt m0
 lt:∀ x∈[i,iw,il,ic],x < H.length
theorem past_off {v:V} {m x:Nat} (hv:∀ id g k w,v=.sl id g 0 k w→id < x):Off v x:=fun id g n w e e0=>by have:=hv id g n w e;omega
theorem ownC_ltw {w:Nat} {H:Heap} {v:V} {R:List (List V)} (h:OwnC w H v R):∀ id g n u,v=.sl id g 0 n u→id < H.length:=by
 intro id g n u e
 obtain ⟨_,⟨_,rfl | rfl⟩ | ⟨id2,g2,c2,rfl,hc2,_⟩⟩:=h
 ·cases e
 ·cases e
 ·cases e;exact getC_lt hc2
theorem CS.ts {m0 n i iw il ic:Nat} {vr:V} {H:Heap} {vt:V} {s:Tar.St} (c:CS m0 n i iw il ic vr H vt s) (hw:s.way=[]):TS m0 n ⟨i,H.length,H.length+2,iw,il,ic⟩ vr (H ++ [.cells 0 [.ref i 0 0]] ++ [.cells 0 []] ++ [.cells 0 [.esl]]) vt .esl s:=by
 have hm:m0≤H.length:=by
  have h1:=c.bs i (by simp)
  have h2:=c.lt i (by simp)
  omega
 have li:=c.lt i (by simp)
 have lw:=c.lt iw (by simp)
 have ll:=c.lt il (by simp)
 have lc:=c.lt ic (by simp)
 have nd:=c.nd
 simp only [List.nodup_cons,List.mem_cons,List.not_mem_nil,or_false,not_or,List.nodup_nil,and_true,not_false_eq_true] at nd
 obtain ⟨⟨n1,n2,n3⟩,⟨n4,n5⟩,n6⟩:=nd
 refine ⟨getC_app (getC_app (getC_new _ _ _)),getC_app (getC_app (getC_app c.hi)),?_,getC_app (getC_app (getC_app c.cw)),getC_app (getC_app (getC_app c.cl)),getC_app (getC_app (getC_app c.cc)),((c.ot.app _).app _).app _,?_,?_,?_,?_,?_,?_,c.bt,?_,?_⟩
 ·have:=getC_new (H ++ [Ob.cells 0 [V.ref i 0 0]] ++ [Ob.cells 0 []]) 0 [V.esl]
  rwa [List.length_append,List.length_append] at this
 ·rw [hw]
  exact ⟨fun r hr=>by simp at hr,.inl ⟨rfl,.inr rfl⟩⟩
 ·simp only [Ids.all,List.nodup_cons,List.mem_cons,List.not_mem_nil,or_false,not_or,List.nodup_nil,and_true,not_false_eq_true]
  omega
 ·intro x hx
  simp only [Ids.all,List.mem_cons,List.not_mem_nil,or_false] at hx
  rcases hx with rfl | rfl | rfl | rfl | rfl | rfl
  ·exact c.ft _ (by simp)
  ·exact past_off (m:=0) (ownC_ltw c.ot)
  ·exact past_off (m:=0) fun id g k w e=>Nat.lt_add_right 2 (ownC_ltw c.ot id g k w e)
  ·exact c.ft _ (by simp)
  ·exact c.ft _ (by simp)
  ·exact c.ft _ (by simp)
 ·intro x _ id g k w e;cases e
 ·intro _ _ _ _ _ id g k w e;cases e
 ·intro x hx
  simp only [Ids.all,List.mem_cons,List.not_mem_nil,or_false] at hx
  rcases hx with rfl | rfl | rfl | rfl | rfl | rfl
  ·exact c.bs _ (by simp)
  ·exact hm
  ·omega
  ·exact c.bs _ (by simp)
  ·exact c.bs _ (by simp)
  ·exact c.bs _ (by simp)
 ·intro id g k w e;cases e
 ·intro x hx
  simp only [Ids.all,List.mem_cons,List.not_mem_nil,or_false] at hx
  simp only [List.length_append,List.length_cons,List.length_nil]
  omega
theorem TS.cs {m0 n i b y iw il ic:Nat} {vr:V} {H:Heap} {vt vy:V} {s:Tar.St} (t:TS m0 n ⟨i,b,y,iw,il,ic⟩ vr H vt vy s):CS m0 n i iw il ic vr H vt s:=by
 have nd:=t.nds
 refine ⟨t.hi,t.cw,t.cl,t.cc,t.ot,?_,fun x hx=>t.ft x ?_,fun x hx=>t.bs x ?_,t.bt,fun x hx=>t.lt x ?_⟩
 ·simp only [List.nodup_cons,List.mem_cons,List.not_mem_nil,or_false,not_or,List.nodup_nil,and_true,not_false_eq_true]
  simp only at nd
  omega
 all_goals simp only [Ids.all,List.mem_cons,List.not_mem_nil,or_false] at hx ⊢
 all_goals omega
section
variable {CT:Nat→Option CFun}
theorem walk_enter (hE:CT k_f52=some (.code s_f52)) (hT:CT k_f62=some (.code s_f62)) (hX:CT k_f53=some (.code s_f53)) {base m0 n:Nat} (hbm:base≤m0) {i iw il ic:Nat} {vr:V} {G:Nat→List Nat} {H0:Heap} (hrow:∀ H,KeepD m0 [] H0 H→RdRows H vr (rowsN n G)) (hn:n < 2 ^ 38) (hG:∀ v,(G v).length < 2 ^ 40) (hin:∀ v,∀ u∈G v,u < n)
 {H:Heap} {vt:V} {s:Tar.St} (c:CS m0 n i iw il ic vr H vt s) (ok:Ok G n s) (hw:s.way=[]) (hk:KeepD m0 [] H0 H) {root:Nat} (hr:root < n) (h0:s.when root=0):
 ∃ vt' H' s',callW CT (.fn k_f52 [] []) [.ref i 0 0,I root] base H=some (.tup [],H')∧CS m0 n i iw il ic vr H' vt' s'∧Ok G n s'∧s'.way=[]∧KeepD m0 [] H H'∧H.length≤H'.length∧(∀ v,s.when v≠0→s'.when v≠0)∧s'.when root≠0:=by
 have t:=c.ts hw
 have hcl:=ok.clock
 have hwt:=ok.wait
 have hwy:=ok.way
 have hm:m0≤H.length:=by
  have h1:=c.bs i (by simp)
  have h2:=c.lt i (by simp)
  omega
 obtain ⟨vt1,vy1,H1,e1,t1,l1,k1⟩:=begin_fun hT hbm t hr (by omega) (by omega) (by omega)
 have o1:=Tar.ok_root ok hw h0 hr
 have kH0:KeepD m0 [] H (H ++ [.cells 0 [.ref i 0 0]] ++ [.cells 0 []] ++ [.cells 0 [.esl]]):=⟨by simp;omega,fun x hx _=>by rw [List.getElem?_append_left (by simp;omega),List.getElem?_append_left (by simp;omega),List.getElem?_append_left (by omega)]⟩
 have kH1:KeepD m0 [] H H1:=kH0.trans ⟨by simp at l1;omega,fun x hx _=>k1 x (by simp;omega) (fun hd=>by have:=t.bs x hd;omega) (fun id g k w e e0=>by have:=t.bt id g k w e;omega) (fun id g k w e e0=>by have:=t.by' id g k w e;omega)⟩ (Nat.le_refl _)
 obtain ⟨vt',vy',H',s',e2,t2,ok2,w2,k2,l2,m2⟩:=enter_loop (L:=H1.length) hT hX hbm t1.lt (by simp at l1;omega) hrow hn hG hin _ H1 vt1 vy1 _ (Nat.lt_succ_self _) (hk.trans kH1 (Nat.le_refl _)) (Nat.le_refl _) t1 o1
 have hlen1:∀ ob,(H ++ [ob]).length=H.length+1:=fun ob=>by simp
 refine ⟨vt',H',s',callW_fnA (c:=s_f52) (k:=2) hE rfl (by decide) s_f52_first ?_,t2.cs,ok2,w2,kH1.trans k2 (Nat.le_refl _),?_,fun v hv=>m2 v ?_,m2 root ?_⟩
 ·simp only [entE,I] at e1 e2
  have hb2:base≤H.length+2:=by omega
  simp only [s_f52,a_f52,s_f52_l0_b,s_f52_l1_b,aa,bl,i64,reduceIte,reduceCtorEq,Nat.reduceEqDiff,Nat.reduceLT,Nat.reduceLeDiff,Nat.reduceBEq,Nat.reduceAdd,fillA,splice,Nat.reduceMul,amY,op_eqP,I,hb2,hlen1,xsub_mkFn,List.map_nil,List.map_cons,ev,List.getD_cons_zero,List.getD_cons_succ,e1,e2,resultV,List.mapM_nil]
  rfl
 ·simp at l1;omega
 ·show Tar.upd s.when root (s.clock+1) v≠0
  by_cases ev:v=root
  ·rw [ev,Tar.upd_self];omega
  ·rw [Tar.upd_ne _ _ ev];exact hv
 ·show Tar.upd s.when root (s.clock+1) root≠0
  rw [Tar.upd_self];omega
end
end Go.Proofs.Ytgimjihhlhjejaa
set_option maxRecDepth 100000
namespace Go.Proofs.Ytgimjihhlhjejaa
open Go.AM
open Tar (Ok mes)
theorem CS.trim {m0 n i iw il ic L:Nat} {vr:V} {H:Heap} {vt:V} {s:Tar.St} (t:CS m0 n i iw il ic vr H vt s) (hL:∀ x∈[i,iw,il,ic],x < L) (fr:List V):CS m0 n i iw il ic vr (Go.AM.trim L fr H) vt s:=by
 have hu:∀ id g k w,vt=.sl id g 0 k w→(Go.AM.trim L fr H)[id]?=H[id]?:=by
  intro id g k w e
  rcases trim_cells L fr H with e0 | ⟨e0,_,h0⟩
  ·rw [e0]
  ·have:=h0 i 0 _ (hL i (by simp)) t.hi vt (by simp)
   rw [e] at this
   simp only [idsUnder,decide_eq_true_eq] at this
   rw [e0,List.getElem?_take_of_lt this]
 refine ⟨trim_get t.hi (hL _ (by simp)),trim_get t.cw (hL _ (by simp)),trim_get t.cl (hL _ (by simp)),trim_get t.cc (hL _ (by simp)),t.ot.keep fun id g k e=>hu id g k 1 e,t.nd,t.ft,t.bs,t.bt,fun x hx=>?_⟩
 rcases trim_cells L fr H with e0 | ⟨e0,_,_⟩
 ·rw [e0];exact t.lt x hx
 ·rw [e0,List.length_take]
  have:=hL x hx
  have:=t.lt x hx
  omega
def gN (G:List (List Int)) (v:Nat):List Nat:=((normG G).getD v []).map Int.toNat
theorem gN_in (G:List (List Int)) (v:Nat):∀ u∈gN G v,u < G.length:=by
 intro u hu
 obtain ⟨x,hx,rfl⟩:=List.mem_map.1 hu
 have:=(normG_get G v x).1 hx
 omega
theorem gN_mem (G:List (List Int)) (v u:Nat):u∈gN G v↔(u:Int)∈G.getD v []∧u < G.length:=by
 constructor
 ·intro hu
  obtain ⟨x,hx,rfl⟩:=List.mem_map.1 hu
  obtain ⟨h1,h2,h3⟩:=(normG_get G v x).1 hx
  rw [Int.toNat_of_nonneg h2]
  exact ⟨h1,by omega⟩
 ·intro h
  exact List.mem_map.2 ⟨(u:Int),(normG_get G v u).2 ⟨h.1,by omega,by omega⟩,by omega⟩
theorem gN_rows (G:List (List Int)):rowsN G.length (gN G)=rowsV (normG G):=by
 have hl:=normG_len G
 apply List.ext_getElem?
 intro i
 unfold rowsN rowsV
 rw [List.getElem?_map,List.getElem?_map]
 by_cases hi:i < G.length
 ·have hi':i < (normG G).length:=by omega
  have hgi:(normG G)[i]?=some ((normG G).getD i []):=some_getD hi' []
  rw [List.getElem?_range hi,hgi]
  simp only [Option.map_some,gN,List.map_map]
  congr 1
  apply List.map_congr_left
  intro x hx
  have:=(normG_get G i x).1 hx
  show I ((x.toNat:Nat):Int)=iV x
  rw [Int.toNat_of_nonneg this.2.1]
  rfl
 ·rw [List.getElem?_eq_none (by simpa using hi),List.getElem?_eq_none (by omega)]
  rfl
theorem gN_small {G:List (List Int)} {b:Nat} (hr:∀ r∈G,r.length < b) (hb:0 < b) (v:Nat):(gN G v).length < b:=by
 unfold gN
 rw [List.length_map]
 by_cases hv:v < (normG G).length
 ·exact normG_small hr _ (List.mem_of_getElem? (some_getD hv []))
 ·rw [List.getD,List.getElem?_eq_none (by omega)];exact hb
theorem rc_rch (G:List (List Int)) (a:Nat) (ha:a < G.length) (b:Nat):Tar.Rc (gN G) a b↔Rch G [(a:Int)] b:=by
 constructor
 ·intro h
  induction h with
  | refl=>exact .base a (by simp) ha
  | tail _ e ih=>
    rename_i x c _
    have:=(gN_mem G x c).1 e
    exact .step x c ih this.1 this.2
 ·intro h
  induction h with
  | base k h1 h2=>
    simp only [List.mem_singleton] at h1
    obtain rfl:k=a:=by omega
    exact .refl _
  | step i k _ h1 h2 ih=>exact ih.tail ((gN_mem G i k).2 ⟨h1,h2⟩)
noncomputable def eqG (G:List (List Int)) (a b:Nat):Bool:=leadsB G a b && leadsB G b a
theorem eqG_iff (G:List (List Int)) (a b:Nat):eqG G a b=true↔Rch G [(a:Int)] b∧Rch G [(b:Int)] a:=by
 unfold eqG
 rw [Bool.and_eq_true,leadsB_nat,leadsB_nat]
theorem eqG_rc (G:List (List Int)) {a b:Nat} (ha:a < G.length) (hb:b < G.length):eqG G a b=true↔Tar.Rc (gN G) a b∧Tar.Rc (gN G) b a:=by
 rw [eqG_iff,rc_rch G a ha,rc_rch G b hb]
theorem eqG_on (G:List (List Int)):EqOn (eqG G) G.length:=by
 refine ⟨fun a ha=>?_,fun a b ha hb h=>?_,fun a b c ha hb hc h1 h2=>?_⟩
 ·rw [eqG_rc G ha ha];exact ⟨.refl _,.refl _⟩
 ·rw [eqG_rc G ha hb] at h;rw [eqG_rc G hb ha];exact ⟨h.2,h.1⟩
 ·rw [eqG_rc G ha hb] at h1;rw [eqG_rc G hb hc] at h2;rw [eqG_rc G ha hc];exact ⟨h1.1.trans h2.1,h2.2.trans h1.2⟩
noncomputable def compsG (G:List (List Int)):List Int:=(numE (eqG G) G.length).1
noncomputable def cntG (G:List (List Int)):Nat:=(numE (eqG G) G.length).2
theorem compsG_ok (G:List (List Int)):NumOk (eqG G) G.length (compsG G) (cntG G):=numE_ok (eqG_on G) _ (Nat.le_refl _)
theorem compsG_len (G:List (List Int)):(compsG G).length=G.length:=(compsG_ok G).len
theorem cntG_le (G:List (List Int)):cntG G≤G.length:=numE_le _ _
def kap (f:Nat→Option Nat) (v:Nat):Int:=match f v with
 | some r=>(r:Int)
 | none=>-1
theorem cV_kap (n:Nat) (f:Nat→Option Nat):cV n f=((List.range n).map (kap f)).map iV:=by
 unfold cV
 rw [List.map_map]
 apply List.map_congr_left
 intro v _
 show oV (f v)=iV (kap f v)
 unfold kap oV
 cases f v <;> rfl
def fillZ (n:Nat) (l:List Int):List Int:=l ++ List.replicate (n - l.length) 0
theorem fillZ_set {n:Nat} {l:List Int} (h:l.length < n) (x:Int):(fillZ n l).set l.length x=fillZ n (l ++ [x]):=by
 unfold fillZ
 rw [List.set_append_right _ _ (Nat.le_refl _),Nat.sub_self]
 obtain ⟨m,hm⟩:∃ m,n - l.length=m+1:=⟨n - l.length - 1,by omega⟩
 have:n - (l ++ [x]).length=m:=by simp;omega
 rw [hm,this,List.replicate_succ,List.set_cons_zero,List.append_assoc]
 rfl
theorem fillZ_len {n:Nat} {l:List Int} (h:l.length≤n):(fillZ n l).length=n:=by unfold fillZ;simp;omega
theorem fillZ_full {n:Nat} {l:List Int} (h:l.length=n):fillZ n l=l:=by unfold fillZ;rw [h];simp
theorem fillZ_nil (n:Nat):fillZ n []=List.replicate n 0:=by simp [fillZ]
section
variable {CT:Nat→Option CFun}
structure CC (CT:Nat→Option CFun):Prop where
 g:CG CT
 comps:CT k_f32=some (.code s_f32)
 nodes:CT k_f50=some (.code s_f50)
 rep:CT k_f51=some (.code s_f51)
 mul:CT k_f61=some (.code s_f61)
 mul64:CT k_f65=some (.code s_f65)
 enter:CT k_f52=some (.code s_f52)
 enter1:CT k_f62=some (.code s_f62)
 index:CT k_f53=some (.code s_f53)
theorem comps_l0 (h:CC CT) {base m0 n L:Nat} (hbm:base≤m0) {i iw il ic:Nat} {vr:V} {G:Nat→List Nat} {H0:Heap} (hrow:∀ H,KeepD m0 [] H0 H→RdRows H vr (rowsN n G)) (hn:n < 2 ^ 38) (hG:∀ v,(G v).length < 2 ^ 40) (hin:∀ v,∀ u∈G v,u < n) (hL:∀ x∈[i,iw,il,ic],x < L) (hmL:m0≤L)
 {H:Heap} {vt:V} {s:Tar.St} (c:CS m0 n i iw il ic vr H vt s) (ok:Ok G n s) (hw:s.way=[]) (hk:KeepD m0 [] H0 H) (hLH:L≤H.length):
 ∃ vt' H' s',itW (evC (callW CT) itW base s_f32_l0) [] L (frOf 85 [(3,.ref i 0 0),(4,I n),(37,I n),(38,I 0)]) H=some (.ext 0,frOf 85 [(3,.ref i 0 0),(4,I n),(37,I n),(38,I n),(39,bl false)],H')∧CS m0 n i iw il ic vr H' vt' s'∧Ok G n s'∧s'.way=[]∧KeepD m0 [] H0 H'∧L≤H'.length∧∀ v,v < n→s'.when v≠0:=by
 obtain ⟨⟨H1,vt1,s1⟩,e1,c1,ok1,w1,k1,l1,d1⟩:=it_rel n (fun j (x:Heap × V × Tar.St)=>CS m0 n i iw il ic vr x.1 x.2.1 x.2.2∧Ok G n x.2.2∧x.2.2.way=[]∧KeepD m0 [] H0 x.1∧L≤x.1.length∧∀ v,v < j→x.2.2.when v≠0) (fun j x=>itW (evC (callW CT) itW base s_f32_l0) [] L (frOf 85 [(3,.ref i 0 0),(4,I n),(37,I n),(38,I j)]) x.1) (by
  rintro j ⟨H,vt,s⟩ hj ⟨c,ok,hw,hk,hLH,hd⟩
  simp only at c ok hw hk hLH hd ⊢
  have hlt':((j:Int) < (n:Int)):=by omega
  have hwk:=w64 (n:=j) (by omega)
  have hi:=c.hi
  have cw:=c.cw
  have hix:(0≤(j:Int)∧(j:Int) < (n:Int)∧1=1):=by omega
  have wi:=take1_of (fV_get s.when hj)
  by_cases h0:s.when j=0
  ·obtain ⟨vt',H',s',q1,q2,q3,q4,q5,q6,q7,q8⟩:=walk_enter h.enter h.enter1 h.index hbm hrow hn hG hin c ok hw hk hj h0
   refine ⟨(Go.AM.trim L (frOf 85 [(3,.ref i 0 0),(4,I n),(37,I n),(38,I (j+1:Nat))]) H',vt',s'),?_,q2.trim hL _,q3,q4,KeepD.trim (hk.trans q5 (Nat.le_refl _)) hmL _,trim_le (by omega),fun v hv=>?_⟩
   ·have hz:(((s.when j:Nat):Int) == 0)=true:=by rw [h0];rfl
    rw [itW_step]
    simp only [I] at q1 hi wi
    simp only [I,a_f32,s_f32_l0_b,s_f32_l1_b,aa,bl,i64,reduceIte,reduceCtorEq,Nat.reduceEqDiff,Nat.reduceLT,Nat.reduceLeDiff,Nat.reduceBEq,Nat.reduceAdd,fillA,splice,Nat.reduceMul,amY,op_eqP,hlt',hi,cw,hix,wi,hz,q1,hwk]
   ·by_cases ev:v=j
    ·rw [ev];exact q8
    ·exact q7 v (hd v (by omega))
  ·refine ⟨(Go.AM.trim L (frOf 85 [(3,.ref i 0 0),(4,I n),(37,I n),(38,I (j+1:Nat))]) H,vt,s),?_,c.trim hL _,ok,hw,KeepD.trim hk hmL _,trim_le hLH,fun v hv=>?_⟩
   ·have hz:(((s.when j:Nat):Int) == 0)=false:=by rw [beq_eq_false_iff_ne];omega
    rw [itW_step]
    simp only [I] at hi wi
    simp only [I,a_f32,s_f32_l0_b,s_f32_l1_b,aa,bl,i64,reduceIte,reduceCtorEq,Nat.reduceEqDiff,Nat.reduceLT,Nat.reduceLeDiff,Nat.reduceBEq,Nat.reduceAdd,fillA,splice,Nat.reduceMul,amY,op_eqP,hlt',hi,cw,hix,wi,hz,hwk]
   ·by_cases ev:v=j
    ·rw [ev];exact h0
    ·exact hd v (by omega)) 0 (H,vt,s) (Nat.zero_le _) ⟨c,ok,hw,hk,hLH,fun v hv=>absurd hv (by omega)⟩
 simp only at e1 c1 ok1 w1 k1 l1 d1
 refine ⟨vt1,Go.AM.trim L (frOf 85 [(3,.ref i 0 0),(4,I n),(37,I n),(38,I n),(39,bl false)]) H1,s1,e1.trans ?_,c1.trim hL _,ok1,w1,KeepD.trim k1 hmL _,trim_le l1,d1⟩
 rw [itW_step]
 simp only [I,bl,a_f32,s_f32_l0_b,s_f32_l1_b,aa,bl,i64,reduceIte,reduceCtorEq,Nat.reduceEqDiff,Nat.reduceLT,Nat.reduceLeDiff,Nat.reduceBEq,Nat.reduceAdd,fillA,splice,Nat.reduceMul,amY,op_eqP,Int.lt_irrefl]
theorem set_two (A:Heap) (m o x:Ob):(A ++ [m] ++ [o]).set A.length x=A ++ [x] ++ [o]:=by simp
theorem get_two (A:Heap) (m o:Ob):(A ++ [m] ++ [o])[A.length]?=some m:=by simp
def mapOb (ks:List Int):Ob:=.map (esG (fun (k:Int)=>Value.int .i64 k) ks fun k=>iV (ks.idxOf k:Nat))
theorem mapOb_new {ks:List Int} {k:Int} (hk:k ∉ ks):Ob.map (esG (fun (k:Int)=>Value.int .i64 k) ks (fun k=>iV (ks.idxOf k:Nat)) ++ [(.int .i64 k,iV (ks.length:Nat))])=mapOb (ks ++ [k]):=by
 have h1:iV (ks.length:Nat)=(fun x=>iV ((ks ++ [k]).idxOf x:Nat)) k:=by
  have:(ks ++ [k]).idxOf k=ks.length:=by rw [List.idxOf_append,if_neg hk];simp
  simp only [this]
 have:=esG_new (enc:=fun (k:Int)=>Value.int .i64 k) (ks:=ks) (f:=fun k=>iV (ks.idxOf k:Nat)) (g:=fun x=>iV ((ks ++ [k]).idxOf x:Nat)) (k:=k) (fun x hx=>by simp only [idxOf_snoc hx])
 rw [mapOb,← this,h1]
theorem comps_l1 (base:Nat) {A:Heap} {cv:V} {n:Nat} {κ:Nat→Int} (hb:base≤A.length) (hn:n < 2 ^ 38) (hr:Rd A cv (((List.range n).map κ).map iV)) (hw:Wide1 cv):
 itW (evC (callW CT) itW base s_f32_l1) [] (A.length+2) (frOf 85 [(6,.mp A.length),(7,.sl (A.length+1) 0 0 n 1),(59,cv),(60,I n),(61,I 0)]) (A ++ [mapOb []] ++ [.cells 0 ((fillZ n []).map iV)])=some (.ext 2,frOf 85 [(6,.mp A.length),(7,.sl (A.length+1) 0 0 n 1),(59,cv),(60,I n),(61,I n),(62,bl false)],A ++ [mapOb (numK κ n).2] ++ [.cells 0 ((numK κ n).1.map iV)]):=by
 have ts:∀ (fr:List V) (m o:Ob),Go.AM.trim (A.length+2) fr (A ++ [m] ++ [o])=A ++ [m] ++ [o]:=fun fr m o=>trim_same (by simp)
 have hlen:∀ i,(numK κ i).1.length=i:=by
  intro i
  induction i with
  | zero=>rfl
  | succ i ih=>rw [numK];split <;> simp [ih]
 have hst:∀ i,i < n→itW (evC (callW CT) itW base s_f32_l1) [] (A.length+2) (frOf 85 [(6,.mp A.length),(7,.sl (A.length+1) 0 0 n 1),(59,cv),(60,I n),(61,I i)]) (A ++ [mapOb (numK κ i).2] ++ [.cells 0 ((fillZ n (numK κ i).1).map iV)])=itW (evC (callW CT) itW base s_f32_l1) [] (A.length+2) (frOf 85 [(6,.mp A.length),(7,.sl (A.length+1) 0 0 n 1),(59,cv),(60,I n),(61,I (i+1:Nat))]) (A ++ [mapOb (numK κ (i+1)).2] ++ [.cells 0 ((fillZ n (numK κ (i+1)).1).map iV)]):=by
  intro i hi
  have hlt':((i:Int) < (n:Int)):=by omega
  have hwk:=w64 (n:=i) (by omega)
  have hx:((List.range n).map κ).getD i 0=κ i:=by simp [hi]
  obtain ⟨a,a1,a2⟩:=iV_get ((hr.ext (Ext.app A [mapOb (numK κ i).2])).ext (Ext.app _ [.cells 0 ((fillZ n (numK κ i).1).map iV)])) hw (k:=i) (by simp [hi])
  rw [hx] at a2
  have hixi:(0≤(i:Int)∧(i:Int) < (n:Int)∧1=1):=by omega
  have hH:=get_two A (mapOb (numK κ i).2) (.cells 0 ((fillZ n (numK κ i).1).map iV))
  have hg:=get_g (enc:=fun (k:Int)=>Value.int .i64 k) same_i64 key_i64 hH (.s (.int .i64 0)) true (κ i)
  have hll:=len_g hH
  have hl2:∀ m o,(A ++ [m] ++ [o]).length=A.length+2:=fun m o=>by simp
  have hcell:∀ m c,getC (A ++ [m] ++ [.cells 0 c]) (A.length+1) 0=some c:=fun m c=>by
   have:=getC_new (A ++ [m]) 0 c
   rwa [List.length_append] at this
  have hset:∀ m c c',(A ++ [m] ++ [Ob.cells 0 c]).set (A.length+1) (.cells 0 c')=A ++ [m] ++ [.cells 0 c']:=fun m c c'=>by
   have:=set_snoc (A ++ [m]) (Ob.cells 0 c) (.cells 0 c')
   rwa [List.length_append] at this
  have hfl:(fillZ n (numK κ i).1).length=n:=fillZ_len (by rw [hlen];omega)
  have hst:∀ m (x:Int),storeV (A ++ [m] ++ [Ob.cells 0 ((fillZ n (numK κ i).1).map iV)]) base 1 (.s (.int .i64 x)) (.ref (A.length+1) 0 i)=some (A ++ [m] ++ [.cells 0 ((fillZ n ((numK κ i).1 ++ [x])).map iV)]):=by
   intro m x
   have e:=fillZ_set (n:=n) (l:=(numK κ i).1) (by rw [hlen];omega) x
   rw [hlen] at e
   rw [← e,List.map_set,storeV_at (hcell m _) (by omega) rfl (by rw [List.length_map,hfl];exact hi),hset]
   rfl
  by_cases hm:κ i∈(numK κ i).2
  ·have hm':decide (κ i∈(numK κ i).2)=true:=decide_eq_true hm
   rw [numK_old hm,itW_step]
   simp only [if_true,hm,hm',bl,iV] at hg
   simp only [I,a_f32,s_f32_l0_b,s_f32_l1_b,aa,bl,i64,reduceIte,reduceCtorEq,Nat.reduceEqDiff,Nat.reduceLT,Nat.reduceLeDiff,Nat.reduceBEq,Nat.reduceAdd,fillA,splice,Nat.reduceMul,amY,op_eqP,hlt',a1,a2,hg,hixi,hst,hwk,ts]
  ·have hm':decide (κ i∈(numK κ i).2)=false:=decide_eq_false hm
   have hu:=upd_g (base:=base) (enc:=fun (k:Int)=>Value.int .i64 k) same_i64 key_i64 hb hH (κ i) (iV ((numK κ i).2.length:Nat))
   rw [if_neg hm,mapOb_new hm,set_two] at hu
   rw [numK_new hm,itW_step]
   simp only [if_false,if_true,hm,hm',bl] at hg
   simp only [iV] at hu
   simp only [I,a_f32,s_f32_l0_b,s_f32_l1_b,aa,bl,i64,reduceIte,reduceCtorEq,Nat.reduceEqDiff,Nat.reduceLT,Nat.reduceLeDiff,Nat.reduceBEq,Nat.reduceAdd,fillA,splice,Nat.reduceMul,amY,op_eqP,hlt',a1,a2,hg,hll,op_mapUpd,hu,hixi,hst,hwk,ts]
 have h2:=it_fun n (fun i=>itW (evC (callW CT) itW base s_f32_l1) [] (A.length+2) (frOf 85 [(6,.mp A.length),(7,.sl (A.length+1) 0 0 n 1),(59,cv),(60,I n),(61,I i)]) (A ++ [mapOb (numK κ i).2] ++ [.cells 0 ((fillZ n (numK κ i).1).map iV)])) hst 0 (Nat.zero_le _)
 refine h2.trans ?_
 rw [itW_step,fillZ_full (hlen n)]
 simp only [I,bl,a_f32,s_f32_l0_b,s_f32_l1_b,aa,bl,i64,reduceIte,reduceCtorEq,Nat.reduceEqDiff,Nat.reduceLT,Nat.reduceLeDiff,Nat.reduceBEq,Nat.reduceAdd,fillA,splice,Nat.reduceMul,amY,op_eqP,Int.lt_irrefl,ts]
end
end Go.Proofs.Ytgimjihhlhjejaa
set_option maxRecDepth 100000
namespace Go.Proofs.Ytgimjihhlhjejaa
open Go.AM
open Tar (Ok mes)
section
variable {CT:Nat→Option CFun}
theorem nodes_fun (hN:CT k_f50=some (.code s_f50)) (base:Nat) {H:Heap} {v:V} {n:Nat} (hl:∀ H',xLen H' .s v=some (.s (.int .i64 n))):callW CT (.fn k_f50 [] []) [v] base H=some (.s (.int .i64 n),H):=by
 refine callW_fn (c:=s_f50) hN (by simp [s_f50]) ?_
 simp only [s_f50,a_f50,aa,bl,i64,reduceIte,reduceCtorEq,Nat.reduceEqDiff,Nat.reduceLT,Nat.reduceLeDiff,Nat.reduceBEq,Nat.reduceAdd,fillA,splice,Nat.reduceMul,amY,op_eqP,hl]
theorem own_len {m:Nat} {H:Heap} {v:V} {R:List (List V)} (h:OwnRows m H v R):(∃ id g,v=.sl id g 0 R.length 1∧m≤id)∧v.one=true:=by
 obtain ⟨id,g,vs,rfl,hc,hm,_⟩:=h
 exact ⟨⟨id,g,rfl,hm⟩,rfl⟩
theorem comps_f (h:CC CT) (base:Nat) (H:Heap) (v:V) (G:List (List Int)) (hv:RdRows H v (rowsV G)) (hb:base≤H.length) (hn:G.length < 2 ^ 32) (hr:∀ r∈G,r.length < 2 ^ 40):
 ∃ v' H',callW CT (.fn k_f32 [] []) [v] base H=some (v',H')∧Ext H H'∧OwnN H.length H' v' ((compsG G).map iV):=by
 obtain ⟨vr,N,p1,p2,p3⟩:=norm_f h.g base H v G hv hb (by omega) hr
 obtain ⟨⟨idr,gr,evr,_⟩,hvr1⟩:=own_len p3
 have hle:=p2.le
 have hnl:=fun H'=>rows_lenV p3.rd H'
 rw [normG_len] at hnl
 have hvrc:vr.cells=[vr]:=by rw [evr];rfl
 obtain ⟨n,hnn⟩:∃ n,G.length=n:=⟨_,rfl⟩
 rw [hnn] at hnl hn
 have hnd:=nodes_fun (CT:=CT) h.nodes base (H:=N ++ [.cells 0 [vr,nilS,nilS,nilS,nilS,.s (.int .i64 0)]]) hnl
 have hmk:=fun H=>make_n (H:=H) (zero:=[.s (.int .i64 0)]) (sz:=1) (bytes:=8) (k:=.i64) (k':=.i64) (n:=n) (by omega)
 simp only [flat_one] at hmk
 obtain ⟨Z,hZ⟩:∃ Z,List.replicate n (V.s (.int .i64 0))=Z:=⟨_,rfl⟩
 have hrp:=repeat_fun h.rep h.mul h.mul64 (N.length+4) (N ++ [.cells 0 [vr,nilS,nilS,nilS,nilS,.s (.int .i64 0)]] ++ [.cells 0 Z] ++ [.cells 0 Z] ++ [.cells 0 [iV (-1)]]) (.sl (N.length+3) 0 0 1 1) (by
  have:=one_rd (N ++ [.cells 0 [vr,nilS,nilS,nilS,nilS,.s (.int .i64 0)]] ++ [.cells 0 Z] ++ [.cells 0 Z]) (iV (-1))
  have e:(N ++ [.cells 0 [vr,nilS,nilS,nilS,nilS,.s (.int .i64 0)]] ++ [.cells 0 Z] ++ [.cells 0 Z]:Heap).length=N.length+3:=by simp
  rwa [e] at this) n hn (by simp)
 have e4:(N ++ [.cells 0 [vr,nilS,nilS,nilS,nilS,.s (.int .i64 0)]] ++ [.cells 0 Z] ++ [.cells 0 Z] ++ [.cells 0 [iV (-1)]]:Heap).length=N.length+4:=by simp
 rw [e4] at hrp
 obtain ⟨F,hF⟩:∃ F:List V→Heap,∀ c,N ++ [.cells 0 c] ++ [.cells 0 Z] ++ [.cells 0 Z] ++ [.cells 0 [iV (-1)]] ++ [.cells 0 (List.replicate n (iV (-1)))]=F c:=⟨_,fun _=>rfl⟩
 have hFs:∀ c c',(F c).set N.length (.cells 0 c')=F c':=fun c c'=>by rw [← hF,← hF];simp
 have hFg:∀ c,getC (F c) N.length 0=some c:=fun c=>by rw [← hF];exact getC_app (getC_app (getC_app (getC_app (getC_new _ _ _))))
 have hFl:∀ c,(F c).length=N.length+5:=fun c=>by rw [← hF];simp
 obtain ⟨C,hC⟩:∃ C:Heap,F [vr,.sl (N.length+1) 0 0 n 1,.sl (N.length+2) 0 0 n 1,nilS,.sl (N.length+4) 0 0 n 1,.s (.int .i64 0)]=C:=⟨_,rfl⟩
 have hC0:=hFg [vr,.sl (N.length+1) 0 0 n 1,.sl (N.length+2) 0 0 n 1,nilS,.sl (N.length+4) 0 0 n 1,.s (.int .i64 0)]
 have hCl:C.length=N.length+5:=by rw [← hC];exact hFl _
 rw [hC] at hC0
 rw [hF] at hrp
 have hbN:base≤N.length:=by omega
 have hi1:getC C (N.length+1) 0=some Z:=by
  rw [← hC,← hF]
  have:=getC_new (N ++ [.cells 0 [vr,.sl (N.length+1) 0 0 n 1,.sl (N.length+2) 0 0 n 1,nilS,.sl (N.length+4) 0 0 n 1,.s (.int .i64 0)]]) 0 Z
  rw [List.length_append] at this
  exact getC_app (getC_app (getC_app this))
 have hi2:getC C (N.length+2) 0=some Z:=by
  rw [← hC,← hF]
  have:=getC_new (N ++ [.cells 0 [vr,.sl (N.length+1) 0 0 n 1,.sl (N.length+2) 0 0 n 1,nilS,.sl (N.length+4) 0 0 n 1,.s (.int .i64 0)]] ++ [.cells 0 Z]) 0 Z
  rw [List.length_append,List.length_append] at this
  exact getC_app (getC_app this)
 have hi4:getC C (N.length+4) 0=some (List.replicate n (iV (-1))):=by
  rw [← hC,← hF]
  have:=getC_new (N ++ [.cells 0 [vr,.sl (N.length+1) 0 0 n 1,.sl (N.length+2) 0 0 n 1,nilS,.sl (N.length+4) 0 0 n 1,.s (.int .i64 0)]] ++ [.cells 0 Z] ++ [.cells 0 Z] ++ [.cells 0 [iV (-1)]]) 0 (List.replicate n (iV (-1)))
  simp only [List.length_append,List.length_cons,List.length_nil] at this
  exact this
 have hZf:Z=fV n (fun _=>0):=by rw [← hZ];unfold fV;rw [List.map_const',List.length_range];rfl
 have hcs:CS N.length n N.length (N.length+1) (N.length+2) (N.length+4) vr C nilS Tar.St.start:=by
  refine ⟨hC0,by rw [hi1,hZf];rfl,by rw [hi2,hZf];rfl,by rw [hi4];unfold cV;rw [show (fun v=>oV (Tar.St.start.comp v))=fun _=>iV (-1) from rfl,List.map_const',List.length_range],⟨fun r hr=>by simp [Tar.St.start] at hr,.inl ⟨rfl,.inl rfl⟩⟩,?_,fun x _ id g k w e=>by (cases e),?_,fun id g k w e=>by (cases e),?_⟩
  ·simp only [List.nodup_cons,List.mem_cons,List.not_mem_nil,or_false,not_or,List.nodup_nil,and_true,not_false_eq_true];omega
  ·intro x hx;simp only [List.mem_cons,List.not_mem_nil,or_false] at hx;omega
  ·intro x hx;simp only [List.mem_cons,List.not_mem_nil,or_false] at hx;omega
 have hkC:KeepD N.length [] N C:=⟨by omega,fun x hx _=>by rw [← hC,← hF];simp only [List.append_assoc];rw [List.getElem?_append_left hx]⟩
 have hrow:∀ H,KeepD N.length [] N H→RdRows H vr (rowsN n (gN G)):=fun H k=>by
  rw [← hnn,gN_rows]
  exact p3.rd.ext (KeepD.ext k)
 obtain ⟨vt',D,s',q1,q2,q3,q4,q5,q6,q7⟩:=comps_l0 h (L:=C.length) (m0:=N.length) (by omega) hrow (by omega) (fun v=>gN_small hr (by omega) v) (fun v u hu=>by rw [← hnn];exact gN_in G v u hu) hcs.lt (by omega) hcs (Tar.ok_start (gN G) n) rfl hkC (Nat.le_refl _)
 have hrd:Rd D (.sl (N.length+4) 0 0 n 1) (((List.range n).map (kap s'.comp)).map iV):=by
  have:=getC_sl q2.cc
  rw [cV_kap] at this
  simpa using this
 have hkap:∀ a b,a < n→b < n→(eqG G a b=true↔kap s'.comp a=kap s'.comp b):=by
  intro a b ha hb'
  rw [eqG_rc G (by omega) (by omega),← Tar.comp_same q3 q4 q7 ha hb']
  obtain ⟨r,hr1⟩:=Tar.comp_end q3 q4 q7 a ha
  obtain ⟨q,hq1⟩:=Tar.comp_end q3 q4 q7 b hb'
  unfold kap
  rw [hr1,hq1]
  simp only [Option.some.injEq]
  omega
 have hnum:=(numK_num hkap n (Nat.le_refl _)).1
 have hl1:=comps_l1 (CT:=CT) base (A:=D) (cv:=.sl (N.length+4) 0 0 n 1) (n:=n) (κ:=kap s'.comp) (by omega) (by omega) hrd trivial
 have hDl:∀ ob,(D ++ [ob]).length=D.length+1:=fun ob=>by simp
 have hD2:∀ ob ob2,(D ++ [ob] ++ [ob2]).length=D.length+2:=fun ob ob2=>by simp
 have hfz:(fillZ n []).map iV=Z:=by rw [fillZ_nil,← hZ,List.map_replicate];rfl
 rw [hfz] at hl1
 have hm0:mapOb []=.map []:=rfl
 rw [hm0] at hl1
 have hDi:=getC_app q2.hi (G:=[mapOb []])
 have hDi2:=getC_app hDi (G:=[.cells 0 Z])
 rw [hm0] at hDi hDi2
 refine ⟨.sl (D.length+1) 0 0 n 1,D ++ [mapOb (numK (kap s'.comp) n).2] ++ [.cells 0 ((numK (kap s'.comp) n).1.map iV)],callW_fn (c:=s_f32) h.comps (by simp [s_f32]) ?_,?_,?_⟩
 ·simp only [nilS] at hnd hrp hC
  simp only [I] at q1 hl1 hDi hDi2
  simp only [iV,show ((0:Nat):Int)=0 from rfl] at hrp
  have hi2:=q2.hi
  simp only [I] at hi2
  simp only [s_f32,a_f32,s_f32_l0_b,s_f32_l1_b,aa,bl,i64,reduceIte,reduceCtorEq,Nat.reduceEqDiff,Nat.reduceLT,Nat.reduceLeDiff,Nat.reduceBEq,Nat.reduceAdd,fillA,splice,Nat.reduceMul,amY,op_eqP,p1,hvrc,hvr1,hnd,op_mkSl,hmk,hZ,hrp,hFg,hFs,hbN,hC,q1,hDl,hDi,hDi2,hi2,hD2,bl,hl1]
 ·exact ((p2.trans (KeepD.ext q5)).trans (Ext.app _ _)).trans (Ext.app _ _)
 ·have e1:(numK (kap s'.comp) n).1=compsG G:=by rw [hnum,compsG,hnn]
  have e2:=compsG_len G
  have hg:=getC_new (D ++ [mapOb (numK (kap s'.comp) n).2]) 0 ((numK (kap s'.comp) n).1.map iV)
  rw [hDl,e1] at hg
  rw [e1]
  have hle2:=(KeepD.ext q5).le
  refine .inr ⟨D.length+1,0,(compsG G).map iV,?_,hg,Nat.le_refl _,List.take_length,by omega⟩
  rw [List.length_map,e2,hnn]
end
end Go.Proofs.Ytgimjihhlhjejaa
set_option maxRecDepth 100000
namespace Go.Proofs.Ytgimjihhlhjejaa
open Go.AM
def fillV (n:Nat) (z:V) (l:List V):List V:=l ++ List.replicate (n - l.length) z
theorem fillV_set {n:Nat} {z:V} {l:List V} (h:l.length < n) (x:V):(fillV n z l).set l.length x=fillV n z (l ++ [x]):=by
 unfold fillV
 rw [List.set_append_right _ _ (Nat.le_refl _),Nat.sub_self]
 obtain ⟨m,hm⟩:∃ m,n - l.length=m+1:=⟨n - l.length - 1,by omega⟩
 have:n - (l ++ [x]).length=m:=by simp;omega
 rw [hm,this,List.replicate_succ,List.set_cons_zero,List.append_assoc]
 rfl
theorem fillV_len {n:Nat} {z:V} {l:List V} (h:l.length≤n):(fillV n z l).length=n:=by unfold fillV;simp;omega
theorem fillV_full {n:Nat} {z:V} {l:List V} (h:l.length=n):fillV n z l=l:=by unfold fillV;rw [h];simp
noncomputable def cycG (G:List (List Int)) (i:Nat):Bool:=decide (∃ k∈(normG G).getD i [],leadsB G k i=true)
noncomputable def cycL (G:List (List Int)):List Bool:=(List.range G.length).map (cycG G)
noncomputable def cycA (G:List (List Int)) (i:Nat):Bool:=decide ((((compsG G).count ((compsG G).getD i 0):Nat):Int) > 1) || decide ((i:Int)∈G.getD i [])
theorem rc_head {G:Nat→List Nat} {a b:Nat} (h:Tar.Rc G a b):a=b∨∃ k∈G a,Tar.Rc G k b:=by
 induction h with
 | refl=>exact .inl rfl
 | tail h1 e ih=>
   rename_i x c
   rcases ih with rfl | ⟨k,hk,hr⟩
   ·exact .inr ⟨c,e,.refl _⟩
   ·exact .inr ⟨k,hk,hr.tail e⟩
theorem count_two {l:List Int} {i j:Nat} (hij:i≠j) (hi:i < l.length) (hj:j < l.length) (h:l.getD i 0=l.getD j 0):1 < l.count (l.getD i 0):=by
 have key:∀ (l:List Int) (x:Int) (i j:Nat),i < j→l[i]?=some x→l[j]?=some x→1 < l.count x:=by
  intro l
  induction l with
  | nil=>intro x i j _ h;simp at h
  | cons y l ih=>
    intro x i j hlt h1 h2
    cases j with
    | zero=>omega
    | succ j=>
      rw [List.getElem?_cons_succ] at h2
      cases i with
      | zero=>
        simp only [List.getElem?_cons_zero,Option.some.injEq] at h1
        subst h1
        have:=List.count_pos_iff.2 (List.mem_of_getElem? h2)
        rw [List.count_cons_self]
        omega
      | succ i=>
        rw [List.getElem?_cons_succ] at h1
        have:=ih x i j (by omega) h1 h2
        rw [List.count_cons]
        omega
 have h1:=some_getD hi (0:Int)
 have h2:=some_getD hj (0:Int)
 rw [← h] at h2
 rcases Nat.lt_or_gt_of_ne hij with hlt | hlt
 ·exact key l _ i j hlt h1 h2
 ·exact key l _ j i hlt h2 h1
theorem two_count {l:List Int} {i:Nat} (hi:i < l.length) (h:1 < l.count (l.getD i 0)):∃ j,j≠i∧j < l.length∧l.getD j 0=l.getD i 0:=by
 have h1:=some_getD hi (0:Int)
 obtain ⟨x,hx⟩:∃ x,l.getD i 0=x:=⟨_,rfl⟩
 rw [hx] at h h1
 have hs:l=l.take i ++ x :: l.drop (i+1):=by
  have hd:l.drop i=x :: l.drop (i+1):=by rw [List.drop_eq_getElem_cons hi,(List.getElem?_eq_some_iff.1 h1).2]
  rw [← hd,List.take_append_drop]
 have hc:0 < (l.take i).count x∨0 < (l.drop (i+1)).count x:=by
  rw [hs,List.count_append,List.count_cons_self] at h
  omega
 rcases hc with hc | hc
 ·obtain ⟨j,hj⟩:=List.mem_iff_getElem?.1 (List.count_pos_iff.1 hc)
  have hji:j < i:=by
   have:=(List.getElem?_eq_some_iff.1 hj).1
   rw [List.length_take] at this
   omega
  rw [List.getElem?_take_of_lt hji] at hj
  exact ⟨j,by omega,by omega,by rw [hx];exact getD_some hj 0⟩
 ·obtain ⟨j,hj⟩:=List.mem_iff_getElem?.1 (List.count_pos_iff.1 hc)
  rw [List.getElem?_drop] at hj
  exact ⟨i+1+j,by omega,(List.getElem?_eq_some_iff.1 hj).1,by rw [hx];exact getD_some hj 0⟩
theorem cycA_eq (G:List (List Int)) {i:Nat} (hi:i < G.length):cycA G i=cycG G i:=by
 have ok:=compsG_ok G
 have hl:=compsG_len G
 rw [Bool.eq_iff_iff]
 unfold cycA cycG
 rw [Bool.or_eq_true,decide_eq_true_iff,decide_eq_true_iff,decide_eq_true_iff]
 constructor
 ·rintro (h | h)
  ·obtain ⟨j,hji,hj,e⟩:=two_count (l:=compsG G) (i:=i) (by omega) (by omega)
   have:=(ok.same j i (by omega) hi).1 e
   rw [eqG_rc G (by omega) hi] at this
   rcases rc_head this.2 with e0 | ⟨k,hk,hr⟩
   ·exact absurd e0.symm hji
   ·have hk':=(gN_mem G i k).1 hk
    refine ⟨(k:Int),(normG_get G i k).2 ⟨hk'.1,by omega,by omega⟩,?_⟩
    rw [leadsB_nat,← rc_rch G k hk'.2]
    exact hr.trans this.1
  ·refine ⟨(i:Int),(normG_get G i i).2 ⟨h,by omega,by omega⟩,?_⟩
   rw [leadsB_nat]
   exact .base i (by simp) hi
 ·rintro ⟨k,hk,hr⟩
  obtain ⟨h1,h2,h3⟩:=(normG_get G i k).1 hk
  obtain ⟨q,rfl⟩:=Int.eq_ofNat_of_zero_le h2
  rw [leadsB_nat,← rc_rch G q (by omega)] at hr
  by_cases e:q=i
  ·subst e;exact .inr h1
  ·left
   have he:=(ok.same i q hi (by omega)).2 ((eqG_rc G hi (by omega)).2 ⟨Tar.Rc.one ((gN_mem G i q).2 ⟨h1,by omega⟩),hr⟩)
   have:=count_two (l:=compsG G) (Ne.symm e) (by omega) (by omega) he
   omega
theorem cntZ_eq {l:List Int} {c:Nat} (h1:∀ x∈l,0≤x∧x < c) (h2:∀ j,j < c→(j:Int)∈l):cntZ l=c:=by
 have hle:∀ (l:List Int) (a:Int),a≤c→(∀ x∈l,x < c)→l.foldl (fun n k=>if n < k+1 then k+1 else n) a≤c:=by
  intro l
  induction l with
  | nil=>intro a h _;exact h
  | cons x l ih=>
    intro a ha h
    rw [List.foldl_cons]
    refine ih _ ?_ fun y hy=>h y (List.mem_cons_of_mem _ hy)
    have:=h x List.mem_cons_self
    split <;> omega
 have hge:∀ (l:List Int) (a:Int),a≤l.foldl (fun n k=>if n < k+1 then k+1 else n) a∧∀ x∈l,x+1≤l.foldl (fun n k=>if n < k+1 then k+1 else n) a:=by
  intro l
  induction l with
  | nil=>intro a;exact ⟨Int.le_refl _,fun x hx=>by cases hx⟩
  | cons y l ih=>
    intro a
    rw [List.foldl_cons]
    obtain ⟨i1,i2⟩:=ih (if a < y+1 then y+1 else a)
    have hya:y+1≤(if a < y+1 then y+1 else a)∧a≤(if a < y+1 then y+1 else a):=by split <;> omega
    refine ⟨by omega,fun x hx=>?_⟩
    rcases List.mem_cons.1 hx with rfl | hx
    ·omega
    ·exact i2 x hx
 have a1:=hle l 0 (by omega) fun x hx=>(h1 x hx).2
 have a2:=hge l 0
 unfold cntZ
 cases c with
 | zero=>have:=a2.1;omega
 | succ c=>
   have:=a2.2 (c:Int) (h2 c (by omega))
   omega
theorem comps_bound (G:List (List Int)):∀ x∈compsG G,0≤x∧x < cntG G:=by
 intro x hx
 obtain ⟨a,ha⟩:=List.mem_iff_getElem?.1 hx
 have hl:=compsG_len G
 have:=(compsG_ok G).lt a (by have:=(List.getElem?_eq_some_iff.1 ha).1;omega)
 rwa [getD_some ha 0] at this
theorem comps_cnt (G:List (List Int)):cntZ (compsG G)=cntG G:=cntZ_eq (comps_bound G) fun j hj=>by
 have hl:=compsG_len G
 obtain ⟨a,ha,e⟩:=(compsG_ok G).onto j hj
 exact List.mem_iff_getElem?.2 ⟨a,by rw [some_getD (by omega) (0:Int),e]⟩
section
variable {CT:Nat→Option CFun}
def cntV (m:Nat) (l:List Int):List Int:=(List.range m).map fun (k:Nat)=>((l.count (k:Int):Nat):Int)
theorem cntV_len (m:Nat) (l:List Int):(cntV m l).length=m:=by simp [cntV]
theorem cntV_get {m k:Nat} (l:List Int) (hk:k < m):(cntV m l)[k]?=some ((l.count (k:Int):Nat):Int):=by simp [cntV,hk]
theorem cntV_snoc {m k:Nat} (l:List Int) (hk:k < m):(cntV m l).set k (((l.count (k:Int):Nat):Int)+1)=cntV m (l ++ [(k:Int)]):=by
 apply List.ext_getElem?
 intro i
 rw [List.getElem?_set,cntV_len]
 by_cases hi:i < m
 ·rw [cntV_get _ hi,cntV_get _ hi,List.count_append]
  by_cases e:k=i
  ·subst e;simp [hk]
  ·rw [if_neg e]
   have e':¬ ((k:Int)=(i:Int)):=by omega
   simp [List.count_cons,e']
 ·rw [List.getElem?_eq_none (by rw [cntV_len];omega),List.getElem?_eq_none (by rw [cntV_len];omega),if_neg (by omega)]
theorem cntV_nil (m:Nat):cntV m []=List.replicate m 0:=by
 unfold cntV
 rw [show (fun (k:Nat)=>(((([]:List Int).count (k:Int)):Nat):Int))=fun _=>0 by funext k;rfl,List.map_const',List.length_range]
theorem cyc_l0 (base:Nat) {A:Heap} {v cv:V} {l:List Int} {m:Nat} (hb:base≤A.length) (hr:Rd A cv (l.map iV)) (hw:Wide1 cv) (hn:l.length < 2 ^ 40) (hl:∀ x∈l,0≤x∧x < (m:Int)):
 itW (evC (callW CT) itW base s_f25_l0) [] (A.length+1) (frOf 56 [(0,v),(3,cv),(4,.sl A.length 0 0 m 1),(15,cv),(16,.s (.int .i64 l.length)),(17,.s (.int .i64 0))]) (A ++ [.cells 0 ((cntV m []).map iV)])=some (.ext 0,frOf 56 [(0,v),(3,cv),(4,.sl A.length 0 0 m 1),(15,cv),(16,.s (.int .i64 l.length)),(17,.s (.int .i64 l.length)),(18,bl false)],A ++ [.cells 0 ((cntV m l).map iV)]):=by
 have ts:∀ (fr:List V) (o:Ob),Go.AM.trim (A.length+1) fr (A ++ [o])=A ++ [o]:=fun fr o=>trim_same (by simp)
 have hst:∀ i,i < l.length→itW (evC (callW CT) itW base s_f25_l0) [] (A.length+1) (frOf 56 [(0,v),(3,cv),(4,.sl A.length 0 0 m 1),(15,cv),(16,.s (.int .i64 l.length)),(17,.s (.int .i64 i))]) (A ++ [.cells 0 ((cntV m (l.take i)).map iV)])=itW (evC (callW CT) itW base s_f25_l0) [] (A.length+1) (frOf 56 [(0,v),(3,cv),(4,.sl A.length 0 0 m 1),(15,cv),(16,.s (.int .i64 l.length)),(17,.s (.int .i64 (i+1:Nat)))]) (A ++ [.cells 0 ((cntV m (l.take (i+1))).map iV)]):=by
  intro i hi
  have hlt':((i:Int) < (l.length:Int)):=by omega
  have hwk:=w64 (n:=i) (by omega)
  obtain ⟨a,a1,a2⟩:=iV_get (hr.ext (Ext.app A [.cells 0 ((cntV m (l.take i)).map iV)])) hw hi
  have hx:=hl (l.getD i 0) (List.mem_of_getElem? (some_getD hi 0))
  obtain ⟨k,hk⟩:=Int.eq_ofNat_of_zero_le hx.1
  rw [hk] at hx a2
  have hkm:k < m:=by omega
  have hc:getC (A ++ [.cells 0 ((cntV m (l.take i)).map iV)]) A.length 0=some ((cntV m (l.take i)).map iV):=getC_new _ _ _
  obtain ⟨b1,b2⟩:=at_sl (n:=m) hc hkm (w:=iV (((l.take i).count (k:Int):Nat):Int)) (by rw [List.getElem?_map,cntV_get _ hkm];rfl)
  have htk:l.take (i+1)=l.take i ++ [(k:Int)]:=by rw [List.take_add_one,some_getD hi 0,hk];rfl
  have hct:(l.take i).count (k:Int)≤i:=Nat.le_trans List.count_le_length (by rw [List.length_take];omega)
  have hw2:IntKind.i64.wrap ((((l.take i).count (k:Int):Nat):Int)+1)=(((l.take i).count (k:Int):Nat):Int)+1:=by rw [IntKind.wrap_i64];omega
  have st:=storeV_at (v:=iV ((((l.take i).count (k:Int):Nat):Int)+1)) (base:=base) hc hb rfl (off:=k) (by rw [List.length_map,cntV_len];exact hkm)
  rw [set_snoc,← List.map_set,cntV_snoc _ hkm,← htk] at st
  rw [itW_step]
  simp only [iV] at b2 st
  simp only [a_f25,s_f25_l0_b,s_f25_l1_b,aa,bl,i64,reduceIte,reduceCtorEq,Nat.reduceEqDiff,Nat.reduceLT,Nat.reduceLeDiff,Nat.reduceBEq,Nat.reduceAdd,fillA,splice,Nat.reduceMul,amY,op_eqP,hlt',a1,a2,b1,b2,hw2,st,hwk,ts]
 have h2:=it_fun l.length (fun i=>itW (evC (callW CT) itW base s_f25_l0) [] (A.length+1) (frOf 56 [(0,v),(3,cv),(4,.sl A.length 0 0 m 1),(15,cv),(16,.s (.int .i64 l.length)),(17,.s (.int .i64 i))]) (A ++ [.cells 0 ((cntV m (l.take i)).map iV)])) hst 0 (Nat.zero_le _)
 refine h2.trans ?_
 rw [itW_step,List.take_length]
 simp only [bl,a_f25,s_f25_l0_b,s_f25_l1_b,aa,bl,i64,reduceIte,reduceCtorEq,Nat.reduceEqDiff,Nat.reduceLT,Nat.reduceLeDiff,Nat.reduceBEq,Nat.reduceAdd,fillA,splice,Nat.reduceMul,amY,op_eqP,Int.lt_irrefl,ts]
theorem cyc_l1 (hC:CT k_f34=some (.code s_f34)) (hT:CT k_f53=some (.code s_f53)) (base:Nat) {A:Heap} {v cv sv:V} {G:List (List Int)} {m:Nat} (hb:base≤A.length) (hv:RdRows A v (rowsV G)) (hr:Rd A cv ((compsG G).map iV)) (hw:Wide1 cv) (hs:Rd A sv ((cntV m (compsG G)).map iV)) (hsw:Wide1 sv) (hn:G.length < 2 ^ 40) (hrr:∀ r∈G,r.length < 2 ^ 40) (hl:∀ x∈compsG G,0≤x∧x < (m:Int)):
 itW (evC (callW CT) itW base s_f25_l1) [] (A.length+1) (frOf 56 [(0,v),(4,sv),(7,.sl A.length 0 0 G.length 1),(31,cv),(32,.s (.int .i64 G.length)),(33,.s (.int .i64 0))]) (A ++ [.cells 0 (fillV G.length (bV false) [])])=some (.ext 2,frOf 56 [(0,v),(4,sv),(7,.sl A.length 0 0 G.length 1),(31,cv),(32,.s (.int .i64 G.length)),(33,.s (.int .i64 G.length)),(34,bl false)],A ++ [.cells 0 ((cycL G).map bV)]):=by
 have ts:∀ (fr:List V) (o:Ob),Go.AM.trim (A.length+1) fr (A ++ [o])=A ++ [o]:=fun fr o=>trim_same (by simp)
 have hlc:=compsG_len G
 have hst:∀ i,i < G.length→itW (evC (callW CT) itW base s_f25_l1) [] (A.length+1) (frOf 56 [(0,v),(4,sv),(7,.sl A.length 0 0 G.length 1),(31,cv),(32,.s (.int .i64 G.length)),(33,.s (.int .i64 i))]) (A ++ [.cells 0 (fillV G.length (bV false) (((List.range i).map (cycG G)).map bV))])=itW (evC (callW CT) itW base s_f25_l1) [] (A.length+1) (frOf 56 [(0,v),(4,sv),(7,.sl A.length 0 0 G.length 1),(31,cv),(32,.s (.int .i64 G.length)),(33,.s (.int .i64 (i+1:Nat)))]) (A ++ [.cells 0 (fillV G.length (bV false) (((List.range (i+1)).map (cycG G)).map bV))]):=by
  intro i hi
  obtain ⟨o,ho⟩:∃ o,fillV G.length (bV false) (((List.range i).map (cycG G)).map bV)=o:=⟨_,rfl⟩
  have hol:o.length=G.length:=by rw [← ho];exact fillV_len (by simp;omega)
  have hos:∀ x,o.set i x=fillV G.length (bV false) ((((List.range i).map (cycG G)).map bV) ++ [x]):=fun x=>by
   have:=fillV_set (n:=G.length) (z:=bV false) (l:=((List.range i).map (cycG G)).map bV) (by simp;omega) x
   rwa [ho,List.length_map,List.length_map,List.length_range] at this
  have hrs:(((List.range (i+1)).map (cycG G)).map bV)=(((List.range i).map (cycG G)).map bV) ++ [bV (cycG G i)]:=by rw [List.range_succ];simp
  rw [ho,hrs]
  have hlt':((i:Int) < (G.length:Int)):=by omega
  have hwk:=w64 (n:=i) (by omega)
  have he:Ext A (A ++ [.cells 0 o]):=Ext.app _ _
  obtain ⟨a,a1,a2⟩:=iV_get (hr.ext he) hw (k:=i) (by omega)
  have hx:=hl ((compsG G).getD i 0) (List.mem_of_getElem? (some_getD (by omega) 0))
  obtain ⟨k,hk⟩:=Int.eq_ofNat_of_zero_le hx.1
  rw [hk] at hx a2
  obtain ⟨b,b1,b2⟩:=iV_get (hs.ext he) hsw (k:=k) (by rw [cntV_len];omega)
  rw [getD_some (cntV_get _ (by omega)) 0] at b2
  have hc:getC (A ++ [.cells 0 o]) A.length 0=some o:=getC_new _ _ _
  have hixi:(0≤(i:Int)∧(i:Int) < (G.length:Int)∧1=1):=by omega
  have hst:∀ b,storeV (A ++ [.cells 0 o]) base 1 (.s (.bool b)) (.ref A.length 0 i)=some (A ++ [.cells 0 (fillV G.length (bV false) ((((List.range i).map (cycG G)).map bV) ++ [bV b]))]):=fun b=>by
   rw [storeV_at hc hb rfl (by rw [hol];exact hi),set_snoc]
   rw [show (V.s (.bool b))=bV b from rfl,hos]
  have hcy:=cycA_eq G hi
  unfold cycA at hcy
  rw [hk] at hcy
  rw [itW_step]
  cases hcc:decide ((((compsG G).count (k:Int):Nat):Int) > 1) with
  | true=>
    rw [hcc,Bool.true_or] at hcy
    rw [← hcy]
    simp only [a_f25,s_f25_l0_b,s_f25_l1_b,aa,bl,i64,reduceIte,reduceCtorEq,Nat.reduceEqDiff,Nat.reduceLT,Nat.reduceLeDiff,Nat.reduceBEq,Nat.reduceAdd,fillA,splice,Nat.reduceMul,amY,op_eqP,hlt',a1,a2,b1,b2,hcc,hixi,hst,hwk,ts]
  | false=>
    rw [hcc,Bool.false_or] at hcy
    rw [← hcy]
    obtain ⟨ra,rx,r1,r2,r3,r4⟩:=rows_at (hv.ext he) (some_getD hi [])
    have hct:=contains_fun hC hT base r3 r4 (by have:=hrr _ (List.mem_of_getElem? (some_getD hi []));omega) (i:Int)
    simp only [a_f25,s_f25_l0_b,s_f25_l1_b,aa,bl,i64,reduceIte,reduceCtorEq,Nat.reduceEqDiff,Nat.reduceLT,Nat.reduceLeDiff,Nat.reduceBEq,Nat.reduceAdd,fillA,splice,Nat.reduceMul,amY,op_eqP,hlt',a1,a2,b1,b2,hcc,hixi,r1,r2,hct,hst,hwk,ts]
 have h2:=it_fun G.length (fun i=>itW (evC (callW CT) itW base s_f25_l1) [] (A.length+1) (frOf 56 [(0,v),(4,sv),(7,.sl A.length 0 0 G.length 1),(31,cv),(32,.s (.int .i64 G.length)),(33,.s (.int .i64 i))]) (A ++ [.cells 0 (fillV G.length (bV false) (((List.range i).map (cycG G)).map bV))])) hst 0 (Nat.zero_le _)
 refine h2.trans ?_
 rw [itW_step,fillV_full (by simp)]
 simp only [bl,a_f25,s_f25_l0_b,s_f25_l1_b,aa,bl,i64,reduceIte,reduceCtorEq,Nat.reduceEqDiff,Nat.reduceLT,Nat.reduceLeDiff,Nat.reduceBEq,Nat.reduceAdd,fillA,splice,Nat.reduceMul,amY,op_eqP,Int.lt_irrefl,ts,cycL]
structure CY (CT:Nat→Option CFun):Prop where
 c:CC CT
 cyc:CT k_f25=some (.code s_f25)
 cnt:CT k_f33=some (.code s_f33)
 con:CT k_f34=some (.code s_f34)
theorem cyclic_f (h:CY CT) (base:Nat) (H:Heap) (v:V) (G:List (List Int)) (hv:RdRows H v (rowsV G)) (hb:base≤H.length) (hn:G.length < 2 ^ 32) (hr:∀ r∈G,r.length < 2 ^ 40):
 ∃ v' H',callW CT (.fn k_f25 [] []) [v] base H=some (v',H')∧Ext H H'∧OwnN H.length H' v' ((cycL G).map bV):=by
 obtain ⟨cv,A,p1,p2,p3⟩:=comps_f h.c base H v G hv hb hn hr
 have hle:=p2.le
 have hlc:=compsG_len G
 have hbd:=comps_bound G
 have hcl:=cntG_le G
 have hcnt:=count_fun h.cnt base p3.rd p3.wide (by omega) (fun x hx=>by have:=hbd x hx;omega)
 rw [comps_cnt] at hcnt
 have hmk:=fun H=>make_n (H:=H) (zero:=[.s (.int .i64 0)]) (sz:=1) (bytes:=8) (k:=.i64) (k':=.i64) (n:=cntG G) (by omega)
 have hmk2:=fun H=>make_n (H:=H) (zero:=[.s (.bool false)]) (sz:=1) (bytes:=1) (k:=.i64) (k':=.i64) (n:=G.length) (by omega)
 simp only [flat_one] at hmk hmk2
 have hl0:=cyc_l0 (CT:=CT) base (v:=v) (m:=cntG G) (by omega) p3.rd p3.wide (by omega) hbd
 have hz:(cntV (cntG G) []).map iV=List.replicate (cntG G) (.s (.int .i64 0)):=by rw [cntV_nil,List.map_replicate];rfl
 have hz2:fillV G.length (bV false) []=List.replicate G.length (.s (.bool false)):=by simp [fillV,bV]
 have hcvl:=fun H'=>iV_len (p3.rd.ext (Ext.app A H'))
 have hcvl2:=fun o H'=>iV_len ((p3.rd.ext (Ext.app A [o])).ext (Ext.app (A ++ [o]) H'))
 have hvl:=rows_lenV hv
 have e1:∀ ob:Ob,(A ++ [ob]).length=A.length+1:=fun ob=>by simp
 have e2:∀ ob ob2:Ob,(A ++ [ob] ++ [ob2]).length=A.length+2:=fun ob ob2=>by simp
 have hsv:Rd (A ++ [.cells 0 ((cntV (cntG G) (compsG G)).map iV)]) (.sl A.length 0 0 (cntG G) 1) ((cntV (cntG G) (compsG G)).map iV):=by
  have:=getC_sl (getC_new A 0 ((cntV (cntG G) (compsG G)).map iV))
  rwa [List.length_map,cntV_len] at this
 have hl1:=cyc_l1 h.con h.c.index base (A:=A ++ [.cells 0 ((cntV (cntG G) (compsG G)).map iV)]) (v:=v) (cv:=cv) (sv:=.sl A.length 0 0 (cntG G) 1) (G:=G) (m:=cntG G) (by rw [e1];omega) (hv.ext (p2.trans (Ext.app _ _))) (p3.rd.ext (Ext.app _ _)) p3.wide hsv trivial (by omega) hr hbd
 rw [e1,hz2] at hl1
 rw [hz,hlc] at hl0
 simp only [hlc] at hcvl hcvl2
 refine ⟨.sl (A.length+1) 0 0 G.length 1,A ++ [.cells 0 ((cntV (cntG G) (compsG G)).map iV)] ++ [.cells 0 ((cycL G).map bV)],callW_fn (c:=s_f25) h.cyc (by simp [s_f25]) ?_,(p2.trans (Ext.app _ _)).trans (Ext.app _ _),?_⟩
 ·simp only [bl] at hl0 hl1
  simp only [s_f25,a_f25,s_f25_l0_b,s_f25_l1_b,aa,bl,i64,reduceIte,reduceCtorEq,Nat.reduceEqDiff,Nat.reduceLT,Nat.reduceLeDiff,Nat.reduceBEq,Nat.reduceAdd,fillA,splice,Nat.reduceMul,amY,op_eqP,p1,hcnt,op_mkSl,hmk,hcvl,e1,hl0,hvl,hmk2,hcvl2,e2,hl1]
  trace_state
 ·have hg:=getC_new (A ++ [Ob.cells 0 ((cntV (cntG G) (compsG G)).map iV)]) 0 ((cycL G).map bV)
  rw [e1] at hg
  have hll:(cycL G).length=G.length:=by simp [cycL]
  refine .inr ⟨A.length+1,0,(cycL G).map bV,?_,hg,Nat.le_refl _,List.take_length,by omega⟩
  rw [List.length_map,hll]
end
end Go.Proofs.Ytgimjihhlhjejaa
set_option maxRecDepth 100000
namespace Go.Proofs.Ytgimjihhlhjejaa
open Go.AM
end Go.Proofs.Ytgimjihhlhjejaa
set_option maxRecDepth 100000
namespace Go.Proofs.Ytgimjihhlhjejaa
open Go.AM
section
variable {CT:Nat→Option CFun}
end
def MutL (lo hi o n:Nat) (D0 D:Heap) (lens:List Nat):Prop:=∃ m' vs R,o < m'∧m'≤D0.length∧lo≤o∧o < hi∧hi≤D0.length∧R.length=n∧R.map List.length=lens∧D0.length≤D.length∧(∀ id,id < D0.length→id < lo∨hi≤id→D[id]?=D0[id]?)∧getC D o 0=some vs∧BagO m' D vs R∧(∀ (j id g k:Nat),vs[j]?=some (.sl id g 0 k 1)→lo≤id∧(id < hi∨D0.length≤id))∧∀ (j:Nat) (x:V),vs[j]?=some x→x=nilS∨x=.esl∨∃ id g k,x=.sl id g 0 k 1
theorem own_shape {m:Nat} {H:Heap} {v:V} {l:List V} (h:OwnN m H v l):v=nilS∨v=.esl∨∃ id g k,v=.sl id g 0 k 1:=by
 rcases h with ⟨_,h | h⟩ | ⟨id,g,c,rfl,_⟩
 ·exact .inl h
 ·exact .inr (.inl h)
 ·exact .inr (.inr ⟨_,_,_,rfl⟩)
theorem MutL.start {lo hi:Nat} {D0:Heap} {o m':Nat} {vs:List V} {R:List (List V)} (ho:o < m') (hm:m'≤D0.length) (h1:lo≤o) (h2:o < hi) (h3:hi≤D0.length) (hc:getC D0 o 0=some vs) (hB:BagO m' D0 vs R) (hids:∀ (j id g k:Nat),vs[j]?=some (.sl id g 0 k 1)→lo≤id∧id < hi):MutL lo hi o R.length D0 D0 (R.map List.length):=
 ⟨m',vs,R,ho,hm,h1,h2,h3,rfl,rfl,Nat.le_refl _,fun _ _ _=>rfl,hc,hB,fun j id g k h=>⟨(hids j id g k h).1,.inl (hids j id g k h).2⟩,fun j x hx=>by
  have hj:=(List.getElem?_eq_some_iff.1 hx).1
  obtain ⟨y,h1,h2⟩:=hB.2.1 j _ (List.getElem?_eq_getElem (show j < R.length by rw [← hB.1];exact hj))
  rw [hx] at h1
  obtain rfl:=Option.some.inj h1
  exact own_shape h2⟩
theorem MutL.old {lo hi o n:Nat} {D0 D:Heap} {lens:List Nat} (h:MutL lo hi o n D0 D lens):D0.length≤D.length∧∀ id,id < D0.length→id < lo∨hi≤id→D[id]?=D0[id]?:=by
 obtain ⟨m',vs,R,h1,hm',h2,h3,h4,h5,h6,h7,h8,h9,h10,h11,_⟩:=h
 exact ⟨h7,h8⟩
theorem MutL.trim {lo hi o n:Nat} {D0 D:Heap} {lens:List Nat} (h:MutL lo hi o n D0 D lens) {L:Nat} (hL:D0.length≤L) (fr:List V):MutL lo hi o n D0 (Go.AM.trim L fr D) lens:=by
 obtain ⟨m',vs,R,h1,hm',h2,h3,h4,h5,h6,h7,h8,h9,h10,h11,h12⟩:=h
 have hid:∀ id,id < L→(Go.AM.trim L fr D)[id]?=D[id]?:=fun id hid=>trim_id L fr D hid
 refine ⟨m',vs,R,h1,hm',h2,h3,h4,h5,h6,?_,fun id hi1 hi2=>by rw [hid id (by omega)];exact h8 id hi1 hi2,trim_get h9 (by omega),h10.trim h9 (by omega) _,h11,h12⟩
 rcases trim_or L fr D with e | ⟨e,_⟩
 ·rw [e];exact h7
 ·rw [e,List.length_take];omega
theorem MutL.row {lo hi o n base:Nat} {D0 D:Heap} {lens:List Nat} (h:MutL lo hi o n D0 D lens) (hb:base≤lo) {i len:Nat} (hil:lens[i]?=some len) (hlen:len < 2 ^ 40):
 ∃ x,xIndexAddr 1 (.sl o 0 0 n 1) (.s (.int .i64 i))=some (.ref o 0 i)∧xLoad D false 1 (.ref o 0 i)=some x∧xLen D .s x=some (.s (.int .i64 len))∧(∀ (k:Nat) (z:Int),k < len→∃ a D',xIndexAddr 1 x (.s (.int .i64 k))=some a∧storeV D base 1 (.s (.int .i64 z)) a=some D'∧MutL lo hi o n D0 D' lens)∧(∀ z:Int,∃ v' D1 D2,appendV (D ++ [.cells 0 [.s (.int .i64 z)]]) base 1 8 x (.sl D.length 0 0 1 1)=some (v',D1)∧storeV D1 base 1 v' (.ref o 0 i)=some D2∧MutL lo hi o n D0 D2 (lens.set i (len+1)))∧(∀ p,p < D0.length→p < lo∨hi≤p→apartO (some (some p)) (V.appObj x)=true):=by
 obtain ⟨m',vs,R,h1,hm',h2,h3,h4,h5,h6,h7,h8,h9,h10,h11,h12⟩:=h
 have hiR:i < R.length:=by
  have:=(List.getElem?_eq_some_iff.1 hil).1
  rwa [← h6,List.length_map] at this
 have hRi:=some_getD hiR ([]:List V)
 have hRl:(R.getD i []).length=len:=by
  rw [← h6,List.getElem?_map,hRi] at hil
  exact Option.some.inj hil
 obtain ⟨x,hx,hox⟩:=h10.2.1 i _ hRi
 have hxi:=(List.getElem?_eq_some_iff.1 hx).1
 obtain ⟨a1,a2⟩:=at_sl (n:=n) h9 (by omega) hx
 refine ⟨x,a1,a2,by rw [hox.rd.len,hRl],fun k z hk=>?_,fun z=>?_,fun p hp hq=>?_⟩
 ·rcases hox with ⟨e,_⟩ | ⟨id,g,c,e,k1,k2,k3,k4⟩
  ·rw [e] at hRl;simp at hRl;omega
  ·subst e
   rw [hRl] at k2 k3
   have hck:k < c.length:=by omega
   have hid:=h11 i id g _ hx
   have hst:=storeV_at (v:=.s (.int .i64 z)) (base:=base) k1 (by omega) rfl (off:=k) hck
   have hx2:c[k]?=some c[k]:=List.getElem?_eq_getElem hck
   have hT:Touch (V.sl id g 0 (R.getD i []).length 1) (V.sl id g 0 (R.getD i []).length 1) D (D.set id (.cells g (c.set k (.s (.int .i64 z))))):=.inr ⟨id,g,_,_,_,rfl,rfl,rfl⟩
   have hown:OwnN m' (D.set id (.cells g (c.set k (.s (.int .i64 z))))) (V.sl id g 0 (R.getD i []).length 1) ((R.getD i []).set k (.s (.int .i64 z))):=.inr ⟨id,g,c.set k (.s (.int .i64 z)),by rw [List.length_set],getC_put k1,by rw [List.length_set,List.length_set,hRl];exact k2,by rw [List.length_set,List.take_set,hRl,k3],k4⟩
   obtain ⟨t1,t2,_⟩:=h10.touch (i:=i) h1 h9 hx hT (fun id' g' n' e=>by cases e;exact k4) hown
   have hvs:vs.set i (V.sl id g 0 (R.getD i []).length 1)=vs:=by
    apply List.ext_getElem?
    intro j
    by_cases e:i=j
    ·subst e;rw [List.getElem?_set_self hxi,hx]
    ·rw [List.getElem?_set_ne e]
   rw [hvs,getC_same t1] at t2
   refine ⟨.ref id g k,_,?_,hst,m',vs,_,h1,hm',h2,h3,h4,by rw [List.length_set];exact h5,?_,by rw [List.length_set];exact h7,fun id' p1 p2=>?_,t1,t2,h11,h12⟩
   ·rw [hRl];exact (at_sl k1 (by omega) hx2).1
   ·rw [List.map_set,List.length_set,h6,hRl]
    apply List.ext_getElem?
    intro j
    by_cases e:i=j
    ·subst e;rw [List.getElem?_set_self (by have:=(List.getElem?_eq_some_iff.1 hil).1;exact this),hil]
    ·rw [List.getElem?_set_ne e]
   ·rw [List.getElem?_set_ne (by omega)];exact h8 id' p1 p2
 ·obtain ⟨v',D1,q1,q2,q3,q4,q5⟩:=own_append2 (x:=.s (.int .i64 z)) (base:=base) (bytes:=8) hox (by omega) rfl (by rw [hRl];omega) (by omega)
  have hol:=getC_lt h9
  have hox':∀ g k,x≠.sl o g 0 k 1:=fun g k e=>by have:=own_at hox _ _ _ e;omega
  have hc1:getC D1 o 0=some vs:=by
   simp only [getC] at h9 ⊢
   rw [q4 o hol hox'];exact h9
  have hB:=h10.swap h1 hx hRi q2 q4 q5
  refine ⟨v',D1,_,q1,storeV_at hc1 (by omega) q2.one hxi,m',vs.set i v',R.set i (R.getD i [] ++ [.s (.int .i64 z)]),h1,hm',h2,h3,h4,by rw [List.length_set];exact h5,?_,by rw [List.length_set];omega,fun id p1 p2=>?_,getC_put hc1,hB,fun j id g k hj=>?_,fun j y hj=>?_⟩
  ·rw [List.map_set,h6,List.length_append,hRl];rfl
  ·rw [List.getElem?_set_ne (by omega),q4 id (by omega) (fun g k e=>by subst e;have:=h11 i id g k hx;omega)]
   exact h8 id p1 p2
  ·by_cases e:i=j
   ·subst e
    rw [List.getElem?_set_self hxi] at hj
    rcases q5 id g k (Option.some.inj hj) with e2 | ⟨g2,k2,e2⟩
    ·exact ⟨by omega,.inr (by omega)⟩
    ·subst e2;exact h11 i id g2 k2 hx
   ·rw [List.getElem?_set_ne e] at hj
    exact h11 j id g k hj
  ·by_cases e:i=j
   ·subst e
    rw [List.getElem?_set_self hxi] at hj
    rw [← Option.some.inj hj]
    exact own_shape q2
   ·rw [List.getElem?_set_ne e] at hj
    exact h12 j y hj
 ·rcases h12 i x hx with rfl | rfl | ⟨id,g,k,rfl⟩
  ·rfl
  ·rfl
  ·have:=h11 i id g k hx
   simp only [V.appObj,apartO,bne_iff_ne]
   omega
end Go.Proofs.Ytgimjihhlhjejaa
set_option maxRecDepth 100000
namespace Go.Proofs.Ytgimjihhlhjejaa
open Go.AM
section
variable {CT:Nat→Option CFun}
end
end Go.Proofs.Ytgimjihhlhjejaa
set_option maxRecDepth 100000
namespace Go.Proofs.Ytgimjihhlhjejaa
open Go.AM
section
variable {CT:Nat→Option CFun}
end
end Go.Proofs.Ytgimjihhlhjejaa
set_option maxRecDepth 100000
namespace Go.Proofs.Ytgimjihhlhjejaa
open Go.AM
structure CU (CT:Nat→Option CFun):Prop where
 uses:CT k_f8=some (.code s_f8)
 some':CT k_f19=some (.code s_f19)
 del:CT k_f26=some (.code s_f26)
 idx:CT k_f35=some (.code s_f35)
 some1:CT k_f27=some (.code s_f27)
theorem up_lenN:∀ {l:List Int} {n:Nat} {a:Int},Up l→(∀ z∈l,a≤z∧z < n)→(l.length:Int)≤n - a∨l=[]:=by
 intro l
 induction l with
 | nil=>intro n a _ _;exact .inr rfl
 | cons x l ih=>
   intro n a h hr
   have hx:=hr x List.mem_cons_self
   rcases ih (n:=n) (a:=x+1) h.2 (fun z hz=>⟨by have:=h.1 z hz;omega,(hr z (List.mem_cons_of_mem _ hz)).2⟩) with e | e
   ·left;rw [List.length_cons];omega
   ·left;rw [e];simp;omega
theorem back_le (G:List (List Int)) {r:List Int} (hr:r∈backG G):r.length≤G.length:=by
 obtain ⟨a,ha⟩:=List.mem_iff_getElem?.1 hr
 have han:=(List.getElem?_eq_some_iff.1 ha).1
 rw [backG_len] at han
 have e:=backG_get G a han
 rw [getD_some ha []] at e
 subst e
 rcases up_lenN (n:=G.length) (a:=0) (col_up (normG G) 0 a) (fun z hz=>by
  obtain ⟨j,rfl,q,hq,_⟩:=(col_mem _ _ _ _).1 hz
  have hj:=(List.getElem?_eq_some_iff.1 hq).1
  rw [normG_len] at hj
  omega) with e | e
 ·omega
 ·rw [e];exact Nat.zero_le _
section
variable {CT:Nat→Option CFun}
end
end Go.Proofs.Ytgimjihhlhjejaa
set_option maxRecDepth 100000
namespace Go.Proofs.Ytgimjihhlhjejaa
open Go.AM
abbrev k_f5:Nat:=5
def s_f5_r0_k:List Nat:=[0,2,3,4,5,6,7,8,9,10,11,12,13,14,15,16,17,18,19,20,21,22,23,24,25,26,27,28,29,30,31,32,33,34,35,36,37,38,39,40,41,42,43,44,45,46,47,48,49,50,51,52,53,54,55,56,57,58,59,60,61,62,63,64,65,66,67,68,69,70,71,72,73,74,75,76,77,78,79,80,81,82,83,84,85,86,87,88,89,90,91,92,93,94,95,96,97,98,99,100,101,102,103,104,105,106,107,108,109,110,111,112,113,114,115,116,117,118,119,120,121,122,123,124,125,126,127,128,129,130,131,132,133,134,135,136,137,138,139,140,141,142,143,144,145,146,147,148,149,150,151,152,153,154,155,156,157,158,159,160,161,162,163,164,165,166,167,168,169,170,171,172,173,174,175,176,177,178,179,180,181,182,183,184,185,186,187,188,189,190,191,192,193,194,195,196,197,198,199,200,201,202,203,204,205,206,207,208,209,210,211,212,213,214,215,216,217,218,219,220,221,222,223,224,225,226,227,228,229,230,231,232,233,234,235,236,237,238,239,240,241,242,243,244,245,246,247,248,249,250,251,252,253,254,255,256,257,258,259,260,261,262,263,264,265,266,267,268,269,270,271,272,273,274,275,276,277,278,279,280,281,282,283,284,285,286,287,288,289,290,291,292,293,294,295,296,297,298,299,300,301,302,303,304,305,306,307]
theorem s_f5_r0_k_kA0:s_f5_r0_k.contains 0=true:=by kernel_rfl
theorem s_f5_r0_k_kA1:s_f5_r0_k.contains 1=false:=by kernel_rfl
theorem s_f5_r0_k_kA2:s_f5_r0_k.contains 2=true:=by kernel_rfl
def s_f5_r0t1:List AOper:=[⟨some 2,(.move (.c (.s (.bool false)))),none⟩]
def s_f5_r0p0:List AOper:=[⟨some 1,(.box (.t 0)),none⟩]
def s_f5_r0:List AOper:=s_f5_r0p0 ++ s_f5_r0t1
def s_f5_r0p0_k:List Nat:=[0,2,3,4,5,6,7,8,9,10,11,12,13,14,15,16,17,18,19,20,21,22,23,24,25,26,27,28,29,30,31,32,33,34,35,36,37,38,39,40,41,42,43,44,45,46,47,48,49,50,51,52,53,54,55,56,57,58,59,60,61,62,63,64,65,66,67,68,69,70,71,72,73,74,75,76,77,78,79,80,81,82,83,84,85,86,87,88,89,90,91,92,93,94,95,96,97,98,99,100,101,102,103,104,105,106,107,108,109,110,111,112,113,114,115,116,117,118,119,120,121,122,123,124,125,126,127,128,129,130,131,132,133,134,135,136,137,138,139,140,141,142,143,144,145,146,147,148,149,150,151,152,153,154,155,156,157,158,159,160,161,162,163,164,165,166,167,168,169,170,171,172,173,174,175,176,177,178,179,180,181,182,183,184,185,186,187,188,189,190,191,192,193,194,195,196,197,198,199,200,201,202,203,204,205,206,207,208,209,210,211,212,213,214,215,216,217,218,219,220,221,222,223,224,225,226,227,228,229,230,231,232,233,234,235,236,237,238,239,240,241,242,243,244,245,246,247,248,249,250,251,252,253,254,255,256,257,258,259,260,261,262,263,264,265,266,267,268,269,270,271,272,273,274,275,276,277,278,279,280,281,282,283,284,285,286,287,288,289,290,291,292,293,294,295,296,297,298,299,300,301,302,303,304,305,306,307]
theorem s_f5_r0p0_k_kA0:s_f5_r0p0_k.contains 0=true:=by kernel_rfl
theorem s_f5_r0p0_k_kA1:s_f5_r0p0_k.contains 1=false:=by kernel_rfl
theorem s_f5_r0p0_k_kA2:s_f5_r0p0_k.contains 2=true:=by kernel_rfl
theorem s_f5_r0_x (call:CallF) (it:IterF) (base:Nat) (f:List V) (H:Heap):evC call it base (.region s_f5_r0 [] s_f5_r0_k) f H=thenC call it base (.region s_f5_r0t1 [] s_f5_r0_k) (opsC [] s_f5_r0p0 s_f5_r0p0_k (evOps call base [⟨some 1,(.box (.t 0)),none⟩] f H)):=(row_op call it base s_f5_r0p0 s_f5_r0t1 (kc:=s_f5_r0p0_k) (by kernel_rfl) f H).trans (by rw [row_ops];rfl)
def s_f5_r0t1_tale:=hT s_f5_r0t1 s_f5_r0_k [] 3 [] [] [.cc (.s (.bool false))] (by kernel_rfl) (by kernel_rfl)
def s_f5_r0t1_x:=hL s_f5_r0t1 s_f5_r0_k []
def s_f5_r1t1:List AOper:=[⟨some 22,(.call (.c (.fn 12 [] [])) [(.t 21)]),none⟩]
def s_f5_r1p0:List AOper:=[⟨some 21,(.load true 3 (.t 1)),none⟩]
def s_f5_r1:List AOper:=s_f5_r1p0 ++ s_f5_r1t1
def s_f5_r1p0_tale:=hT s_f5_r1p0 [] [21] 22 [] [(21,(.op (.load true 3 (.t 0)) [(.t 1)]))] [.sub 0 [] []] (by kernel_rfl) (by kernel_rfl)
def s_f5_r1_x:=hS s_f5_r1 s_f5_r1p0 s_f5_r1t1 [] [21] [21] rfl (by kernel_rfl)
def s_f5_r1t1_x:=hX s_f5_r1t1 [21] [⟨some 22,(.call (.c (.fn 12 [] [])) [(.t 21)]),none⟩] rfl
def s_f5_r2:List AOper:=[
 ⟨some 2,(.move (.c (.s (.bool true)))),none⟩]
def s_f5_r2_tale:=hT s_f5_r2 [1,22] [2] 3 [] [(2,(.c (.s (.bool true))))] [.cc (.s (.bool true))] (by kernel_rfl) (by kernel_rfl)
def s_f5_r3t5:List AOper:=[⟨some 4,(.move (.t 27)),none⟩]
def s_f5_r3p4:List AOper:=[⟨none,(.store 2 (.t 3) (.t 26)),none⟩]
def s_f5_r3t4:List AOper:=s_f5_r3p4 ++ s_f5_r3t5
def s_f5_r3p3:List AOper:=[⟨some 3,(.alloc [(.s (.slice none 0 0)),(.s (.slice none 0 0))]),none⟩]
def s_f5_r3t3:List AOper:=s_f5_r3p3 ++ s_f5_r3t4
def s_f5_r3p2:List AOper:=[⟨some 23,(.move (.t 25)),none⟩,⟨some 26,(.extract (.t 23) 0),none⟩,⟨some 27,(.extract (.t 23) 1),none⟩]
def s_f5_r3t2:List AOper:=s_f5_r3p2 ++ s_f5_r3t3
def s_f5_r3p1:List AOper:=[⟨some 25,(.call (.c (.fn 13 [] [])) [(.t 24)]),none⟩]
def s_f5_r3t1:List AOper:=s_f5_r3p1 ++ s_f5_r3t2
def s_f5_r3p0:List AOper:=[⟨some 24,(.load true 3 (.t 1)),none⟩]
def s_f5_r3:List AOper:=s_f5_r3p0 ++ s_f5_r3t1
def s_f5_r3p0_tale:=hT s_f5_r3p0 [22] [24] 25 [] [(24,(.op (.load true 3 (.t 0)) [(.t 1)]))] [.sub 0 [] []] (by kernel_rfl) (by kernel_rfl)
def s_f5_r3_x:=hS s_f5_r3 s_f5_r3p0 s_f5_r3t1 [22] [24] [22,23,24,25,26,27] rfl (by kernel_rfl)
def s_f5_r3t1_x:=hO s_f5_r3t1 s_f5_r3p1 s_f5_r3t2 [24] [22,23,24,25,26,27] [⟨some 25,(.call (.c (.fn 13 [] [])) [(.t 24)]),none⟩] rfl rfl (by kernel_rfl)
def s_f5_r3p2_tale:=hT s_f5_r3p2 [23,25] [26,27] 28 [] [(26,(.op (.extract (.t 0) 0) [(.t 25)])),(27,(.op (.extract (.t 0) 1) [(.t 25)]))] [.tt 25,.sub 0 [] [],.sub 1 [] []] (by kernel_rfl) (by kernel_rfl)
def s_f5_r3t2_x:=hS s_f5_r3t2 s_f5_r3p2 s_f5_r3t3 [23,25] [26,27] [22,23,24,25,26,27] rfl (by kernel_rfl)
def s_f5_r3t3_x:=hO s_f5_r3t3 s_f5_r3p3 s_f5_r3t4 [] [22,23,24,25,26,27] [⟨some 3,(.alloc [(.s (.slice none 0 0)),(.s (.slice none 0 0))]),none⟩] rfl rfl (by kernel_rfl)
def s_f5_r3t4_x:=hO s_f5_r3t4 s_f5_r3p4 s_f5_r3t5 [26] [22,23,24,25,26,27] [⟨none,(.store 2 (.t 3) (.t 26)),none⟩] rfl rfl (by kernel_rfl)
def s_f5_r3t5_tale:=hT s_f5_r3t5 [22,23,24,25,26,27] [4] 5 [] [(4,(.t 27))] [.tt 27] (by kernel_rfl) (by kernel_rfl)
def s_f5_r3t5_x:=hL s_f5_r3t5 [22,23,24,25,26,27] [4]
def s_f5_r4t2:List AOper:=[⟨some 5,(.move (.t 29)),none⟩]
def s_f5_r4p1:List AOper:=[⟨some 29,(.call (.c (.fn 15 [] [])) [(.t 28)]),none⟩]
def s_f5_r4t1:List AOper:=s_f5_r4p1 ++ s_f5_r4t2
def s_f5_r4p0:List AOper:=[⟨some 28,(.load true 3 (.t 1)),none⟩]
def s_f5_r4:List AOper:=s_f5_r4p0 ++ s_f5_r4t1
def s_f5_r4p0_tale:=hT s_f5_r4p0 [] [28] 29 [] [(28,(.op (.load true 3 (.t 0)) [(.t 1)]))] [.sub 0 [] []] (by kernel_rfl) (by kernel_rfl)
def s_f5_r4_x:=hS s_f5_r4 s_f5_r4p0 s_f5_r4t1 [] [28] [28,29] rfl (by kernel_rfl)
def s_f5_r4t1_x:=hO s_f5_r4t1 s_f5_r4p1 s_f5_r4t2 [28] [28,29] [⟨some 29,(.call (.c (.fn 15 [] [])) [(.t 28)]),none⟩] rfl rfl (by kernel_rfl)
def s_f5_r4t2_tale:=hT s_f5_r4t2 [28,29] [5] 6 [] [(5,(.t 29))] [.tt 29] (by kernel_rfl) (by kernel_rfl)
def s_f5_r4t2_x:=hL s_f5_r4t2 [28,29] [5]
def s_f5_r5:List AOper:=[
 ⟨some 30,(.move (.t 4)),none⟩,
 ⟨some 31,(.bin .neq (.t 30) (.c (.s (.int .i64 0)))),none⟩]
def s_f5_r5_tale:=hT s_f5_r5 [4,30] [31] 32 [] [(31,(.op (.bin .neq (.t 0) (.c (.s (.int .i64 0)))) [(.t 4),(.c (.s (.int .i64 0)))]))] [.tt 4,.sub 0 [] []] (by kernel_rfl) (by kernel_rfl)
def s_f5_r6t2:List AOper:=[⟨some 45,(.pick (.t 43) (.t 44) (.c (.s (.bool false)))),none⟩,⟨some 2,(.move (.t 45)),none⟩]
def s_f5_r6p1:List AOper:=[⟨some 44,(.call (.c (.fn 11 [] [])) []),some (43,true)⟩]
def s_f5_r6t1:List AOper:=s_f5_r6p1 ++ s_f5_r6t2
def s_f5_r6p0:List AOper:=[⟨some 32,(.fieldAddr 0 (.t 3)),none⟩,⟨some 33,(.load false 1 (.t 32)),none⟩,⟨some 34,(.lenS .s (.t 33)),none⟩,⟨some 35,(.fieldAddr 1 (.t 3)),none⟩,⟨some 36,(.load false 1 (.t 35)),none⟩,⟨some 37,(.lenS .s (.t 36)),none⟩,⟨some 38,(.bin .add (.t 34) (.t 37)),none⟩,⟨some 39,(.move (.t 5)),none⟩,⟨some 40,(.lenS .s (.t 39)),none⟩,⟨some 41,(.bin .add (.t 38) (.t 40)),none⟩,⟨some 42,(.bin .eql (.t 41) (.c (.s (.int .i64 0)))),none⟩,⟨some 43,(.move (.t 42)),none⟩]
def s_f5_r6:List AOper:=s_f5_r6p0 ++ s_f5_r6t1
def s_f5_r6p0_tale:=hT s_f5_r6p0 [1,3,5,31,32,33,34,35,36,37,38,39,40,41,42] [43] 44 [] [(43,(.op (.bin .eql (.t 0) (.c (.s (.int .i64 0)))) [(.op (.bin .add (.t 0) (.t 1)) [(.op (.bin .add (.t 0) (.t 1)) [(.op (.lenS .s (.t 0)) [(.op (.load false 1 (.t 0)) [(.op (.fieldAddr 0 (.t 0)) [(.t 3)])])]),(.op (.lenS .s (.t 0)) [(.op (.load false 1 (.t 0)) [(.op (.fieldAddr 1 (.t 0)) [(.t 3)])])])]),(.op (.lenS .s (.t 0)) [(.t 5)])]),(.c (.s (.int .i64 0)))]))] [.sub 0 [0,0,0,0,0] [],.sub 0 [0,0,0,0] [],.sub 0 [0,0,0] [],.sub 0 [0,0,1,0,0] [],.sub 0 [0,0,1,0] [],.sub 0 [0,0,1] [],.sub 0 [0,0] [],.tt 5,.sub 0 [0,1] [],.sub 0 [0] [],.sub 0 [] [],.sub 0 [] []] (by kernel_rfl) (by kernel_rfl)
def s_f5_r6_x:=hS s_f5_r6 s_f5_r6p0 s_f5_r6t1 [1,3,5,31,32,33,34,35,36,37,38,39,40,41,42] [43] [1,3,5,31,32,33,34,35,36,37,38,39,40,41,42,43,44,45] rfl (by kernel_rfl)
def s_f5_r6t1_x:=hO s_f5_r6t1 s_f5_r6p1 s_f5_r6t2 [] [1,3,5,31,32,33,34,35,36,37,38,39,40,41,42,43,44,45] [⟨some 44,(.call (.c (.fn 11 [] [])) []),some (43,true)⟩] rfl rfl (by kernel_rfl)
def s_f5_r6t2_tale:=hT s_f5_r6t2 [1,3,5,31,32,33,34,35,36,37,38,39,40,41,42,43,44,45] [2] 46 [] [(2,(.pick (.t 43) (.t 44) (.c (.s (.bool false)))))] [.sub 0 [] [],.sub 0 [] []] (by kernel_rfl) (by kernel_rfl)
def s_f5_r6t2_x:=hL s_f5_r6t2 [1,3,5,31,32,33,34,35,36,37,38,39,40,41,42,43,44,45] [2]
def s_f5_r7:List AOper:=[
 ⟨some 46,(.fieldAddr 2 (.t 1)),none⟩,
 ⟨some 47,(.load false 1 (.t 46)),none⟩,
 ⟨some 48,(.lenS .s (.t 47)),none⟩,
 ⟨some 6,(.move (.t 48)),none⟩]
def s_f5_r7_tale:=hT s_f5_r7 [31,46,47,48] [6] 49 [] [(6,(.op (.lenS .s (.t 0)) [(.op (.load false 1 (.t 0)) [(.op (.fieldAddr 2 (.t 0)) [(.t 1)])])]))] [.sub 0 [0,0] [],.sub 0 [0] [],.sub 0 [] [],.sub 0 [] []] (by kernel_rfl) (by kernel_rfl)
def s_f5_r8:List AOper:=[
 ⟨some 49,(.fieldAddr 0 (.t 3)),none⟩,
 ⟨some 50,(.load false 1 (.t 49)),none⟩,
 ⟨some 51,(.lenS .s (.t 50)),none⟩,
 ⟨some 52,(.move (.t 6)),none⟩,
 ⟨some 53,(.bin .neq (.t 51) (.t 52)),none⟩,
 ⟨some 54,(.move (.t 53)),none⟩,
 ⟨some 55,(.fieldAddr 1 (.t 3)),some (54,false)⟩,
 ⟨some 56,(.load false 1 (.t 55)),some (54,false)⟩,
 ⟨some 57,(.lenS .s (.t 56)),some (54,false)⟩,
 ⟨some 58,(.move (.t 6)),some (54,false)⟩,
 ⟨some 59,(.bin .neq (.t 57) (.t 58)),some (54,false)⟩,
 ⟨some 60,(.pick (.t 54) (.c (.s (.bool true))) (.t 59)),none⟩,
 ⟨some 61,(.move (.t 60)),none⟩,
 ⟨some 62,(.move (.t 5)),some (61,false)⟩,
 ⟨some 63,(.lenS .s (.t 62)),some (61,false)⟩,
 ⟨some 64,(.move (.t 6)),some (61,false)⟩,
 ⟨some 65,(.bin .neq (.t 63) (.t 64)),some (61,false)⟩,
 ⟨some 66,(.pick (.t 61) (.c (.s (.bool true))) (.t 65)),none⟩]
def s_f5_r8_tale:=hT s_f5_r8 [49,50,51,52,53,54,55,56,57,58,59,60,61,62,63,64,65] [66] 67 [] [(66,(.pick (.pick (.op (.bin .neq (.t 0) (.t 1)) [(.op (.lenS .s (.t 0)) [(.op (.load false 1 (.t 0)) [(.op (.fieldAddr 0 (.t 0)) [(.t 3)])])]),(.t 6)]) (.c (.s (.bool true))) (.op (.bin .neq (.t 0) (.t 1)) [(.op (.lenS .s (.t 0)) [(.op (.load false 1 (.t 0)) [(.op (.fieldAddr 1 (.t 0)) [(.t 3)])])]),(.t 6)])) (.c (.s (.bool true))) (.op (.bin .neq (.t 0) (.t 1)) [(.op (.lenS .s (.t 0)) [(.t 5)]),(.t 6)])))] [.sub 0 [0,0,0,0,0] [],.sub 0 [0,0,0,0] [],.sub 0 [0,0,0] [],.tt 6,.sub 0 [0,0] [],.sub 0 [0,0] [],.sub 0 [0,2,0,0,0] [54],.sub 0 [0,2,0,0] [54],.sub 0 [0,2,0] [54],.sub 0 [0,2,1] [54],.sub 0 [0,2] [54],.sub 0 [0] [],.sub 0 [0] [],.sub 0 [2,0,0] [61],.sub 0 [2,0] [61],.sub 0 [2,1] [61],.sub 0 [2] [61],.sub 0 [] []] (by kernel_rfl) (by kernel_rfl)
def s_f5_r9:List AOper:=[
 ⟨some 2,(.move (.c (.s (.bool false)))),none⟩]
def s_f5_r9_tale:=hT s_f5_r9 [1,3,5,6,66] [2] 3 [] [(2,(.c (.s (.bool false))))] [.cc (.s (.bool false))] (by kernel_rfl) (by kernel_rfl)
def s_f5_r10:List AOper:=[
 ⟨some 7,(.move (.c (.s (.int .i64 0)))),none⟩]
def s_f5_r10_tale:=hT s_f5_r10 [66] [7] 8 [] [(7,(.c (.s (.int .i64 0))))] [.cc (.s (.int .i64 0))] (by kernel_rfl) (by kernel_rfl)
def s_f5_r11:List AOper:=[
 ⟨some 67,(.move (.t 7)),none⟩,
 ⟨some 68,(.move (.t 6)),none⟩,
 ⟨some 69,(.bin .lss (.t 67) (.t 68)),none⟩]
def s_f5_r11_tale:=hT s_f5_r11 [67,68] [69] 70 [] [(69,(.op (.bin .lss (.t 0) (.t 1)) [(.t 7),(.t 6)]))] [.tt 7,.tt 6,.sub 0 [] []] (by kernel_rfl) (by kernel_rfl)
def s_f5_r12:List AOper:=[
 ⟨some 72,(.fieldAddr 2 (.t 1)),none⟩,
 ⟨some 73,(.load false 1 (.t 72)),none⟩,
 ⟨some 74,(.move (.t 7)),none⟩,
 ⟨some 75,(.indexAddr 2 (.t 73) (.t 74)),none⟩,
 ⟨some 76,(.fieldAddr 1 (.t 75)),none⟩,
 ⟨some 77,(.load false 1 (.t 76)),none⟩,
 ⟨some 8,(.move (.t 77)),none⟩]
def s_f5_r12_tale:=hT s_f5_r12 [69,72,73,74,75,76,77] [8] 78 [] [(8,(.op (.load false 1 (.t 0)) [(.op (.fieldAddr 1 (.t 0)) [(.op (.indexAddr 2 (.t 0) (.t 1)) [(.op (.load false 1 (.t 0)) [(.op (.fieldAddr 2 (.t 0)) [(.t 1)])]),(.t 7)])])]))] [.sub 0 [0,0,0,0] [],.sub 0 [0,0,0] [],.tt 7,.sub 0 [0,0] [],.sub 0 [0] [],.sub 0 [] [],.sub 0 [] []] (by kernel_rfl) (by kernel_rfl)
def s_f5_r13t2:List AOper:=[⟨none,(.store 8 (.t 9) (.t 83)),none⟩]
def s_f5_r13p1:List AOper:=[⟨some 9,(.alloc [(.s (.int .u8 0)),(.s (.string ⟨#[]⟩)),(.s (.string ⟨#[]⟩)),(.s (.string ⟨#[]⟩)),(.s (.int .i64 0)),(.s (.string ⟨#[]⟩)),(.s (.slice none 0 0)),(.s (.slice none 0 0))]),none⟩]
def s_f5_r13t1:List AOper:=s_f5_r13p1 ++ s_f5_r13t2
def s_f5_r13p0:List AOper:=[⟨some 78,(.move (.t 8)),none⟩,⟨some 79,(.move (.t 8)),none⟩,⟨some 80,(.lenS .s (.t 79)),none⟩,⟨some 81,(.bin .sub (.t 80) (.c (.s (.int .i64 1)))),none⟩,⟨some 82,(.indexAddr 8 (.t 78) (.t 81)),none⟩,⟨some 83,(.load true 8 (.t 82)),none⟩]
def s_f5_r13:List AOper:=s_f5_r13p0 ++ s_f5_r13t1
def s_f5_r13p0_tale:=hT s_f5_r13p0 [8,78,79,80,81,82] [83] 84 [] [(83,(.op (.load true 8 (.t 0)) [(.op (.indexAddr 8 (.t 0) (.t 1)) [(.t 8),(.op (.bin .sub (.t 0) (.c (.s (.int .i64 1)))) [(.op (.lenS .s (.t 0)) [(.t 8)]),(.c (.s (.int .i64 1)))])])]))] [.tt 8,.tt 8,.sub 0 [0,1,0] [],.sub 0 [0,1] [],.sub 0 [0] [],.sub 0 [] []] (by kernel_rfl) (by kernel_rfl)
def s_f5_r13_x:=hS s_f5_r13 s_f5_r13p0 s_f5_r13t1 [8,78,79,80,81,82] [83] [8,78,79,80,81,82,83] rfl (by kernel_rfl)
def s_f5_r13t1_x:=hO s_f5_r13t1 s_f5_r13p1 s_f5_r13t2 [] [8,78,79,80,81,82,83] [⟨some 9,(.alloc [(.s (.int .u8 0)),(.s (.string ⟨#[]⟩)),(.s (.string ⟨#[]⟩)),(.s (.string ⟨#[]⟩)),(.s (.int .i64 0)),(.s (.string ⟨#[]⟩)),(.s (.slice none 0 0)),(.s (.slice none 0 0))]),none⟩] rfl rfl (by kernel_rfl)
def s_f5_r13t2_x:=hX s_f5_r13t2 [8,78,79,80,81,82,83] [⟨none,(.store 8 (.t 9) (.t 83)),none⟩] rfl
def s_f5_r14:List AOper:=[
 ⟨some 10,(.move (.c (.s (.int .i64 0)))),none⟩]
def s_f5_r14_tale:=hT s_f5_r14 [] [10] 11 [] [(10,(.c (.s (.int .i64 0))))] [.cc (.s (.int .i64 0))] (by kernel_rfl) (by kernel_rfl)
def s_f5_r15:List AOper:=[
 ⟨some 84,(.move (.t 10)),none⟩,
 ⟨some 85,(.fieldAddr 0 (.t 3)),none⟩,
 ⟨some 86,(.load false 1 (.t 85)),none⟩,
 ⟨some 87,(.move (.t 7)),none⟩,
 ⟨some 88,(.indexAddr 1 (.t 86) (.t 87)),none⟩,
 ⟨some 89,(.load false 1 (.t 88)),none⟩,
 ⟨some 90,(.lenS .s (.t 89)),none⟩,
 ⟨some 91,(.bin .lss (.t 84) (.t 90)),none⟩]
def s_f5_r15_tale:=hT s_f5_r15 [84,85,86,87,88,89,90] [91] 92 [] [(91,(.op (.bin .lss (.t 0) (.t 1)) [(.t 10),(.op (.lenS .s (.t 0)) [(.op (.load false 1 (.t 0)) [(.op (.indexAddr 1 (.t 0) (.t 1)) [(.op (.load false 1 (.t 0)) [(.op (.fieldAddr 0 (.t 0)) [(.t 3)])]),(.t 7)])])])]))] [.tt 10,.sub 0 [1,0,0,0,0] [],.sub 0 [1,0,0,0] [],.tt 7,.sub 0 [1,0,0] [],.sub 0 [1,0] [],.sub 0 [1] [],.sub 0 [] []] (by kernel_rfl) (by kernel_rfl)
def s_f5_r16:List AOper:=[
 ⟨some 94,(.fieldAddr 0 (.t 3)),none⟩,
 ⟨some 95,(.load false 1 (.t 94)),none⟩,
 ⟨some 96,(.move (.t 7)),none⟩,
 ⟨some 97,(.indexAddr 1 (.t 95) (.t 96)),none⟩,
 ⟨some 98,(.load false 1 (.t 97)),none⟩,
 ⟨some 99,(.move (.t 10)),none⟩,
 ⟨some 100,(.indexAddr 1 (.t 98) (.t 99)),none⟩,
 ⟨some 101,(.load false 1 (.t 100)),none⟩,
 ⟨some 11,(.move (.t 101)),none⟩]
def s_f5_r16_tale:=hT s_f5_r16 [91,94,95,96,97,98,99,100,101] [11] 102 [] [(11,(.op (.load false 1 (.t 0)) [(.op (.indexAddr 1 (.t 0) (.t 1)) [(.op (.load false 1 (.t 0)) [(.op (.indexAddr 1 (.t 0) (.t 1)) [(.op (.load false 1 (.t 0)) [(.op (.fieldAddr 0 (.t 0)) [(.t 3)])]),(.t 7)])]),(.t 10)])]))] [.sub 0 [0,0,0,0,0] [],.sub 0 [0,0,0,0] [],.tt 7,.sub 0 [0,0,0] [],.sub 0 [0,0] [],.tt 10,.sub 0 [0] [],.sub 0 [] [],.sub 0 [] []] (by kernel_rfl) (by kernel_rfl)
def s_f5_r17t8:List AOper:=[⟨some 134,(.un .not (.t 133)),some (126,false)⟩,⟨some 135,(.pick (.t 126) (.c (.s (.bool true))) (.t 134)),none⟩]
def s_f5_r17p7:List AOper:=[⟨some 133,(.call (.c (.fn 16 [] [])) [(.t 127),(.t 132)]),some (126,false)⟩]
def s_f5_r17t7:List AOper:=s_f5_r17p7 ++ s_f5_r17t8
def s_f5_r17p6:List AOper:=[⟨some 132,(.load false 1 (.t 131)),some (126,false)⟩]
def s_f5_r17t6:List AOper:=s_f5_r17p6 ++ s_f5_r17t7
def s_f5_r17p5:List AOper:=[⟨some 131,(.indexAddr 1 (.t 129) (.t 130)),some (126,false)⟩]
def s_f5_r17t5:List AOper:=s_f5_r17p5 ++ s_f5_r17t6
def s_f5_r17p4:List AOper:=[⟨some 130,(.move (.t 11)),some (126,false)⟩]
def s_f5_r17t4:List AOper:=s_f5_r17p4 ++ s_f5_r17t5
def s_f5_r17p3:List AOper:=[⟨some 129,(.load false 1 (.t 128)),some (126,false)⟩]
def s_f5_r17t3:List AOper:=s_f5_r17p3 ++ s_f5_r17t4
def s_f5_r17p2:List AOper:=[⟨some 128,(.fieldAddr 1 (.t 3)),some (126,false)⟩]
def s_f5_r17t2:List AOper:=s_f5_r17p2 ++ s_f5_r17t3
def s_f5_r17p1:List AOper:=[⟨some 127,(.move (.t 7)),some (126,false)⟩]
def s_f5_r17t1:List AOper:=s_f5_r17p1 ++ s_f5_r17t2
def s_f5_r17p0:List AOper:=[⟨some 102,(.move (.t 11)),none⟩,⟨some 103,(.bin .lss (.t 102) (.c (.s (.int .i64 0)))),none⟩,⟨some 104,(.move (.t 103)),none⟩,⟨some 105,(.move (.t 11)),some (104,false)⟩,⟨some 106,(.move (.t 6)),some (104,false)⟩,⟨some 107,(.bin .geq (.t 105) (.t 106)),some (104,false)⟩,⟨some 108,(.pick (.t 104) (.c (.s (.bool true))) (.t 107)),none⟩,⟨some 109,(.move (.t 108)),none⟩,⟨some 110,(.move (.t 10)),some (109,false)⟩,⟨some 111,(.bin .gtr (.t 110) (.c (.s (.int .i64 0)))),some (109,false)⟩,⟨some 112,(.move (.t 111)),some (109,false)⟩,⟨some 113,(.fieldAddr 0 (.t 3)),some (112,true)⟩,⟨some 114,(.load false 1 (.t 113)),some (112,true)⟩,⟨some 115,(.move (.t 7)),some (112,true)⟩,⟨some 116,(.indexAddr 1 (.t 114) (.t 115)),some (112,true)⟩,⟨some 117,(.load false 1 (.t 116)),some (112,true)⟩,⟨some 118,(.move (.t 10)),some (112,true)⟩,⟨some 119,(.bin .sub (.t 118) (.c (.s (.int .i64 1)))),some (112,true)⟩,⟨some 120,(.indexAddr 1 (.t 117) (.t 119)),some (112,true)⟩,⟨some 121,(.load false 1 (.t 120)),some (112,true)⟩,⟨some 122,(.move (.t 11)),some (112,true)⟩,⟨some 123,(.bin .geq (.t 121) (.t 122)),some (112,true)⟩,⟨some 124,(.pick (.t 112) (.t 123) (.c (.s (.bool false)))),some (109,false)⟩,⟨some 125,(.pick (.t 109) (.c (.s (.bool true))) (.t 124)),none⟩,⟨some 126,(.move (.t 125)),none⟩]
def s_f5_r17:List AOper:=s_f5_r17p0 ++ s_f5_r17t1
def s_f5_r17p0_tale:=hT s_f5_r17p0 [102,103,104,105,106,107,108,109,110,111,112,113,114,115,116,117,118,119,120,121,122,123,124,125] [126] 127 [] [(126,(.pick (.pick (.op (.bin .lss (.t 0) (.c (.s (.int .i64 0)))) [(.t 11),(.c (.s (.int .i64 0)))]) (.c (.s (.bool true))) (.op (.bin .geq (.t 0) (.t 1)) [(.t 11),(.t 6)])) (.c (.s (.bool true))) (.pick (.op (.bin .gtr (.t 0) (.c (.s (.int .i64 0)))) [(.t 10),(.c (.s (.int .i64 0)))]) (.op (.bin .geq (.t 0) (.t 1)) [(.op (.load false 1 (.t 0)) [(.op (.indexAddr 1 (.t 0) (.t 1)) [(.op (.load false 1 (.t 0)) [(.op (.indexAddr 1 (.t 0) (.t 1)) [(.op (.load false 1 (.t 0)) [(.op (.fieldAddr 0 (.t 0)) [(.t 3)])]),(.t 7)])]),(.op (.bin .sub (.t 0) (.c (.s (.int .i64 1)))) [(.t 10),(.c (.s (.int .i64 1)))])])]),(.t 11)]) (.c (.s (.bool false))))))] [.tt 11,.sub 0 [0,0] [],.sub 0 [0,0] [],.sub 0 [0,2,0] [104],.sub 0 [0,2,1] [104],.sub 0 [0,2] [104],.sub 0 [0] [],.sub 0 [0] [],.sub 0 [2,0,0] [109],.sub 0 [2,0] [109],.sub 0 [2,0] [109],.sub 0 [2,1,0,0,0,0,0,0] [109,112],.sub 0 [2,1,0,0,0,0,0] [109,112],.sub 0 [2,1,0,0,0,0,1] [109,112],.sub 0 [2,1,0,0,0,0] [109,112],.sub 0 [2,1,0,0,0] [109,112],.sub 0 [2,1,0,0,1,0] [109,112],.sub 0 [2,1,0,0,1] [109,112],.sub 0 [2,1,0,0] [109,112],.sub 0 [2,1,0] [109,112],.sub 0 [2,1,1] [109,112],.sub 0 [2,1] [109,112],.sub 0 [2] [109],.sub 0 [] [],.sub 0 [] []] (by kernel_rfl) (by kernel_rfl)
def s_f5_r17_x:=hS s_f5_r17 s_f5_r17p0 s_f5_r17t1 [102,103,104,105,106,107,108,109,110,111,112,113,114,115,116,117,118,119,120,121,122,123,124,125] [126] [102,103,104,105,106,107,108,109,110,111,112,113,114,115,116,117,118,119,120,121,122,123,124,125,126,127,128,129,130,131,132,133,134] rfl (by kernel_rfl)
def s_f5_r17t1_x:=hO s_f5_r17t1 s_f5_r17p1 s_f5_r17t2 [] [102,103,104,105,106,107,108,109,110,111,112,113,114,115,116,117,118,119,120,121,122,123,124,125,126,127,128,129,130,131,132,133,134] [⟨some 127,(.move (.t 7)),some (126,false)⟩] rfl rfl (by kernel_rfl)
def s_f5_r17t2_x:=hO s_f5_r17t2 s_f5_r17p2 s_f5_r17t3 [] [102,103,104,105,106,107,108,109,110,111,112,113,114,115,116,117,118,119,120,121,122,123,124,125,126,127,128,129,130,131,132,133,134] [⟨some 128,(.fieldAddr 1 (.t 3)),some (126,false)⟩] rfl rfl (by kernel_rfl)
def s_f5_r17t3_x:=hO s_f5_r17t3 s_f5_r17p3 s_f5_r17t4 [128] [102,103,104,105,106,107,108,109,110,111,112,113,114,115,116,117,118,119,120,121,122,123,124,125,126,127,128,129,130,131,132,133,134] [⟨some 129,(.load false 1 (.t 128)),some (126,false)⟩] rfl rfl (by kernel_rfl)
def s_f5_r17t4_x:=hO s_f5_r17t4 s_f5_r17p4 s_f5_r17t5 [] [102,103,104,105,106,107,108,109,110,111,112,113,114,115,116,117,118,119,120,121,122,123,124,125,126,127,128,129,130,131,132,133,134] [⟨some 130,(.move (.t 11)),some (126,false)⟩] rfl rfl (by kernel_rfl)
def s_f5_r17t5_x:=hO s_f5_r17t5 s_f5_r17p5 s_f5_r17t6 [129,130] [102,103,104,105,106,107,108,109,110,111,112,113,114,115,116,117,118,119,120,121,122,123,124,125,126,127,128,129,130,131,132,133,134] [⟨some 131,(.indexAddr 1 (.t 129) (.t 130)),some (126,false)⟩] rfl rfl (by kernel_rfl)
def s_f5_r17t6_x:=hO s_f5_r17t6 s_f5_r17p6 s_f5_r17t7 [131] [102,103,104,105,106,107,108,109,110,111,112,113,114,115,116,117,118,119,120,121,122,123,124,125,126,127,128,129,130,131,132,133,134] [⟨some 132,(.load false 1 (.t 131)),some (126,false)⟩] rfl rfl (by kernel_rfl)
def s_f5_r17t7_x:=hO s_f5_r17t7 s_f5_r17p7 s_f5_r17t8 [127,132] [102,103,104,105,106,107,108,109,110,111,112,113,114,115,116,117,118,119,120,121,122,123,124,125,126,127,128,129,130,131,132,133,134] [⟨some 133,(.call (.c (.fn 16 [] [])) [(.t 127),(.t 132)]),some (126,false)⟩] rfl rfl (by kernel_rfl)
def s_f5_r17t8_tale:=hT s_f5_r17t8 [102,103,104,105,106,107,108,109,110,111,112,113,114,115,116,117,118,119,120,121,122,123,124,125,126,127,128,129,130,131,132,133,134] [135] 136 [] [(135,(.pick (.t 126) (.c (.s (.bool true))) (.op (.un .not (.t 0)) [(.t 133)])))] [.sub 0 [2] [126],.sub 0 [] []] (by kernel_rfl) (by kernel_rfl)
def s_f5_r17t8_x:=hL s_f5_r17t8 [102,103,104,105,106,107,108,109,110,111,112,113,114,115,116,117,118,119,120,121,122,123,124,125,126,127,128,129,130,131,132,133,134] [135]
def s_f5_r18:List AOper:=[
 ⟨some 2,(.move (.c (.s (.bool false)))),none⟩]
def s_f5_r18_tale:=hT s_f5_r18 [1,3,5,6,7,9,10,11,135] [2] 3 [] [(2,(.c (.s (.bool false))))] [.cc (.s (.bool false))] (by kernel_rfl) (by kernel_rfl)
def s_f5_r19:List AOper:=[
 ⟨some 12,(.move (.c (.s (.bool false)))),none⟩]
def s_f5_r19_tale:=hT s_f5_r19 [135] [12] 13 [] [(12,(.c (.s (.bool false))))] [.cc (.s (.bool false))] (by kernel_rfl) (by kernel_rfl)
def s_f5_r20:List AOper:=[
 ⟨some 13,(.move (.c (.s (.int .i64 0)))),none⟩]
def s_f5_r20_tale:=hT s_f5_r20 [] [13] 14 [] [(13,(.c (.s (.int .i64 0))))] [.cc (.s (.int .i64 0))] (by kernel_rfl) (by kernel_rfl)
def s_f5_r21:List AOper:=[
 ⟨some 136,(.move (.t 13)),none⟩,
 ⟨some 137,(.fieldAddr 7 (.t 9)),none⟩,
 ⟨some 138,(.load false 1 (.t 137)),none⟩,
 ⟨some 139,(.lenS .s (.t 138)),none⟩,
 ⟨some 140,(.bin .lss (.t 136) (.t 139)),none⟩]
def s_f5_r21_tale:=hT s_f5_r21 [136,137,138,139] [140] 141 [] [(140,(.op (.bin .lss (.t 0) (.t 1)) [(.t 13),(.op (.lenS .s (.t 0)) [(.op (.load false 1 (.t 0)) [(.op (.fieldAddr 7 (.t 0)) [(.t 9)])])])]))] [.tt 13,.sub 0 [1,0,0] [],.sub 0 [1,0] [],.sub 0 [1] [],.sub 0 [] []] (by kernel_rfl) (by kernel_rfl)
def s_f5_r22:List AOper:=[
 ⟨some 143,(.move (.t 12)),none⟩,
 ⟨some 144,(.move (.t 143)),none⟩,
 ⟨some 145,(.fieldAddr 7 (.t 9)),some (144,false)⟩,
 ⟨some 146,(.load false 1 (.t 145)),some (144,false)⟩,
 ⟨some 147,(.move (.t 13)),some (144,false)⟩,
 ⟨some 148,(.indexAddr 1 (.t 146) (.t 147)),some (144,false)⟩,
 ⟨some 149,(.load false 1 (.t 148)),some (144,false)⟩,
 ⟨some 150,(.fieldAddr 2 (.t 1)),some (144,false)⟩,
 ⟨some 151,(.load false 1 (.t 150)),some (144,false)⟩,
 ⟨some 152,(.move (.t 11)),some (144,false)⟩,
 ⟨some 153,(.indexAddr 2 (.t 151) (.t 152)),some (144,false)⟩,
 ⟨some 154,(.fieldAddr 0 (.t 153)),some (144,false)⟩,
 ⟨some 155,(.load false 1 (.t 154)),some (144,false)⟩,
 ⟨some 156,(.bin .eql (.t 149) (.t 155)),some (144,false)⟩,
 ⟨some 157,(.pick (.t 144) (.c (.s (.bool true))) (.t 156)),none⟩,
 ⟨some 12,(.move (.t 157)),none⟩]
def s_f5_r22_tale:=hT s_f5_r22 [140,143,144,145,146,147,148,149,150,151,152,153,154,155,156,157] [12] 158 [] [(12,(.pick (.t 12) (.c (.s (.bool true))) (.op (.bin .eql (.t 0) (.t 1)) [(.op (.load false 1 (.t 0)) [(.op (.indexAddr 1 (.t 0) (.t 1)) [(.op (.load false 1 (.t 0)) [(.op (.fieldAddr 7 (.t 0)) [(.t 9)])]),(.t 13)])]),(.op (.load false 1 (.t 0)) [(.op (.fieldAddr 0 (.t 0)) [(.op (.indexAddr 2 (.t 0) (.t 1)) [(.op (.load false 1 (.t 0)) [(.op (.fieldAddr 2 (.t 0)) [(.t 1)])]),(.t 11)])])])])))] [.tt 12,.tt 12,.sub 0 [2,0,0,0,0] [144],.sub 0 [2,0,0,0] [144],.sub 0 [2,0,0,1] [144],.sub 0 [2,0,0] [144],.sub 0 [2,0] [144],.sub 0 [2,1,0,0,0,0] [144],.sub 0 [2,1,0,0,0] [144],.sub 0 [2,1,0,0,1] [144],.sub 0 [2,1,0,0] [144],.sub 0 [2,1,0] [144],.sub 0 [2,1] [144],.sub 0 [2] [144],.sub 0 [] [],.sub 0 [] []] (by kernel_rfl) (by kernel_rfl)
def s_f5_r23:List AOper:=[
 ⟨some 141,(.move (.t 13)),none⟩,
 ⟨some 142,(.bin .add (.t 141) (.c (.s (.int .i64 1)))),none⟩,
 ⟨some 13,(.move (.t 142)),none⟩]
def s_f5_r23_tale:=hT s_f5_r23 [141,142] [13] 143 [] [(13,(.op (.bin .add (.t 0) (.c (.s (.int .i64 1)))) [(.t 13),(.c (.s (.int .i64 1)))]))] [.tt 13,.sub 0 [] [],.sub 0 [] []] (by kernel_rfl) (by kernel_rfl)
def s_f5_l0_b:ACode:=
 (.seq (.seq (.regionE s_f5_r21 [136,137,138,139] [140])
 (.cond (.t 140)
 .skip
 (.exit 4)))
 (.seq (.block 5
 (.regionE s_f5_r22 [140,143,144,145,146,147,148,149,150,151,152,153,154,155,156,157] [12]))
 (.regionE s_f5_r23 [141,142] [13])))
def s_f5_l0:ACode:=s_f5_l0_b
def s_f5_l0_ev:=hE s_f5_l0 s_f5_l0_b rfl
def s_f5_r24:List AOper:=[
 ⟨some 158,(.move (.t 12)),none⟩,
 ⟨some 159,(.un .not (.t 158)),none⟩,
 ⟨some 160,(.move (.t 159)),none⟩,
 ⟨some 161,(.fieldAddr 0 (.t 9)),some (160,false)⟩,
 ⟨some 162,(.load false 1 (.t 161)),some (160,false)⟩,
 ⟨some 163,(.bin .eql (.t 162) (.c (.s (.int .u8 14)))),some (160,false)⟩,
 ⟨some 164,(.pick (.t 160) (.c (.s (.bool true))) (.t 163)),none⟩]
def s_f5_r24_tale:=hT s_f5_r24 [11,12,13,140,158,159,160,161,162,163] [164] 165 [] [(164,(.pick (.op (.un .not (.t 0)) [(.t 12)]) (.c (.s (.bool true))) (.op (.bin .eql (.t 0) (.c (.s (.int .u8 14)))) [(.op (.load false 1 (.t 0)) [(.op (.fieldAddr 0 (.t 0)) [(.t 9)])]),(.c (.s (.int .u8 14)))])))] [.tt 12,.sub 0 [0] [],.sub 0 [0] [],.sub 0 [2,0,0] [160],.sub 0 [2,0] [160],.sub 0 [2] [160],.sub 0 [] []] (by kernel_rfl) (by kernel_rfl)
def s_f5_r25:List AOper:=[
 ⟨some 2,(.move (.c (.s (.bool false)))),none⟩]
def s_f5_r25_tale:=hT s_f5_r25 [1,3,5,6,7,9,10,164] [2] 3 [] [(2,(.c (.s (.bool false))))] [.cc (.s (.bool false))] (by kernel_rfl) (by kernel_rfl)
def s_f5_r26:List AOper:=[
 ⟨some 92,(.move (.t 10)),none⟩,
 ⟨some 93,(.bin .add (.t 92) (.c (.s (.int .i64 1)))),none⟩,
 ⟨some 10,(.move (.t 93)),none⟩]
def s_f5_r26_tale:=hT s_f5_r26 [92,93,164] [10] 94 [] [(10,(.op (.bin .add (.t 0) (.c (.s (.int .i64 1)))) [(.t 10),(.c (.s (.int .i64 1)))]))] [.tt 10,.sub 0 [] [],.sub 0 [] []] (by kernel_rfl) (by kernel_rfl)
def s_f5_l1_b:ACode:=
 (.seq (.seq (.regionE s_f5_r15 [84,85,86,87,88,89,90] [91])
 (.cond (.t 91)
 .skip
 (.exit 2)))
 (.seq (.block 3
 (.seq (.regionE s_f5_r16 [91,94,95,96,97,98,99,100,101] [11])
 (.seq (.seq (.region s_f5_r17 [] [102,103,104,105,106,107,108,109,110,111,112,113,114,115,116,117,118,119,120,121,122,123,124,125,126,127,128,129,130,131,132,133,134])
 (.cond (.t 135)
 (.seq (.regionE s_f5_r18 [1,3,5,6,7,9,10,11,135] [2])
 .ret)
 .skip))
 (.seq (.regionE s_f5_r19 [135] [12])
 (.seq (.seq (.regionE s_f5_r20 [] [13])
 (.block 4
 (.loop [] s_f5_l0)))
 (.seq (.regionE s_f5_r24 [11,12,13,140,158,159,160,161,162,163] [164])
 (.cond (.t 164)
 (.seq (.regionE s_f5_r25 [1,3,5,6,7,9,10,164] [2])
 .ret)
 .skip)))))))
 (.regionE s_f5_r26 [92,93,164] [10])))
def s_f5_l1:ACode:=s_f5_l1_b
def s_f5_l1_ev:=hE s_f5_l1 s_f5_l1_b rfl
def s_f5_r27:List AOper:=[
 ⟨some 14,(.move (.c (.s (.int .i64 0)))),none⟩]
def s_f5_r27_tale:=hT s_f5_r27 [10,91] [14] 15 [] [(14,(.c (.s (.int .i64 0))))] [.cc (.s (.int .i64 0))] (by kernel_rfl) (by kernel_rfl)
def s_f5_r28:List AOper:=[
 ⟨some 165,(.move (.t 14)),none⟩,
 ⟨some 166,(.fieldAddr 1 (.t 3)),none⟩,
 ⟨some 167,(.load false 1 (.t 166)),none⟩,
 ⟨some 168,(.move (.t 7)),none⟩,
 ⟨some 169,(.indexAddr 1 (.t 167) (.t 168)),none⟩,
 ⟨some 170,(.load false 1 (.t 169)),none⟩,
 ⟨some 171,(.lenS .s (.t 170)),none⟩,
 ⟨some 172,(.bin .lss (.t 165) (.t 171)),none⟩]
def s_f5_r28_tale:=hT s_f5_r28 [165,166,167,168,169,170,171] [172] 173 [] [(172,(.op (.bin .lss (.t 0) (.t 1)) [(.t 14),(.op (.lenS .s (.t 0)) [(.op (.load false 1 (.t 0)) [(.op (.indexAddr 1 (.t 0) (.t 1)) [(.op (.load false 1 (.t 0)) [(.op (.fieldAddr 1 (.t 0)) [(.t 3)])]),(.t 7)])])])]))] [.tt 14,.sub 0 [1,0,0,0,0] [],.sub 0 [1,0,0,0] [],.tt 7,.sub 0 [1,0,0] [],.sub 0 [1,0] [],.sub 0 [1] [],.sub 0 [] []] (by kernel_rfl) (by kernel_rfl)
def s_f5_r29t15:List AOper:=[⟨some 212,(.un .not (.t 211)),some (197,false)⟩,⟨some 213,(.pick (.t 197) (.c (.s (.bool true))) (.t 212)),none⟩]
def s_f5_r29p14:List AOper:=[⟨some 211,(.call (.c (.fn 16 [] [])) [(.t 198),(.t 210)]),some (197,false)⟩]
def s_f5_r29t14:List AOper:=s_f5_r29p14 ++ s_f5_r29t15
def s_f5_r29p13:List AOper:=[⟨some 210,(.load false 1 (.t 209)),some (197,false)⟩]
def s_f5_r29t13:List AOper:=s_f5_r29p13 ++ s_f5_r29t14
def s_f5_r29p12:List AOper:=[⟨some 209,(.indexAddr 1 (.t 200) (.t 208)),some (197,false)⟩]
def s_f5_r29t12:List AOper:=s_f5_r29p12 ++ s_f5_r29t13
def s_f5_r29p11:List AOper:=[⟨some 208,(.load false 1 (.t 207)),some (197,false)⟩]
def s_f5_r29t11:List AOper:=s_f5_r29p11 ++ s_f5_r29t12
def s_f5_r29p10:List AOper:=[⟨some 207,(.indexAddr 1 (.t 205) (.t 206)),some (197,false)⟩]
def s_f5_r29t10:List AOper:=s_f5_r29p10 ++ s_f5_r29t11
def s_f5_r29p9:List AOper:=[⟨some 206,(.move (.t 14)),some (197,false)⟩]
def s_f5_r29t9:List AOper:=s_f5_r29p9 ++ s_f5_r29t10
def s_f5_r29p8:List AOper:=[⟨some 205,(.load false 1 (.t 204)),some (197,false)⟩]
def s_f5_r29t8:List AOper:=s_f5_r29p8 ++ s_f5_r29t9
def s_f5_r29p7:List AOper:=[⟨some 204,(.indexAddr 1 (.t 202) (.t 203)),some (197,false)⟩]
def s_f5_r29t7:List AOper:=s_f5_r29p7 ++ s_f5_r29t8
def s_f5_r29p6:List AOper:=[⟨some 203,(.move (.t 7)),some (197,false)⟩]
def s_f5_r29t6:List AOper:=s_f5_r29p6 ++ s_f5_r29t7
def s_f5_r29p5:List AOper:=[⟨some 202,(.load false 1 (.t 201)),some (197,false)⟩]
def s_f5_r29t5:List AOper:=s_f5_r29p5 ++ s_f5_r29t6
def s_f5_r29p4:List AOper:=[⟨some 201,(.fieldAddr 1 (.t 3)),some (197,false)⟩]
def s_f5_r29t4:List AOper:=s_f5_r29p4 ++ s_f5_r29t5
def s_f5_r29p3:List AOper:=[⟨some 200,(.load false 1 (.t 199)),some (197,false)⟩]
def s_f5_r29t3:List AOper:=s_f5_r29p3 ++ s_f5_r29t4
def s_f5_r29p2:List AOper:=[⟨some 199,(.fieldAddr 0 (.t 3)),some (197,false)⟩]
def s_f5_r29t2:List AOper:=s_f5_r29p2 ++ s_f5_r29t3
def s_f5_r29p1:List AOper:=[⟨some 198,(.move (.t 7)),some (197,false)⟩]
def s_f5_r29t1:List AOper:=s_f5_r29p1 ++ s_f5_r29t2
def s_f5_r29p0:List AOper:=[⟨some 175,(.move (.t 14)),none⟩,⟨some 176,(.bin .gtr (.t 175) (.c (.s (.int .i64 0)))),none⟩,⟨some 177,(.move (.t 176)),none⟩,⟨some 178,(.fieldAddr 1 (.t 3)),some (177,true)⟩,⟨some 179,(.load false 1 (.t 178)),some (177,true)⟩,⟨some 180,(.move (.t 7)),some (177,true)⟩,⟨some 181,(.indexAddr 1 (.t 179) (.t 180)),some (177,true)⟩,⟨some 182,(.load false 1 (.t 181)),some (177,true)⟩,⟨some 183,(.move (.t 14)),some (177,true)⟩,⟨some 184,(.bin .sub (.t 183) (.c (.s (.int .i64 1)))),some (177,true)⟩,⟨some 185,(.indexAddr 1 (.t 182) (.t 184)),some (177,true)⟩,⟨some 186,(.load false 1 (.t 185)),some (177,true)⟩,⟨some 187,(.fieldAddr 1 (.t 3)),some (177,true)⟩,⟨some 188,(.load false 1 (.t 187)),some (177,true)⟩,⟨some 189,(.move (.t 7)),some (177,true)⟩,⟨some 190,(.indexAddr 1 (.t 188) (.t 189)),some (177,true)⟩,⟨some 191,(.load false 1 (.t 190)),some (177,true)⟩,⟨some 192,(.move (.t 14)),some (177,true)⟩,⟨some 193,(.indexAddr 1 (.t 191) (.t 192)),some (177,true)⟩,⟨some 194,(.load false 1 (.t 193)),some (177,true)⟩,⟨some 195,(.bin .geq (.t 186) (.t 194)),some (177,true)⟩,⟨some 196,(.pick (.t 177) (.t 195) (.c (.s (.bool false)))),none⟩,⟨some 197,(.move (.t 196)),none⟩]
def s_f5_r29:List AOper:=s_f5_r29p0 ++ s_f5_r29t1
def s_f5_r29p0_tale:=hT s_f5_r29p0 [172,175,176,177,178,179,180,181,182,183,184,185,186,187,188,189,190,191,192,193,194,195,196] [197] 198 [] [(197,(.pick (.op (.bin .gtr (.t 0) (.c (.s (.int .i64 0)))) [(.t 14),(.c (.s (.int .i64 0)))]) (.op (.bin .geq (.t 0) (.t 1)) [(.op (.load false 1 (.t 0)) [(.op (.indexAddr 1 (.t 0) (.t 1)) [(.op (.load false 1 (.t 0)) [(.op (.indexAddr 1 (.t 0) (.t 1)) [(.op (.load false 1 (.t 0)) [(.op (.fieldAddr 1 (.t 0)) [(.t 3)])]),(.t 7)])]),(.op (.bin .sub (.t 0) (.c (.s (.int .i64 1)))) [(.t 14),(.c (.s (.int .i64 1)))])])]),(.op (.load false 1 (.t 0)) [(.op (.indexAddr 1 (.t 0) (.t 1)) [(.op (.load false 1 (.t 0)) [(.op (.indexAddr 1 (.t 0) (.t 1)) [(.op (.load false 1 (.t 0)) [(.op (.fieldAddr 1 (.t 0)) [(.t 3)])]),(.t 7)])]),(.t 14)])])]) (.c (.s (.bool false)))))] [.tt 14,.sub 0 [0] [],.sub 0 [0] [],.sub 0 [1,0,0,0,0,0,0] [177],.sub 0 [1,0,0,0,0,0] [177],.sub 0 [1,0,0,0,0,1] [177],.sub 0 [1,0,0,0,0] [177],.sub 0 [1,0,0,0] [177],.sub 0 [1,0,0,1,0] [177],.sub 0 [1,0,0,1] [177],.sub 0 [1,0,0] [177],.sub 0 [1,0] [177],.sub 0 [1,0,0,0,0,0,0] [177],.sub 0 [1,0,0,0,0,0] [177],.sub 0 [1,0,0,0,0,1] [177],.sub 0 [1,0,0,0,0] [177],.sub 0 [1,0,0,0] [177],.sub 0 [1,0,0,1,0] [177],.sub 0 [1,1,0] [177],.sub 0 [1,1] [177],.sub 0 [1] [177],.sub 0 [] [],.sub 0 [] []] (by kernel_rfl) (by kernel_rfl)
def s_f5_r29_x:=hS s_f5_r29 s_f5_r29p0 s_f5_r29t1 [172,175,176,177,178,179,180,181,182,183,184,185,186,187,188,189,190,191,192,193,194,195,196] [197] [172,175,176,177,178,179,180,181,182,183,184,185,186,187,188,189,190,191,192,193,194,195,196,197,198,199,200,201,202,203,204,205,206,207,208,209,210,211,212] rfl (by kernel_rfl)
def s_f5_r29t1_x:=hO s_f5_r29t1 s_f5_r29p1 s_f5_r29t2 [] [172,175,176,177,178,179,180,181,182,183,184,185,186,187,188,189,190,191,192,193,194,195,196,197,198,199,200,201,202,203,204,205,206,207,208,209,210,211,212] [⟨some 198,(.move (.t 7)),some (197,false)⟩] rfl rfl (by kernel_rfl)
def s_f5_r29t2_x:=hO s_f5_r29t2 s_f5_r29p2 s_f5_r29t3 [] [172,175,176,177,178,179,180,181,182,183,184,185,186,187,188,189,190,191,192,193,194,195,196,197,198,199,200,201,202,203,204,205,206,207,208,209,210,211,212] [⟨some 199,(.fieldAddr 0 (.t 3)),some (197,false)⟩] rfl rfl (by kernel_rfl)
def s_f5_r29t3_x:=hO s_f5_r29t3 s_f5_r29p3 s_f5_r29t4 [199] [172,175,176,177,178,179,180,181,182,183,184,185,186,187,188,189,190,191,192,193,194,195,196,197,198,199,200,201,202,203,204,205,206,207,208,209,210,211,212] [⟨some 200,(.load false 1 (.t 199)),some (197,false)⟩] rfl rfl (by kernel_rfl)
def s_f5_r29t4_x:=hO s_f5_r29t4 s_f5_r29p4 s_f5_r29t5 [] [172,175,176,177,178,179,180,181,182,183,184,185,186,187,188,189,190,191,192,193,194,195,196,197,198,199,200,201,202,203,204,205,206,207,208,209,210,211,212] [⟨some 201,(.fieldAddr 1 (.t 3)),some (197,false)⟩] rfl rfl (by kernel_rfl)
def s_f5_r29t5_x:=hO s_f5_r29t5 s_f5_r29p5 s_f5_r29t6 [201] [172,175,176,177,178,179,180,181,182,183,184,185,186,187,188,189,190,191,192,193,194,195,196,197,198,199,200,201,202,203,204,205,206,207,208,209,210,211,212] [⟨some 202,(.load false 1 (.t 201)),some (197,false)⟩] rfl rfl (by kernel_rfl)
def s_f5_r29t6_x:=hO s_f5_r29t6 s_f5_r29p6 s_f5_r29t7 [] [172,175,176,177,178,179,180,181,182,183,184,185,186,187,188,189,190,191,192,193,194,195,196,197,198,199,200,201,202,203,204,205,206,207,208,209,210,211,212] [⟨some 203,(.move (.t 7)),some (197,false)⟩] rfl rfl (by kernel_rfl)
def s_f5_r29t7_x:=hO s_f5_r29t7 s_f5_r29p7 s_f5_r29t8 [202,203] [172,175,176,177,178,179,180,181,182,183,184,185,186,187,188,189,190,191,192,193,194,195,196,197,198,199,200,201,202,203,204,205,206,207,208,209,210,211,212] [⟨some 204,(.indexAddr 1 (.t 202) (.t 203)),some (197,false)⟩] rfl rfl (by kernel_rfl)
def s_f5_r29t8_x:=hO s_f5_r29t8 s_f5_r29p8 s_f5_r29t9 [204] [172,175,176,177,178,179,180,181,182,183,184,185,186,187,188,189,190,191,192,193,194,195,196,197,198,199,200,201,202,203,204,205,206,207,208,209,210,211,212] [⟨some 205,(.load false 1 (.t 204)),some (197,false)⟩] rfl rfl (by kernel_rfl)
def s_f5_r29t9_x:=hO s_f5_r29t9 s_f5_r29p9 s_f5_r29t10 [] [172,175,176,177,178,179,180,181,182,183,184,185,186,187,188,189,190,191,192,193,194,195,196,197,198,199,200,201,202,203,204,205,206,207,208,209,210,211,212] [⟨some 206,(.move (.t 14)),some (197,false)⟩] rfl rfl (by kernel_rfl)
def s_f5_r29t10_x:=hO s_f5_r29t10 s_f5_r29p10 s_f5_r29t11 [205,206] [172,175,176,177,178,179,180,181,182,183,184,185,186,187,188,189,190,191,192,193,194,195,196,197,198,199,200,201,202,203,204,205,206,207,208,209,210,211,212] [⟨some 207,(.indexAddr 1 (.t 205) (.t 206)),some (197,false)⟩] rfl rfl (by kernel_rfl)
def s_f5_r29t11_x:=hO s_f5_r29t11 s_f5_r29p11 s_f5_r29t12 [207] [172,175,176,177,178,179,180,181,182,183,184,185,186,187,188,189,190,191,192,193,194,195,196,197,198,199,200,201,202,203,204,205,206,207,208,209,210,211,212] [⟨some 208,(.load false 1 (.t 207)),some (197,false)⟩] rfl rfl (by kernel_rfl)
def s_f5_r29t12_x:=hO s_f5_r29t12 s_f5_r29p12 s_f5_r29t13 [200,208] [172,175,176,177,178,179,180,181,182,183,184,185,186,187,188,189,190,191,192,193,194,195,196,197,198,199,200,201,202,203,204,205,206,207,208,209,210,211,212] [⟨some 209,(.indexAddr 1 (.t 200) (.t 208)),some (197,false)⟩] rfl rfl (by kernel_rfl)
def s_f5_r29t13_x:=hO s_f5_r29t13 s_f5_r29p13 s_f5_r29t14 [209] [172,175,176,177,178,179,180,181,182,183,184,185,186,187,188,189,190,191,192,193,194,195,196,197,198,199,200,201,202,203,204,205,206,207,208,209,210,211,212] [⟨some 210,(.load false 1 (.t 209)),some (197,false)⟩] rfl rfl (by kernel_rfl)
def s_f5_r29t14_x:=hO s_f5_r29t14 s_f5_r29p14 s_f5_r29t15 [198,210] [172,175,176,177,178,179,180,181,182,183,184,185,186,187,188,189,190,191,192,193,194,195,196,197,198,199,200,201,202,203,204,205,206,207,208,209,210,211,212] [⟨some 211,(.call (.c (.fn 16 [] [])) [(.t 198),(.t 210)]),some (197,false)⟩] rfl rfl (by kernel_rfl)
def s_f5_r29t15_tale:=hT s_f5_r29t15 [172,175,176,177,178,179,180,181,182,183,184,185,186,187,188,189,190,191,192,193,194,195,196,197,198,199,200,201,202,203,204,205,206,207,208,209,210,211,212] [213] 214 [] [(213,(.pick (.t 197) (.c (.s (.bool true))) (.op (.un .not (.t 0)) [(.t 211)])))] [.sub 0 [2] [197],.sub 0 [] []] (by kernel_rfl) (by kernel_rfl)
def s_f5_r29t15_x:=hL s_f5_r29t15 [172,175,176,177,178,179,180,181,182,183,184,185,186,187,188,189,190,191,192,193,194,195,196,197,198,199,200,201,202,203,204,205,206,207,208,209,210,211,212] [213]
def s_f5_r30:List AOper:=[
 ⟨some 2,(.move (.c (.s (.bool false)))),none⟩]
def s_f5_r30_tale:=hT s_f5_r30 [1,3,5,6,7,9,14,213] [2] 3 [] [(2,(.c (.s (.bool false))))] [.cc (.s (.bool false))] (by kernel_rfl) (by kernel_rfl)
def s_f5_r31:List AOper:=[
 ⟨some 173,(.move (.t 14)),none⟩,
 ⟨some 174,(.bin .add (.t 173) (.c (.s (.int .i64 1)))),none⟩,
 ⟨some 14,(.move (.t 174)),none⟩]
def s_f5_r31_tale:=hT s_f5_r31 [173,174,213] [14] 175 [] [(14,(.op (.bin .add (.t 0) (.c (.s (.int .i64 1)))) [(.t 14),(.c (.s (.int .i64 1)))]))] [.tt 14,.sub 0 [] [],.sub 0 [] []] (by kernel_rfl) (by kernel_rfl)
def s_f5_l2_b:ACode:=
 (.seq (.seq (.regionE s_f5_r28 [165,166,167,168,169,170,171] [172])
 (.cond (.t 172)
 .skip
 (.exit 6)))
 (.seq (.block 7
 (.seq (.region s_f5_r29 [] [172,175,176,177,178,179,180,181,182,183,184,185,186,187,188,189,190,191,192,193,194,195,196,197,198,199,200,201,202,203,204,205,206,207,208,209,210,211,212])
 (.cond (.t 213)
 (.seq (.regionE s_f5_r30 [1,3,5,6,7,9,14,213] [2])
 .ret)
 .skip)))
 (.regionE s_f5_r31 [173,174,213] [14])))
def s_f5_l2:ACode:=s_f5_l2_b
def s_f5_l2_ev:=hE s_f5_l2 s_f5_l2_b rfl
def s_f5_r32:List AOper:=[
 ⟨some 15,(.move (.c (.s (.int .i64 0)))),none⟩]
def s_f5_r32_tale:=hT s_f5_r32 [14,172] [15] 16 [] [(15,(.c (.s (.int .i64 0))))] [.cc (.s (.int .i64 0))] (by kernel_rfl) (by kernel_rfl)
def s_f5_r33:List AOper:=[
 ⟨some 214,(.move (.t 15)),none⟩,
 ⟨some 215,(.fieldAddr 7 (.t 9)),none⟩,
 ⟨some 216,(.load false 1 (.t 215)),none⟩,
 ⟨some 217,(.lenS .s (.t 216)),none⟩,
 ⟨some 218,(.bin .lss (.t 214) (.t 217)),none⟩,
 ⟨some 219,(.move (.t 218)),none⟩,
 ⟨some 220,(.fieldAddr 0 (.t 9)),some (219,true)⟩,
 ⟨some 221,(.load false 1 (.t 220)),some (219,true)⟩,
 ⟨some 222,(.bin .neq (.t 221) (.c (.s (.int .u8 14)))),some (219,true)⟩,
 ⟨some 223,(.pick (.t 219) (.t 222) (.c (.s (.bool false)))),none⟩]
def s_f5_r33_tale:=hT s_f5_r33 [214,215,216,217,218,219,220,221,222] [223] 224 [] [(223,(.pick (.op (.bin .lss (.t 0) (.t 1)) [(.t 15),(.op (.lenS .s (.t 0)) [(.op (.load false 1 (.t 0)) [(.op (.fieldAddr 7 (.t 0)) [(.t 9)])])])]) (.op (.bin .neq (.t 0) (.c (.s (.int .u8 14)))) [(.op (.load false 1 (.t 0)) [(.op (.fieldAddr 0 (.t 0)) [(.t 9)])]),(.c (.s (.int .u8 14)))]) (.c (.s (.bool false)))))] [.tt 15,.sub 0 [0,1,0,0] [],.sub 0 [0,1,0] [],.sub 0 [0,1] [],.sub 0 [0] [],.sub 0 [0] [],.sub 0 [1,0,0] [219],.sub 0 [1,0] [219],.sub 0 [1] [219],.sub 0 [] []] (by kernel_rfl) (by kernel_rfl)
def s_f5_r34:List AOper:=[
 ⟨some 16,(.move (.c (.s (.bool false)))),none⟩]
def s_f5_r34_tale:=hT s_f5_r34 [223] [16] 17 [] [(16,(.c (.s (.bool false))))] [.cc (.s (.bool false))] (by kernel_rfl) (by kernel_rfl)
def s_f5_r35:List AOper:=[
 ⟨some 17,(.move (.c (.s (.int .i64 0)))),none⟩]
def s_f5_r35_tale:=hT s_f5_r35 [] [17] 18 [] [(17,(.c (.s (.int .i64 0))))] [.cc (.s (.int .i64 0))] (by kernel_rfl) (by kernel_rfl)
def s_f5_r36:List AOper:=[
 ⟨some 226,(.move (.t 17)),none⟩,
 ⟨some 227,(.fieldAddr 0 (.t 3)),none⟩,
 ⟨some 228,(.load false 1 (.t 227)),none⟩,
 ⟨some 229,(.move (.t 7)),none⟩,
 ⟨some 230,(.indexAddr 1 (.t 228) (.t 229)),none⟩,
 ⟨some 231,(.load false 1 (.t 230)),none⟩,
 ⟨some 232,(.lenS .s (.t 231)),none⟩,
 ⟨some 233,(.bin .lss (.t 226) (.t 232)),none⟩]
def s_f5_r36_tale:=hT s_f5_r36 [226,227,228,229,230,231,232] [233] 234 [] [(233,(.op (.bin .lss (.t 0) (.t 1)) [(.t 17),(.op (.lenS .s (.t 0)) [(.op (.load false 1 (.t 0)) [(.op (.indexAddr 1 (.t 0) (.t 1)) [(.op (.load false 1 (.t 0)) [(.op (.fieldAddr 0 (.t 0)) [(.t 3)])]),(.t 7)])])])]))] [.tt 17,.sub 0 [1,0,0,0,0] [],.sub 0 [1,0,0,0] [],.tt 7,.sub 0 [1,0,0] [],.sub 0 [1,0] [],.sub 0 [1] [],.sub 0 [] []] (by kernel_rfl) (by kernel_rfl)
def s_f5_r37:List AOper:=[
 ⟨some 236,(.move (.t 16)),none⟩,
 ⟨some 237,(.move (.t 236)),none⟩,
 ⟨some 238,(.fieldAddr 2 (.t 1)),some (237,false)⟩,
 ⟨some 239,(.load false 1 (.t 238)),some (237,false)⟩,
 ⟨some 240,(.fieldAddr 0 (.t 3)),some (237,false)⟩,
 ⟨some 241,(.load false 1 (.t 240)),some (237,false)⟩,
 ⟨some 242,(.move (.t 7)),some (237,false)⟩,
 ⟨some 243,(.indexAddr 1 (.t 241) (.t 242)),some (237,false)⟩,
 ⟨some 244,(.load false 1 (.t 243)),some (237,false)⟩,
 ⟨some 245,(.move (.t 17)),some (237,false)⟩,
 ⟨some 246,(.indexAddr 1 (.t 244) (.t 245)),some (237,false)⟩,
 ⟨some 247,(.load false 1 (.t 246)),some (237,false)⟩,
 ⟨some 248,(.indexAddr 2 (.t 239) (.t 247)),some (237,false)⟩,
 ⟨some 249,(.fieldAddr 0 (.t 248)),some (237,false)⟩,
 ⟨some 250,(.load false 1 (.t 249)),some (237,false)⟩,
 ⟨some 251,(.fieldAddr 7 (.t 9)),some (237,false)⟩,
 ⟨some 252,(.load false 1 (.t 251)),some (237,false)⟩,
 ⟨some 253,(.move (.t 15)),some (237,false)⟩,
 ⟨some 254,(.indexAddr 1 (.t 252) (.t 253)),some (237,false)⟩,
 ⟨some 255,(.load false 1 (.t 254)),some (237,false)⟩,
 ⟨some 256,(.bin .eql (.t 250) (.t 255)),some (237,false)⟩,
 ⟨some 257,(.pick (.t 237) (.c (.s (.bool true))) (.t 256)),none⟩,
 ⟨some 16,(.move (.t 257)),none⟩]
def s_f5_r37_tale:=hT s_f5_r37 [233,236,237,238,239,240,241,242,243,244,245,246,247,248,249,250,251,252,253,254,255,256,257] [16] 258 [] [(16,(.pick (.t 16) (.c (.s (.bool true))) (.op (.bin .eql (.t 0) (.t 1)) [(.op (.load false 1 (.t 0)) [(.op (.fieldAddr 0 (.t 0)) [(.op (.indexAddr 2 (.t 0) (.t 1)) [(.op (.load false 1 (.t 0)) [(.op (.fieldAddr 2 (.t 0)) [(.t 1)])]),(.op (.load false 1 (.t 0)) [(.op (.indexAddr 1 (.t 0) (.t 1)) [(.op (.load false 1 (.t 0)) [(.op (.indexAddr 1 (.t 0) (.t 1)) [(.op (.load false 1 (.t 0)) [(.op (.fieldAddr 0 (.t 0)) [(.t 3)])]),(.t 7)])]),(.t 17)])])])])]),(.op (.load false 1 (.t 0)) [(.op (.indexAddr 1 (.t 0) (.t 1)) [(.op (.load false 1 (.t 0)) [(.op (.fieldAddr 7 (.t 0)) [(.t 9)])]),(.t 15)])])])))] [.tt 16,.tt 16,.sub 0 [2,0,0,0,0,0] [237],.sub 0 [2,0,0,0,0] [237],.sub 0 [2,0,0,0,1,0,0,0,0,0] [237],.sub 0 [2,0,0,0,1,0,0,0,0] [237],.sub 0 [2,0,0,0,1,0,0,0,1] [237],.sub 0 [2,0,0,0,1,0,0,0] [237],.sub 0 [2,0,0,0,1,0,0] [237],.sub 0 [2,0,0,0,1,0,1] [237],.sub 0 [2,0,0,0,1,0] [237],.sub 0 [2,0,0,0,1] [237],.sub 0 [2,0,0,0] [237],.sub 0 [2,0,0] [237],.sub 0 [2,0] [237],.sub 0 [2,1,0,0,0] [237],.sub 0 [2,1,0,0] [237],.sub 0 [2,1,0,1] [237],.sub 0 [2,1,0] [237],.sub 0 [2,1] [237],.sub 0 [2] [237],.sub 0 [] [],.sub 0 [] []] (by kernel_rfl) (by kernel_rfl)
def s_f5_r38:List AOper:=[
 ⟨some 234,(.move (.t 17)),none⟩,
 ⟨some 235,(.bin .add (.t 234) (.c (.s (.int .i64 1)))),none⟩,
 ⟨some 17,(.move (.t 235)),none⟩]
def s_f5_r38_tale:=hT s_f5_r38 [234,235] [17] 236 [] [(17,(.op (.bin .add (.t 0) (.c (.s (.int .i64 1)))) [(.t 17),(.c (.s (.int .i64 1)))]))] [.tt 17,.sub 0 [] [],.sub 0 [] []] (by kernel_rfl) (by kernel_rfl)
def s_f5_l3_b:ACode:=
 (.seq (.seq (.regionE s_f5_r36 [226,227,228,229,230,231,232] [233])
 (.cond (.t 233)
 .skip
 (.exit 10)))
 (.seq (.block 11
 (.regionE s_f5_r37 [233,236,237,238,239,240,241,242,243,244,245,246,247,248,249,250,251,252,253,254,255,256,257] [16]))
 (.regionE s_f5_r38 [234,235] [17])))
def s_f5_l3:ACode:=s_f5_l3_b
def s_f5_l3_ev:=hE s_f5_l3 s_f5_l3_b rfl
def s_f5_r39:List AOper:=[
 ⟨some 258,(.move (.t 16)),none⟩,
 ⟨some 259,(.un .not (.t 258)),none⟩]
def s_f5_r39_tale:=hT s_f5_r39 [16,17,233,258] [259] 260 [] [(259,(.op (.un .not (.t 0)) [(.t 16)]))] [.tt 16,.sub 0 [] []] (by kernel_rfl) (by kernel_rfl)
def s_f5_r40:List AOper:=[
 ⟨some 2,(.move (.c (.s (.bool false)))),none⟩]
def s_f5_r40_tale:=hT s_f5_r40 [1,3,5,6,7,9,15,259] [2] 3 [] [(2,(.c (.s (.bool false))))] [.cc (.s (.bool false))] (by kernel_rfl) (by kernel_rfl)
def s_f5_r41:List AOper:=[
 ⟨some 224,(.move (.t 15)),none⟩,
 ⟨some 225,(.bin .add (.t 224) (.c (.s (.int .i64 1)))),none⟩,
 ⟨some 15,(.move (.t 225)),none⟩]
def s_f5_r41_tale:=hT s_f5_r41 [224,225,259] [15] 226 [] [(15,(.op (.bin .add (.t 0) (.c (.s (.int .i64 1)))) [(.t 15),(.c (.s (.int .i64 1)))]))] [.tt 15,.sub 0 [] [],.sub 0 [] []] (by kernel_rfl) (by kernel_rfl)
def s_f5_l4_b:ACode:=
 (.seq (.seq (.regionE s_f5_r33 [214,215,216,217,218,219,220,221,222] [223])
 (.cond (.t 223)
 .skip
 (.exit 8)))
 (.seq (.block 9
 (.seq (.regionE s_f5_r34 [223] [16])
 (.seq (.seq (.regionE s_f5_r35 [] [17])
 (.block 10
 (.loop [] s_f5_l3)))
 (.seq (.regionE s_f5_r39 [16,17,233,258] [259])
 (.cond (.t 259)
 (.seq (.regionE s_f5_r40 [1,3,5,6,7,9,15,259] [2])
 .ret)
 .skip)))))
 (.regionE s_f5_r41 [224,225,259] [15])))
def s_f5_l4:ACode:=s_f5_l4_b
def s_f5_l4_ev:=hE s_f5_l4 s_f5_l4_b rfl
def s_f5_r42t2:List AOper:=[⟨some 18,(.move (.t 261)),none⟩]
def s_f5_r42p1:List AOper:=[⟨some 261,(.mkSl [(.s (.bool false))] 1 1 (.t 260) (.t 260)),none⟩]
def s_f5_r42t1:List AOper:=s_f5_r42p1 ++ s_f5_r42t2
def s_f5_r42p0:List AOper:=[⟨some 260,(.move (.t 6)),none⟩]
def s_f5_r42:List AOper:=s_f5_r42p0 ++ s_f5_r42t1
def s_f5_r42p0_tale:=hT s_f5_r42p0 [9,15,223] [260] 261 [] [(260,(.t 6))] [.tt 6] (by kernel_rfl) (by kernel_rfl)
def s_f5_r42_x:=hS s_f5_r42 s_f5_r42p0 s_f5_r42t1 [9,15,223] [260] [9,15,223,260,261] rfl (by kernel_rfl)
def s_f5_r42t1_x:=hO s_f5_r42t1 s_f5_r42p1 s_f5_r42t2 [260] [9,15,223,260,261] [⟨some 261,(.mkSl [(.s (.bool false))] 1 1 (.t 260) (.t 260)),none⟩] rfl rfl (by kernel_rfl)
def s_f5_r42t2_tale:=hT s_f5_r42t2 [9,15,223,260,261] [18] 19 [] [(18,(.t 261))] [.tt 261] (by kernel_rfl) (by kernel_rfl)
def s_f5_r42t2_x:=hL s_f5_r42t2 [9,15,223,260,261] [18]
def s_f5_r43t3:List AOper:=[⟨some 19,(.move (.t 268)),none⟩]
def s_f5_r43p2:List AOper:=[⟨some 268,(.append 1 8 (.t 262) (.t 267)),none⟩]
def s_f5_r43t2:List AOper:=s_f5_r43p2 ++ s_f5_r43t3
def s_f5_r43p1:List AOper:=[⟨some 263,(.fieldAddr 0 (.t 3)),none⟩,⟨some 264,(.load false 1 (.t 263)),none⟩,⟨some 265,(.move (.t 7)),none⟩,⟨some 266,(.indexAddr 1 (.t 264) (.t 265)),none⟩,⟨some 267,(.load false 1 (.t 266)),none⟩]
def s_f5_r43t1:List AOper:=s_f5_r43p1 ++ s_f5_r43t2
def s_f5_r43p0:List AOper:=[⟨some 262,(.buildSl 1 0 [] []),none⟩]
def s_f5_r43:List AOper:=s_f5_r43p0 ++ s_f5_r43t1
def s_f5_r43_x:=hO s_f5_r43 s_f5_r43p0 s_f5_r43t1 [] [262,263,264,265,266,267,268] [⟨some 262,(.buildSl 1 0 [] []),none⟩] rfl rfl (by kernel_rfl)
def s_f5_r43p1_tale:=hT s_f5_r43p1 [263,264,265,266] [267] 268 [] [(267,(.op (.load false 1 (.t 0)) [(.op (.indexAddr 1 (.t 0) (.t 1)) [(.op (.load false 1 (.t 0)) [(.op (.fieldAddr 0 (.t 0)) [(.t 3)])]),(.t 7)])]))] [.sub 0 [0,0,0] [],.sub 0 [0,0] [],.tt 7,.sub 0 [0] [],.sub 0 [] []] (by kernel_rfl) (by kernel_rfl)
def s_f5_r43t1_x:=hS s_f5_r43t1 s_f5_r43p1 s_f5_r43t2 [263,264,265,266] [267] [262,263,264,265,266,267,268] rfl (by kernel_rfl)
def s_f5_r43t2_x:=hO s_f5_r43t2 s_f5_r43p2 s_f5_r43t3 [262,267] [262,263,264,265,266,267,268] [⟨some 268,(.append 1 8 (.t 262) (.t 267)),none⟩] rfl rfl (by kernel_rfl)
def s_f5_r43t3_tale:=hT s_f5_r43t3 [262,263,264,265,266,267,268] [19] 20 [] [(19,(.t 268))] [.tt 268] (by kernel_rfl) (by kernel_rfl)
def s_f5_r43t3_x:=hL s_f5_r43t3 [262,263,264,265,266,267,268] [19]
def s_f5_r44:List AOper:=[
 ⟨some 269,(.move (.t 19)),none⟩,
 ⟨some 270,(.lenS .s (.t 269)),none⟩,
 ⟨some 271,(.bin .gtr (.t 270) (.c (.s (.int .i64 0)))),none⟩]
def s_f5_r44_tale:=hT s_f5_r44 [269,270] [271] 272 [] [(271,(.op (.bin .gtr (.t 0) (.c (.s (.int .i64 0)))) [(.op (.lenS .s (.t 0)) [(.t 19)]),(.c (.s (.int .i64 0)))]))] [.tt 19,.sub 0 [0] [],.sub 0 [] []] (by kernel_rfl) (by kernel_rfl)
def s_f5_r45:List AOper:=[
 ⟨some 272,(.move (.t 19)),none⟩,
 ⟨some 273,(.move (.t 19)),none⟩,
 ⟨some 274,(.lenS .s (.t 273)),none⟩,
 ⟨some 275,(.bin .sub (.t 274) (.c (.s (.int .i64 1)))),none⟩,
 ⟨some 276,(.indexAddr 1 (.t 272) (.t 275)),none⟩,
 ⟨some 277,(.load false 1 (.t 276)),none⟩,
 ⟨some 20,(.move (.t 277)),none⟩]
def s_f5_r45_tale:=hT s_f5_r45 [271,272,273,274,275,276,277] [20] 278 [] [(20,(.op (.load false 1 (.t 0)) [(.op (.indexAddr 1 (.t 0) (.t 1)) [(.t 19),(.op (.bin .sub (.t 0) (.c (.s (.int .i64 1)))) [(.op (.lenS .s (.t 0)) [(.t 19)]),(.c (.s (.int .i64 1)))])])]))] [.tt 19,.tt 19,.sub 0 [0,1,0] [],.sub 0 [0,1] [],.sub 0 [0] [],.sub 0 [] [],.sub 0 [] []] (by kernel_rfl) (by kernel_rfl)
def s_f5_r46:List AOper:=[
 ⟨some 278,(.move (.t 19)),none⟩,
 ⟨some 279,(.move (.t 19)),none⟩,
 ⟨some 280,(.lenS .s (.t 279)),none⟩,
 ⟨some 281,(.bin .sub (.t 280) (.c (.s (.int .i64 1)))),none⟩,
 ⟨some 282,(.subSl 1 (.t 278) none (some (.t 281)) none),none⟩,
 ⟨some 19,(.move (.t 282)),none⟩]
def s_f5_r46_tale:=hT s_f5_r46 [278,279,280,281,282] [19] 283 [] [(19,(.op (.subSl 1 (.t 0) none (some (.t 1)) none) [(.t 19),(.op (.bin .sub (.t 0) (.c (.s (.int .i64 1)))) [(.op (.lenS .s (.t 0)) [(.t 19)]),(.c (.s (.int .i64 1)))])]))] [.tt 19,.tt 19,.sub 0 [1,0] [],.sub 0 [1] [],.sub 0 [] [],.sub 0 [] []] (by kernel_rfl) (by kernel_rfl)
def s_f5_r47:List AOper:=[
 ⟨some 283,(.move (.t 18)),none⟩,
 ⟨some 284,(.move (.t 20)),none⟩,
 ⟨some 285,(.indexAddr 1 (.t 283) (.t 284)),none⟩,
 ⟨some 286,(.load false 1 (.t 285)),none⟩,
 ⟨some 287,(.un .not (.t 286)),none⟩]
def s_f5_r47_tale:=hT s_f5_r47 [283,284,285,286] [287] 288 [] [(287,(.op (.un .not (.t 0)) [(.op (.load false 1 (.t 0)) [(.op (.indexAddr 1 (.t 0) (.t 1)) [(.t 18),(.t 20)])])]))] [.tt 18,.tt 20,.sub 0 [0,0] [],.sub 0 [0] [],.sub 0 [] []] (by kernel_rfl) (by kernel_rfl)
def s_f5_r48t1:List AOper:=[⟨none,(.store 1 (.t 290) (.c (.s (.bool true)))),none⟩]
def s_f5_r48p0:List AOper:=[⟨some 288,(.move (.t 18)),none⟩,⟨some 289,(.move (.t 20)),none⟩,⟨some 290,(.indexAddr 1 (.t 288) (.t 289)),none⟩]
def s_f5_r48:List AOper:=s_f5_r48p0 ++ s_f5_r48t1
def s_f5_r48p0_tale:=hT s_f5_r48p0 [287,288,289] [290] 291 [] [(290,(.op (.indexAddr 1 (.t 0) (.t 1)) [(.t 18),(.t 20)]))] [.tt 18,.tt 20,.sub 0 [] []] (by kernel_rfl) (by kernel_rfl)
def s_f5_r48_x:=hS s_f5_r48 s_f5_r48p0 s_f5_r48t1 [287,288,289] [290] [287,288,289,290] rfl (by kernel_rfl)
def s_f5_r48t1_x:=hX s_f5_r48t1 [287,288,289,290] [⟨none,(.store 1 (.t 290) (.c (.s (.bool true)))),none⟩] rfl
def s_f5_r49t2:List AOper:=[⟨some 19,(.move (.t 297)),none⟩]
def s_f5_r49p1:List AOper:=[⟨some 297,(.append 1 8 (.t 291) (.t 296)),none⟩]
def s_f5_r49t1:List AOper:=s_f5_r49p1 ++ s_f5_r49t2
def s_f5_r49p0:List AOper:=[⟨some 291,(.move (.t 19)),none⟩,⟨some 292,(.fieldAddr 0 (.t 3)),none⟩,⟨some 293,(.load false 1 (.t 292)),none⟩,⟨some 294,(.move (.t 20)),none⟩,⟨some 295,(.indexAddr 1 (.t 293) (.t 294)),none⟩,⟨some 296,(.load false 1 (.t 295)),none⟩]
def s_f5_r49:List AOper:=s_f5_r49p0 ++ s_f5_r49t1
def s_f5_r49p0_tale:=hT s_f5_r49p0 [19,20,292,293,294,295] [291,296] 297 [] [(291,(.t 19)),(296,(.op (.load false 1 (.t 0)) [(.op (.indexAddr 1 (.t 0) (.t 1)) [(.op (.load false 1 (.t 0)) [(.op (.fieldAddr 0 (.t 0)) [(.t 3)])]),(.t 20)])]))] [.tt 19,.sub 1 [0,0,0] [],.sub 1 [0,0] [],.tt 20,.sub 1 [0] [],.sub 1 [] []] (by kernel_rfl) (by kernel_rfl)
def s_f5_r49_x:=hS s_f5_r49 s_f5_r49p0 s_f5_r49t1 [19,20,292,293,294,295] [291,296] [20,291,292,293,294,295,296,297] rfl (by kernel_rfl)
def s_f5_r49t1_x:=hO s_f5_r49t1 s_f5_r49p1 s_f5_r49t2 [291,296] [20,291,292,293,294,295,296,297] [⟨some 297,(.append 1 8 (.t 291) (.t 296)),none⟩] rfl rfl (by kernel_rfl)
def s_f5_r49t2_tale:=hT s_f5_r49t2 [20,291,292,293,294,295,296,297] [19] 20 [] [(19,(.t 297))] [.tt 297] (by kernel_rfl) (by kernel_rfl)
def s_f5_r49t2_x:=hL s_f5_r49t2 [20,291,292,293,294,295,296,297] [19]
def s_f5_l5_b:ACode:=
 (.seq (.seq (.regionE s_f5_r44 [269,270] [271])
 (.cond (.t 271)
 .skip
 (.exit 12)))
 (.block 13
 (.seq (.regionE s_f5_r45 [271,272,273,274,275,276,277] [20])
 (.seq (.regionE s_f5_r46 [278,279,280,281,282] [19])
 (.seq (.regionE s_f5_r47 [283,284,285,286] [287])
 (.cond (.t 287)
 (.seq (.region s_f5_r48 [] [287,288,289,290])
 (.region s_f5_r49 [] [20,291,292,293,294,295,296,297]))
 .skip))))))
def s_f5_l5:ACode:=s_f5_l5_b
def s_f5_l5_ev:=hE s_f5_l5 s_f5_l5_b rfl
def s_f5_r50:List AOper:=[
 ⟨some 298,(.move (.t 18)),none⟩,
 ⟨some 299,(.move (.t 7)),none⟩,
 ⟨some 300,(.indexAddr 1 (.t 298) (.t 299)),none⟩,
 ⟨some 301,(.load false 1 (.t 300)),none⟩,
 ⟨some 302,(.move (.t 5)),none⟩,
 ⟨some 303,(.move (.t 7)),none⟩,
 ⟨some 304,(.indexAddr 1 (.t 302) (.t 303)),none⟩,
 ⟨some 305,(.load false 1 (.t 304)),none⟩,
 ⟨some 306,(.eqB true (.t 301) (.t 305)),none⟩]
def s_f5_r50_tale:=hT s_f5_r50 [18,19,271,298,299,300,301,302,303,304,305] [306] 307 [] [(306,(.op (.eqB true (.t 0) (.t 1)) [(.op (.load false 1 (.t 0)) [(.op (.indexAddr 1 (.t 0) (.t 1)) [(.t 18),(.t 7)])]),(.op (.load false 1 (.t 0)) [(.op (.indexAddr 1 (.t 0) (.t 1)) [(.t 5),(.t 7)])])]))] [.tt 18,.tt 7,.sub 0 [0,0] [],.sub 0 [0] [],.tt 5,.tt 7,.sub 0 [1,0] [],.sub 0 [1] [],.sub 0 [] []] (by kernel_rfl) (by kernel_rfl)
def s_f5_r51:List AOper:=[
 ⟨some 2,(.move (.c (.s (.bool false)))),none⟩]
def s_f5_r51_tale:=hT s_f5_r51 [1,3,5,6,7,306] [2] 3 [] [(2,(.c (.s (.bool false))))] [.cc (.s (.bool false))] (by kernel_rfl) (by kernel_rfl)
def s_f5_r52:List AOper:=[
 ⟨some 70,(.move (.t 7)),none⟩,
 ⟨some 71,(.bin .add (.t 70) (.c (.s (.int .i64 1)))),none⟩,
 ⟨some 7,(.move (.t 71)),none⟩]
def s_f5_r52_tale:=hT s_f5_r52 [70,71,306] [7] 72 [] [(7,(.op (.bin .add (.t 0) (.c (.s (.int .i64 1)))) [(.t 7),(.c (.s (.int .i64 1)))]))] [.tt 7,.sub 0 [] [],.sub 0 [] []] (by kernel_rfl) (by kernel_rfl)
def s_f5_l6_b:ACode:=
 (.seq (.seq (.regionE s_f5_r11 [67,68] [69])
 (.cond (.t 69)
 .skip
 (.exit 0)))
 (.seq (.block 1
 (.seq (.regionE s_f5_r12 [69,72,73,74,75,76,77] [8])
 (.seq (.region s_f5_r13 [] [8,78,79,80,81,82,83])
 (.seq (.seq (.regionE s_f5_r14 [] [10])
 (.block 2
 (.loop [] s_f5_l1)))
 (.seq (.seq (.regionE s_f5_r27 [10,91] [14])
 (.block 6
 (.loop [] s_f5_l2)))
 (.seq (.seq (.regionE s_f5_r32 [14,172] [15])
 (.block 8
 (.loop [] s_f5_l4)))
 (.seq (.region s_f5_r42 [] [9,15,223,260,261])
 (.seq (.region s_f5_r43 [] [262,263,264,265,266,267,268])
 (.seq (.block 12
 (.loop [20,287] s_f5_l5))
 (.seq (.regionE s_f5_r50 [18,19,271,298,299,300,301,302,303,304,305] [306])
 (.cond (.t 306)
 (.seq (.regionE s_f5_r51 [1,3,5,6,7,306] [2])
 .ret)
 .skip)))))))))))
 (.regionE s_f5_r52 [70,71,306] [7])))
def s_f5_l6:ACode:=s_f5_l6_b
def s_f5_l6_ev:=hE s_f5_l6 s_f5_l6_b rfl
def s_f5_r53t1:List AOper:=[⟨some 2,(.move (.t 307)),none⟩]
def s_f5_r53p0:List AOper:=[⟨some 307,(.call (.c (.fn 11 [] [])) []),none⟩]
def s_f5_r53:List AOper:=s_f5_r53p0 ++ s_f5_r53t1
def s_f5_r53_x:=hO s_f5_r53 s_f5_r53p0 s_f5_r53t1 [1,3,5,6,7,69] [1,3,5,6,7,69,307] [⟨some 307,(.call (.c (.fn 11 [] [])) []),none⟩] rfl rfl (by kernel_rfl)
def s_f5_r53t1_tale:=hT s_f5_r53t1 [1,3,5,6,7,69,307] [2] 3 [] [(2,(.t 307))] [.tt 307] (by kernel_rfl) (by kernel_rfl)
def s_f5_r53t1_x:=hL s_f5_r53t1 [1,3,5,6,7,69,307] [2]
def s_f5:ACFun:={ ntmps:=308,results:=[(.tmp 2)],body:=
 (.seq (.region s_f5_r0 [] s_f5_r0_k)
 (.seq (.seq (.region s_f5_r1 [] [21])
 (.cond (.t 22)
 (.seq (.regionE s_f5_r2 [1,22] [2])
 .ret)
 .skip))
 (.seq (.region s_f5_r3 [] [22,23,24,25,26,27])
 (.seq (.region s_f5_r4 [] [28,29])
 (.seq (.seq (.regionE s_f5_r5 [4,30] [31])
 (.cond (.t 31)
 (.seq (.region s_f5_r6 [] [1,3,5,31,32,33,34,35,36,37,38,39,40,41,42,43,44,45])
 .ret)
 .skip))
 (.seq (.regionE s_f5_r7 [31,46,47,48] [6])
 (.seq (.seq (.regionE s_f5_r8 [49,50,51,52,53,54,55,56,57,58,59,60,61,62,63,64,65] [66])
 (.cond (.t 66)
 (.seq (.regionE s_f5_r9 [1,3,5,6,66] [2])
 .ret)
 .skip))
 (.seq (.seq (.regionE s_f5_r10 [66] [7])
 (.block 0
 (.loop [] s_f5_l6)))
 (.seq (.region s_f5_r53 [] [1,3,5,6,7,69,307])
 .ret))))))))) }
theorem s_f5_first:firstOk (List.range' 1 (s_f5.ntmps - 1)) s_f5.body=true:=by kernel_rfl
abbrev k_f16:Nat:=16
def s_f16_r0_k:List Nat:=[2,3,4,5,6,7,8,9,10,11,12,13,14,15,16,17]
theorem s_f16_r0_kT:killV s_f16_r0_k (startV 18 [] 2)=[]:=by kernel_rfl
theorem s_f16_r0_kA0:s_f16_r0_k.contains 0=false:=by kernel_rfl
theorem s_f16_r0_kA1:s_f16_r0_k.contains 1=false:=by kernel_rfl
def s_f16_r0:List AOper:=[
 ⟨some 4,(.move (.c (.s (.bool false)))),none⟩]
def s_f16_r0_tale:=hT s_f16_r0 s_f16_r0_k [] 5 [] [] [.cc (.s (.bool false))] (by kernel_rfl) (by kernel_rfl)
def s_f16_r1:List AOper:=[
 ⟨some 5,(.move (.c (.s (.int .i64 0)))),none⟩]
def s_f16_r1_tale:=hT s_f16_r1 [] [5] 6 [] [(5,(.c (.s (.int .i64 0))))] [.cc (.s (.int .i64 0))] (by kernel_rfl) (by kernel_rfl)
def s_f16_r2:List AOper:=[
 ⟨some 6,(.move (.t 5)),none⟩,
 ⟨some 7,(.move (.t 1)),none⟩,
 ⟨some 8,(.lenS .s (.t 7)),none⟩,
 ⟨some 9,(.bin .lss (.t 6) (.t 8)),none⟩]
def s_f16_r2_tale:=hT s_f16_r2 [6,7,8] [9] 10 [] [(9,(.op (.bin .lss (.t 0) (.t 1)) [(.t 5),(.op (.lenS .s (.t 0)) [(.t 1)])]))] [.tt 5,.tt 1,.sub 0 [1] [],.sub 0 [] []] (by kernel_rfl) (by kernel_rfl)
def s_f16_r3:List AOper:=[
 ⟨some 12,(.move (.t 1)),none⟩,
 ⟨some 13,(.move (.t 5)),none⟩,
 ⟨some 14,(.indexAddr 1 (.t 12) (.t 13)),none⟩,
 ⟨some 15,(.load false 1 (.t 14)),none⟩,
 ⟨some 16,(.move (.t 0)),none⟩,
 ⟨some 17,(.bin .eql (.t 15) (.t 16)),none⟩]
def s_f16_r3_tale:=hT s_f16_r3 [9,12,13,14,15,16] [17] 18 [] [(17,(.op (.bin .eql (.t 0) (.t 1)) [(.op (.load false 1 (.t 0)) [(.op (.indexAddr 1 (.t 0) (.t 1)) [(.t 1),(.t 5)])]),(.t 0)]))] [.tt 1,.tt 5,.sub 0 [0,0] [],.sub 0 [0] [],.tt 0,.sub 0 [] []] (by kernel_rfl) (by kernel_rfl)
def s_f16_r4:List AOper:=[
 ⟨some 4,(.move (.c (.s (.bool true)))),none⟩]
def s_f16_r4_tale:=hT s_f16_r4 [0,1,5,17] [4] 5 [] [(4,(.c (.s (.bool true))))] [.cc (.s (.bool true))] (by kernel_rfl) (by kernel_rfl)
def s_f16_r5:List AOper:=[
 ⟨some 10,(.move (.t 5)),none⟩,
 ⟨some 11,(.bin .add (.t 10) (.c (.s (.int .i64 1)))),none⟩,
 ⟨some 5,(.move (.t 11)),none⟩]
def s_f16_r5_tale:=hT s_f16_r5 [10,11,17] [5] 12 [] [(5,(.op (.bin .add (.t 0) (.c (.s (.int .i64 1)))) [(.t 5),(.c (.s (.int .i64 1)))]))] [.tt 5,.sub 0 [] [],.sub 0 [] []] (by kernel_rfl) (by kernel_rfl)
def s_f16_l0_b:ACode:=
 (.seq (.seq (.regionE s_f16_r2 [6,7,8] [9])
 (.cond (.t 9)
 .skip
 (.exit 0)))
 (.seq (.block 1
 (.seq (.regionE s_f16_r3 [9,12,13,14,15,16] [17])
 (.cond (.t 17)
 (.seq (.regionE s_f16_r4 [0,1,5,17] [4])
 .ret)
 .skip)))
 (.regionE s_f16_r5 [10,11,17] [5])))
def s_f16_l0:ACode:=s_f16_l0_b
def s_f16_l0_ev:=hE s_f16_l0 s_f16_l0_b rfl
def s_f16_r6:List AOper:=[
 ⟨some 4,(.move (.c (.s (.bool false)))),none⟩]
def s_f16_r6_tale:=hT s_f16_r6 [0,1,5,9] [4] 5 [] [(4,(.c (.s (.bool false))))] [.cc (.s (.bool false))] (by kernel_rfl) (by kernel_rfl)
def s_f16:ACFun:={ ntmps:=18,results:=[(.tmp 4)],body:=
 (.seq (.regionE s_f16_r0 s_f16_r0_k [])
 (.seq (.seq (.regionE s_f16_r1 [] [5])
 (.block 0
 (.loop [] s_f16_l0)))
 (.seq (.regionE s_f16_r6 [0,1,5,9] [4])
 .ret))) }
def a_f5:=ai @s_f5_r0p0_k_kA0 (ai @s_f5_r0p0_k_kA1 (ai @s_f5_r0p0_k_kA2 (ai @s_f5_r0_x (ai @s_f5_r0t1_tale (ai @s_f5_r0t1_x (ai @s_f5_r0_k_kA0 (ai @s_f5_r0_k_kA1 (ai @s_f5_r0_k_kA2 (ai @s_f5_r1p0_tale (ai @s_f5_r1_x (ai @s_f5_r1t1_x (ai @s_f5_r2_tale (ai @s_f5_r3p0_tale (ai @s_f5_r3_x (ai @s_f5_r3t1_x (ai @s_f5_r3p2_tale (ai @s_f5_r3t2_x (ai @s_f5_r3t3_x (ai @s_f5_r3t4_x (ai @s_f5_r3t5_tale (ai @s_f5_r3t5_x (ai @s_f5_r4p0_tale (ai @s_f5_r4_x (ai @s_f5_r4t1_x (ai @s_f5_r4t2_tale (ai @s_f5_r4t2_x (ai @s_f5_r5_tale (ai @s_f5_r6p0_tale (ai @s_f5_r6_x (ai @s_f5_r6t1_x (ai @s_f5_r6t2_tale (ai @s_f5_r6t2_x (ai @s_f5_r7_tale (ai @s_f5_r8_tale (ai @s_f5_r9_tale (ai @s_f5_r10_tale (ai @s_f5_r11_tale (ai @s_f5_r12_tale (ai @s_f5_r13p0_tale (ai @s_f5_r13_x (ai @s_f5_r13t1_x (ai @s_f5_r13t2_x (ai @s_f5_r14_tale (ai @s_f5_r15_tale (ai @s_f5_r16_tale (ai @s_f5_r17p0_tale (ai @s_f5_r17_x (ai @s_f5_r17t1_x (ai @s_f5_r17t2_x (ai @s_f5_r17t3_x (ai @s_f5_r17t4_x (ai @s_f5_r17t5_x (ai @s_f5_r17t6_x (ai @s_f5_r17t7_x (ai @s_f5_r17t8_tale (ai @s_f5_r17t8_x (ai @s_f5_r18_tale (ai @s_f5_r19_tale (ai @s_f5_r20_tale (ai @s_f5_r21_tale (ai @s_f5_r22_tale (ai @s_f5_r23_tale (ai @s_f5_l0_ev (ai @s_f5_r24_tale (ai @s_f5_r25_tale (ai @s_f5_r26_tale (ai @s_f5_l1_ev (ai @s_f5_r27_tale (ai @s_f5_r28_tale (ai @s_f5_r29p0_tale (ai @s_f5_r29_x (ai @s_f5_r29t1_x (ai @s_f5_r29t2_x (ai @s_f5_r29t3_x (ai @s_f5_r29t4_x (ai @s_f5_r29t5_x (ai @s_f5_r29t6_x (ai @s_f5_r29t7_x (ai @s_f5_r29t8_x (ai @s_f5_r29t9_x (ai @s_f5_r29t10_x (ai @s_f5_r29t11_x (ai @s_f5_r29t12_x (ai @s_f5_r29t13_x (ai @s_f5_r29t14_x (ai @s_f5_r29t15_tale (ai @s_f5_r29t15_x (ai @s_f5_r30_tale (ai @s_f5_r31_tale (ai @s_f5_l2_ev (ai @s_f5_r32_tale (ai @s_f5_r33_tale (ai @s_f5_r34_tale (ai @s_f5_r35_tale (ai @s_f5_r36_tale (ai @s_f5_r37_tale (ai @s_f5_r38_tale (ai @s_f5_l3_ev (ai @s_f5_r39_tale (ai @s_f5_r40_tale (ai @s_f5_r41_tale (ai @s_f5_l4_ev (ai @s_f5_r42p0_tale (ai @s_f5_r42_x (ai @s_f5_r42t1_x (ai @s_f5_r42t2_tale (ai @s_f5_r42t2_x (ai @s_f5_r43_x (ai @s_f5_r43p1_tale (ai @s_f5_r43t1_x (ai @s_f5_r43t2_x (ai @s_f5_r43t3_tale (ai @s_f5_r43t3_x (ai @s_f5_r44_tale (ai @s_f5_r45_tale (ai @s_f5_r46_tale (ai @s_f5_r47_tale (ai @s_f5_r48p0_tale (ai @s_f5_r48_x (ai @s_f5_r48t1_x (ai @s_f5_r49p0_tale (ai @s_f5_r49_x (ai @s_f5_r49t1_x (ai @s_f5_r49t2_tale (ai @s_f5_r49t2_x (ai @s_f5_l5_ev (ai @s_f5_r50_tale (ai @s_f5_r51_tale (ai @s_f5_r52_tale (ai @s_f5_l6_ev (ai @s_f5_r53_x (ai @s_f5_r53t1_tale (@s_f5_r53t1_x)))))))))))))))))))))))))))))))))))))))))))))))))))))))))))))))))))))))))))))))))))))))))))))))))))))))))))))))))))))))))))))))))))))
def a_f16:=ai @s_f16_r0_tale (ai @s_f16_r0_kT (ai @s_f16_r0_kA0 (ai @s_f16_r0_kA1 (ai @s_f16_r1_tale (ai @s_f16_r2_tale (ai @s_f16_r3_tale (ai @s_f16_r4_tale (ai @s_f16_r5_tale (ai @s_f16_l0_ev (@s_f16_r6_tale))))))))))
theorem GA6_16:compK Try.prog PX0 16=some (false,s_f16.ntmps,s_f16.results,s_f16.body.bare):=by kernel_rfl
theorem GA6_5:compK Try.prog PX0 5=some (false,s_f5.ntmps,s_f5.results,s_f5.body.bare):=by kernel_rfl
end Go.Proofs.Ytgimjihhlhjejaa
set_option maxRecDepth 100000
namespace Go.Proofs.Ytgimjihhlhjejaa
open Go.AM
theorem fin_upm (r:List Int):Up (fin r)∧∀ x,x∈fin r↔x∈r:=by
 have hs:(sortZ r).Pairwise (·≤·):=by
  have:=List.pairwise_mergeSort (le:=fun x y:Int=>decide (x≤y)) (by intro a b c;simp only [decide_eq_true_eq];omega) (by intro a b;simp only [Bool.or_eq_true,decide_eq_true_eq];omega) r
  simp only [decide_eq_true_eq] at this
  exact this
 have hm:∀ x,x∈sortZ r↔x∈r:=fun x=>by rw [sortZ,List.mem_mergeSort]
 unfold fin
 cases hz:sortZ r with
 | nil=>rw [hz] at hm;exact ⟨trivial,hm⟩
 | cons p l=>
   rw [hz] at hm hs
   obtain ⟨q1,q2⟩:=chg_up l p hs
   exact ⟨q1,fun x=>by rw [← hm x];exact q2 x⟩
theorem up_ltC:∀ {l:List Int},Up l→∀ {i j:Nat} {x y:Int},i < j→l[i]?=some x→l[j]?=some y→x < y:=by
 intro l
 induction l with
 | nil=>intro _ i j x y _ h;simp at h
 | cons a l ih=>
   intro h i j x y hij hx hy
   cases j with
   | zero=>omega
   | succ j=>
     rw [List.getElem?_cons_succ] at hy
     cases i with
     | zero=>
       rw [List.getElem?_cons_zero] at hx
       rw [← Option.some.inj hx]
       exact h.1 _ (List.mem_of_getElem? hy)
     | succ i=>
       rw [List.getElem?_cons_succ] at hx
       exact ih h.2 (by omega) hx hy
section
variable {bs:List BlkD} (hg:ofBad bs=false)
include hg
theorem good_at {i:Nat} {b:BlkD} (hb:bs[i]?=some b):0 < b.n∧(b.op=12∨b.op=13∨b.op=14)∧(b.op≠14→∀ l∈b.labs,l∈labsOf bs):=by
 unfold ofBad at hg
 rw [List.any_eq_false] at hg
 have h:=hg b (List.mem_of_getElem? hb)
 rw [Bool.not_eq_true] at h
 unfold badD at h
 rw [Bool.or_eq_false_iff,Bool.or_eq_false_iff] at h
 obtain ⟨⟨h1,h2⟩,h3⟩:=h
 rw [beq_eq_false_iff_ne] at h1
 have h4:b.op=12∨b.op=13∨b.op=14:=by
  refine Classical.byContradiction fun hc=>?_
  have e1:(b.op == 12)=false:=by rw [beq_eq_false_iff_ne];omega
  have e2:(b.op == 13)=false:=by rw [beq_eq_false_iff_ne];omega
  have e3:(b.op == 14)=false:=by rw [beq_eq_false_iff_ne];omega
  rw [e1,e2,e3] at h2
  simp at h2
 refine ⟨by omega,h4,fun hne l hl=>?_⟩
 have e:(b.op == 12 || b.op == 13)=true:=by
  rcases h4 with e | e | e
  ·rw [e];rfl
  ·rw [e];rfl
  ·exact absurd e hne
 rw [e,Bool.true_and,List.any_eq_false] at h3
 have:=h3 l hl
 refine memD_iff.1 ?_
 cases hm:memD (labsOf bs) l with
 | true=>rfl
 | false=>rw [hm] at this;simp at this
theorem rowsO_get {i:Nat} {b:BlkD} (hb:bs[i]?=some b):(ofRows bs).getD i []=fin (succR (labsOf bs) b):=by
 rw [List.getD,ofRows,List.getElem?_map,hb];rfl
theorem rowsO_mem {i:Nat} {b:BlkD} (hb:bs[i]?=some b) (z:Int):z∈(ofRows bs).getD i []↔b.op≠14∧∃ l∈b.labs,z=(fidx (labsOf bs) l:Int):=by
 rw [rowsO_get hg hb,(fin_upm _).2,succR]
 by_cases e:b.op=14
 ·rw [if_pos e];simp [e]
 ·rw [if_neg e,List.mem_map]
  exact ⟨fun ⟨l,h1,h2⟩=>⟨e,l,h1,h2.symm⟩,fun ⟨_,l,h1,h2⟩=>⟨l,h1,h2.symm⟩⟩
theorem rowsO_up (i:Nat):Up ((ofRows bs).getD i []):=by
 cases hb:bs[i]? with
 | none=>rw [List.getD,ofRows,List.getElem?_map,hb];trivial
 | some b=>rw [rowsO_get hg hb];exact (fin_upm _).1
theorem rowsO_in {i:Nat} {z:Int} (hz:z∈(ofRows bs).getD i []):∃ k:Nat,z=k∧k < bs.length:=by
 cases hb:bs[i]? with
 | none=>rw [List.getD,ofRows,List.getElem?_map,hb] at hz;cases hz
 | some b=>
   obtain ⟨h1,l,h2,rfl⟩:=(rowsO_mem hg hb z).1 hz
   have h3:=(good_at hg hb).2.2 h1 l h2
   have:=fidx_lt h3
   rw [labsOf,List.length_map] at this
   exact ⟨_,rfl,this⟩
end
section
variable {CT:Nat→Option CFun}
theorem among_fun (hT:CT k_f16=some (.code s_f16)) (base:Nat) (H:Heap) {v:V} {l:List Int} (z:Int) (hv:Rd H v (l.map iV)) (hw:Wide1 v) (hl:l.length < 2 ^ 40):
 callW CT (.fn k_f16 [] []) [.s (.int .i64 z),v] base H=some (.s (.bool (l.any fun y=>y == z)),H):=by
 have hvl:=iV_len hv
 have step:∀ i,i < l.length→(l.getD i 0 == z)=false→itW (evC (callW CT) itW base s_f16_l0) [] H.length (frOf 18 [(0,Iz z),(1,v),(5,Iz i)]) H=itW (evC (callW CT) itW base s_f16_l0) [] H.length (frOf 18 [(0,Iz z),(1,v),(5,Iz (i+1:Nat))]) H:=by
  intro i hi hp
  have hlt':((i:Int) < (l.length:Int)):=by omega
  have hwk:=w64 (n:=i) (by omega)
  obtain ⟨a,a1,a2⟩:=iV_at hv hw (some_getD hi (0:Int))
  rw [itW_step]
  simp only [Iz,a_f16,s_f16_l0_b,aa,bl,i64,reduceIte,reduceCtorEq,Nat.reduceEqDiff,Nat.reduceLT,Nat.reduceLeDiff,Nat.reduceBEq,Nat.reduceAdd,fillA,splice,Nat.reduceMul,amY,op_eqP,hvl,hlt',a1,a2,hp,hwk,trim_same rfl]
 refine callW_fn (c:=s_f16) hT (by simp [s_f16]) ?_
 rcases it_find l.length (fun i=>l.getD i 0 == z) (fun i=>itW (evC (callW CT) itW base s_f16_l0) [] H.length (frOf 18 [(0,Iz z),(1,v),(5,Iz i)]) H) step with ⟨h1,h2⟩ | ⟨i,hi,h1,_,h3⟩
 ·have hf:(l.any fun y=>y == z)=false:=by
   rw [List.any_eq_false]
   intro r hr
   obtain ⟨i,hi⟩:=List.mem_iff_getElem?.1 hr
   have:=h1 i (List.getElem?_eq_some_iff.1 hi).1
   rw [getD_some hi] at this
   rw [this];simp
  have hend:itW (evC (callW CT) itW base s_f16_l0) [] H.length (frOf 18 [(0,Iz z),(1,v),(5,Iz l.length)]) H=some (.ext 0,frOf 18 [(0,Iz z),(1,v),(5,Iz l.length),(9,bl false)],H):=by
   rw [itW_step]
   simp only [Iz,bl,a_f16,s_f16_l0_b,aa,bl,i64,reduceIte,reduceCtorEq,Nat.reduceEqDiff,Nat.reduceLT,Nat.reduceLeDiff,Nat.reduceBEq,Nat.reduceAdd,fillA,splice,Nat.reduceMul,amY,op_eqP,hvl,Int.lt_irrefl,trim_same rfl]
  have h4:=h2.trans hend
  simp only [Iz,bl,cast0] at h4
  simp only [s_f16,a_f16,s_f16_l0_b,aa,bl,i64,reduceIte,reduceCtorEq,Nat.reduceEqDiff,Nat.reduceLT,Nat.reduceLeDiff,Nat.reduceBEq,Nat.reduceAdd,fillA,splice,Nat.reduceMul,amY,op_eqP,h4,hf]
 ·have hf:(l.any fun y=>y == z)=true:=List.any_eq_true.2 ⟨_,List.mem_of_getElem? (some_getD hi 0),h1⟩
  have hlt':((i:Int) < (l.length:Int)):=by omega
  obtain ⟨a,a1,a2⟩:=iV_at hv hw (some_getD hi (0:Int))
  have hend:itW (evC (callW CT) itW base s_f16_l0) [] H.length (frOf 18 [(0,Iz z),(1,v),(5,Iz i)]) H=some (.ret,frOf 18 [(4,bl true)],H):=by
   rw [itW_step]
   simp only [Iz,bl,a_f16,s_f16_l0_b,aa,bl,i64,reduceIte,reduceCtorEq,Nat.reduceEqDiff,Nat.reduceLT,Nat.reduceLeDiff,Nat.reduceBEq,Nat.reduceAdd,fillA,splice,Nat.reduceMul,amY,op_eqP,hvl,hlt',a1,a2,h1,trim_same rfl]
  have h4:=h3.trans hend
  simp only [Iz,bl,cast0] at h4
  simp only [s_f16,a_f16,s_f16_l0_b,aa,bl,i64,reduceIte,reduceCtorEq,Nat.reduceEqDiff,Nat.reduceLT,Nat.reduceLeDiff,Nat.reduceBEq,Nat.reduceAdd,fillA,splice,Nat.reduceMul,amY,op_eqP,h4,hf]
end
end Go.Proofs.Ytgimjihhlhjejaa
set_option maxRecDepth 100000
namespace Go.Proofs.Ytgimjihhlhjejaa
open Go.AM
def eqL (a b:ByteArray):Bool:=a.data.toList == b.data.toList
theorem eqL_iff {a b:ByteArray}:eqL a b=true↔a=b:=by
 unfold eqL
 rw [beq_iff_eq]
 exact ⟨fun h=>by cases a;cases b;exact congrArg ByteArray.mk (Array.ext' h),fun h=>by rw [h]⟩
structure WC (H:Heap) (h p3 p9:Nat) (bv sv qv lv:V) (bs:List BlkD) (b:BlkD):Prop where
 x1:xLoad H false 1 (.ref h 0 2)=some bv
 hv:RdBlks H bv bs
 x3s:xLoad H false 1 (.ref p3 0 0)=some sv
 hs:RdRows H sv (rowsV (ofRows bs))
 x3p:xLoad H false 1 (.ref p3 0 1)=some qv
 hq:RdRows H qv (rowsV (backG (ofRows bs)))
 x9o:xLoad H false 1 (.ref p9 0 0)=some (.s (.int .u8 b.op))
 x9l:xLoad H false 1 (.ref p9 0 7)=some lv
 hl:Rd H lv (b.labs.map Sb)
 hlw:Wide1 lv
 n:bs.length < 2 ^ 18
 nl:∀ b∈bs,b.labs.length < 2 ^ 18
theorem any_succ' {α:Type} (l:List α) (p:α→Bool) (i:Nat) {x:α} (hx:l[i]?=some x):(l.take (i+1)).any p=((l.take i).any p || p x):=by
 rw [List.take_succ,hx,List.any_append]
 simp
theorem bA_atC {H:Heap} {id n:Nat} {B:List Bool} (h:getC H id 0=some (B.map bV)) {k:Nat} (hk:k < n) (hn:B.length=n):xIndexAddr 1 (.sl id 0 0 n 1) (.s (.int .i64 k))=some (.ref id 0 k)∧xLoad H false 1 (.ref id 0 k)=some (.s (.bool (B.getD k false))):=
 at_sl h hk (by rw [List.getElem?_map,some_getD (l:=B) (by omega) false];rfl)
theorem bA_setC {H:Heap} {id n base:Nat} {B:List Bool} (h:getC H id 0=some (B.map bV)) (hb:base≤id) {k:Nat} (hk:k < n) (hn:B.length=n):storeV H base 1 (.s (.bool true)) (.ref id 0 k)=some (H.set id (.cells 0 ((B.set k true).map bV))):=by
 have:=storeV_at (v:=.s (.bool true)) h hb rfl (off:=k) (by rw [List.length_map];omega)
 rw [this,List.map_set]
 rfl
section
variable {CT:Nat→Option CFun}
theorem ways_l0 (base:Nat) {H:Heap} {h p3 p9 i k z:Nat} {lov bv sv qv lv:V} {bs:List BlkD} {b c:BlkD} (w:WC H h p3 p9 bv sv qv lv bs b) (hz:bs[z]?=some c) (hbl:b.labs.length < 2 ^ 18):
 itW (evC (callW CT) itW base s_f5_l0) [] H.length (frOf 308 [(1,.ref h 0 0),(3,.ref p3 0 0),(5,lov),(6,Iz bs.length),(7,Iz i),(9,.ref p9 0 0),(10,Iz k),(11,Iz (z:Nat)),(12,bl false),(13,Iz 0)]) H=some (.ext 4,frOf 308 [(1,.ref h 0 0),(3,.ref p3 0 0),(5,lov),(6,Iz bs.length),(7,Iz i),(9,.ref p9 0 0),(10,Iz k),(11,Iz (z:Nat)),(12,bl (b.labs.any fun l=>eqL l c.label)),(13,Iz b.labs.length),(140,bl false)],H):=by
 have hll:=Sb_len w.hl
 have hx1:=w.x1
 have hx9:=w.x9l
 obtain ⟨a,la,ca,cv,a1,a2,l1,l2,_⟩:=w.hv.at' hz
 have hst:=it_fun b.labs.length (fun j=>itW (evC (callW CT) itW base s_f5_l0) [] H.length (frOf 308 [(1,.ref h 0 0),(3,.ref p3 0 0),(5,lov),(6,Iz bs.length),(7,Iz i),(9,.ref p9 0 0),(10,Iz k),(11,Iz (z:Nat)),(12,bl ((b.labs.take j).any fun l=>eqL l c.label)),(13,Iz j)]) H) (by
  intro j hj
  have hlt':((j:Int) < (b.labs.length:Int)):=by omega
  have hwk:=w64 (n:=j) (by omega)
  rw [any_succ' b.labs (fun l=>eqL l c.label) j (some_getD hj ⟨#[]⟩)]
  obtain ⟨e,e1,e2⟩:=Sb_at w.hl w.hlw hj
  rw [itW_step]
  cases hb:((b.labs.take j).any fun l=>eqL l c.label) with
  | true=>simp only [Iz,bl,a_f5,s_f5_l0_b,s_f5_l1_b,s_f5_l2_b,s_f5_l3_b,s_f5_l4_b,s_f5_l5_b,s_f5_l6_b,aa,bl,i64,reduceIte,reduceCtorEq,Nat.reduceEqDiff,Nat.reduceLT,Nat.reduceLeDiff,Nat.reduceBEq,Nat.reduceAdd,fillA,splice,Nat.reduceMul,amY,op_eqP,hx9,hll,hlt',hwk,trim_same rfl,Bool.true_or]
  | false=>
    rw [Bool.false_or]
    have hq:((b.labs.getD j ⟨#[]⟩).data.toList == c.label.data.toList)=eqL (b.labs.getD j ⟨#[]⟩) c.label:=rfl
    simp only [Iz,bl,a_f5,s_f5_l0_b,s_f5_l1_b,s_f5_l2_b,s_f5_l3_b,s_f5_l4_b,s_f5_l5_b,s_f5_l6_b,aa,bl,i64,reduceIte,reduceCtorEq,Nat.reduceEqDiff,Nat.reduceLT,Nat.reduceLeDiff,Nat.reduceBEq,Nat.reduceAdd,fillA,splice,Nat.reduceMul,amY,op_eqP,hx1,hx9,hll,hlt',e1,e2,a1,l1,l2,hq,hwk,trim_same rfl]) 0 (Nat.zero_le _)
 rw [cast0,List.take_zero,List.any_nil,List.take_length] at hst
 refine hst.trans ?_
 rw [itW_step]
 simp only [Iz,bl,a_f5,s_f5_l0_b,s_f5_l1_b,s_f5_l2_b,s_f5_l3_b,s_f5_l4_b,s_f5_l5_b,s_f5_l6_b,aa,bl,i64,reduceIte,reduceCtorEq,Nat.reduceEqDiff,Nat.reduceLT,Nat.reduceLeDiff,Nat.reduceBEq,Nat.reduceAdd,fillA,splice,Nat.reduceMul,amY,op_eqP,hx9,hll,Int.lt_irrefl,trim_same rfl]
theorem ways_l1 (hA:CT k_f16=some (.code s_f16)) (base:Nat) {H:Heap} {h p3 p9 i:Nat} {lov bv sv qv lv:V} {bs:List BlkD} {b:BlkD} (hg:ofBad bs=false) (w:WC H h p3 p9 bv sv qv lv bs b) (hi:bs[i]?=some b):
 itW (evC (callW CT) itW base s_f5_l1) [] H.length (frOf 308 [(1,.ref h 0 0),(3,.ref p3 0 0),(5,lov),(6,Iz bs.length),(7,Iz i),(9,.ref p9 0 0),(10,Iz 0)]) H=some (.ext 2,frOf 308 [(1,.ref h 0 0),(3,.ref p3 0 0),(5,lov),(6,Iz bs.length),(7,Iz i),(9,.ref p9 0 0),(10,Iz ((ofRows bs).getD i []).length),(91,bl false)],H):=by
 have hil:=(List.getElem?_eq_some_iff.1 hi).1
 have hb18:=w.nl b (List.mem_of_getElem? hi)
 have hn18:=w.n
 obtain ⟨ra,rv,r1,r2,r3,r4⟩:=rows_at w.hs (some_getD (show i < (ofRows bs).length by rw [ofRows_len];exact hil) [])
 have hl:=iV_len r3
 have hup:=rowsO_up hg i
 have hrl:=ofRows_small (B:=2 ^ 18) (by decide) w.nl _ (List.mem_of_getElem? (some_getD (show i < (ofRows bs).length by rw [ofRows_len];exact hil) []))
 have hin:=fun z hz=>rowsO_in hg (i:=i) (z:=z) hz
 have hmem:=fun z=>rowsO_mem hg hi z
 have hga:=good_at hg hi
 obtain ⟨row,hrow⟩:∃ row,(ofRows bs).getD i []=row:=⟨_,rfl⟩
 rw [hrow] at r3 hl hup hrl hin hmem ⊢
 have hx3:=w.x3s
 have hx3p:=w.x3p
 have hx9o:=w.x9o
 have hst:=it_fun row.length (fun k=>itW (evC (callW CT) itW base s_f5_l1) [] H.length (frOf 308 [(1,.ref h 0 0),(3,.ref p3 0 0),(5,lov),(6,Iz bs.length),(7,Iz i),(9,.ref p9 0 0),(10,Iz k)]) H) (by
  intro k hk
  have hlt':((k:Int) < (row.length:Int)):=by omega
  have hwk:=w64 (n:=k) (by omega)
  obtain ⟨ea,e1,e2⟩:=iV_at r3 r4 (some_getD hk (0:Int))
  have hzm:=List.mem_of_getElem? (some_getD hk (0:Int))
  obtain ⟨z,hz1,hz2⟩:=hin _ hzm
  have hz3:=hmem (row.getD k 0)
  have hprev:∀ j,j < k→row.getD j 0 < row.getD k 0:=fun j hj=>up_ltC hup hj (some_getD (by omega) 0) (some_getD hk 0)
  rw [hz1] at e2 hzm hz3 hprev
  have hn0:¬ ((z:Int) < 0):=by omega
  have hn1:¬ ((bs.length:Int)≤(z:Int)):=by omega
  obtain ⟨pa,pv,p1,p2,p3',p4⟩:=rows_at w.hq (some_getD (show z < (backG (ofRows bs)).length by rw [backG_len,ofRows_len];exact hz2) [])
  have hbl:=back_le (ofRows bs) (List.mem_of_getElem? (some_getD (show z < (backG (ofRows bs)).length by rw [backG_len,ofRows_len];exact hz2) []))
  rw [ofRows_len] at hbl
  have ham:=among_fun (CT:=CT) hA base H (i:Int) p3' p4 (by omega)
  have hin2:(((backG (ofRows bs)).getD z []).any fun y=>y == (i:Int))=true:=List.any_eq_true.2 ⟨_,(backG_mem (ofRows bs) i z (by rw [ofRows_len];exact hz2)).2 (by rw [hrow];exact hzm),by simp⟩
  rw [hin2] at ham
  obtain ⟨hop,l,hl1,hl2⟩:=hz3.1 hzm
  have hcz:=some_getD hz2 blk0
  have h0:=ways_l0 (CT:=CT) (i:=i) (k:=k) (lov:=lov) base w hcz hb18
  have hnam:(b.labs.any fun l=>eqL l (bs.getD z blk0).label)=true:=by
   refine List.any_eq_true.2 ⟨l,hl1,eqL_iff.2 ?_⟩
   have hf:=fidx_get (hga.2.2 hop l hl1)
   have:fidx (labsOf bs) l=z:=by omega
   rw [this,labsOf,List.getElem?_map,hcz] at hf
   exact (Option.some.inj hf).symm
  rw [hnam] at h0
  have hop':(b.op == 14)=false:=by rw [beq_eq_false_iff_ne];exact hop
  have hge:¬ ((bs.length:Int)≤(z:Int)):=hn1
  rw [itW_step]
  simp only [Iz,bl] at h0
  by_cases hk0:k=0
  ·subst hk0
   rw [cast0] at hlt' e1 h0
   have hwk:IntKind.i64.wrap ((0:Int)+1)=((1:Nat):Int):=hwk
   simp only [Iz,bl,a_f5,s_f5_l0_b,s_f5_l1_b,s_f5_l2_b,s_f5_l3_b,s_f5_l4_b,s_f5_l5_b,s_f5_l6_b,aa,bl,i64,reduceIte,reduceCtorEq,Nat.reduceEqDiff,Nat.reduceLT,Nat.reduceLeDiff,Nat.reduceBEq,Nat.reduceAdd,fillA,splice,Nat.reduceMul,amY,op_eqP,ge_iff_le,gt_iff_lt,hx3,hx3p,r1,r2,hl,hlt',e1,e2,hn0,hn1,Int.lt_irrefl,p1,p2,ham,h0,hx9o,hop',hwk,trim_same rfl]
  ·obtain ⟨j,rfl⟩:∃ j,k=j+1:=⟨k - 1,by omega⟩
   have hwm:IntKind.i64.wrap (((j+1:Nat):Int) - 1)=(j:Int):=by rw [IntKind.wrap_i64];omega
   obtain ⟨da,d1,d2⟩:=iV_at r3 r4 (some_getD (show j < row.length by omega) (0:Int))
   have hup2:=hprev j (by omega)
   have hn2:¬ ((z:Int)≤row.getD j 0):=by omega
   have hp:(0:Int) < ((j+1:Nat):Int):=by omega
   simp only [Iz,bl,a_f5,s_f5_l0_b,s_f5_l1_b,s_f5_l2_b,s_f5_l3_b,s_f5_l4_b,s_f5_l5_b,s_f5_l6_b,aa,bl,i64,reduceIte,reduceCtorEq,Nat.reduceEqDiff,Nat.reduceLT,Nat.reduceLeDiff,Nat.reduceBEq,Nat.reduceAdd,fillA,splice,Nat.reduceMul,amY,op_eqP,ge_iff_le,gt_iff_lt,hx3,hx3p,r1,r2,hl,hlt',e1,e2,d1,d2,hn0,hn1,hn2,hp,hwm,p1,p2,ham,h0,hx9o,hop',hwk,trim_same rfl]) 0 (Nat.zero_le _)
 rw [cast0] at hst
 refine hst.trans ?_
 rw [itW_step]
 simp only [Iz,bl,a_f5,s_f5_l0_b,s_f5_l1_b,s_f5_l2_b,s_f5_l3_b,s_f5_l4_b,s_f5_l5_b,s_f5_l6_b,aa,bl,i64,reduceIte,reduceCtorEq,Nat.reduceEqDiff,Nat.reduceLT,Nat.reduceLeDiff,Nat.reduceBEq,Nat.reduceAdd,fillA,splice,Nat.reduceMul,amY,op_eqP,hx3,r1,r2,hl,Int.lt_irrefl,trim_same rfl]
theorem ways_l2 (hA:CT k_f16=some (.code s_f16)) (base:Nat) {H:Heap} {h p3 p9 i:Nat} {lov bv sv qv lv:V} {bs:List BlkD} {b:BlkD} (w:WC H h p3 p9 bv sv qv lv bs b) (hi:bs[i]?=some b):
 itW (evC (callW CT) itW base s_f5_l2) [] H.length (frOf 308 [(1,.ref h 0 0),(3,.ref p3 0 0),(5,lov),(6,Iz bs.length),(7,Iz i),(9,.ref p9 0 0),(14,Iz 0)]) H=some (.ext 6,frOf 308 [(1,.ref h 0 0),(3,.ref p3 0 0),(5,lov),(6,Iz bs.length),(7,Iz i),(9,.ref p9 0 0),(14,Iz ((backG (ofRows bs)).getD i []).length),(172,bl false)],H):=by
 have hil:=(List.getElem?_eq_some_iff.1 hi).1
 have hn18:=w.n
 have hib:i < (backG (ofRows bs)).length:=by rw [backG_len,ofRows_len];exact hil
 have hio:i < (ofRows bs).length:=by rw [ofRows_len];exact hil
 obtain ⟨ra,rv,r1,r2,r3,r4⟩:=rows_at w.hq (some_getD hib [])
 have hl:=iV_len r3
 have hup:Up ((backG (ofRows bs)).getD i []):=by rw [backG_get _ _ hio];exact col_up _ _ _
 have hrl:=back_le (ofRows bs) (List.mem_of_getElem? (some_getD hib []))
 rw [ofRows_len] at hrl
 have hin:∀ z∈(backG (ofRows bs)).getD i [],∃ y:Nat,z=y∧y < bs.length∧(i:Int)∈(ofRows bs).getD y []:=by
  intro z hz
  have hz':=hz
  rw [backG_get _ i hio,col_mem] at hz'
  obtain ⟨j,rfl,r,hr,_⟩:=hz'
  have hj:=(List.getElem?_eq_some_iff.1 hr).1
  rw [normG_len,ofRows_len] at hj
  exact ⟨0+j,rfl,by omega,(backG_mem _ (0+j) i hio).1 hz⟩
 obtain ⟨row,hrow⟩:∃ row,(backG (ofRows bs)).getD i []=row:=⟨_,rfl⟩
 rw [hrow] at r3 hl hup hrl hin ⊢
 have hx3:=w.x3s
 have hx3p:=w.x3p
 have hst:=it_fun row.length (fun k=>itW (evC (callW CT) itW base s_f5_l2) [] H.length (frOf 308 [(1,.ref h 0 0),(3,.ref p3 0 0),(5,lov),(6,Iz bs.length),(7,Iz i),(9,.ref p9 0 0),(14,Iz k)]) H) (by
  intro k hk
  have hlt':((k:Int) < (row.length:Int)):=by omega
  have hwk:=w64 (n:=k) (by omega)
  obtain ⟨ea,e1,e2⟩:=iV_at r3 r4 (some_getD hk (0:Int))
  obtain ⟨z,hz1,hz2,hz3⟩:=hin _ (List.mem_of_getElem? (some_getD hk (0:Int)))
  have hprev:∀ j,j < k→row.getD j 0 < row.getD k 0:=fun j hj=>up_ltC hup hj (some_getD (by omega) 0) (some_getD hk 0)
  rw [hz1] at e2 hprev
  have hzo:z < (ofRows bs).length:=by rw [ofRows_len];exact hz2
  obtain ⟨pa,pv,p1,p2,p3',p4⟩:=rows_at w.hs (some_getD hzo [])
  have hsl:=ofRows_small (B:=2 ^ 18) (by decide) w.nl _ (List.mem_of_getElem? (some_getD hzo []))
  have ham:=among_fun (CT:=CT) hA base H (i:Int) p3' p4 (by omega)
  have hin2:(((ofRows bs).getD z []).any fun y=>y == (i:Int))=true:=List.any_eq_true.2 ⟨_,hz3,by simp⟩
  rw [hin2] at ham
  rw [itW_step]
  by_cases hk0:k=0
  ·subst hk0
   rw [cast0] at hlt' e1
   have hwk:IntKind.i64.wrap ((0:Int)+1)=((1:Nat):Int):=hwk
   simp only [Iz,bl,a_f5,s_f5_l0_b,s_f5_l1_b,s_f5_l2_b,s_f5_l3_b,s_f5_l4_b,s_f5_l5_b,s_f5_l6_b,aa,bl,i64,reduceIte,reduceCtorEq,Nat.reduceEqDiff,Nat.reduceLT,Nat.reduceLeDiff,Nat.reduceBEq,Nat.reduceAdd,fillA,splice,Nat.reduceMul,amY,op_eqP,ge_iff_le,gt_iff_lt,hx3,hx3p,r1,r2,hl,hlt',e1,e2,Int.lt_irrefl,p1,p2,ham,hwk,trim_same rfl]
  ·obtain ⟨j,rfl⟩:∃ j,k=j+1:=⟨k - 1,by omega⟩
   have hwm:IntKind.i64.wrap (((j+1:Nat):Int) - 1)=(j:Int):=by rw [IntKind.wrap_i64];omega
   obtain ⟨da,d1,d2⟩:=iV_at r3 r4 (some_getD (show j < row.length by omega) (0:Int))
   have hup2:=hprev j (by omega)
   have hn2:¬ ((z:Int)≤row.getD j 0):=by omega
   have hp:(0:Int) < ((j+1:Nat):Int):=by omega
   simp only [Iz,bl,a_f5,s_f5_l0_b,s_f5_l1_b,s_f5_l2_b,s_f5_l3_b,s_f5_l4_b,s_f5_l5_b,s_f5_l6_b,aa,bl,i64,reduceIte,reduceCtorEq,Nat.reduceEqDiff,Nat.reduceLT,Nat.reduceLeDiff,Nat.reduceBEq,Nat.reduceAdd,fillA,splice,Nat.reduceMul,amY,op_eqP,ge_iff_le,gt_iff_lt,hx3,hx3p,r1,r2,hl,hlt',e1,e2,d1,d2,hn2,hp,hwm,p1,p2,ham,hwk,trim_same rfl]) 0 (Nat.zero_le _)
 rw [cast0] at hst
 refine hst.trans ?_
 rw [itW_step]
 simp only [Iz,bl,a_f5,s_f5_l0_b,s_f5_l1_b,s_f5_l2_b,s_f5_l3_b,s_f5_l4_b,s_f5_l5_b,s_f5_l6_b,aa,bl,i64,reduceIte,reduceCtorEq,Nat.reduceEqDiff,Nat.reduceLT,Nat.reduceLeDiff,Nat.reduceBEq,Nat.reduceAdd,fillA,splice,Nat.reduceMul,amY,op_eqP,hx3p,r1,r2,hl,Int.lt_irrefl,trim_same rfl]
theorem ways_l3 (base:Nat) {H:Heap} {h p3 p9 i j:Nat} {lov bv sv qv lv:V} {bs:List BlkD} {b:BlkD} (hg:ofBad bs=false) (w:WC H h p3 p9 bv sv qv lv bs b) (hi:bs[i]?=some b) (hj:j < b.labs.length):
 itW (evC (callW CT) itW base s_f5_l3) [] H.length (frOf 308 [(1,.ref h 0 0),(3,.ref p3 0 0),(5,lov),(6,Iz bs.length),(7,Iz i),(9,.ref p9 0 0),(15,Iz j),(16,bl false),(17,Iz 0)]) H=some (.ext 10,frOf 308 [(1,.ref h 0 0),(3,.ref p3 0 0),(5,lov),(6,Iz bs.length),(7,Iz i),(9,.ref p9 0 0),(15,Iz j),(16,bl (((ofRows bs).getD i []).any fun y=>eqL (bs.getD y.toNat blk0).label (b.labs.getD j ⟨#[]⟩))),(17,Iz ((ofRows bs).getD i []).length),(233,bl false)],H):=by
 have hil:=(List.getElem?_eq_some_iff.1 hi).1
 have hn18:=w.n
 have hio:i < (ofRows bs).length:=by rw [ofRows_len];exact hil
 obtain ⟨ra,rv,r1,r2,r3,r4⟩:=rows_at w.hs (some_getD hio [])
 have hl:=iV_len r3
 have hrl:=ofRows_small (B:=2 ^ 18) (by decide) w.nl _ (List.mem_of_getElem? (some_getD hio []))
 have hin:=fun z hz=>rowsO_in hg (i:=i) (z:=z) hz
 obtain ⟨row,hrow⟩:∃ row,(ofRows bs).getD i []=row:=⟨_,rfl⟩
 rw [hrow] at r3 hl hrl hin ⊢
 have hx1:=w.x1
 have hx3:=w.x3s
 have hx9:=w.x9l
 obtain ⟨g,g1,g2⟩:=Sb_at w.hl w.hlw hj
 have hst:=it_fun row.length (fun k=>itW (evC (callW CT) itW base s_f5_l3) [] H.length (frOf 308 [(1,.ref h 0 0),(3,.ref p3 0 0),(5,lov),(6,Iz bs.length),(7,Iz i),(9,.ref p9 0 0),(15,Iz j),(16,bl ((row.take k).any fun y=>eqL (bs.getD y.toNat blk0).label (b.labs.getD j ⟨#[]⟩))),(17,Iz k)]) H) (by
  intro k hk
  have hlt':((k:Int) < (row.length:Int)):=by omega
  have hwk:=w64 (n:=k) (by omega)
  rw [any_succ' row (fun y=>eqL (bs.getD y.toNat blk0).label (b.labs.getD j ⟨#[]⟩)) k (some_getD hk 0)]
  obtain ⟨ea,e1,e2⟩:=iV_at r3 r4 (some_getD hk (0:Int))
  obtain ⟨z,hz1,hz2⟩:=hin _ (List.mem_of_getElem? (some_getD hk (0:Int)))
  rw [hz1] at e2 ⊢
  rw [Int.toNat_natCast]
  obtain ⟨a,la,ca,cv,a1,a2,l1,l2,_⟩:=w.hv.at' (some_getD hz2 blk0)
  rw [itW_step]
  cases hb:((row.take k).any fun y=>eqL (bs.getD y.toNat blk0).label (b.labs.getD j ⟨#[]⟩)) with
  | true=>simp only [Iz,bl,a_f5,s_f5_l0_b,s_f5_l1_b,s_f5_l2_b,s_f5_l3_b,s_f5_l4_b,s_f5_l5_b,s_f5_l6_b,aa,bl,i64,reduceIte,reduceCtorEq,Nat.reduceEqDiff,Nat.reduceLT,Nat.reduceLeDiff,Nat.reduceBEq,Nat.reduceAdd,fillA,splice,Nat.reduceMul,amY,op_eqP,hx3,r1,r2,hl,hlt',hwk,trim_same rfl,Bool.true_or]
  | false=>
    rw [Bool.false_or]
    have hq:((bs.getD z blk0).label.data.toList == (b.labs.getD j ⟨#[]⟩).data.toList)=eqL (bs.getD z blk0).label (b.labs.getD j ⟨#[]⟩):=rfl
    simp only [Iz,bl,a_f5,s_f5_l0_b,s_f5_l1_b,s_f5_l2_b,s_f5_l3_b,s_f5_l4_b,s_f5_l5_b,s_f5_l6_b,aa,bl,i64,reduceIte,reduceCtorEq,Nat.reduceEqDiff,Nat.reduceLT,Nat.reduceLeDiff,Nat.reduceBEq,Nat.reduceAdd,fillA,splice,Nat.reduceMul,amY,op_eqP,hx1,hx3,hx9,r1,r2,hl,hlt',e1,e2,a1,l1,l2,g1,g2,hq,hwk,trim_same rfl]) 0 (Nat.zero_le _)
 rw [cast0,List.take_zero,List.any_nil,List.take_length] at hst
 refine hst.trans ?_
 rw [itW_step]
 simp only [Iz,bl,a_f5,s_f5_l0_b,s_f5_l1_b,s_f5_l2_b,s_f5_l3_b,s_f5_l4_b,s_f5_l5_b,s_f5_l6_b,aa,bl,i64,reduceIte,reduceCtorEq,Nat.reduceEqDiff,Nat.reduceLT,Nat.reduceLeDiff,Nat.reduceBEq,Nat.reduceAdd,fillA,splice,Nat.reduceMul,amY,op_eqP,hx3,r1,r2,hl,Int.lt_irrefl,trim_same rfl]
theorem ways_l4 (base:Nat) {H:Heap} {h p3 p9 i:Nat} {lov bv sv qv lv:V} {bs:List BlkD} {b:BlkD} (hg:ofBad bs=false) (w:WC H h p3 p9 bv sv qv lv bs b) (hi:bs[i]?=some b):
 ∃ j:Nat,itW (evC (callW CT) itW base s_f5_l4) [] H.length (frOf 308 [(1,.ref h 0 0),(3,.ref p3 0 0),(5,lov),(6,Iz bs.length),(7,Iz i),(9,.ref p9 0 0),(15,Iz 0)]) H=some (.ext 8,frOf 308 [(1,.ref h 0 0),(3,.ref p3 0 0),(5,lov),(6,Iz bs.length),(7,Iz i),(9,.ref p9 0 0),(15,Iz j),(223,bl false)],H):=by
 have hb18:=w.nl b (List.mem_of_getElem? hi)
 have hll:=Sb_len w.hl
 have hx9:=w.x9l
 have hx9o:=w.x9o
 have hga:=good_at hg hi
 by_cases h14:b.op=14
 ·refine ⟨0,?_⟩
  rw [h14] at hx9o
  have e14:((14:Int) != 14)=false:=rfl
  rw [itW_step]
  by_cases h0:(0:Int) < (b.labs.length:Int)
  ·simp only [Iz,bl,cast0,a_f5,s_f5_l0_b,s_f5_l1_b,s_f5_l2_b,s_f5_l3_b,s_f5_l4_b,s_f5_l5_b,s_f5_l6_b,aa,bl,i64,reduceIte,reduceCtorEq,Nat.reduceEqDiff,Nat.reduceLT,Nat.reduceLeDiff,Nat.reduceBEq,Nat.reduceAdd,fillA,splice,Nat.reduceMul,amY,op_eqP,hx9,hx9o,hll,h0,e14,trim_same rfl]
  ·simp only [Iz,bl,cast0,a_f5,s_f5_l0_b,s_f5_l1_b,s_f5_l2_b,s_f5_l3_b,s_f5_l4_b,s_f5_l5_b,s_f5_l6_b,aa,bl,i64,reduceIte,reduceCtorEq,Nat.reduceEqDiff,Nat.reduceLT,Nat.reduceLeDiff,Nat.reduceBEq,Nat.reduceAdd,fillA,splice,Nat.reduceMul,amY,op_eqP,hx9,hx9o,hll,h0,e14,trim_same rfl]
 ·refine ⟨b.labs.length,?_⟩
  have e14:(b.op != 14)=true:=by rw [bne_iff_ne];exact h14
  have hst:=it_fun b.labs.length (fun j=>itW (evC (callW CT) itW base s_f5_l4) [] H.length (frOf 308 [(1,.ref h 0 0),(3,.ref p3 0 0),(5,lov),(6,Iz bs.length),(7,Iz i),(9,.ref p9 0 0),(15,Iz j)]) H) (by
   intro j hj
   have hlt':((j:Int) < (b.labs.length:Int)):=by omega
   have hwk:=w64 (n:=j) (by omega)
   have h3:=ways_l3 (CT:=CT) (lov:=lov) base hg w hi hj
   have ht:(((ofRows bs).getD i []).any fun y=>eqL (bs.getD y.toNat blk0).label (b.labs.getD j ⟨#[]⟩))=true:=by
    have hjl:=some_getD hj (⟨#[]⟩:ByteArray)
    have hmem:=List.mem_of_getElem? hjl
    have hf:=hga.2.2 h14 _ hmem
    refine List.any_eq_true.2 ⟨(fidx (labsOf bs) (b.labs.getD j ⟨#[]⟩):Int),(rowsO_mem hg hi _).2 ⟨h14,_,hmem,rfl⟩,eqL_iff.2 ?_⟩
    have hfg:=fidx_get hf
    have hlt:=fidx_lt hf
    rw [labsOf,List.length_map] at hlt
    rw [Int.toNat_natCast]
    rw [labsOf,List.getElem?_map,some_getD hlt blk0] at hfg
    exact Option.some.inj hfg
   rw [ht] at h3
   rw [itW_step]
   simp only [Iz,bl] at h3
   simp only [Iz,bl,a_f5,s_f5_l0_b,s_f5_l1_b,s_f5_l2_b,s_f5_l3_b,s_f5_l4_b,s_f5_l5_b,s_f5_l6_b,aa,bl,i64,reduceIte,reduceCtorEq,Nat.reduceEqDiff,Nat.reduceLT,Nat.reduceLeDiff,Nat.reduceBEq,Nat.reduceAdd,fillA,splice,Nat.reduceMul,amY,op_eqP,hx9,hx9o,hll,hlt',e14,h3,hwk,trim_same rfl]) 0 (Nat.zero_le _)
  rw [cast0] at hst
  refine hst.trans ?_
  rw [itW_step]
  simp only [Iz,bl,a_f5,s_f5_l0_b,s_f5_l1_b,s_f5_l2_b,s_f5_l3_b,s_f5_l4_b,s_f5_l5_b,s_f5_l6_b,aa,bl,i64,reduceIte,reduceCtorEq,Nat.reduceEqDiff,Nat.reduceLT,Nat.reduceLeDiff,Nat.reduceBEq,Nat.reduceAdd,fillA,splice,Nat.reduceMul,amY,op_eqP,hx9,hx9o,hll,Int.lt_irrefl,e14,trim_same rfl]
end
end Go.Proofs.Ytgimjihhlhjejaa
set_option maxRecDepth 100000
namespace Go.Proofs.Ytgimjihhlhjejaa
open Go.AM
def wt:List Bool→List (List Int)→Nat
 | b :: W,r :: G=>(if b then 0 else r.length)+wt W G
 | _,_=>0
theorem wt_set:∀ (W:List Bool) (G:List (List Int)) (k:Nat),W.length=G.length→W[k]?=some false→wt (W.set k true) G+(G.getD k []).length=wt W G:=by
 intro W
 induction W with
 | nil=>intro G k _ h;simp at h
 | cons b W ih=>
   intro G k hl h
   cases G with
   | nil=>simp at hl
   | cons r G=>
     cases k with
     | zero=>simp at h;subst h;simp [wt];omega
     | succ k=>
       have:=ih G k (by simpa using hl) (by simpa using h)
       simp only [List.set_cons_succ,wt,List.getD_cons_succ]
       omega
structure DI (G:List (List Int)) (r:List Int) (W:List Bool) (S:List Int):Prop where
 len:W.length=G.length
 sW:∀ k,W.getD k false=true→Rch G r k
 sS:∀ z∈S,∃ k:Nat,z=k∧Rch G r k
 clo:∀ k,W.getD k false=true→∀ y∈G.getD k [],(∃ j:Nat,y=j∧W.getD j false=true)∨y∈S
 ini:∀ y∈r,(∃ j:Nat,y=j∧W.getD j false=true)∨y∈S
section
variable {G:List (List Int)} (hin:∀ i,∀ z∈G.getD i [],∃ k:Nat,z=k∧k < G.length)
include hin
theorem DI.start (r:List Int) (hr:∀ z∈r,∃ k:Nat,z=k∧k < G.length):DI G r (List.replicate G.length false) r:=by
 have h0:∀ k,(List.replicate G.length false).getD k false=true→False:=fun k h=>by
  rw [List.getD,List.getElem?_replicate] at h
  split at h <;> simp at h
 exact ⟨by simp,fun k h=>(h0 k h).elim,fun z hz=>by obtain ⟨k,e,hk⟩:=hr z hz;exact ⟨k,e,.base k (e ▸ hz) hk⟩,fun k h=>(h0 k h).elim,fun y hy=>.inr hy⟩
theorem DI.skip {r:List Int} {W:List Bool} {S:List Int} {b:Nat} (h:DI G r W (S ++ [(b:Int)])) (hb:W.getD b false=true):DI G r W S:=by
 have key:∀ y:Int,(∃ j:Nat,y=j∧W.getD j false=true)∨y∈S ++ [(b:Int)]→(∃ j:Nat,y=j∧W.getD j false=true)∨y∈S:=fun y hy=>by
  rcases hy with e | e
  ·exact .inl e
  ·rcases List.mem_append.1 e with e | e
   ·exact .inr e
   ·rw [List.mem_singleton] at e;exact .inl ⟨b,e,hb⟩
 exact ⟨h.len,h.sW,fun z hz=>h.sS z (List.mem_append_left _ hz),fun k hk y hy=>key y (h.clo k hk y hy),fun y hy=>key y (h.ini y hy)⟩
theorem DI.mark {r:List Int} {W:List Bool} {S:List Int} {b:Nat} (h:DI G r W (S ++ [(b:Int)])):DI G r (W.set b true) (S ++ G.getD b []):=by
 obtain ⟨k,e,hR⟩:=h.sS b (List.mem_append_right _ (List.mem_singleton.2 rfl))
 have:k=b:=by omega
 subst this
 have hbl:k < W.length:=by rw [h.len];exact rch_lt hR
 have hm:∀ j,W.getD j false=true→(W.set k true).getD j false=true:=fun j hj=>by
  by_cases e:k=j
  ·subst e;rw [List.getD,List.getElem?_set_self hbl];rfl
  ·rw [List.getD,List.getElem?_set_ne e];exact hj
 have hself:(W.set k true).getD k false=true:=by rw [List.getD,List.getElem?_set_self hbl];rfl
 have key:∀ y:Int,(∃ j:Nat,y=j∧W.getD j false=true)∨y∈S ++ [(k:Int)]→(∃ j:Nat,y=j∧(W.set k true).getD j false=true)∨y∈S ++ G.getD k []:=fun y hy=>by
  rcases hy with ⟨j,e1,e2⟩ | e
  ·exact .inl ⟨j,e1,hm j e2⟩
  ·rcases List.mem_append.1 e with e | e
   ·exact .inr (List.mem_append_left _ e)
   ·rw [List.mem_singleton] at e;exact .inl ⟨k,e,hself⟩
 refine ⟨by rw [List.length_set];exact h.len,fun j hj=>?_,fun z hz=>?_,fun j hj y hy=>?_,fun y hy=>key y (h.ini y hy)⟩
 ·by_cases e:k=j
  ·subst e;exact hR
  ·rw [List.getD,List.getElem?_set_ne e] at hj;exact h.sW j hj
 ·rcases List.mem_append.1 hz with hz | hz
  ·exact h.sS z (List.mem_append_left _ hz)
  ·obtain ⟨j,e,hj⟩:=hin k z hz
   exact ⟨j,e,.step k j hR (e ▸ hz) hj⟩
 ·by_cases e:k=j
  ·subst e;exact .inr (List.mem_append_right _ hy)
  ·rw [List.getD,List.getElem?_set_ne e] at hj
   exact key y (h.clo j hj y hy)
omit hin in
theorem DI.done {r:List Int} {W:List Bool} (h:DI G r W []) (k:Nat):W.getD k false=true↔Rch G r k:=by
 refine ⟨h.sW k,fun hR=>?_⟩
 induction hR with
 | base k h1 _=>
   rcases h.ini _ h1 with ⟨j,e,hj⟩ | e
   ·have:j=k:=by omega
    rw [← this];exact hj
   ·cases e
 | step i k _ h2 _ ih=>
   rcases h.clo i ih _ h2 with ⟨j,e,hj⟩ | e
   ·have:j=k:=by omega
    rw [← this];exact hj
   ·cases e
end
theorem rch_from {G:List (List Int)} {r:List Int} {x:Nat} (h:Rch G r x):∃ k:Nat,(k:Int)∈r∧k < G.length∧Rch G [(k:Int)] x:=by
 induction h with
 | base k h1 h2=>exact ⟨k,h1,h2,.base k (List.mem_singleton.2 rfl) h2⟩
 | step i k _ h2 h3 ih=>
   obtain ⟨j,j1,j2,j3⟩:=ih
   exact ⟨j,j1,j2,.step i k j3 h2 h3⟩
theorem cyc_iff {G:List (List Int)} {i:Nat} (hi:i < G.length):cycG G i=true↔Rch G (G.getD i []) i:=by
 unfold cycG
 rw [decide_eq_true_iff]
 constructor
 ·rintro ⟨k,hk,hl⟩
  obtain ⟨h1,h2,h3⟩:=(normG_get G i k).1 hk
  obtain ⟨j,rfl⟩:=Int.eq_ofNat_of_zero_le h2
  have:=(leadsB_nat G j i).1 hl
  exact rch_mono (fun x hx=>by rw [List.mem_singleton] at hx;rw [hx];exact h1) this
 ·intro h
  obtain ⟨k,h1,h2,h3⟩:=rch_from h
  exact ⟨(k:Int),(normG_get G i k).2 ⟨h1,by omega,by omega⟩,(leadsB_nat G k i).2 h3⟩
theorem own_appendL {m base bytes:Nat} {H:Heap} {v x:V} {l xs:List V} (h:OwnN m H v l) (hb:base≤m) (hm:m≤H.length) (hr:Rd H x xs) (ho:xs.all V.one=true) (hs:(l.length+xs.length) * bytes≤2 ^ 47):
 ∃ v' H',appendV H base 1 bytes v x=some (v',H')∧OwnN m H' v' (l ++ xs)∧H.length≤H'.length∧(∀ i,i < m→H'[i]?=H[i]?):=by
 by_cases h0:xs.length=0
 ·have hx:xs=[]:=List.eq_nil_of_length_eq_zero h0
  subst hx
  refine ⟨v,H,?_,by rw [List.append_nil];exact h,Nat.le_refl _,fun _ _=>rfl⟩
  rcases h with ⟨rfl,rfl | rfl⟩ | ⟨id,g,c,rfl,hc,hl,ht,hid⟩
  ·simp only [appendV,hr.2,ho,if_true,nilS,List.length_nil]
  ·simp only [appendV,hr.2,ho,if_true,List.length_nil]
  ·have hbi:base≤id:=by omega
   have h2:0+l.length≤c.length:=by omega
   simp only [appendV,hr.2,ho,if_true,true_and,hbi,hc,Nat.mul_one,h2,List.length_nil]
 ·have hnew:xs.length * bytes≤2 ^ 47:=Nat.le_trans (Nat.mul_le_mul_right _ (by omega)) hs
  have hfresh:OwnN m (H ++ [.cells 0 xs]) (.sl H.length 0 0 xs.length 1) xs:=.inr ⟨H.length,0,xs,rfl,getC_new H 0 xs,Nat.le_refl _,List.take_length,hm⟩
  rcases h with ⟨rfl,rfl | rfl⟩ | ⟨id,g,c,rfl,hc,hl,ht,hid⟩
  ·refine ⟨_,_,?_,hfresh,by simp,fun i hi=>by rw [List.getElem?_append_left (by omega)]⟩
   simp only [appendV,hr.2,ho,if_true,nilS,h0,if_false,hnew]
  ·refine ⟨_,_,?_,hfresh,by simp,fun i hi=>by rw [List.getElem?_append_left (by omega)]⟩
   simp only [appendV,hr.2,ho,if_true,h0,if_false,hnew]
  ·have hbi:base≤id:=by omega
   have h2:0+l.length≤c.length:=by omega
   refine ⟨.sl id (g+1) 0 (l.length+xs.length) 1,H.set id (.cells (g+1) (l ++ xs)),?_,.inr ⟨id,g+1,l ++ xs,by simp,getC_set hc _,Nat.le_refl _,List.take_length,hid⟩,by simp,fun i hi=>by rw [List.getElem?_set_ne (by omega)]⟩
   simp only [appendV,hr.2,ho,if_true,true_and,hbi,hc,Nat.mul_one,h2,h0,if_false,hs,List.drop_zero,ht]
section
variable {CT:Nat→Option CFun}
theorem ways_l5 (base:Nat) {C:Heap} {h p3 i:Nat} {lov sv:V} {G:List (List Int)} {r:List Int} {L:Nat} (hb:base≤C.length) (hL:C.length+1≤L) (hn:G.length < 2 ^ 18) (x3:xLoad C false 1 (.ref p3 0 0)=some sv) (hs:RdRows C sv (rowsV G)) (hrl:∀ r∈G,r.length < 2 ^ 18) (hin:∀ i,∀ z∈G.getD i [],∃ k:Nat,z=k∧k < G.length):
 ∀ (c:Nat) (H:Heap) (nv:V) (W:List Bool) (S:List Int),S.length+wt W G < c→c < 2 ^ 40→Ext C H→getC H C.length 0=some (W.map bV)→OwnN (C.length+1) H nv (S.map iV)→DI G r W S→
 ∃ H' nv' W',itW (evC (callW CT) itW base s_f5_l5) [20,287] L (frOf 308 [(1,.ref h 0 0),(3,.ref p3 0 0),(5,lov),(6,Iz G.length),(7,Iz i),(18,.sl C.length 0 0 G.length 1),(19,nv)]) H=some (.ext 12,frOf 308 [(1,.ref h 0 0),(3,.ref p3 0 0),(5,lov),(6,Iz G.length),(7,Iz i),(18,.sl C.length 0 0 G.length 1),(19,nv'),(271,bl false)],H')∧Ext C H'∧getC H' C.length 0=some (W'.map bV)∧DI G r W' []:=by
 intro c
 induction c with
 | zero=>intro H nv W S h;omega
 | succ c ih=>
   intro H nv W S hm hc hE hW hS hI
   have hHl:=getC_lt hW
   have hnl:=iV_len hS.rd
   rcases List.eq_nil_or_concat S with rfl | ⟨S',z,rfl⟩
   ·refine ⟨_,nv,W,?_,hE.trim (m:=L) (by omega) (frOf 308 [(1,.ref h 0 0),(3,.ref p3 0 0),(5,lov),(6,Iz G.length),(7,Iz i),(18,.sl C.length 0 0 G.length 1),(19,nv),(271,bl false)]),trim_get hW (by omega),hI⟩
    rw [List.length_nil,cast0] at hnl
    rw [itW_step]
    simp only [Iz,bl,a_f5,s_f5_l0_b,s_f5_l1_b,s_f5_l2_b,s_f5_l3_b,s_f5_l4_b,s_f5_l5_b,s_f5_l6_b,aa,bl,i64,reduceIte,reduceCtorEq,Nat.reduceEqDiff,Nat.reduceLT,Nat.reduceLeDiff,Nat.reduceBEq,Nat.reduceAdd,fillA,splice,Nat.reduceMul,amY,op_eqP,gt_iff_lt,hnl,Int.lt_irrefl]
   ·rw [List.concat_eq_append] at hm hnl hS hI
    have hlen:(S' ++ [z]).length=S'.length+1:=by simp
    rw [hlen] at hm hnl
    obtain ⟨b,rfl,hR⟩:=hI.sS z (List.mem_append_right _ (List.mem_singleton.2 rfl))
    have hbn:=rch_lt hR
    have h0':(0:Int) < ((S'.length+1:Nat):Int):=by omega
    have hwm:IntKind.i64.wrap (((S'.length+1:Nat):Int) - 1)=(S'.length:Int):=by rw [IntKind.wrap_i64];omega
    obtain ⟨fa,f1,f2⟩:=iV_at (k:=S'.length) hS.rd hS.wide (show (S' ++ [(b:Int)])[S'.length]?=some (b:Int) by simp)
    obtain ⟨w,w1,w2⟩:=hS.pop (k:=S'.length) (by simp)
    have htk:((S' ++ [(b:Int)]).map iV).take S'.length=S'.map iV:=by
     rw [List.map_append,List.take_append_of_le_length (by simp),List.take_of_length_le (by simp)]
    rw [htk] at w2
    have gw:=bA_atC hW hbn hI.len
    cases hwb:W.getD b false with
    | true=>
      rw [hwb] at gw
      obtain ⟨H',nv',W',p1,p2⟩:=ih (trim L (frOf 308 [(1,.ref h 0 0),(3,.ref p3 0 0),(5,lov),(6,Iz G.length),(7,Iz i),(18,.sl C.length 0 0 G.length 1),(19,w)]) H) w W S' (by omega) (by omega) (hE.trim (by omega) _) (trim_get hW (by omega)) (w2.trim_fr (frOf_mem (s:=19) (by omega) rfl)) (hI.skip hin hwb)
      refine ⟨H',nv',W',?_,p2⟩
      rw [itW_step]
      simp only [Iz,bl] at p1
      simp only [Iz,bl,a_f5,s_f5_l0_b,s_f5_l1_b,s_f5_l2_b,s_f5_l3_b,s_f5_l4_b,s_f5_l5_b,s_f5_l6_b,aa,bl,i64,reduceIte,reduceCtorEq,Nat.reduceEqDiff,Nat.reduceLT,Nat.reduceLeDiff,Nat.reduceBEq,Nat.reduceAdd,fillA,splice,Nat.reduceMul,amY,op_eqP,gt_iff_lt,hnl,h0',hwm,f1,f2,w1,gw.1,gw.2]
      exact p1
    | false=>
      rw [hwb] at gw
      have st:=bA_setC (base:=base) hW hb hbn hI.len
      have hE2:Ext C (H.set C.length (.cells 0 ((W.set b true).map bV))):=hE.set (Nat.le_refl _) _
      have hW2:=getC_put (c':=(W.set b true).map bV) hW
      have w3:OwnN (C.length+1) (H.set C.length (.cells 0 ((W.set b true).map bV))) w (S'.map iV):=w2.set (by omega) _
      obtain ⟨ra,rv,r1,r3,r4,r2⟩:=rows_ext hs (rowsV_get (some_getD hbn []))
      have x3':=xLoad_ext hE2 x3
      have hrb:=hrl _ (List.mem_of_getElem? (some_getD hbn []))
      have hwt:=wt_set W G b hI.len (by rw [some_getD (show b < W.length by rw [hI.len];exact hbn) false,hwb])
      obtain ⟨nv1,H2,q1,q2,q3,q4⟩:=own_appendL (base:=base) (bytes:=8) w3 (by omega) (by rw [List.length_set];omega) (r3.ext hE2) (by simp [iV,V.one]) (by rw [List.length_map,List.length_map];omega)
      have hE3:Ext C H2:=Ext.of_get (by have:=hE2.le;omega) fun id hid=>by rw [q4 id (by omega),hE2.get hid]
      have hW3:getC H2 C.length 0=some ((W.set b true).map bV):=by
       simp only [getC] at hW2 ⊢
       rw [q4 _ (by omega)];exact hW2
      rw [← List.map_append] at q2
      obtain ⟨H',nv',W',p1,p2⟩:=ih (trim L (frOf 308 [(1,.ref h 0 0),(3,.ref p3 0 0),(5,lov),(6,Iz G.length),(7,Iz i),(18,.sl C.length 0 0 G.length 1),(19,nv1)]) H2) nv1 (W.set b true) (S' ++ G.getD b []) (by rw [List.length_append];omega) (by omega) (hE3.trim (by omega) _) (trim_get hW3 (by omega)) (q2.trim_fr (frOf_mem (s:=19) (by omega) rfl)) (hI.mark hin)
      refine ⟨H',nv',W',?_,p2⟩
      have hr2:=r2 _ hE2
      rw [itW_step]
      simp only [Iz,bl] at p1
      simp only [Iz,bl,a_f5,s_f5_l0_b,s_f5_l1_b,s_f5_l2_b,s_f5_l3_b,s_f5_l4_b,s_f5_l5_b,s_f5_l6_b,aa,bl,i64,reduceIte,reduceCtorEq,Nat.reduceEqDiff,Nat.reduceLT,Nat.reduceLeDiff,Nat.reduceBEq,Nat.reduceAdd,fillA,splice,Nat.reduceMul,amY,op_eqP,gt_iff_lt,hnl,h0',hwm,f1,f2,w1,gw.1,gw.2,st,x3',r1,hr2,q1]
      exact p1
end
end Go.Proofs.Ytgimjihhlhjejaa
set_option maxRecDepth 100000
namespace Go.Proofs.Ytgimjihhlhjejaa
open Go.AM
section
variable {CT:Nat→Option CFun}
structure CZ (CT:Nat→Option CFun):Prop where
 o:CO CT
 y:CY CT
 loops:CT k_f15=some (.code s_f15)
theorem cycL_len (G:List (List Int)):(cycL G).length=G.length:=by simp [cycL]
theorem loops_fun (h:CZ CT) (base:Nat) (H:Heap) (hb:base≤H.length) {nm:ByteArray} {pv bv:V} {bs:List BlkD} (hp:pv.one=true) (hv:RdBlks H bv bs) (hn:bs.length < 2 ^ 18) (hll:∀ b∈bs,b.labs.length < 2 ^ 18):
 ∃ (H':Heap) (lov:V),callW CT (.fn k_f15 [] []) [.agg (fnC nm pv bv)] base H=some (lov,H')∧Ext H H'∧((ofBad bs=true∧lov=nilS)∨(ofBad bs=false∧OwnN H.length H' lov ((cycL (ofRows bs)).map bV))):=by
 have hbo:=hv.one
 have eb:Ext H (H ++ [Ob.cells 0 (fnC nm pv bv)]):=Ext.app _ _
 have z0:=(box_at (Ext.refl (H ++ [Ob.cells 0 (fnC nm pv bv)]))).2 hp hbo
 obtain ⟨H2,sv,qv,e,a1,a2,a3,a4,a5⟩:=of_fun h.o base (H ++ [Ob.cells 0 (fnC nm pv bv)]) (by simp;omega) (nm:=nm) hp (hv.ext eb) hn hll
 have svc:=cells_of_one a3
 have qvc:=cells_of_one a4
 have l2:=a2.le
 rw [len_snoc] at l2
 have q1:base≤H2.length:=by omega
 rcases a5 with ⟨k1,k2,k3,k4⟩ | ⟨k1,k2,mid,k3,k4,k5,_⟩
 ·refine ⟨H2 ++ [Ob.cells 0 [sv,qv]],nilS,callW_fnA (c:=s_f15) (k:=1) h.loops rfl (by decide) s_f15_first ?_,(eb.trans a2).trans (Ext.app _ _),.inl ⟨k1,rfl⟩⟩
  subst k4
  have hne:((4:Int) != 0)=true:=rfl
  simp only [fnC] at z0 a1 ⊢
  simp only [s_f15,a_f15,aa,bl,i64,reduceIte,reduceCtorEq,Nat.reduceEqDiff,Nat.reduceLT,Nat.reduceLeDiff,Nat.reduceBEq,Nat.reduceAdd,fillA,splice,Nat.reduceMul,amY,op_eqP,hp,hbo,Bool.and_self,z0,a1,q1,a3,a4,svc,qvc,hne,nilS]
 ·subst k2
  have e3:Ext H2 (H2 ++ [Ob.cells 0 [sv,qv]]):=Ext.app _ _
  obtain ⟨lov,H3,c1,c2,c3⟩:=cyclic_f h.y base (H2 ++ [Ob.cells 0 [sv,qv]]) sv (ofRows bs) ((k5.b.rd).ext e3) (by simp;omega) (by rw [ofRows_len];omega) (fun r hr=>by have:=ofRows_small (B:=2 ^ 18) (by decide) hll r hr;omega)
  refine ⟨H3,lov,callW_fnA (c:=s_f15) (k:=1) h.loops rfl (by decide) s_f15_first ?_,((eb.trans a2).trans e3).trans c2,.inr ⟨k1,c3.mono (by rw [len_snoc];omega)⟩⟩
  have hne:((0:Int) != 0)=false:=rfl
  have x3:xLoad (H2 ++ [Ob.cells 0 [sv,qv]]) false 1 (.ref H2.length 0 0)=some sv:=by rw [xo_ref,getC_new];rfl
  simp only [fnC] at z0 a1 ⊢
  simp only [s_f15,a_f15,aa,bl,i64,reduceIte,reduceCtorEq,Nat.reduceEqDiff,Nat.reduceLT,Nat.reduceLeDiff,Nat.reduceBEq,Nat.reduceAdd,fillA,splice,Nat.reduceMul,amY,op_eqP,hp,hbo,Bool.and_self,z0,a1,q1,a3,a4,svc,qvc,hne,x3,c1]
theorem wt_le:∀ (W:List Bool) (G:List (List Int)) (B:Nat),(∀ r∈G,r.length≤B)→wt W G≤G.length * B:=by
 intro W
 induction W with
 | nil=>intro G B _;simp [wt]
 | cons b W ih=>
   intro G B h
   cases G with
   | nil=>simp [wt]
   | cons r G=>
     have h1:=ih G B fun x hx=>h x (List.mem_cons_of_mem _ hx)
     have h2:=h r List.mem_cons_self
     simp only [wt,List.length_cons,Nat.add_mul]
     split <;> omega
theorem ways_l6 (hA:CT k_f16=some (.code s_f16)) (base:Nat) {A:Heap} {h p3:Nat} {lov bv sv qv:V} {bs:List BlkD} (hg:ofBad bs=false) (hb:base≤A.length) (hn:bs.length < 2 ^ 10) (hnl:∀ b∈bs,b.labs.length < 2 ^ 10) (x1:xLoad A false 1 (.ref h 0 2)=some bv) (hv:RdBlks A bv bs) (x3s:xLoad A false 1 (.ref p3 0 0)=some sv) (hs:RdRows A sv (rowsV (ofRows bs))) (x3p:xLoad A false 1 (.ref p3 0 1)=some qv) (hq:RdRows A qv (rowsV (backG (ofRows bs)))) (hlo:Rd A lov ((cycL (ofRows bs)).map bV)) (hlow:Wide1 lov):
 ∃ H',itW (evC (callW CT) itW base s_f5_l6) [] A.length (frOf 308 [(1,.ref h 0 0),(3,.ref p3 0 0),(5,lov),(6,Iz bs.length),(7,Iz 0)]) A=some (.ext 0,frOf 308 [(1,.ref h 0 0),(3,.ref p3 0 0),(5,lov),(6,Iz bs.length),(7,Iz bs.length),(69,bl false)],H')∧Ext A H':=by
 have hGl:=ofRows_len bs
 have hin:∀ i,∀ z∈(ofRows bs).getD i [],∃ k:Nat,z=k∧k < (ofRows bs).length:=fun i z hz=>by rw [hGl];exact rowsO_in hg hz
 have hrl:=ofRows_small (B:=2 ^ 10) (by decide) hnl
 obtain ⟨C,e1,a1⟩:=it_rel bs.length (fun _ (C:Heap)=>Ext A C) (fun k C=>itW (evC (callW CT) itW base s_f5_l6) [] A.length (frOf 308 [(1,.ref h 0 0),(3,.ref p3 0 0),(5,lov),(6,Iz bs.length),(7,Iz k)]) C) (by
  intro i C hi hE
  have hlt':((i:Int) < (bs.length:Int)):=by omega
  have hwk:=w64 (n:=i) (by omega)
  have hle:=hE.le
  have hbi:=some_getD hi blk0
  obtain ⟨b,hbe⟩:∃ b,bs.getD i blk0=b:=⟨_,rfl⟩
  rw [hbe] at hbi
  obtain ⟨a,la,ca,cv,a1,a2,a3,cvo,rd,hqq⟩:=hv.at2 hbi
  obtain ⟨b1,b2,b3⟩:=good_at hg hbi
  obtain ⟨x,e,oa,va,q1,xop,xav,xl,xw,q2,q3,xr⟩:=hqq b1
  have r1:=rd C hE
  have xr1:=xr C hE
  have hbn:=(hv.small hbi).1
  have hwm:IntKind.i64.wrap ((b.n:Int) - 1)=((b.n - 1:Nat):Int):=by rw [IntKind.wrap_i64];omega
  have hx1:=xLoad_ext hE x1
  obtain ⟨C1,hC1⟩:∃ C1,C ++ [Ob.cells 0 x.cells]=C1:=⟨_,rfl⟩
  have e11:Ext C C1:=by rw [← hC1];exact Ext.app _ _
  have eA1:=hE.trans e11
  have l1:C1.length=C.length+1:=by rw [← hC1];simp
  have g9:getC C1 C.length 0=some x.cells:=by rw [← hC1];exact getC_new C 0 _
  have w:WC C1 h p3 C.length bv sv qv x.lv bs b:=by
   refine ⟨xLoad_ext eA1 x1,hv.ext eA1,xLoad_ext eA1 x3s,hs.ext eA1,xLoad_ext eA1 x3p,hq.ext eA1,?_,?_,xl.ext eA1,xw,by omega,fun b hb=>by have:=hnl b hb;omega⟩
   ·rw [xo_ref,g9,← xop];rfl
   ·rw [xo_ref,g9];rfl
  have L1:=ways_l1 (CT:=CT) (lov:=lov) hA base hg w hbi
  have L2:=ways_l2 (CT:=CT) (lov:=lov) hA base w hbi
  obtain ⟨j4,L4⟩:=ways_l4 (CT:=CT) (lov:=lov) base hg w hbi
  have hmk:=make_n (H:=C1) (zero:=[.s (.bool false)]) (sz:=1) (bytes:=1) (k:=.i64) (k':=.i64) (n:=bs.length) (by omega)
  rw [flat_one] at hmk
  have hrep:(List.replicate bs.length (V.s (.bool false)))=(List.replicate bs.length false).map bV:=by rw [List.map_replicate];rfl
  rw [hrep] at hmk
  have hio:i < (ofRows bs).length:=by rw [hGl];exact hi
  obtain ⟨ra,rv,s1,s3,s4,s2⟩:=rows_ext (hs.ext eA1) (rowsV_get (some_getD hio []))
  have hr18:=hrl _ (List.mem_of_getElem? (some_getD hio []))
  have e2:Ext C1 (C1 ++ [Ob.cells 0 ((List.replicate bs.length false).map bV)] ++ [Ob.cells 0 []]):=(Ext.app _ _).trans (Ext.app _ _)
  have hown0:OwnN (C1.length+1) (C1 ++ [Ob.cells 0 ((List.replicate bs.length false).map bV)] ++ [Ob.cells 0 []]) .esl []:=.inl ⟨rfl,.inr rfl⟩
  obtain ⟨nv,D,u1,u2,u3,u4⟩:=own_appendL (base:=base) (bytes:=8) hown0 (by omega) (by simp) (s3.ext e2) (by simp [iV,V.one]) (by rw [List.length_map,List.length_nil];omega)
  rw [List.nil_append] at u2
  have eD:Ext C1 D:=Ext.of_get (by have:=e2.le;omega) fun id hid=>by rw [u4 id (by omega),e2.get hid]
  have gD:getC D C1.length 0=some ((List.replicate bs.length false).map bV):=by
   have h0:getC (C1 ++ [Ob.cells 0 ((List.replicate bs.length false).map bV)] ++ [Ob.cells 0 []]) C1.length 0=some ((List.replicate bs.length false).map bV):=getC_app (getC_new C1 0 _)
   simp only [getC] at h0 ⊢
   rw [u4 _ (by omega)];exact h0
  have hDl:=getC_lt gD
  have hwt:wt (List.replicate (ofRows bs).length false) (ofRows bs)≤2 ^ 20:=by
   have h1:=wt_le (List.replicate (ofRows bs).length false) (ofRows bs) (2 ^ 10) (fun r hr=>by have:=hrl r hr;omega)
   have h2:(ofRows bs).length * 2 ^ 10≤2 ^ 10 * 2 ^ 10:=Nat.mul_le_mul_right _ (by rw [hGl];omega)
   omega
  obtain ⟨H',nv',W',v1,v2,v3,v4⟩:=ways_l5 (CT:=CT) (h:=h) (i:=i) (lov:=lov) (L:=D.length) base (C:=C1) (G:=ofRows bs) (r:=(ofRows bs).getD i []) (by omega) (by omega) (by rw [hGl];omega) (xLoad_ext eA1 x3s) (hs.ext eA1) (fun r hr=>by have:=hrl r hr;omega) hin _ D nv (List.replicate (ofRows bs).length false) ((ofRows bs).getD i []) (Nat.lt_succ_self _) (by omega) eD (by rw [hGl];exact gD) u2 (DI.start hin _ (hin i))
  rw [hGl] at v1
  have gW:=bA_atC v3 (n:=bs.length) hi (by have:=v4.len;rw [this,hGl])
  have hW:W'.getD i false=cycG (ofRows bs) i:=by
   rw [Bool.eq_iff_iff,v4.done,cyc_iff hio]
  rw [hW] at gW
  have eAH:=eA1.trans v2
  obtain ⟨la2,y1,y2⟩:=(hlo.ext eAH).at' hlow (i:=i) (x:=.s (.bool (cycG (ofRows bs) i))) (by rw [List.getElem?_map,cycL,List.getElem?_map,List.getElem?_range hio];rfl)
  have hbb:((cycG (ofRows bs) i == cycG (ofRows bs) i) != true)=false:=by cases cycG (ofRows bs) i <;> rfl
  refine ⟨_,?_,eAH.trim (Nat.le_refl _) (frOf 308 [(1,.ref h 0 0),(3,.ref p3 0 0),(5,lov),(6,Iz bs.length),(7,Iz (i+1:Nat))])⟩
  have hbC:base≤C.length:=by omega
  have x31:=xLoad_ext eA1 x3s
  have hl2:(C1 ++ [Ob.cells 0 ((List.replicate bs.length false).map bV)]).length=C1.length+1:=by simp
  have s2':=s2 _ e2
  have x32:=xLoad_ext e2 x31
  simp only [InsC.cells] at xr1 hC1
  simp only [Iz,bl] at L1 L2 L4 v1
  rw [itW_step]
  simp only [Iz,bl,a_f5,s_f5_l0_b,s_f5_l1_b,s_f5_l2_b,s_f5_l3_b,s_f5_l4_b,s_f5_l5_b,s_f5_l6_b,aa,bl,i64,reduceIte,reduceCtorEq,Nat.reduceEqDiff,Nat.reduceLT,Nat.reduceLeDiff,Nat.reduceBEq,Nat.reduceAdd,fillA,splice,Nat.reduceMul,amY,op_eqP,hlt',hx1,a1,a3,r1.2.2.1,r1.2.2.2,hwm,q1,xr1.1,hbC,xav,xl.one,Bool.and_self,hC1,L1,L2,L4,op_mkSl,hmk,hl2,x32,s1,s2',u1,v1,gW.1,gW.2,y1,y2,hbb,hwk]) 0 A (Nat.zero_le _) (Ext.refl A)
 rw [cast0] at e1
 refine ⟨_,e1.trans ?_,a1.trim (Nat.le_refl _) (frOf 308 [(1,.ref h 0 0),(3,.ref p3 0 0),(5,lov),(6,Iz bs.length),(7,Iz bs.length),(69,bl false)])⟩
 rw [itW_step]
 simp only [Iz,bl,a_f5,s_f5_l0_b,s_f5_l1_b,s_f5_l2_b,s_f5_l3_b,s_f5_l4_b,s_f5_l5_b,s_f5_l6_b,aa,bl,i64,reduceIte,reduceCtorEq,Nat.reduceEqDiff,Nat.reduceLT,Nat.reduceLeDiff,Nat.reduceBEq,Nat.reduceAdd,fillA,splice,Nat.reduceMul,amY,op_eqP,Int.lt_irrefl]
set_option maxHeartbeats 2000000 in
theorem ways_law (h:CZ CT) (hH:CT k_f12=some (.code s_f12)) (hA:CT k_f16=some (.code s_f16)) (hL:CT k_f5=some (.code s_f5)) (hw:∀ base H,callW CT (.fn k_f11 [] []) [] base H=some (.s (.bool true),H)) (base:Nat) (H:Heap) (hb:base≤H.length) {nm:ByteArray} {pv bv:V} {bs:List BlkD} (hp:pv.one=true) (hv:RdBlks H bv bs) (h0:∀ b∈bs,b.n=0→b.labs=[]):
 ∃ H',callW CT (.fn k_f5 [] []) [.agg (fnC nm pv bv)] base H=some (.s (.bool true),H'):=by
 have hbo:=hv.one
 obtain ⟨Hb,hHb⟩:∃ Hb,H ++ [Ob.cells 0 (fnC nm pv bv)]=Hb:=⟨_,rfl⟩
 have eb:Ext H Hb:=by rw [← hHb];exact Ext.app _ _
 have lb:Hb.length=H.length+1:=by rw [← hHb];simp
 have xf:∀ D,Ext Hb D→xLoad D true 3 (.ref H.length 0 0)=some (.agg (fnC nm pv bv)):=fun D e=>(box_at (hHb ▸ e)).2 hp hbo
 have xb:∀ D,Ext Hb D→xLoad D false 1 (.ref H.length 0 2)=some bv:=fun D e=>(box_at (hHb ▸ e)).1
 obtain ⟨H1,y1,y2⟩:=heavy_fun hH base Hb (by omega) (nm:=nm) hp (hv.ext eb)
 have z0:=xf _ (Ext.refl Hb)
 cases hhv:heavyB bs with
 | true=>
   rw [hhv] at y1
   refine ⟨H1,callW_fnA (c:=s_f5) (k:=1) hL rfl (by decide) s_f5_first ?_⟩
   simp only [fnC] at hHb z0 y1 ⊢
   simp only [s_f5,a_f5,s_f5_l0_b,s_f5_l1_b,s_f5_l2_b,s_f5_l3_b,s_f5_l4_b,s_f5_l5_b,s_f5_l6_b,aa,bl,i64,reduceIte,reduceCtorEq,Nat.reduceEqDiff,Nat.reduceLT,Nat.reduceLeDiff,Nat.reduceBEq,Nat.reduceAdd,fillA,splice,Nat.reduceMul,amY,op_eqP,hp,hbo,Bool.and_self,hHb,z0,y1]
 | false=>
   rw [hhv] at y1
   obtain ⟨hs1,hs2⟩:=heavyB_small hhv
   have hlb:∀ b∈bs,b.labs.length < 2 ^ 10:=fun b hb=>by
    by_cases e:b.n=0
    ·rw [h0 b hb e];decide
    ·have:=(hs2 b hb).2 (by omega);omega
   have hlb2:∀ b∈bs,b.labs.length < 2 ^ 18:=fun b hb=>by have:=hlb b hb;omega
   have e1:=eb.trans y2
   have l1:=y2.le
   have f1:=xf _ y2
   obtain ⟨H2,sv,qv,e,a1,a2,a3,a4,a5⟩:=of_fun h.o base H1 (by omega) (nm:=nm) hp (hv.ext e1) (by omega) hlb2
   have svc:=cells_of_one a3
   have qvc:=cells_of_one a4
   have l2:=a2.le
   have q1:base≤H2.length:=by omega
   obtain ⟨H3,hH3⟩:∃ H3,H2 ++ [Ob.cells 0 [sv,qv]]=H3:=⟨_,rfl⟩
   have e23:Ext H2 H3:=by rw [← hH3];exact Ext.app _ _
   have l3:H3.length=H2.length+1:=by rw [← hH3];simp
   have eb3:=(y2.trans a2).trans e23
   have f3:=xf _ eb3
   have g3:getC H3 H2.length 0=some [sv,qv]:=by rw [← hH3];exact getC_new H2 0 _
   obtain ⟨H4,lov,c1,c2,c3⟩:=loops_fun h base H3 (by omega) (nm:=nm) hp (hv.ext (eb.trans eb3)) (by omega) hlb2
   have l4:=c2.le
   have g4:=getC_ext g3 c2
   have x3s:xLoad H4 false 1 (.ref H2.length 0 0)=some sv:=by rw [xo_ref,g4];rfl
   have x3p:xLoad H4 false 1 (.ref H2.length 0 1)=some qv:=by rw [xo_ref,g4];rfl
   rcases a5 with ⟨k1,k2,k3,k4⟩ | ⟨k1,k2,mid,k3,k4,k5,k6⟩
   ·rcases c3 with ⟨_,rfl⟩ | ⟨m1,_⟩
    ·subst k2;subst k3;subst k4
     have hne:((4:Int) != 0)=true:=rfl
     have hs3:=getC_same g3
     have ht:=hw base H4
     have w1:IntKind.i64.wrap ((0:Int)+0)=0:=by decide
     have w2:((0:Int) == 0)=true:=rfl
     refine ⟨H4,callW_fnA (c:=s_f5) (k:=1) hL rfl (by decide) s_f5_first ?_⟩
     simp only [fnC,nilS] at hHb hH3 z0 y1 a1 c1 f1 f3 a3 a4 svc qvc x3s x3p g3 hs3 ⊢
     simp only [s_f5,a_f5,s_f5_l0_b,s_f5_l1_b,s_f5_l2_b,s_f5_l3_b,s_f5_l4_b,s_f5_l5_b,s_f5_l6_b,aa,bl,i64,reduceIte,reduceCtorEq,Nat.reduceEqDiff,Nat.reduceLT,Nat.reduceLeDiff,Nat.reduceBEq,Nat.reduceAdd,fillA,splice,Nat.reduceMul,amY,op_eqP,hp,hbo,Bool.and_self,hHb,z0,y1,f1,a1,q1,a3,a4,svc,qvc,hH3,g3,hs3,f3,c1,hne,x3s,x3p,w1,w2,ht,List.drop_succ_cons,List.drop_zero]
    ·rw [k1] at m1;cases m1
   ·rcases c3 with ⟨m1,_⟩ | ⟨_,m2⟩
    ·rw [k1] at m1;cases m1
    ·subst k2
     have hne:((0:Int) != 0)=false:=rfl
     have e24:=e23.trans c2
     have hs4:=(k5.b.rd).ext e24
     have hq4:=((k6.b).rd).ext e24
     have eb4:=eb3.trans c2
     have hx1:=xb _ eb4
     obtain ⟨H5,v1,v2⟩:=ways_l6 (CT:=CT) (lov:=lov) (h:=H.length) (p3:=H2.length) hA base k1 (by omega) (by omega) hlb hx1 (hv.ext (eb.trans eb4)) x3s hs4 x3p hq4 m2.rd m2.wide
     have hvl:=(hv.ext (eb.trans eb4)).len
     have hsl:=rows_lenV hs4
     have hql:=rows_lenV hq4
     rw [ofRows_len] at hsl
     rw [backG_len,ofRows_len] at hql
     have hll:=m2.rd.len
     rw [List.length_map,cycL_len,ofRows_len] at hll
     have hnn:((bs.length:Int) != (bs.length:Int))=false:=by simp
     have ht:=hw base H5
     refine ⟨H5,callW_fnA (c:=s_f5) (k:=1) hL rfl (by decide) s_f5_first ?_⟩
     simp only [fnC] at hHb z0 y1 a1 c1 f1 f3 ⊢
     simp only [Iz,bl] at v1
     simp only [s_f5,a_f5,s_f5_l0_b,s_f5_l1_b,s_f5_l2_b,s_f5_l3_b,s_f5_l4_b,s_f5_l5_b,s_f5_l6_b,aa,bl,i64,reduceIte,reduceCtorEq,Nat.reduceEqDiff,Nat.reduceLT,Nat.reduceLeDiff,Nat.reduceBEq,Nat.reduceAdd,fillA,splice,Nat.reduceMul,amY,op_eqP,hp,hbo,Bool.and_self,hHb,z0,y1,f1,a1,q1,a3,a4,svc,qvc,hH3,f3,c1,hne,hx1,hvl,x3s,x3p,hsl,hql,hll,hnn,v1,ht]
end
end Go.Proofs.Ytgimjihhlhjejaa
