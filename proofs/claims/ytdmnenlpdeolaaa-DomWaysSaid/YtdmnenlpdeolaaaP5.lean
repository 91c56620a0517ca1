/- Texts of the proof: DomT5, DomS5, DomL1. -/
import Derived.Test.YtdmnenlpdeolaaaP0
import Derived.Test.YtdmnenlpdeolaaaP1
import Derived.Test.YtdmnenlpdeolaaaP2
import Derived.Test.YtdmnenlpdeolaaaP3
import Derived.Test.YtdmnenlpdeolaaaP4
set_option linter.all false
set_option maxRecDepth 100000
namespace Go.Proofs.Ytdmnenlpdeolaaa
open Go.AM
open Chk (Anc OutOk Nca)
theorem set_two (A:Heap) (m o x:Ob):(A ++ [m] ++ [o]).set A.length x=A ++ [x] ++ [o]:=by simp
theorem get_in2 (A:Heap) (c:List V) (o:Ob):getC (A ++ [.cells 0 c] ++ [o]) A.length 0=some c:=getC_app (getC_new _ _ _)
theorem get_in2' (A:Heap) (o:Ob) (c:List V):getC (A ++ [o] ++ [.cells 0 c]) (A.length+1) 0=some c:=by
 have:=getC_new (A ++ [o]) 0 c
 rwa [List.length_append] at this
def atPre (n:Nat) (P:List Int) (i:Nat):List Int:=(List.range n).map fun (b:Nat)=>if (b:Int)∈P.take i then ((P.idxOf (b:Int):Nat):Int) else 0
theorem atPre_len (n:Nat) (P:List Int) (i:Nat):(atPre n P i).length=n:=by simp [atPre]
theorem atPre_set {n:Nat} {P:List Int} {i b:Nat} (hd:P.Nodup) (hb:P[i]?=some (b:Int)) (hbn:b < n):(atPre n P i).set b (i:Int)=atPre n P (i+1):=by
 have htk:P.take (i+1)=P.take i ++ [(b:Int)]:=take_snoc hb
 apply List.ext_getElem?
 intro j
 rw [List.getElem?_set,atPre_len]
 unfold atPre
 rw [htk]
 by_cases hj:j < n
 ·rw [List.getElem?_map,List.getElem?_map,List.getElem?_range hj]
  by_cases e:b=j
  ·subst e
   simp [hbn,idxOf_nodup hd hb]
  ·have:((j:Int)∈P.take i ++ [(b:Int)])↔(j:Int)∈P.take i:=by
    rw [List.mem_append,List.mem_singleton]
    exact ⟨fun h=>h.resolve_right (by omega),.inl⟩
   simp only [if_neg e,Option.map_some,this]
 ·rw [List.getElem?_eq_none (by simp;omega),List.getElem?_eq_none (by simp;omega),if_neg (by omega)]
theorem atPre_nil (n:Nat) (P:List Int):atPre n P 0=List.replicate n 0:=by
 unfold atPre
 rw [show (fun (b:Nat)=>if (b:Int)∈P.take 0 then ((P.idxOf (b:Int):Nat):Int) else 0)=fun _=>0 by funext b;simp,List.map_const',List.length_range]
theorem atPre_all (n:Nat) (P:List Int):atPre n P P.length=atL n P:=by unfold atPre atL;rw [List.take_length]
section
variable {CT:Nat→Option CFun}
structure CT9 (CT:Nat→Option CFun):Prop where
 g:CG CT
 tree:CT k_f10=some (.code s_f10)
 tree1:CT k_f26=some (.code s_f26)
 rep:CT k_f24=some (.code s_f24)
 mul:CT k_f39=some (.code s_f39)
 mul64:CT k_f51=some (.code s_f51)
 post:CT k_f25=some (.code s_f25)
 post1:CT k_f41=some (.code s_f41)
 rev:CT k_f42=some (.code s_f42)
theorem post_out (hF:CT k_f25=some (.code s_f25)) (base:Nat) (H:Heap) (v:V) (G:List (List Int)) (q:Int) (hv:RdRows H v (rowsV G)) (hq:q < 0∨(G.length:Int)≤q):
 callW CT (.fn k_f25 [] []) [v,.s (.int .i64 q)] base H=some (nilS,H):=by
 have hlen:=rows_lenV hv
 refine callW_fn (c:=s_f25) hF (by simp [s_f25]) ?_
 by_cases h0:q < 0
 ·simp only [s_f25,a_f25,s_f25_l0_b,aa,bl,i64,reduceIte,reduceCtorEq,Nat.reduceEqDiff,Nat.reduceLT,Nat.reduceLeDiff,Nat.reduceBEq,Nat.reduceAdd,fillA,splice,Nat.reduceMul,amY,op_eqP,hlen,h0,nilS]
 ·have h1:(G.length:Int)≤q:=by omega
  simp only [s_f25,a_f25,s_f25_l0_b,aa,bl,i64,reduceIte,reduceCtorEq,Nat.reduceEqDiff,Nat.reduceLT,Nat.reduceLeDiff,Nat.reduceBEq,Nat.reduceAdd,fillA,splice,Nat.reduceMul,amY,op_eqP,hlen,h0,ge_iff_le,h1,nilS]
theorem tree_l0 (base:Nat) {A:Heap} {v pv bv:V} {q:Nat} {n:Nat} {P:List Int} (hb:base≤A.length) (hp:Rd A pv (P.map iV)) (hpw:Wide1 pv) (hnat:∀ x∈P,∃ k:Nat,x=k∧k < n) (hnd:P.Nodup) (hn:P.length < 2 ^ 40):
 itW (evC (callW CT) itW base s_f10_l0) [] (A.length+2) (frOf 98 [(0,v),(1,.s (.int .i64 q)),(5,bv),(6,pv),(7,.ref (A.length+1) 0 0),(32,pv),(33,.s (.int .i64 P.length)),(34,.s (.int .i64 0))]) (A ++ [.cells 0 (List.replicate n (.s (.int .i64 0)))] ++ [.cells 0 [.sl A.length 0 0 n 1]])=some (.ext 0,frOf 98 [(0,v),(1,.s (.int .i64 q)),(5,bv),(6,pv),(7,.ref (A.length+1) 0 0),(32,pv),(33,.s (.int .i64 P.length)),(34,.s (.int .i64 P.length)),(35,bl false)],A ++ [.cells 0 ((atL n P).map iV)] ++ [.cells 0 [.sl A.length 0 0 n 1]]):=by
 have ts:∀ (fr:List V) (m o:Ob),Go.AM.trim (A.length+2) fr (A ++ [m] ++ [o])=A ++ [m] ++ [o]:=fun fr m o=>trim_same (by simp)
 have hst:∀ i,i < P.length→itW (evC (callW CT) itW base s_f10_l0) [] (A.length+2) (frOf 98 [(0,v),(1,.s (.int .i64 q)),(5,bv),(6,pv),(7,.ref (A.length+1) 0 0),(32,pv),(33,.s (.int .i64 P.length)),(34,.s (.int .i64 i))]) (A ++ [.cells 0 ((atPre n P i).map iV)] ++ [.cells 0 [.sl A.length 0 0 n 1]])=itW (evC (callW CT) itW base s_f10_l0) [] (A.length+2) (frOf 98 [(0,v),(1,.s (.int .i64 q)),(5,bv),(6,pv),(7,.ref (A.length+1) 0 0),(32,pv),(33,.s (.int .i64 P.length)),(34,.s (.int .i64 (i+1:Nat)))]) (A ++ [.cells 0 ((atPre n P (i+1)).map iV)] ++ [.cells 0 [.sl A.length 0 0 n 1]]):=by
  intro i hi
  have hlt':((i:Int) < (P.length:Int)):=by omega
  have hwk:=w64 (n:=i) (by omega)
  have hpi:=some_getD hi (0:Int)
  obtain ⟨b,hbq,hbn⟩:=hnat _ (List.mem_of_getElem? hpi)
  rw [hbq] at hpi
  have hps:=atPre_set hnd hpi hbn
  obtain ⟨M,hM⟩:∃ M,atPre n P i=M:=⟨_,rfl⟩
  have hMl:M.length=n:=by rw [← hM,atPre_len]
  rw [hM] at hps
  rw [hM,← hps]
  obtain ⟨x1,x2,x3⟩:=iV_at ((hp.ext (Ext.app A [.cells 0 (M.map iV)])).ext (Ext.app _ [.cells 0 [.sl A.length 0 0 n 1]])) hpw hpi
  have g1:=get_in2 A (M.map iV) (.cells 0 [.sl A.length 0 0 n 1])
  have g2:=get_in2' A (.cells 0 (M.map iV)) [.sl A.length 0 0 n 1]
  have hixb:(0≤(b:Int)∧(b:Int) < (n:Int)∧1=1):=by omega
  have st:=storeV_at (v:=iV (i:Int)) (base:=base) g1 hb rfl (off:=b) (by rw [List.length_map];omega)
  rw [set_two,← List.map_set] at st
  rw [itW_step]
  simp only [iV] at st
  simp only [a_f10,s_f10_l0_b,s_f10_l1_b,s_f10_l2_b,s_f10_l3_b,aa,bl,i64,reduceIte,reduceCtorEq,Nat.reduceEqDiff,Nat.reduceLT,Nat.reduceLeDiff,Nat.reduceBEq,Nat.reduceAdd,fillA,splice,Nat.reduceMul,amY,op_eqP,hlt',x2,x3,g2,hixb,st,hwk,ts]
 have h2:=it_fun P.length (fun i=>itW (evC (callW CT) itW base s_f10_l0) [] (A.length+2) (frOf 98 [(0,v),(1,.s (.int .i64 q)),(5,bv),(6,pv),(7,.ref (A.length+1) 0 0),(32,pv),(33,.s (.int .i64 P.length)),(34,.s (.int .i64 i))]) (A ++ [.cells 0 ((atPre n P i).map iV)] ++ [.cells 0 [.sl A.length 0 0 n 1]])) hst 0 (Nat.zero_le _)
 have hz:(atPre n P 0).map iV=List.replicate n (.s (.int .i64 0)):=by rw [atPre_nil,List.map_replicate];rfl
 rw [hz,cast0] at h2
 refine h2.trans ?_
 rw [itW_step,atPre_all]
 simp only [bl,a_f10,s_f10_l0_b,s_f10_l1_b,s_f10_l2_b,s_f10_l3_b,aa,bl,i64,reduceIte,reduceCtorEq,Nat.reduceEqDiff,Nat.reduceLT,Nat.reduceLeDiff,Nat.reduceBEq,Nat.reduceAdd,fillA,splice,Nat.reduceMul,amY,op_eqP,Int.lt_irrefl,ts]
theorem tree_f (h:CT9 CT) (base:Nat) (H:Heap) (v:V) (G:List (List Int)) (q:Int) (hv:RdRows H v (rowsV G)) (hb:base≤H.length) (hn:G.length < 2 ^ 18) (hr:∀ r∈G,r.length < 2 ^ 18):
 ∃ (v':V) (H':Heap) (T:List Int) (lvl:Nat→Nat),callW CT (.fn k_f10 [] []) [v,.s (.int .i64 q)] base H=some (v',H')∧Ext H H'∧OwnN H.length H' v' (T.map iV)∧TreeOk G q T lvl:=by
 have hr20:∀ r∈G,r.length < 2 ^ 20:=fun r h=>by have:=hr r h;omega
 have hr40:∀ r∈G,r.length < 2 ^ 40:=fun r h=>by have:=hr r h;omega
 have hvl:=rows_lenV hv
 have hrp:=repeat_fun h.rep h.mul h.mul64 base (H ++ [.cells 0 [iV (-2)]]) (.sl H.length 0 0 1 1) (one_rd H (iV (-2))) G.length (by omega) (by simp;omega)
 have e1:∀ ob:Ob,(H ++ [ob]).length=H.length+1:=fun ob=>by simp
 rw [e1] at hrp
 have e2:∀ ob ob2:Ob,(H ++ [ob] ++ [ob2]).length=H.length+2:=fun ob ob2=>by simp
 have hb1:base≤H.length+2:=by omega
 have hset:∀ a b c c':List V,(H ++ [Ob.cells 0 a] ++ [Ob.cells 0 b] ++ [Ob.cells 0 c]).set (H.length+2) (.cells 0 c')=H ++ [Ob.cells 0 a] ++ [Ob.cells 0 b] ++ [Ob.cells 0 c']:=fun a b c c'=>by
  have:=set_snoc (H ++ [Ob.cells 0 a] ++ [Ob.cells 0 b]) (Ob.cells 0 c) (.cells 0 c')
  rwa [e2] at this
 obtain ⟨A,hA⟩:∃ A:Heap,H ++ [.cells 0 [iV (-2)]] ++ [.cells 0 (List.replicate G.length (iV (-2)))] ++ [.cells 0 [.sl (H.length+1) 0 0 G.length 1]]=A:=⟨_,rfl⟩
 have hAl:A.length=H.length+3:=by rw [← hA];simp
 have hHA:Ext H A:=by rw [← hA];exact ((Ext.app _ _).trans (Ext.app _ _)).trans (Ext.app _ _)
 have gA1:getC A (H.length+1) 0=some (List.replicate G.length (iV (-2))):=by
  rw [← hA]
  have:=getC_new (H ++ [Ob.cells 0 [iV (-2)]]) 0 (List.replicate G.length (iV (-2)))
  rw [e1] at this
  exact getC_app this
 have gA2:getC A (H.length+2) 0=some [.sl (H.length+1) 0 0 G.length 1]:=by
  rw [← hA]
  have:=getC_new (H ++ [Ob.cells 0 [iV (-2)]] ++ [Ob.cells 0 (List.replicate G.length (iV (-2)))]) 0 [.sl (H.length+1) 0 0 G.length 1]
  rwa [e2] at this
 by_cases hq:q < 0∨(G.length:Int)≤q
 ·have hp:=post_out h.post base A v G q (hv.ext hHA) hq
  refine ⟨.sl (H.length+1) 0 0 G.length 1,A,List.replicate G.length (-2),fun _=>0,callW_fn (c:=s_f10) h.tree (by simp [s_f10]) ?_,hHA,?_,tree_out G q hq⟩
  ·simp only [iV,nilS] at hrp hp hset hA gA2
   have hz:((0:Int) == 0)=true:=rfl
   simp only [s_f10,a_f10,s_f10_l0_b,s_f10_l1_b,s_f10_l2_b,s_f10_l3_b,aa,bl,i64,reduceIte,reduceCtorEq,Nat.reduceEqDiff,Nat.reduceLT,Nat.reduceLeDiff,Nat.reduceBEq,Nat.reduceAdd,fillA,splice,Nat.reduceMul,amY,op_eqP,hvl,e1,hrp,e2,hb1,hset,hA,hp,hz,gA2]
   trace_state
  ·refine .inr ⟨H.length+1,0,List.replicate G.length (iV (-2)),by simp,gA1,by simp,by simp,by omega⟩
 ·obtain ⟨k,hk⟩:=Int.eq_ofNat_of_zero_le (show 0≤q by omega)
  subst hk
  have hkn:k < G.length:=by omega
  have hcn:=cntF_set (List.replicate G.length false) k (by simp [List.getElem?_replicate,hkn])
  rw [cntF_rep] at hcn
  obtain ⟨s',l',hd⟩:=dfs_ex (normG G) (fun r hrr x hx=>by rw [normG_len];exact normG_in hrr hx) G.length ((normG G).getD k []) ((List.replicate G.length false).set k true) [] (by omega) (by simp [normG_len]) (fun x hx=>by rw [normG_len];exact normG_in (getD_mem (by rw [normG_len];exact hkn)) hx)
  have hw:=walked hkn hd
  have hok:=domGr_ok hkn hd
  have hpc:=dfs_cnt hd
  simp only [List.length_nil] at hpc
  have hPl:((k:Int) :: l').length≤G.length:=by rw [List.length_cons];omega
  obtain ⟨pv,A1,p1,p2,p3,p4,p5⟩:=post_f h.g h.post h.rev h.post1 h.g.idx base A v G k (by omega) (hv.ext hHA) (by omega) hr40 hkn hd
  have hne:((k:Int) :: l').length≠0:=by simp
  generalize hPe:(k:Int) :: l'=P at hw hok hPl p3 p5 hne
  have tg:TG G k P:=⟨hok,fun x hx=>by obtain ⟨j,e,hj⟩:=hw.nat _ hx;omega,hw.nat,by rw [← hPe];simp,hw.nodup,hw.head⟩
  have l1:=p2.le
  have hmk:=make_n (H:=A1) (zero:=[.s (.int .i64 0)]) (sz:=1) (bytes:=8) (k:=.i64) (k':=.i64) (n:=G.length) (by omega)
  rw [flat_one] at hmk
  have t0:=tree_l0 (CT:=CT) base (A:=A1) (v:=v) (pv:=pv) (bv:=.ref (H.length+2) 0 0) (q:=k) (n:=G.length) (by omega) p3 p4 tg.nat tg.nd (by omega)
  have hpl:=iV_len p3
  have hple:∀ ob ob2:Ob,xLen (A1 ++ [ob] ++ [ob2]) .s pv=some (.s (.int .i64 P.length)):=fun ob ob2=>iV_len ((p3.ext (Ext.app _ _)).ext (Ext.app _ _))
  have hple1:∀ ob:Ob,xLen (A1 ++ [ob]) .s pv=some (.s (.int .i64 P.length)):=fun ob=>iV_len (p3.ext (Ext.app _ _))
  obtain ⟨A3,hA3⟩:∃ A3:Heap,A1 ++ [.cells 0 ((atL G.length P).map iV)] ++ [.cells 0 [.sl A1.length 0 0 G.length 1]]=A3:=⟨_,rfl⟩
  have hA13:Ext A1 A3:=by rw [← hA3];exact (Ext.app _ _).trans (Ext.app _ _)
  have hA3l:A3.length=A1.length+2:=by rw [← hA3];simp
  have ga:getC A3 A1.length 0=some ((atL G.length P).map iV):=by rw [← hA3];exact get_in2 _ _ _
  have gba:getC A3 (A1.length+1) 0=some [.sl A1.length 0 0 G.length 1]:=by rw [← hA3];exact get_in2' _ _ _
  obtain ⟨kv,A4,b1,b2,b3,b4⟩:=back_f h.g base A3 v G (hv.ext ((hHA.trans p2).trans hA13)) (by omega) (by omega) hr20
  have l2:=b2.le
  have e34:Ext A1 A4:=hA13.trans b2
  have gA41:=(getC_ext gA1 (p2.trans e34))
  have gA42:=(getC_ext gA2 (p2.trans e34))
  have hout0:(List.replicate G.length (-2:Int)).set k (k:Int)=outL G.length (Chk.out0 (domGr G k P)):=by
   apply List.ext_getElem?
   intro j
   by_cases hj:j < G.length
   ·rw [outL_get _ hj,List.getElem?_set]
    unfold oZ Chk.out0
    by_cases e:k=j
    ·subst e
     simp [hkn,domGr]
    ·simp [e,hj,domGr,Ne.symm e,List.getElem?_replicate]
   ·rw [List.getElem?_eq_none (by simp;omega),List.getElem?_eq_none (by rw [outL_len];omega)]
  have hDS:∀ out,DS (H.length+2) (H.length+1) (A1.length+1) A1.length G.length (A4.set (H.length+1) (.cells 0 ((outL G.length out).map iV))) P out:=fun out=>
   ⟨getC_set gA41 0,by rw [getC_set_ne _ (by omega)];exact gA42,by rw [getC_set_ne _ (by omega)];exact getC_ext ga b2,by rw [getC_set_ne _ (by omega)];exact getC_ext gba b2⟩
  have hmn:((P.length - 1:Nat):Nat)=P.length - 1:=rfl
  obtain ⟨sv,c1,c2,c3⟩:=(p5.ext e34).rd.slice p4 (lo:=some (.s (.int .i64 1))) (hi:=none) (a:=1) (b:=P.length) rfl (by rw [List.length_map];rfl) (by omega) (by simp)
  have hsv:∀ ob,Rd (A4.set (H.length+1) ob) sv ((P.drop 1).map iV):=fun ob=>by
   obtain ⟨sw,d1,d2,d3⟩:=((p5.ext e34).set (id:=H.length+1) (by omega) ob).rd.slice p4 (lo:=some (.s (.int .i64 1))) (hi:=none) (a:=1) (b:=P.length) rfl (by rw [List.length_map];rfl) (by omega) (by simp)
   rw [c1] at d1
   obtain rfl:=Option.some.inj d1
   rwa [List.map_drop,← List.take_of_length_le (l:=(P.map iV).drop 1) (i:=P.length - 1) (by simp)]
  have hkv:∀ ob,RdRows (A4.set (H.length+1) ob) kv (rowsV (backG G)):=fun ob=>b4 _ ob (by omega)
  obtain ⟨out,q1,q2,q3⟩:=tree_l3 h.tree1 base (bo:=H.length+2) (o:=H.length+1) (ba:=A1.length+1) (a:=A1.length) (A:=A4) (G:=G) (q:=k) (P:=P) (by omega) hDS tg hkv c1 hsv c3 (by omega) hPl _ (Chk.out0 (domGr G k P)) (Nat.le_refl _) (Chk.inv_start hok)
  have hrepV:(List.replicate G.length (iV (-2)))=(List.replicate G.length (-2)).map iV:=by simp
  have st1:=storeV_at (v:=iV (k:Int)) (base:=base) gA41 (by omega) rfl (off:=k) (by simp;exact hkn)
  rw [hrepV,← List.map_set,hout0] at st1
  have st2:=storeV_at (v:=iV (-1)) (base:=base) (hDS out).ho (by omega) rfl (off:=k) (by rw [List.length_map,outL_len];exact hkn)
  rw [List.set_set,← List.map_set] at st2
  have gb3:∀ out,getC (A4.set (H.length+1) (.cells 0 ((outL G.length out).map iV))) (H.length+2) 0=some [.sl (H.length+1) 0 0 G.length 1]:=fun out=>(hDS out).hbo
  have gb4:∀ ob,getC (A4.set (H.length+1) ob) (H.length+2) 0=some [.sl (H.length+1) 0 0 G.length 1]:=fun ob=>by rw [getC_set_ne _ (by omega)];exact gA42
  have hb2:base≤A1.length+1:=by omega
  have e3:∀ ob ob2:Ob,(A1 ++ [ob] ++ [ob2]).length=A1.length+2:=fun ob ob2=>by simp
  have hdn:(0≤(k:Int)∧(k:Int) < (G.length:Int)∧1=1):=by omega
  have hz:((P.length:Int) == 0)=false:=by rw [beq_eq_false_iff_ne];omega
  refine ⟨.sl (H.length+1) 0 0 G.length 1,A4.set (H.length+1) (.cells 0 (((outL G.length out).set k (-1)).map iV)),(outL G.length out).set k (-1),fun b=>P.idxOf (b:Int),callW_fn (c:=s_f10) h.tree (by simp [s_f10]) ?_,((hHA.trans p2).trans e34).set (by omega) _,?_,tree_in hkn tg hw.rch hPl q2 q3⟩
  ·simp only [iV,nilS] at hrp p1 hset hA gA2 hmk t0 gA42 q1 st1 st2 gb3 gb4 hA3 b1
   simp only [s_f10,a_f10,s_f10_l0_b,s_f10_l1_b,s_f10_l2_b,s_f10_l3_b,aa,bl,i64,reduceIte,reduceCtorEq,Nat.reduceEqDiff,Nat.reduceLT,Nat.reduceLeDiff,Nat.reduceBEq,Nat.reduceAdd,fillA,splice,Nat.reduceMul,amY,op_eqP,hvl,e1,hrp,e2,hb1,hset,hA,p1,hb2,e3,xsub_mkFn,hz,hpl,hple,hple1,op_mkSl,hmk,t0,hA3,b1,gA42,hdn,st1,q1,gb3,st2,gb4]
   trace_state
  ·refine .inr ⟨H.length+1,0,((outL G.length out).set k (-1)).map iV,by simp [outL_len],getC_set gA41 0,by simp,List.take_of_length_le (by simp),by omega⟩
end
end Go.Proofs.Ytdmnenlpdeolaaa
set_option maxRecDepth 100000
namespace Go.Proofs.Ytdmnenlpdeolaaa
open Go.AM
abbrev k_f7:Nat:=7
def s_f7_r0_k:List Nat:=[2,3,4,5,6,7,8,9,10,11,12,13,14,15,16,17,18,19,20,21,22,23,24,25,26,27,28,29,30,31,32,33,34,35,36,37,38,39,40,41,42,43,44,45,46,47,48,49,50,51,52,53,54,55,56,57,58,59,60,61,62,63,64,65,66,67,68,69,70,71,72,73,74,75,76,77,78,79,80,81,82,83,84,85,86,87,88,89,90,91,92,93,94,95,96,97,98,99,100,101,102,103,104,105,106,107,108,109,110,111]
theorem s_f7_r0_kT:killV s_f7_r0_k (startV 112 [] 2)=[]:=by kernel_rfl
theorem s_f7_r0_kA0:s_f7_r0_k.contains 0=false:=by kernel_rfl
theorem s_f7_r0_kA1:s_f7_r0_k.contains 1=false:=by kernel_rfl
def s_f7_r0:List AOper:=[
 ⟨some 4,(.move (.c (.s (.bool false)))),none⟩]
def s_f7_r0_tale:=hT s_f7_r0 s_f7_r0_k [] 5 [] [] [.cc (.s (.bool false))] (by kernel_rfl) (by kernel_rfl)
def s_f7_r1t1:List AOper:=[⟨some 11,(.call (.c (.fn 8 [] [])) [(.t 10)]),none⟩]
def s_f7_r1p0:List AOper:=[⟨some 10,(.move (.t 0)),none⟩]
def s_f7_r1:List AOper:=s_f7_r1p0 ++ s_f7_r1t1
def s_f7_r1p0_tale:=hT s_f7_r1p0 [] [10] 11 [] [(10,(.t 0))] [.tt 0] (by kernel_rfl) (by kernel_rfl)
def s_f7_r1_x:=hS s_f7_r1 s_f7_r1p0 s_f7_r1t1 [] [10] [10] rfl (by kernel_rfl)
def s_f7_r1t1_x:=hX s_f7_r1t1 [10] [⟨some 11,(.call (.c (.fn 8 [] [])) [(.t 10)]),none⟩] rfl
def s_f7_r2t1:List AOper:=[⟨some 4,(.move (.t 12)),none⟩]
def s_f7_r2p0:List AOper:=[⟨some 12,(.call (.c (.fn 9 [] [])) []),none⟩]
def s_f7_r2:List AOper:=s_f7_r2p0 ++ s_f7_r2t1
def s_f7_r2_x:=hO s_f7_r2 s_f7_r2p0 s_f7_r2t1 [0,1,11] [0,1,11,12] [⟨some 12,(.call (.c (.fn 9 [] [])) []),none⟩] rfl rfl (by kernel_rfl)
def s_f7_r2t1_tale:=hT s_f7_r2t1 [0,1,11,12] [4] 5 [] [(4,(.t 12))] [.tt 12] (by kernel_rfl) (by kernel_rfl)
def s_f7_r2t1_x:=hL s_f7_r2t1 [0,1,11,12] [4]
def s_f7_r3t2:List AOper:=[⟨some 5,(.move (.t 15)),none⟩]
def s_f7_r3p1:List AOper:=[⟨some 15,(.call (.c (.fn 10 [] [])) [(.t 13),(.t 14)]),none⟩]
def s_f7_r3t1:List AOper:=s_f7_r3p1 ++ s_f7_r3t2
def s_f7_r3p0:List AOper:=[⟨some 13,(.move (.t 0)),none⟩,⟨some 14,(.move (.t 1)),none⟩]
def s_f7_r3:List AOper:=s_f7_r3p0 ++ s_f7_r3t1
def s_f7_r3p0_tale:=hT s_f7_r3p0 [11] [13,14] 15 [] [(13,(.t 0)),(14,(.t 1))] [.tt 0,.tt 1] (by kernel_rfl) (by kernel_rfl)
def s_f7_r3_x:=hS s_f7_r3 s_f7_r3p0 s_f7_r3t1 [11] [13,14] [11,13,14,15] rfl (by kernel_rfl)
def s_f7_r3t1_x:=hO s_f7_r3t1 s_f7_r3p1 s_f7_r3t2 [13,14] [11,13,14,15] [⟨some 15,(.call (.c (.fn 10 [] [])) [(.t 13),(.t 14)]),none⟩] rfl rfl (by kernel_rfl)
def s_f7_r3t2_tale:=hT s_f7_r3t2 [11,13,14,15] [5] 6 [] [(5,(.t 15))] [.tt 15] (by kernel_rfl) (by kernel_rfl)
def s_f7_r3t2_x:=hL s_f7_r3t2 [11,13,14,15] [5]
def s_f7_r4:List AOper:=[
 ⟨some 16,(.move (.t 5)),none⟩,
 ⟨some 17,(.lenS .s (.t 16)),none⟩,
 ⟨some 18,(.move (.t 0)),none⟩,
 ⟨some 19,(.lenS .s (.t 18)),none⟩,
 ⟨some 20,(.bin .neq (.t 17) (.t 19)),none⟩]
def s_f7_r4_tale:=hT s_f7_r4 [16,17,18,19] [20] 21 [] [(20,(.op (.bin .neq (.t 0) (.t 1)) [(.op (.lenS .s (.t 0)) [(.t 5)]),(.op (.lenS .s (.t 0)) [(.t 0)])]))] [.tt 5,.sub 0 [0] [],.tt 0,.sub 0 [1] [],.sub 0 [] []] (by kernel_rfl) (by kernel_rfl)
def s_f7_r5:List AOper:=[
 ⟨some 4,(.move (.c (.s (.bool false)))),none⟩]
def s_f7_r5_tale:=hT s_f7_r5 [0,1,5,20] [4] 5 [] [(4,(.c (.s (.bool false))))] [.cc (.s (.bool false))] (by kernel_rfl) (by kernel_rfl)
def s_f7_r6:List AOper:=[
 ⟨some 6,(.move (.c (.s (.int .i64 0)))),none⟩]
def s_f7_r6_tale:=hT s_f7_r6 [20] [6] 7 [] [(6,(.c (.s (.int .i64 0))))] [.cc (.s (.int .i64 0))] (by kernel_rfl) (by kernel_rfl)
def s_f7_r7:List AOper:=[
 ⟨some 21,(.move (.t 6)),none⟩,
 ⟨some 22,(.move (.t 0)),none⟩,
 ⟨some 23,(.lenS .s (.t 22)),none⟩,
 ⟨some 24,(.bin .lss (.t 21) (.t 23)),none⟩]
def s_f7_r7_tale:=hT s_f7_r7 [21,22,23] [24] 25 [] [(24,(.op (.bin .lss (.t 0) (.t 1)) [(.t 6),(.op (.lenS .s (.t 0)) [(.t 0)])]))] [.tt 6,.tt 0,.sub 0 [1] [],.sub 0 [] []] (by kernel_rfl) (by kernel_rfl)
def s_f7_r8t2:List AOper:=[⟨some 36,(.un .not (.t 35)),none⟩,⟨some 37,(.eqB true (.t 31) (.t 36)),none⟩,⟨some 38,(.move (.t 37)),none⟩,⟨some 39,(.move (.t 5)),some (38,false)⟩,⟨some 40,(.move (.t 6)),some (38,false)⟩,⟨some 41,(.indexAddr 1 (.t 39) (.t 40)),some (38,false)⟩,⟨some 42,(.load false 1 (.t 41)),some (38,false)⟩,⟨some 43,(.bin .eql (.t 42) (.c (.s (.int .i64 (-1))))),some (38,false)⟩,⟨some 44,(.move (.t 6)),some (38,false)⟩,⟨some 45,(.move (.t 1)),some (38,false)⟩,⟨some 46,(.bin .eql (.t 44) (.t 45)),some (38,false)⟩,⟨some 47,(.eqB true (.t 43) (.t 46)),some (38,false)⟩,⟨some 48,(.pick (.t 38) (.c (.s (.bool true))) (.t 47)),none⟩]
def s_f7_r8p1:List AOper:=[⟨some 35,(.callR (.c (.fn 22 [] [])) [(.t 32),(.t 33),(.t 34)]),none⟩]
def s_f7_r8t1:List AOper:=s_f7_r8p1 ++ s_f7_r8t2
def s_f7_r8p0:List AOper:=[⟨some 27,(.move (.t 5)),none⟩,⟨some 28,(.move (.t 6)),none⟩,⟨some 29,(.indexAddr 1 (.t 27) (.t 28)),none⟩,⟨some 30,(.load false 1 (.t 29)),none⟩,⟨some 31,(.bin .eql (.t 30) (.c (.s (.int .i64 (-2))))),none⟩,⟨some 32,(.move (.t 0)),none⟩,⟨some 33,(.move (.t 1)),none⟩,⟨some 34,(.move (.t 6)),none⟩]
def s_f7_r8:List AOper:=s_f7_r8p0 ++ s_f7_r8t1
def s_f7_r8p0_tale:=hT s_f7_r8p0 [24,27,28,29,30] [31,32,33,34] 35 [] [(31,(.op (.bin .eql (.t 0) (.c (.s (.int .i64 (-2))))) [(.op (.load false 1 (.t 0)) [(.op (.indexAddr 1 (.t 0) (.t 1)) [(.t 5),(.t 6)])]),(.c (.s (.int .i64 (-2))))])),(32,(.t 0)),(33,(.t 1)),(34,(.t 6))] [.tt 5,.tt 6,.sub 0 [0,0] [],.sub 0 [0] [],.sub 0 [] [],.tt 0,.tt 1,.tt 6] (by kernel_rfl) (by kernel_rfl)
def s_f7_r8_x:=hS s_f7_r8 s_f7_r8p0 s_f7_r8t1 [24,27,28,29,30] [31,32,33,34] [24,27,28,29,30,31,32,33,34,35,36,37,38,39,40,41,42,43,44,45,46,47] rfl (by kernel_rfl)
def s_f7_r8t1_x:=hO s_f7_r8t1 s_f7_r8p1 s_f7_r8t2 [32,33,34] [24,27,28,29,30,31,32,33,34,35,36,37,38,39,40,41,42,43,44,45,46,47] [⟨some 35,(.callR (.c (.fn 22 [] [])) [(.t 32),(.t 33),(.t 34)]),none⟩] rfl rfl (by kernel_rfl)
def s_f7_r8t2_tale:=hT s_f7_r8t2 [24,27,28,29,30,31,32,33,34,35,36,37,38,39,40,41,42,43,44,45,46,47] [48] 49 [] [(48,(.pick (.op (.eqB true (.t 0) (.t 1)) [(.t 31),(.op (.un .not (.t 0)) [(.t 35)])]) (.c (.s (.bool true))) (.op (.eqB true (.t 0) (.t 1)) [(.op (.bin .eql (.t 0) (.c (.s (.int .i64 (-1))))) [(.op (.load false 1 (.t 0)) [(.op (.indexAddr 1 (.t 0) (.t 1)) [(.t 5),(.t 6)])]),(.c (.s (.int .i64 (-1))))]),(.op (.bin .eql (.t 0) (.t 1)) [(.t 6),(.t 1)])])))] [.sub 0 [0,1] [],.sub 0 [0] [],.sub 0 [0] [],.sub 0 [2,0,0,0,0] [38],.sub 0 [2,0,0,0,1] [38],.sub 0 [2,0,0,0] [38],.sub 0 [2,0,0] [38],.sub 0 [2,0] [38],.sub 0 [2,0,0,0,1] [38],.sub 0 [2,1,1] [38],.sub 0 [2,1] [38],.sub 0 [2] [38],.sub 0 [] []] (by kernel_rfl) (by kernel_rfl)
def s_f7_r8t2_x:=hL s_f7_r8t2 [24,27,28,29,30,31,32,33,34,35,36,37,38,39,40,41,42,43,44,45,46,47] [48]
def s_f7_r9:List AOper:=[
 ⟨some 4,(.move (.c (.s (.bool false)))),none⟩]
def s_f7_r9_tale:=hT s_f7_r9 [0,1,5,6,48] [4] 5 [] [(4,(.c (.s (.bool false))))] [.cc (.s (.bool false))] (by kernel_rfl) (by kernel_rfl)
def s_f7_r10:List AOper:=[
 ⟨some 7,(.move (.c (.s (.int .i64 0)))),none⟩]
def s_f7_r10_tale:=hT s_f7_r10 [48] [7] 8 [] [(7,(.c (.s (.int .i64 0))))] [.cc (.s (.int .i64 0))] (by kernel_rfl) (by kernel_rfl)
def s_f7_r11:List AOper:=[
 ⟨some 49,(.move (.t 7)),none⟩,
 ⟨some 50,(.move (.t 0)),none⟩,
 ⟨some 51,(.lenS .s (.t 50)),none⟩,
 ⟨some 52,(.bin .lss (.t 49) (.t 51)),none⟩]
def s_f7_r11_tale:=hT s_f7_r11 [49,50,51] [52] 53 [] [(52,(.op (.bin .lss (.t 0) (.t 1)) [(.t 7),(.op (.lenS .s (.t 0)) [(.t 0)])]))] [.tt 7,.tt 0,.sub 0 [1] [],.sub 0 [] []] (by kernel_rfl) (by kernel_rfl)
def s_f7_r12t2:List AOper:=[⟨some 8,(.move (.t 56)),none⟩]
def s_f7_r12p1:List AOper:=[⟨some 56,(.append 1 24 (.c (.s (.slice none 0 0))) (.t 55)),none⟩]
def s_f7_r12t1:List AOper:=s_f7_r12p1 ++ s_f7_r12t2
def s_f7_r12p0:List AOper:=[⟨some 55,(.move (.t 0)),none⟩]
def s_f7_r12:List AOper:=s_f7_r12p0 ++ s_f7_r12t1
def s_f7_r12p0_tale:=hT s_f7_r12p0 [52] [55] 56 [] [(55,(.t 0))] [.tt 0] (by kernel_rfl) (by kernel_rfl)
def s_f7_r12_x:=hS s_f7_r12 s_f7_r12p0 s_f7_r12t1 [52] [55] [52,55,56] rfl (by kernel_rfl)
def s_f7_r12t1_x:=hO s_f7_r12t1 s_f7_r12p1 s_f7_r12t2 [55] [52,55,56] [⟨some 56,(.append 1 24 (.c (.s (.slice none 0 0))) (.t 55)),none⟩] rfl rfl (by kernel_rfl)
def s_f7_r12t2_tale:=hT s_f7_r12t2 [52,55,56] [8] 9 [] [(8,(.t 56))] [.tt 56] (by kernel_rfl) (by kernel_rfl)
def s_f7_r12t2_x:=hL s_f7_r12t2 [52,55,56] [8]
def s_f7_r13t1:List AOper:=[⟨none,(.store 1 (.t 59) (.c (.s (.slice none 0 0)))),none⟩]
def s_f7_r13p0:List AOper:=[⟨some 57,(.move (.t 8)),none⟩,⟨some 58,(.move (.t 7)),none⟩,⟨some 59,(.indexAddr 1 (.t 57) (.t 58)),none⟩]
def s_f7_r13:List AOper:=s_f7_r13p0 ++ s_f7_r13t1
def s_f7_r13p0_tale:=hT s_f7_r13p0 [57,58] [59] 60 [] [(59,(.op (.indexAddr 1 (.t 0) (.t 1)) [(.t 8),(.t 7)]))] [.tt 8,.tt 7,.sub 0 [] []] (by kernel_rfl) (by kernel_rfl)
def s_f7_r13_x:=hS s_f7_r13 s_f7_r13p0 s_f7_r13t1 [57,58] [59] [57,58,59] rfl (by kernel_rfl)
def s_f7_r13t1_x:=hX s_f7_r13t1 [57,58,59] [⟨none,(.store 1 (.t 59) (.c (.s (.slice none 0 0)))),none⟩] rfl
def s_f7_r14t14:List AOper:=[⟨some 79,(.un .not (.t 78)),some (74,false)⟩,⟨some 80,(.pick (.t 74) (.c (.s (.bool true))) (.t 79)),some (65,true)⟩,⟨some 81,(.pick (.t 65) (.t 80) (.c (.s (.bool false)))),none⟩,⟨some 9,(.move (.t 81)),none⟩]
def s_f7_r14p13:List AOper:=[⟨some 78,(.call (.c (.fn 22 [] [])) [(.t 75),(.t 76),(.t 77)]),some (74,false)⟩]
def s_f7_r14t13:List AOper:=s_f7_r14p13 ++ s_f7_r14t14
def s_f7_r14p12:List AOper:=[⟨some 77,(.move (.t 6)),some (74,false)⟩]
def s_f7_r14t12:List AOper:=s_f7_r14p12 ++ s_f7_r14t13
def s_f7_r14p11:List AOper:=[⟨some 76,(.move (.t 1)),some (74,false)⟩]
def s_f7_r14t11:List AOper:=s_f7_r14p11 ++ s_f7_r14t12
def s_f7_r14p10:List AOper:=[⟨some 75,(.move (.t 8)),some (74,false)⟩]
def s_f7_r14t10:List AOper:=s_f7_r14p10 ++ s_f7_r14t11
def s_f7_r14p9:List AOper:=[⟨some 74,(.move (.t 73)),some (65,true)⟩]
def s_f7_r14t9:List AOper:=s_f7_r14p9 ++ s_f7_r14t10
def s_f7_r14p8:List AOper:=[⟨some 73,(.pick (.t 69) (.c (.s (.bool true))) (.t 72)),some (65,true)⟩]
def s_f7_r14t8:List AOper:=s_f7_r14p8 ++ s_f7_r14t9
def s_f7_r14p7:List AOper:=[⟨some 72,(.bin .eql (.t 70) (.t 71)),some (69,false)⟩]
def s_f7_r14t7:List AOper:=s_f7_r14p7 ++ s_f7_r14t8
def s_f7_r14p6:List AOper:=[⟨some 71,(.move (.t 1)),some (69,false)⟩]
def s_f7_r14t6:List AOper:=s_f7_r14p6 ++ s_f7_r14t7
def s_f7_r14p5:List AOper:=[⟨some 70,(.move (.t 7)),some (69,false)⟩]
def s_f7_r14t5:List AOper:=s_f7_r14p5 ++ s_f7_r14t6
def s_f7_r14p4:List AOper:=[⟨some 69,(.move (.t 68)),some (65,true)⟩]
def s_f7_r14t4:List AOper:=s_f7_r14p4 ++ s_f7_r14t5
def s_f7_r14p3:List AOper:=[⟨some 68,(.bin .eql (.t 66) (.t 67)),some (65,true)⟩]
def s_f7_r14t3:List AOper:=s_f7_r14p3 ++ s_f7_r14t4
def s_f7_r14p2:List AOper:=[⟨some 67,(.move (.t 6)),some (65,true)⟩]
def s_f7_r14t2:List AOper:=s_f7_r14p2 ++ s_f7_r14t3
def s_f7_r14p1:List AOper:=[⟨some 66,(.move (.t 7)),some (65,true)⟩]
def s_f7_r14t1:List AOper:=s_f7_r14p1 ++ s_f7_r14t2
def s_f7_r14p0:List AOper:=[⟨some 60,(.move (.t 5)),none⟩,⟨some 61,(.move (.t 6)),none⟩,⟨some 62,(.indexAddr 1 (.t 60) (.t 61)),none⟩,⟨some 63,(.load false 1 (.t 62)),none⟩,⟨some 64,(.bin .neq (.t 63) (.c (.s (.int .i64 (-2))))),none⟩,⟨some 65,(.move (.t 64)),none⟩]
def s_f7_r14:List AOper:=s_f7_r14p0 ++ s_f7_r14t1
def s_f7_r14p0_tale:=hT s_f7_r14p0 [60,61,62,63,64] [65] 66 [] [(65,(.op (.bin .neq (.t 0) (.c (.s (.int .i64 (-2))))) [(.op (.load false 1 (.t 0)) [(.op (.indexAddr 1 (.t 0) (.t 1)) [(.t 5),(.t 6)])]),(.c (.s (.int .i64 (-2))))]))] [.tt 5,.tt 6,.sub 0 [0,0] [],.sub 0 [0] [],.sub 0 [] [],.sub 0 [] []] (by kernel_rfl) (by kernel_rfl)
def s_f7_r14_x:=hS s_f7_r14 s_f7_r14p0 s_f7_r14t1 [60,61,62,63,64] [65] [8,60,61,62,63,64,65,66,67,68,69,70,71,72,73,74,75,76,77,78,79,80,81] rfl (by kernel_rfl)
def s_f7_r14t1_x:=hO s_f7_r14t1 s_f7_r14p1 s_f7_r14t2 [] [8,60,61,62,63,64,65,66,67,68,69,70,71,72,73,74,75,76,77,78,79,80,81] [⟨some 66,(.move (.t 7)),some (65,true)⟩] rfl rfl (by kernel_rfl)
def s_f7_r14t2_x:=hO s_f7_r14t2 s_f7_r14p2 s_f7_r14t3 [] [8,60,61,62,63,64,65,66,67,68,69,70,71,72,73,74,75,76,77,78,79,80,81] [⟨some 67,(.move (.t 6)),some (65,true)⟩] rfl rfl (by kernel_rfl)
def s_f7_r14t3_x:=hO s_f7_r14t3 s_f7_r14p3 s_f7_r14t4 [66,67] [8,60,61,62,63,64,65,66,67,68,69,70,71,72,73,74,75,76,77,78,79,80,81] [⟨some 68,(.bin .eql (.t 66) (.t 67)),some (65,true)⟩] rfl rfl (by kernel_rfl)
def s_f7_r14t4_x:=hO s_f7_r14t4 s_f7_r14p4 s_f7_r14t5 [68] [8,60,61,62,63,64,65,66,67,68,69,70,71,72,73,74,75,76,77,78,79,80,81] [⟨some 69,(.move (.t 68)),some (65,true)⟩] rfl rfl (by kernel_rfl)
def s_f7_r14t5_x:=hO s_f7_r14t5 s_f7_r14p5 s_f7_r14t6 [] [8,60,61,62,63,64,65,66,67,68,69,70,71,72,73,74,75,76,77,78,79,80,81] [⟨some 70,(.move (.t 7)),some (69,false)⟩] rfl rfl (by kernel_rfl)
def s_f7_r14t6_x:=hO s_f7_r14t6 s_f7_r14p6 s_f7_r14t7 [] [8,60,61,62,63,64,65,66,67,68,69,70,71,72,73,74,75,76,77,78,79,80,81] [⟨some 71,(.move (.t 1)),some (69,false)⟩] rfl rfl (by kernel_rfl)
def s_f7_r14t7_x:=hO s_f7_r14t7 s_f7_r14p7 s_f7_r14t8 [70,71] [8,60,61,62,63,64,65,66,67,68,69,70,71,72,73,74,75,76,77,78,79,80,81] [⟨some 72,(.bin .eql (.t 70) (.t 71)),some (69,false)⟩] rfl rfl (by kernel_rfl)
def s_f7_r14t8_x:=hO s_f7_r14t8 s_f7_r14p8 s_f7_r14t9 [69,72] [8,60,61,62,63,64,65,66,67,68,69,70,71,72,73,74,75,76,77,78,79,80,81] [⟨some 73,(.pick (.t 69) (.c (.s (.bool true))) (.t 72)),some (65,true)⟩] rfl rfl (by kernel_rfl)
def s_f7_r14t9_x:=hO s_f7_r14t9 s_f7_r14p9 s_f7_r14t10 [73] [8,60,61,62,63,64,65,66,67,68,69,70,71,72,73,74,75,76,77,78,79,80,81] [⟨some 74,(.move (.t 73)),some (65,true)⟩] rfl rfl (by kernel_rfl)
def s_f7_r14t10_x:=hO s_f7_r14t10 s_f7_r14p10 s_f7_r14t11 [8] [8,60,61,62,63,64,65,66,67,68,69,70,71,72,73,74,75,76,77,78,79,80,81] [⟨some 75,(.move (.t 8)),some (74,false)⟩] rfl rfl (by kernel_rfl)
def s_f7_r14t11_x:=hO s_f7_r14t11 s_f7_r14p11 s_f7_r14t12 [] [8,60,61,62,63,64,65,66,67,68,69,70,71,72,73,74,75,76,77,78,79,80,81] [⟨some 76,(.move (.t 1)),some (74,false)⟩] rfl rfl (by kernel_rfl)
def s_f7_r14t12_x:=hO s_f7_r14t12 s_f7_r14p12 s_f7_r14t13 [] [8,60,61,62,63,64,65,66,67,68,69,70,71,72,73,74,75,76,77,78,79,80,81] [⟨some 77,(.move (.t 6)),some (74,false)⟩] rfl rfl (by kernel_rfl)
def s_f7_r14t13_x:=hO s_f7_r14t13 s_f7_r14p13 s_f7_r14t14 [75,76,77] [8,60,61,62,63,64,65,66,67,68,69,70,71,72,73,74,75,76,77,78,79,80,81] [⟨some 78,(.call (.c (.fn 22 [] [])) [(.t 75),(.t 76),(.t 77)]),some (74,false)⟩] rfl rfl (by kernel_rfl)
def s_f7_r14t14_tale:=hT s_f7_r14t14 [8,60,61,62,63,64,65,66,67,68,69,70,71,72,73,74,75,76,77,78,79,80,81] [9] 82 [([(74,false,(.t 74))],(.op (.un .not (.t 0)) [(.t 78)]))] [(9,(.pick (.t 65) (.pick (.t 74) (.c (.s (.bool true))) (.op (.un .not (.t 0)) [(.t 78)])) (.c (.s (.bool false)))))] [.keep [(74,false,(.t 74))] (.op (.un .not (.t 0)) [(.t 78)]),.sub 0 [1] [65],.sub 0 [] [],.sub 0 [] []] (by kernel_rfl) (by kernel_rfl)
def s_f7_r14t14_x:=hL s_f7_r14t14 [8,60,61,62,63,64,65,66,67,68,69,70,71,72,73,74,75,76,77,78,79,80,81] [9]
def s_f7_r15t2:List AOper:=[⟨some 86,(.move (.t 9)),none⟩,⟨some 87,(.eqB true (.t 85) (.t 86)),none⟩]
def s_f7_r15p1:List AOper:=[⟨some 85,(.call (.c (.fn 13 [] [])) [(.t 82),(.t 83),(.t 84)]),none⟩]
def s_f7_r15t1:List AOper:=s_f7_r15p1 ++ s_f7_r15t2
def s_f7_r15p0:List AOper:=[⟨some 82,(.move (.t 5)),none⟩,⟨some 83,(.move (.t 7)),none⟩,⟨some 84,(.move (.t 6)),none⟩]
def s_f7_r15:List AOper:=s_f7_r15p0 ++ s_f7_r15t1
def s_f7_r15p0_tale:=hT s_f7_r15p0 [] [82,83,84] 85 [] [(82,(.t 5)),(83,(.t 7)),(84,(.t 6))] [.tt 5,.tt 7,.tt 6] (by kernel_rfl) (by kernel_rfl)
def s_f7_r15_x:=hS s_f7_r15 s_f7_r15p0 s_f7_r15t1 [] [82,83,84] [82,83,84,85,86] rfl (by kernel_rfl)
def s_f7_r15t1_x:=hO s_f7_r15t1 s_f7_r15p1 s_f7_r15t2 [82,83,84] [82,83,84,85,86] [⟨some 85,(.call (.c (.fn 13 [] [])) [(.t 82),(.t 83),(.t 84)]),none⟩] rfl rfl (by kernel_rfl)
def s_f7_r15t2_tale:=hT s_f7_r15t2 [82,83,84,85,86] [87] 88 [] [(87,(.op (.eqB true (.t 0) (.t 1)) [(.t 85),(.t 9)]))] [.tt 9,.sub 0 [] []] (by kernel_rfl) (by kernel_rfl)
def s_f7_r15t2_x:=hL s_f7_r15t2 [82,83,84,85,86] [87]
def s_f7_r16:List AOper:=[
 ⟨some 4,(.move (.c (.s (.bool false)))),none⟩]
def s_f7_r16_tale:=hT s_f7_r16 [0,1,5,6,7,9,87] [4] 5 [] [(4,(.c (.s (.bool false))))] [.cc (.s (.bool false))] (by kernel_rfl) (by kernel_rfl)
def s_f7_r17t8:List AOper:=[⟨some 109,(.un .not (.t 108)),some (101,true)⟩,⟨some 110,(.pick (.t 101) (.t 109) (.c (.s (.bool false)))),none⟩]
def s_f7_r17p7:List AOper:=[⟨some 108,(.call (.c (.fn 13 [] [])) [(.t 102),(.t 103),(.t 107)]),some (101,true)⟩]
def s_f7_r17t7:List AOper:=s_f7_r17p7 ++ s_f7_r17t8
def s_f7_r17p6:List AOper:=[⟨some 107,(.load false 1 (.t 106)),some (101,true)⟩]
def s_f7_r17t6:List AOper:=s_f7_r17p6 ++ s_f7_r17t7
def s_f7_r17p5:List AOper:=[⟨some 106,(.indexAddr 1 (.t 104) (.t 105)),some (101,true)⟩]
def s_f7_r17t5:List AOper:=s_f7_r17p5 ++ s_f7_r17t6
def s_f7_r17p4:List AOper:=[⟨some 105,(.move (.t 6)),some (101,true)⟩]
def s_f7_r17t4:List AOper:=s_f7_r17p4 ++ s_f7_r17t5
def s_f7_r17p3:List AOper:=[⟨some 104,(.move (.t 5)),some (101,true)⟩]
def s_f7_r17t3:List AOper:=s_f7_r17p3 ++ s_f7_r17t4
def s_f7_r17p2:List AOper:=[⟨some 103,(.move (.t 7)),some (101,true)⟩]
def s_f7_r17t2:List AOper:=s_f7_r17p2 ++ s_f7_r17t3
def s_f7_r17p1:List AOper:=[⟨some 102,(.move (.t 5)),some (101,true)⟩]
def s_f7_r17t1:List AOper:=s_f7_r17p1 ++ s_f7_r17t2
def s_f7_r17p0:List AOper:=[⟨some 88,(.move (.t 9)),none⟩,⟨some 89,(.move (.t 88)),none⟩,⟨some 90,(.move (.t 7)),some (89,true)⟩,⟨some 91,(.move (.t 6)),some (89,true)⟩,⟨some 92,(.bin .neq (.t 90) (.t 91)),some (89,true)⟩,⟨some 93,(.pick (.t 89) (.t 92) (.c (.s (.bool false)))),none⟩,⟨some 94,(.move (.t 93)),none⟩,⟨some 95,(.move (.t 5)),some (94,true)⟩,⟨some 96,(.move (.t 6)),some (94,true)⟩,⟨some 97,(.indexAddr 1 (.t 95) (.t 96)),some (94,true)⟩,⟨some 98,(.load false 1 (.t 97)),some (94,true)⟩,⟨some 99,(.bin .geq (.t 98) (.c (.s (.int .i64 0)))),some (94,true)⟩,⟨some 100,(.pick (.t 94) (.t 99) (.c (.s (.bool false)))),none⟩,⟨some 101,(.move (.t 100)),none⟩]
def s_f7_r17:List AOper:=s_f7_r17p0 ++ s_f7_r17t1
def s_f7_r17p0_tale:=hT s_f7_r17p0 [9,87,88,89,90,91,92,93,94,95,96,97,98,99,100] [101] 102 [] [(101,(.pick (.pick (.t 9) (.op (.bin .neq (.t 0) (.t 1)) [(.t 7),(.t 6)]) (.c (.s (.bool false)))) (.op (.bin .geq (.t 0) (.c (.s (.int .i64 0)))) [(.op (.load false 1 (.t 0)) [(.op (.indexAddr 1 (.t 0) (.t 1)) [(.t 5),(.t 6)])]),(.c (.s (.int .i64 0)))]) (.c (.s (.bool false)))))] [.tt 9,.tt 9,.sub 0 [0,1,0] [89],.sub 0 [0,1,1] [89],.sub 0 [0,1] [89],.sub 0 [0] [],.sub 0 [0] [],.sub 0 [1,0,0,0] [94],.sub 0 [1,0,0,1] [94],.sub 0 [1,0,0] [94],.sub 0 [1,0] [94],.sub 0 [1] [94],.sub 0 [] [],.sub 0 [] []] (by kernel_rfl) (by kernel_rfl)
def s_f7_r17_x:=hS s_f7_r17 s_f7_r17p0 s_f7_r17t1 [9,87,88,89,90,91,92,93,94,95,96,97,98,99,100] [101] [9,87,88,89,90,91,92,93,94,95,96,97,98,99,100,101,102,103,104,105,106,107,108,109] rfl (by kernel_rfl)
def s_f7_r17t1_x:=hO s_f7_r17t1 s_f7_r17p1 s_f7_r17t2 [] [9,87,88,89,90,91,92,93,94,95,96,97,98,99,100,101,102,103,104,105,106,107,108,109] [⟨some 102,(.move (.t 5)),some (101,true)⟩] rfl rfl (by kernel_rfl)
def s_f7_r17t2_x:=hO s_f7_r17t2 s_f7_r17p2 s_f7_r17t3 [] [9,87,88,89,90,91,92,93,94,95,96,97,98,99,100,101,102,103,104,105,106,107,108,109] [⟨some 103,(.move (.t 7)),some (101,true)⟩] rfl rfl (by kernel_rfl)
def s_f7_r17t3_x:=hO s_f7_r17t3 s_f7_r17p3 s_f7_r17t4 [] [9,87,88,89,90,91,92,93,94,95,96,97,98,99,100,101,102,103,104,105,106,107,108,109] [⟨some 104,(.move (.t 5)),some (101,true)⟩] rfl rfl (by kernel_rfl)
def s_f7_r17t4_x:=hO s_f7_r17t4 s_f7_r17p4 s_f7_r17t5 [] [9,87,88,89,90,91,92,93,94,95,96,97,98,99,100,101,102,103,104,105,106,107,108,109] [⟨some 105,(.move (.t 6)),some (101,true)⟩] rfl rfl (by kernel_rfl)
def s_f7_r17t5_x:=hO s_f7_r17t5 s_f7_r17p5 s_f7_r17t6 [104,105] [9,87,88,89,90,91,92,93,94,95,96,97,98,99,100,101,102,103,104,105,106,107,108,109] [⟨some 106,(.indexAddr 1 (.t 104) (.t 105)),some (101,true)⟩] rfl rfl (by kernel_rfl)
def s_f7_r17t6_x:=hO s_f7_r17t6 s_f7_r17p6 s_f7_r17t7 [106] [9,87,88,89,90,91,92,93,94,95,96,97,98,99,100,101,102,103,104,105,106,107,108,109] [⟨some 107,(.load false 1 (.t 106)),some (101,true)⟩] rfl rfl (by kernel_rfl)
def s_f7_r17t7_x:=hO s_f7_r17t7 s_f7_r17p7 s_f7_r17t8 [102,103,107] [9,87,88,89,90,91,92,93,94,95,96,97,98,99,100,101,102,103,104,105,106,107,108,109] [⟨some 108,(.call (.c (.fn 13 [] [])) [(.t 102),(.t 103),(.t 107)]),some (101,true)⟩] rfl rfl (by kernel_rfl)
def s_f7_r17t8_tale:=hT s_f7_r17t8 [9,87,88,89,90,91,92,93,94,95,96,97,98,99,100,101,102,103,104,105,106,107,108,109] [110] 111 [] [(110,(.pick (.t 101) (.op (.un .not (.t 0)) [(.t 108)]) (.c (.s (.bool false)))))] [.sub 0 [1] [101],.sub 0 [] []] (by kernel_rfl) (by kernel_rfl)
def s_f7_r17t8_x:=hL s_f7_r17t8 [9,87,88,89,90,91,92,93,94,95,96,97,98,99,100,101,102,103,104,105,106,107,108,109] [110]
def s_f7_r18:List AOper:=[
 ⟨some 4,(.move (.c (.s (.bool false)))),none⟩]
def s_f7_r18_tale:=hT s_f7_r18 [0,1,5,6,7,110] [4] 5 [] [(4,(.c (.s (.bool false))))] [.cc (.s (.bool false))] (by kernel_rfl) (by kernel_rfl)
def s_f7_r19:List AOper:=[
 ⟨some 53,(.move (.t 7)),none⟩,
 ⟨some 54,(.bin .add (.t 53) (.c (.s (.int .i64 1)))),none⟩,
 ⟨some 7,(.move (.t 54)),none⟩]
def s_f7_r19_tale:=hT s_f7_r19 [53,54,110] [7] 55 [] [(7,(.op (.bin .add (.t 0) (.c (.s (.int .i64 1)))) [(.t 7),(.c (.s (.int .i64 1)))]))] [.tt 7,.sub 0 [] [],.sub 0 [] []] (by kernel_rfl) (by kernel_rfl)
def s_f7_l0_b:ACode:=
 (.seq (.seq (.regionE s_f7_r11 [49,50,51] [52])
 (.cond (.t 52)
 .skip
 (.exit 2)))
 (.seq (.block 3
 (.seq (.region s_f7_r12 [] [52,55,56])
 (.seq (.region s_f7_r13 [] [57,58,59])
 (.seq (.region s_f7_r14 [] [8,60,61,62,63,64,65,66,67,68,69,70,71,72,73,74,75,76,77,78,79,80,81])
 (.seq (.seq (.region s_f7_r15 [] [82,83,84,85,86])
 (.cond (.t 87)
 (.seq (.regionE s_f7_r16 [0,1,5,6,7,9,87] [4])
 .ret)
 .skip))
 (.seq (.region s_f7_r17 [] [9,87,88,89,90,91,92,93,94,95,96,97,98,99,100,101,102,103,104,105,106,107,108,109])
 (.cond (.t 110)
 (.seq (.regionE s_f7_r18 [0,1,5,6,7,110] [4])
 .ret)
 .skip)))))))
 (.regionE s_f7_r19 [53,54,110] [7])))
def s_f7_l0:ACode:=s_f7_l0_b
def s_f7_l0_ev:=hE s_f7_l0 s_f7_l0_b rfl
def s_f7_r20:List AOper:=[
 ⟨some 25,(.move (.t 6)),none⟩,
 ⟨some 26,(.bin .add (.t 25) (.c (.s (.int .i64 1)))),none⟩,
 ⟨some 6,(.move (.t 26)),none⟩]
def s_f7_r20_tale:=hT s_f7_r20 [7,25,26,52] [6] 27 [] [(6,(.op (.bin .add (.t 0) (.c (.s (.int .i64 1)))) [(.t 6),(.c (.s (.int .i64 1)))]))] [.tt 6,.sub 0 [] [],.sub 0 [] []] (by kernel_rfl) (by kernel_rfl)
def s_f7_l1_b:ACode:=
 (.seq (.seq (.regionE s_f7_r7 [21,22,23] [24])
 (.cond (.t 24)
 .skip
 (.exit 0)))
 (.seq (.block 1
 (.seq (.seq (.region s_f7_r8 [] [24,27,28,29,30,31,32,33,34,35,36,37,38,39,40,41,42,43,44,45,46,47])
 (.cond (.t 48)
 (.seq (.regionE s_f7_r9 [0,1,5,6,48] [4])
 .ret)
 .skip))
 (.seq (.regionE s_f7_r10 [48] [7])
 (.block 2
 (.loop [] s_f7_l0)))))
 (.regionE s_f7_r20 [7,25,26,52] [6])))
def s_f7_l1:ACode:=s_f7_l1_b
def s_f7_l1_ev:=hE s_f7_l1 s_f7_l1_b rfl
def s_f7_r21t1:List AOper:=[⟨some 4,(.move (.t 111)),none⟩]
def s_f7_r21p0:List AOper:=[⟨some 111,(.call (.c (.fn 9 [] [])) []),none⟩]
def s_f7_r21:List AOper:=s_f7_r21p0 ++ s_f7_r21t1
def s_f7_r21_x:=hO s_f7_r21 s_f7_r21p0 s_f7_r21t1 [0,1,5,6,24] [0,1,5,6,24,111] [⟨some 111,(.call (.c (.fn 9 [] [])) []),none⟩] rfl rfl (by kernel_rfl)
def s_f7_r21t1_tale:=hT s_f7_r21t1 [0,1,5,6,24,111] [4] 5 [] [(4,(.t 111))] [.tt 111] (by kernel_rfl) (by kernel_rfl)
def s_f7_r21t1_x:=hL s_f7_r21t1 [0,1,5,6,24,111] [4]
def s_f7:ACFun:={ ntmps:=112,results:=[(.tmp 4)],body:=
 (.seq (.regionE s_f7_r0 s_f7_r0_k [])
 (.seq (.seq (.region s_f7_r1 [] [10])
 (.cond (.t 11)
 (.seq (.region s_f7_r2 [] [0,1,11,12])
 .ret)
 .skip))
 (.seq (.region s_f7_r3 [] [11,13,14,15])
 (.seq (.seq (.regionE s_f7_r4 [16,17,18,19] [20])
 (.cond (.t 20)
 (.seq (.regionE s_f7_r5 [0,1,5,20] [4])
 .ret)
 .skip))
 (.seq (.seq (.regionE s_f7_r6 [20] [6])
 (.block 0
 (.loop [] s_f7_l1)))
 (.seq (.region s_f7_r21 [] [0,1,5,6,24,111])
 .ret)))))) }
abbrev k_f8:Nat:=8
def s_f8_r0_k:List Nat:=[1,2,3,4,5,6,7,8,9,10,11,12,13,14,15,16,17,18]
theorem s_f8_r0_kT:killV s_f8_r0_k (startV 19 [] 1)=[]:=by kernel_rfl
theorem s_f8_r0_kA0:s_f8_r0_k.contains 0=false:=by kernel_rfl
def s_f8_r0:List AOper:=[
 ⟨some 2,(.move (.c (.s (.bool false)))),none⟩]
def s_f8_r0_tale:=hT s_f8_r0 s_f8_r0_k [] 3 [] [] [.cc (.s (.bool false))] (by kernel_rfl) (by kernel_rfl)
def s_f8_r1:List AOper:=[
 ⟨some 4,(.move (.t 0)),none⟩,
 ⟨some 5,(.lenS .s (.t 4)),none⟩,
 ⟨some 6,(.bin .gtr (.t 5) (.c (.s (.int .i64 20)))),none⟩]
def s_f8_r1_tale:=hT s_f8_r1 [4,5] [6] 7 [] [(6,(.op (.bin .gtr (.t 0) (.c (.s (.int .i64 20)))) [(.op (.lenS .s (.t 0)) [(.t 0)]),(.c (.s (.int .i64 20)))]))] [.tt 0,.sub 0 [0] [],.sub 0 [] []] (by kernel_rfl) (by kernel_rfl)
def s_f8_r2:List AOper:=[
 ⟨some 2,(.move (.c (.s (.bool true)))),none⟩]
def s_f8_r2_tale:=hT s_f8_r2 [0,6] [2] 3 [] [(2,(.c (.s (.bool true))))] [.cc (.s (.bool true))] (by kernel_rfl) (by kernel_rfl)
def s_f8_r3:List AOper:=[
 ⟨some 3,(.move (.c (.s (.int .i64 0)))),none⟩]
def s_f8_r3_tale:=hT s_f8_r3 [6] [3] 4 [] [(3,(.c (.s (.int .i64 0))))] [.cc (.s (.int .i64 0))] (by kernel_rfl) (by kernel_rfl)
def s_f8_r4:List AOper:=[
 ⟨some 7,(.move (.t 3)),none⟩,
 ⟨some 8,(.move (.t 0)),none⟩,
 ⟨some 9,(.lenS .s (.t 8)),none⟩,
 ⟨some 10,(.bin .lss (.t 7) (.t 9)),none⟩]
def s_f8_r4_tale:=hT s_f8_r4 [7,8,9] [10] 11 [] [(10,(.op (.bin .lss (.t 0) (.t 1)) [(.t 3),(.op (.lenS .s (.t 0)) [(.t 0)])]))] [.tt 3,.tt 0,.sub 0 [1] [],.sub 0 [] []] (by kernel_rfl) (by kernel_rfl)
def s_f8_r5:List AOper:=[
 ⟨some 13,(.move (.t 0)),none⟩,
 ⟨some 14,(.move (.t 3)),none⟩,
 ⟨some 15,(.indexAddr 1 (.t 13) (.t 14)),none⟩,
 ⟨some 16,(.load false 1 (.t 15)),none⟩,
 ⟨some 17,(.lenS .s (.t 16)),none⟩,
 ⟨some 18,(.bin .gtr (.t 17) (.c (.s (.int .i64 20)))),none⟩]
def s_f8_r5_tale:=hT s_f8_r5 [10,13,14,15,16,17] [18] 19 [] [(18,(.op (.bin .gtr (.t 0) (.c (.s (.int .i64 20)))) [(.op (.lenS .s (.t 0)) [(.op (.load false 1 (.t 0)) [(.op (.indexAddr 1 (.t 0) (.t 1)) [(.t 0),(.t 3)])])]),(.c (.s (.int .i64 20)))]))] [.tt 0,.tt 3,.sub 0 [0,0,0] [],.sub 0 [0,0] [],.sub 0 [0] [],.sub 0 [] []] (by kernel_rfl) (by kernel_rfl)
def s_f8_r6:List AOper:=[
 ⟨some 2,(.move (.c (.s (.bool true)))),none⟩]
def s_f8_r6_tale:=hT s_f8_r6 [0,3,18] [2] 3 [] [(2,(.c (.s (.bool true))))] [.cc (.s (.bool true))] (by kernel_rfl) (by kernel_rfl)
def s_f8_r7:List AOper:=[
 ⟨some 11,(.move (.t 3)),none⟩,
 ⟨some 12,(.bin .add (.t 11) (.c (.s (.int .i64 1)))),none⟩,
 ⟨some 3,(.move (.t 12)),none⟩]
def s_f8_r7_tale:=hT s_f8_r7 [11,12,18] [3] 13 [] [(3,(.op (.bin .add (.t 0) (.c (.s (.int .i64 1)))) [(.t 3),(.c (.s (.int .i64 1)))]))] [.tt 3,.sub 0 [] [],.sub 0 [] []] (by kernel_rfl) (by kernel_rfl)
def s_f8_l0_b:ACode:=
 (.seq (.seq (.regionE s_f8_r4 [7,8,9] [10])
 (.cond (.t 10)
 .skip
 (.exit 0)))
 (.seq (.block 1
 (.seq (.regionE s_f8_r5 [10,13,14,15,16,17] [18])
 (.cond (.t 18)
 (.seq (.regionE s_f8_r6 [0,3,18] [2])
 .ret)
 .skip)))
 (.regionE s_f8_r7 [11,12,18] [3])))
def s_f8_l0:ACode:=s_f8_l0_b
def s_f8_l0_ev:=hE s_f8_l0 s_f8_l0_b rfl
def s_f8_r8:List AOper:=[
 ⟨some 2,(.move (.c (.s (.bool false)))),none⟩]
def s_f8_r8_tale:=hT s_f8_r8 [0,3,10] [2] 3 [] [(2,(.c (.s (.bool false))))] [.cc (.s (.bool false))] (by kernel_rfl) (by kernel_rfl)
def s_f8:ACFun:={ ntmps:=19,results:=[(.tmp 2)],body:=
 (.seq (.regionE s_f8_r0 s_f8_r0_k [])
 (.seq (.seq (.regionE s_f8_r1 [4,5] [6])
 (.cond (.t 6)
 (.seq (.regionE s_f8_r2 [0,6] [2])
 .ret)
 .skip))
 (.seq (.seq (.regionE s_f8_r3 [6] [3])
 (.block 0
 (.loop [] s_f8_l0)))
 (.seq (.regionE s_f8_r8 [0,3,10] [2])
 .ret)))) }
abbrev k_f9:Nat:=9
def a_f7:=ai @s_f7_r0_tale (ai @s_f7_r0_kT (ai @s_f7_r0_kA0 (ai @s_f7_r0_kA1 (ai @s_f7_r1p0_tale (ai @s_f7_r1_x (ai @s_f7_r1t1_x (ai @s_f7_r2_x (ai @s_f7_r2t1_tale (ai @s_f7_r2t1_x (ai @s_f7_r3p0_tale (ai @s_f7_r3_x (ai @s_f7_r3t1_x (ai @s_f7_r3t2_tale (ai @s_f7_r3t2_x (ai @s_f7_r4_tale (ai @s_f7_r5_tale (ai @s_f7_r6_tale (ai @s_f7_r7_tale (ai @s_f7_r8p0_tale (ai @s_f7_r8_x (ai @s_f7_r8t1_x (ai @s_f7_r8t2_tale (ai @s_f7_r8t2_x (ai @s_f7_r9_tale (ai @s_f7_r10_tale (ai @s_f7_r11_tale (ai @s_f7_r12p0_tale (ai @s_f7_r12_x (ai @s_f7_r12t1_x (ai @s_f7_r12t2_tale (ai @s_f7_r12t2_x (ai @s_f7_r13p0_tale (ai @s_f7_r13_x (ai @s_f7_r13t1_x (ai @s_f7_r14p0_tale (ai @s_f7_r14_x (ai @s_f7_r14t1_x (ai @s_f7_r14t2_x (ai @s_f7_r14t3_x (ai @s_f7_r14t4_x (ai @s_f7_r14t5_x (ai @s_f7_r14t6_x (ai @s_f7_r14t7_x (ai @s_f7_r14t8_x (ai @s_f7_r14t9_x (ai @s_f7_r14t10_x (ai @s_f7_r14t11_x (ai @s_f7_r14t12_x (ai @s_f7_r14t13_x (ai @s_f7_r14t14_tale (ai @s_f7_r14t14_x (ai @s_f7_r15p0_tale (ai @s_f7_r15_x (ai @s_f7_r15t1_x (ai @s_f7_r15t2_tale (ai @s_f7_r15t2_x (ai @s_f7_r16_tale (ai @s_f7_r17p0_tale (ai @s_f7_r17_x (ai @s_f7_r17t1_x (ai @s_f7_r17t2_x (ai @s_f7_r17t3_x (ai @s_f7_r17t4_x (ai @s_f7_r17t5_x (ai @s_f7_r17t6_x (ai @s_f7_r17t7_x (ai @s_f7_r17t8_tale (ai @s_f7_r17t8_x (ai @s_f7_r18_tale (ai @s_f7_r19_tale (ai @s_f7_l0_ev (ai @s_f7_r20_tale (ai @s_f7_l1_ev (ai @s_f7_r21_x (ai @s_f7_r21t1_tale (@s_f7_r21t1_x))))))))))))))))))))))))))))))))))))))))))))))))))))))))))))))))))))))))))))
def a_f8:=ai @s_f8_r0_tale (ai @s_f8_r0_kT (ai @s_f8_r0_kA0 (ai @s_f8_r1_tale (ai @s_f8_r2_tale (ai @s_f8_r3_tale (ai @s_f8_r4_tale (ai @s_f8_r5_tale (ai @s_f8_r6_tale (ai @s_f8_r7_tale (ai @s_f8_l0_ev (@s_f8_r8_tale)))))))))))
theorem DA5_7:compK Try.prog PX0 7=some (false,s_f7.ntmps,s_f7.results,s_f7.body.bare):=by kernel_rfl
theorem DA5_8:compK Try.prog PX0 8=some (false,s_f8.ntmps,s_f8.results,s_f8.body.bare):=by kernel_rfl
end Go.Proofs.Ytdmnenlpdeolaaa
set_option maxRecDepth 100000
namespace Go.Proofs.Ytdmnenlpdeolaaa
open Go.AM
def great9 (G:List (List Int)):Bool:=decide (G.length > 20) || G.any fun r=>decide (r.length > 20)
theorem great9_small {G:List (List Int)} (h:great9 G=false):G.length≤20∧∀ r∈G,r.length≤20:=by
 unfold great9 at h
 rw [Bool.or_eq_false_iff] at h
 refine ⟨by have:=of_decide_eq_false h.1;omega,fun r hr=>?_⟩
 have:=h.2
 rw [List.any_eq_false] at this
 have:=this r hr
 simp at this
 exact this
section
variable {CT:Nat→Option CFun}
theorem great9_fun (hT:CT k_f8=some (.code s_f8)) (base:Nat) (H:Heap) (v:V) (G:List (List Int)) (hv:RdRows H v (rowsV G)):
 callW CT (.fn k_f8 [] []) [v] base H=some (.s (.bool (great9 G)),H):=by
 have hvl:=rows_lenV hv
 refine callW_fn (c:=s_f8) hT (by simp [s_f8]) ?_
 by_cases hn:G.length > 20
 ·have h0:decide ((G.length:Int) > 20)=true:=by rw [decide_eq_true_iff];omega
  have h1:great9 G=true:=by unfold great9;rw [decide_eq_true hn,Bool.true_or]
  simp only [s_f8,a_f8,s_f8_l0_b,aa,bl,i64,reduceIte,reduceCtorEq,Nat.reduceEqDiff,Nat.reduceLT,Nat.reduceLeDiff,Nat.reduceBEq,Nat.reduceAdd,fillA,splice,Nat.reduceMul,amY,op_eqP,hvl,h0,h1]
 ·have h0:decide ((G.length:Int) > 20)=false:=by rw [decide_eq_false_iff_not];omega
  have step:∀ i,i < G.length→decide ((G.getD i []).length > 20)=false→itW (evC (callW CT) itW base s_f8_l0) [] H.length (frOf 19 [(0,v),(3,.s (.int .i64 i))]) H=itW (evC (callW CT) itW base s_f8_l0) [] H.length (frOf 19 [(0,v),(3,.s (.int .i64 (i+1:Nat)))]) H:=by
   intro i hi hs
   have hlt':((i:Int) < (G.length:Int)):=by omega
   have hwk:=w64 (n:=i) (by omega)
   obtain ⟨ra,rx,r1,r2,r3,r4⟩:=rows_at hv (some_getD hi [])
   have hl:=iV_len r3
   have hs':decide (((G.getD i []).length:Int) > 20)=false:=by have:=of_decide_eq_false hs;rw [decide_eq_false_iff_not];omega
   rw [itW_step]
   simp only [a_f8,s_f8_l0_b,aa,bl,i64,reduceIte,reduceCtorEq,Nat.reduceEqDiff,Nat.reduceLT,Nat.reduceLeDiff,Nat.reduceBEq,Nat.reduceAdd,fillA,splice,Nat.reduceMul,amY,op_eqP,hvl,hlt',r1,r2,hl,hs',hwk,trim_same rfl]
  rcases it_find G.length (fun i=>decide ((G.getD i []).length > 20)) (fun i=>itW (evC (callW CT) itW base s_f8_l0) [] H.length (frOf 19 [(0,v),(3,.s (.int .i64 i))]) H) step with ⟨h1,h2⟩ | ⟨i,hi,h1,_,h3⟩
  ·have hg:great9 G=false:=by
    unfold great9
    rw [decide_eq_false hn,Bool.false_or,List.any_eq_false]
    intro r hr
    obtain ⟨i,hi⟩:=List.mem_iff_getElem?.1 hr
    have:=h1 i (List.getElem?_eq_some_iff.1 hi).1
    rw [getD_some hi []] at this
    rw [this];simp
   have hend:itW (evC (callW CT) itW base s_f8_l0) [] H.length (frOf 19 [(0,v),(3,.s (.int .i64 G.length))]) H=some (.ext 0,frOf 19 [(0,v),(3,.s (.int .i64 G.length)),(10,bl false)],H):=by
    rw [itW_step]
    simp only [bl,a_f8,s_f8_l0_b,aa,bl,i64,reduceIte,reduceCtorEq,Nat.reduceEqDiff,Nat.reduceLT,Nat.reduceLeDiff,Nat.reduceBEq,Nat.reduceAdd,fillA,splice,Nat.reduceMul,amY,op_eqP,hvl,Int.lt_irrefl,trim_same rfl]
   have h4:=h2.trans hend
   simp only [bl,cast0] at h4
   simp only [s_f8,a_f8,s_f8_l0_b,aa,bl,i64,reduceIte,reduceCtorEq,Nat.reduceEqDiff,Nat.reduceLT,Nat.reduceLeDiff,Nat.reduceBEq,Nat.reduceAdd,fillA,splice,Nat.reduceMul,amY,op_eqP,hvl,h0,h4,hg]
  ·have hg:great9 G=true:=by
    unfold great9
    rw [Bool.or_eq_true,List.any_eq_true]
    exact .inr ⟨_,List.mem_of_getElem? (some_getD hi []),h1⟩
   have hlt':((i:Int) < (G.length:Int)):=by omega
   obtain ⟨ra,rx,r1,r2,r3,r4⟩:=rows_at hv (some_getD hi [])
   have hl:=iV_len r3
   have hs':decide (((G.getD i []).length:Int) > 20)=true:=by have:=of_decide_eq_true h1;rw [decide_eq_true_iff];omega
   have hend:itW (evC (callW CT) itW base s_f8_l0) [] H.length (frOf 19 [(0,v),(3,.s (.int .i64 i))]) H=some (.ret,frOf 19 [(2,bl true)],H):=by
    rw [itW_step]
    simp only [bl,a_f8,s_f8_l0_b,aa,bl,i64,reduceIte,reduceCtorEq,Nat.reduceEqDiff,Nat.reduceLT,Nat.reduceLeDiff,Nat.reduceBEq,Nat.reduceAdd,fillA,splice,Nat.reduceMul,amY,op_eqP,hvl,hlt',r1,r2,hl,hs']
   have h4:=h3.trans hend
   simp only [bl,cast0] at h4
   simp only [s_f8,a_f8,s_f8_l0_b,aa,bl,i64,reduceIte,reduceCtorEq,Nat.reduceEqDiff,Nat.reduceLT,Nat.reduceLeDiff,Nat.reduceBEq,Nat.reduceAdd,fillA,splice,Nat.reduceMul,amY,op_eqP,hvl,h0,h4,hg]
def domR (T:List Int) (a:Int):Nat→Nat→Bool
 | 0,_=>false
 | m+1,b=>if a=(b:Int) then true else if T.getD b 0 < 0∨(T.length:Int)≤T.getD b 0 then false else domR T a m (T.getD b 0).toNat
def domB (T:List Int) (a b:Int):Bool:=if a < 0∨b < 0∨(T.length:Int)≤a∨(T.length:Int)≤b then false else if T.getD b.toNat 0=-2 then false else domR T a (T.length+1) b.toNat
theorem dom_loop (base:Nat) (H:Heap) (v:V) (T:List Int) (a:Int) (hv:Rd H v (T.map iV)) (hw:Wide1 v) (hn:T.length < 2 ^ 40):∀ (m b j:Nat),j+m=T.length+1→b < T.length→
 (domR T a m b=true∧itW (evC (callW CT) itW base s_f13_l0) [] H.length (frOf 53 [(0,v),(1,.s (.int .i64 a)),(2,.s (.int .i64 b)),(34,.s (.int .i64 (T.length+1:Nat))),(35,.s (.int .i64 j))]) H=some (.ret,frOf 53 [(6,bl true)],H))∨
 (domR T a m b=false∧(itW (evC (callW CT) itW base s_f13_l0) [] H.length (frOf 53 [(0,v),(1,.s (.int .i64 a)),(2,.s (.int .i64 b)),(34,.s (.int .i64 (T.length+1:Nat))),(35,.s (.int .i64 j))]) H=some (.ret,frOf 53 [(6,bl false)],H)∨∃ c:Nat,itW (evC (callW CT) itW base s_f13_l0) [] H.length (frOf 53 [(0,v),(1,.s (.int .i64 a)),(2,.s (.int .i64 b)),(34,.s (.int .i64 (T.length+1:Nat))),(35,.s (.int .i64 j))]) H=some (.ext 0,frOf 53 [(0,v),(1,.s (.int .i64 a)),(2,.s (.int .i64 c)),(34,.s (.int .i64 (T.length+1:Nat))),(35,.s (.int .i64 (T.length+1:Nat))),(36,bl false)],H))):=by
 intro m
 induction m with
 | zero=>
   intro b j hj hb
   obtain rfl:j=T.length+1:=by omega
   refine .inr ⟨rfl,.inr ⟨b,?_⟩⟩
   rw [itW_step]
   simp only [a_f13,s_f13_l0_b,aa,bl,i64,reduceIte,reduceCtorEq,Nat.reduceEqDiff,Nat.reduceLT,Nat.reduceLeDiff,Nat.reduceBEq,Nat.reduceAdd,fillA,splice,Nat.reduceMul,amY,op_eqP,Int.lt_irrefl,trim_same rfl,bl]
 | succ m ih=>
   intro b j hj hb
   have hlt':(j:Int) < ((T.length+1:Nat):Int):=by omega
   have hwk:=w64 (n:=j) (by omega)
   have hvl:=iV_len hv
   obtain ⟨ad,x1,x2⟩:=iV_at hv hw (some_getD hb (0:Int))
   by_cases hab:a=(b:Int)
   ·have e:(a == (b:Int))=true:=by rw [hab];simp
    refine .inl ⟨by rw [domR,if_pos hab],?_⟩
    rw [itW_step]
    simp only [a_f13,s_f13_l0_b,aa,bl,i64,reduceIte,reduceCtorEq,Nat.reduceEqDiff,Nat.reduceLT,Nat.reduceLeDiff,Nat.reduceBEq,Nat.reduceAdd,fillA,splice,Nat.reduceMul,amY,op_eqP,hlt',e,bl]
   ·have e:(a == (b:Int))=false:=by rw [beq_eq_false_iff_ne];exact hab
    by_cases h1:T.getD b 0 < 0
    ·refine .inr ⟨by rw [domR,if_neg hab,if_pos (.inl h1)],.inl ?_⟩
     rw [itW_step]
     simp only [a_f13,s_f13_l0_b,aa,bl,i64,reduceIte,reduceCtorEq,Nat.reduceEqDiff,Nat.reduceLT,Nat.reduceLeDiff,Nat.reduceBEq,Nat.reduceAdd,fillA,splice,Nat.reduceMul,amY,op_eqP,hlt',e,bl,x1,x2,h1]
    ·by_cases h2:(T.length:Int)≤T.getD b 0
     ·refine .inr ⟨by rw [domR,if_neg hab,if_pos (.inr h2)],.inl ?_⟩
      rw [itW_step]
      simp only [a_f13,s_f13_l0_b,aa,bl,i64,reduceIte,reduceCtorEq,Nat.reduceEqDiff,Nat.reduceLT,Nat.reduceLeDiff,Nat.reduceBEq,Nat.reduceAdd,fillA,splice,Nat.reduceMul,amY,op_eqP,hlt',e,bl,x1,x2,h1,hvl,ge_iff_le,h2]
     ·obtain ⟨d,hd⟩:=Int.eq_ofNat_of_zero_le (show 0≤T.getD b 0 by omega)
      have hst:itW (evC (callW CT) itW base s_f13_l0) [] H.length (frOf 53 [(0,v),(1,.s (.int .i64 a)),(2,.s (.int .i64 b)),(34,.s (.int .i64 (T.length+1:Nat))),(35,.s (.int .i64 j))]) H=itW (evC (callW CT) itW base s_f13_l0) [] H.length (frOf 53 [(0,v),(1,.s (.int .i64 a)),(2,.s (.int .i64 d)),(34,.s (.int .i64 (T.length+1:Nat))),(35,.s (.int .i64 (j+1:Nat)))]) H:=by
       conv=>lhs;rw [itW_step]
       simp only [hd] at x2 h1 h2
       simp only [a_f13,s_f13_l0_b,aa,bl,i64,reduceIte,reduceCtorEq,Nat.reduceEqDiff,Nat.reduceLT,Nat.reduceLeDiff,Nat.reduceBEq,Nat.reduceAdd,fillA,splice,Nat.reduceMul,amY,op_eqP,hlt',e,x1,x2,h1,hvl,ge_iff_le,h2,hwk,trim_same rfl]
      have hr:domR T a (m+1) b=domR T a m d:=by rw [domR,if_neg hab,if_neg (by omega),hd];rfl
      rw [hst,hr]
      exact ih d (j+1) (by omega) (by omega)
theorem dom_fun (hT:CT k_f13=some (.code s_f13)) (base:Nat) (H:Heap) (v:V) (T:List Int) (a b:Int) (hv:Rd H v (T.map iV)) (hw:Wide1 v) (hn:T.length < 2 ^ 40):
 callW CT (.fn k_f13 [] []) [v,.s (.int .i64 a),.s (.int .i64 b)] base H=some (.s (.bool (domB T a b)),H):=by
 have hvl:=iV_len hv
 refine callW_fn (c:=s_f13) hT (by simp [s_f13]) ?_
 by_cases h1:a < 0
 ·have hf:domB T a b=false:=by rw [domB,if_pos (.inl h1)]
  simp only [s_f13,a_f13,s_f13_l0_b,aa,bl,i64,reduceIte,reduceCtorEq,Nat.reduceEqDiff,Nat.reduceLT,Nat.reduceLeDiff,Nat.reduceBEq,Nat.reduceAdd,fillA,splice,Nat.reduceMul,amY,op_eqP,h1,hf]
 by_cases h2:b < 0
 ·have hf:domB T a b=false:=by rw [domB,if_pos (.inr (.inl h2))]
  simp only [s_f13,a_f13,s_f13_l0_b,aa,bl,i64,reduceIte,reduceCtorEq,Nat.reduceEqDiff,Nat.reduceLT,Nat.reduceLeDiff,Nat.reduceBEq,Nat.reduceAdd,fillA,splice,Nat.reduceMul,amY,op_eqP,h1,h2,hf]
 by_cases h3:(T.length:Int)≤a
 ·have hf:domB T a b=false:=by rw [domB,if_pos (.inr (.inr (.inl h3)))]
  simp only [s_f13,a_f13,s_f13_l0_b,aa,bl,i64,reduceIte,reduceCtorEq,Nat.reduceEqDiff,Nat.reduceLT,Nat.reduceLeDiff,Nat.reduceBEq,Nat.reduceAdd,fillA,splice,Nat.reduceMul,amY,op_eqP,h1,h2,hvl,ge_iff_le,h3,hf]
 by_cases h4:(T.length:Int)≤b
 ·have hf:domB T a b=false:=by rw [domB,if_pos (.inr (.inr (.inr h4)))]
  simp only [s_f13,a_f13,s_f13_l0_b,aa,bl,i64,reduceIte,reduceCtorEq,Nat.reduceEqDiff,Nat.reduceLT,Nat.reduceLeDiff,Nat.reduceBEq,Nat.reduceAdd,fillA,splice,Nat.reduceMul,amY,op_eqP,h1,h2,hvl,ge_iff_le,h3,h4,hf]
 obtain ⟨k,rfl⟩:=Int.eq_ofNat_of_zero_le (show 0≤b by omega)
 have hk:k < T.length:=by omega
 obtain ⟨ad,x1,x2⟩:=iV_at hv hw (some_getD hk (0:Int))
 have hb0:domB T a k=if T.getD k 0=-2 then false else domR T a (T.length+1) k:=by
  rw [domB,if_neg (by omega),Int.toNat_natCast]
 by_cases h5:T.getD k 0=-2
 ·have e:(T.getD k 0 == -2)=true:=by rw [h5];rfl
  rw [hb0,if_pos h5]
  simp only [s_f13,a_f13,s_f13_l0_b,aa,bl,i64,reduceIte,reduceCtorEq,Nat.reduceEqDiff,Nat.reduceLT,Nat.reduceLeDiff,Nat.reduceBEq,Nat.reduceAdd,fillA,splice,Nat.reduceMul,amY,op_eqP,h1,h2,hvl,ge_iff_le,h3,h4,x1,x2,e]
 ·have e:(T.getD k 0 == -2)=false:=by rw [beq_eq_false_iff_ne];exact h5
  have hwk:=w64 (n:=T.length) (by omega)
  rw [hb0,if_neg h5]
  rcases dom_loop (CT:=CT) base H v T a hv hw hn (T.length+1) k 0 (by omega) hk with ⟨d1,d2⟩ | ⟨d1,d2 | ⟨c,d2⟩⟩
  all_goals
   rw [d1]
   simp only [bl,cast0] at d2
   simp only [s_f13,a_f13,s_f13_l0_b,aa,bl,i64,reduceIte,reduceCtorEq,Nat.reduceEqDiff,Nat.reduceLT,Nat.reduceLeDiff,Nat.reduceBEq,Nat.reduceAdd,fillA,splice,Nat.reduceMul,amY,op_eqP,h1,h2,hvl,ge_iff_le,h3,h4,x1,x2,e,hwk,d2]
theorem domR_anc {T:List Int} {lvl:Nat→Nat} (hlv:∀ b d:Nat,T[b]?=some (d:Int)→lvl d < lvl b) (hlt:∀ b d:Nat,T[b]?=some (d:Int)→d < T.length) {a:Nat}:∀ (m b:Nat),b < T.length→lvl b < m→(domR T a m b=true↔AncT T b a):=by
 intro m
 induction m with
 | zero=>intro b _ h;omega
 | succ m ih=>
   intro b hb hm
   rw [domR]
   by_cases hab:(a:Int)=(b:Int)
   ·have:a=b:=by omega
    rw [if_pos hab,this]
    exact ⟨fun _=>.refl _,fun _=>rfl⟩
   ·rw [if_neg hab]
    have hT:=some_getD hb (0:Int)
    by_cases h1:T.getD b 0 < 0∨(T.length:Int)≤T.getD b 0
    ·rw [if_pos h1]
     refine ⟨fun h=>absurd h (by simp),fun h=>?_⟩
     cases h with
     | refl=>exact absurd rfl hab
     | up h2 h3=>
       rename_i d
       rw [hT] at h2
       have:=hlt b d (hT.trans h2)
       have:=Option.some.inj h2
       omega
    ·rw [if_neg h1]
     obtain ⟨d,hd⟩:=Int.eq_ofNat_of_zero_le (show 0≤T.getD b 0 by omega)
     rw [hd] at hT ⊢
     have:=hlv b d hT
     rw [Int.toNat_natCast,ih d (hlt b d hT) (by omega)]
     refine ⟨fun h=>.up hT h,fun h=>?_⟩
     cases h with
     | refl=>exact absurd rfl hab
     | up h2 h3=>
       rw [hT] at h2
       have:=Option.some.inj h2
       rename_i e
       have:d=e:=by omega
       rwa [this]
theorem TreeOk.nat {G:List (List Int)} {q:Int} {T:List Int} {lvl:Nat→Nat} (h:TreeOk G q T lvl) {b d:Nat} (hb:T[b]?=some (d:Int)):Rch G [q] b∧(b:Int)≠q∧Rch G [q] d∧lvl d < lvl b:=by
 have hbn:=(List.getElem?_eq_some_iff.1 hb).1
 have hT:=getD_some hb 0
 rw [h.len] at hbn
 have hR:Rch G [q] b:=Classical.byContradiction fun hc=>by
  have:=h.un b hbn hc
  omega
 have hq:(b:Int)≠q:=fun e=>by have:=h.rt b e.symm hbn;omega
 obtain ⟨d',e,h1,h2⟩:=h.id b hR hq
 have:d'=d:=by omega
 subst this
 exact ⟨hR,hq,h1,h2⟩
theorem TreeOk.dom {G:List (List Int)} {q:Int} {T:List Int} {lvl:Nat→Nat} (h:TreeOk G q T lvl) (a b:Int):domB T a b=true↔∃ x y:Nat,a=x∧b=y∧x < G.length∧Rch G [q] y∧AncT T y x:=by
 have hlen:=h.len
 unfold domB
 by_cases h1:a < 0∨b < 0∨(T.length:Int)≤a∨(T.length:Int)≤b
 ·rw [if_pos h1]
  refine ⟨fun k=>absurd k (by simp),fun ⟨x,y,e1,e2,h2,h3,_⟩=>?_⟩
  have:=rch_lt h3
  omega
 ·rw [if_neg h1]
  obtain ⟨x,rfl⟩:=Int.eq_ofNat_of_zero_le (show 0≤a by omega)
  obtain ⟨y,rfl⟩:=Int.eq_ofNat_of_zero_le (show 0≤b by omega)
  rw [Int.toNat_natCast]
  by_cases hR:Rch G [q] y
  ·have hT:¬ T.getD y 0=-2:=by
    by_cases e:(y:Int)=q
    ·rw [h.rt y e.symm (by omega)];omega
    ·obtain ⟨d,e,_⟩:=h.id y hR e
     omega
   have:=h.lv y hR
   rw [if_neg hT,domR_anc (lvl:=lvl) (fun b d hb=>(h.nat hb).2.2.2) (fun b d hb=>by rw [hlen];exact rch_lt (h.nat hb).2.2.1) _ y (by omega) (by omega)]
   exact ⟨fun k=>⟨x,y,rfl,rfl,by omega,hR,k⟩,fun ⟨x',y',e1,e2,_,_,k⟩=>by
    have e1:x=x':=by omega
    have e2:y=y':=by omega
    subst e1;subst e2;exact k⟩
  ·rw [if_pos (h.un y (by omega) hR)]
   refine ⟨fun k=>absurd k (by simp),fun ⟨x',y',e1,e2,h2,h3,_⟩=>?_⟩
   have e2:y=y':=by omega
   subst e2
   exact absurd h3 hR
end
end Go.Proofs.Ytdmnenlpdeolaaa
