import Derived.Test.YtmnlagcmpgilaaaGraphF5
import Derived.Test.YtmnlagcmpgilaaaAmN
set_option linter.all false
set_option maxRecDepth 100000
namespace Go.Proofs.Ytmnlagcmpgilaaa
open Go.AM
def bump (i : Int) (R : List (List Int)) (k : Int) : List (List Int) := R.set k.toNat (R.getD k.toNat [] ++ [i])
theorem bump_len (i : Int) (R : List (List Int)) (k : Int) : (bump i R k).length = R.length := by simp [bump]
theorem bumps_len (i : Int) (r : List Int) : ∀ R : List (List Int), (r.foldl (bump i) R).length = R.length := by
  induction r with
  | nil => intro R; rfl
  | cons x r ih => intro R; rw [List.foldl_cons, ih, bump_len]
theorem bump_le {i : Int} {R : List (List Int)} {k : Int} {B : Nat} (h : ∀ q ∈ R, q.length + 1 ≤ B) (hk : k.toNat < R.length) : ∀ q ∈ bump i R k, q.length ≤ B := by
  intro q hq
  rcases List.mem_or_eq_of_mem_set hq with h1 | rfl
  · have := h q h1; omega
  · have : R.getD k.toNat [] ∈ R := by rw [List.getD, List.getElem?_eq_getElem hk]; exact List.getElem_mem hk
    have := h _ this
    simp only [List.length_append, List.length_singleton]; omega
theorem rowsV_set (R : List (List Int)) (k : Nat) (r : List Int) (i : Int) : rowsV (R.set k (r ++ [i])) = (rowsV R).set k (r.map iV ++ [iV i]) := by
  simp [rowsV, List.map_set]
theorem back_inner (call : CallF) (base i n o m L : Nat) (nv row : V) (r : List Int) (A : Heap) (hA : A.length = m) (ho : o < m) (hb : base ≤ o) (hL : m ≤ L) (hrow : ∀ ob, Rd (A.set o ob) row (r.map iV)) (hw : Wide1 row) (hin : ∀ x ∈ r, 0 ≤ x ∧ x < n) (hr : r.length < 2 ^ 40) (hn : n < 2 ^ 40) :
    ∀ (rest : List Int) (k : Nat) (H : Heap) (vs : List V) (R : List (List Int)), r.drop k = rest → k ≤ r.length → L ≤ H.length → Ext (A.set o (.cells 0 vs)) H → getC H o 0 = some vs → Bag m H vs (rowsV R) → R.length = n → (∀ q ∈ R, q.length + rest.length ≤ 2 ^ 43) →
    ∃ H' vs', itW (evC call itW base s_graph_Back_l0) [] L (frOf 38 [(3, .sl o 0 0 n 1), (4, .s (.int .i64 i)), (12, nv), (13, .s (.int .i64 n)), (14, .s (.int .i64 i)), (19, row), (20, .s (.int .i64 r.length)), (21, .s (.int .i64 k))]) H =
      some (.ext 2, frOf 38 [(3, .sl o 0 0 n 1), (4, .s (.int .i64 i)), (12, nv), (13, .s (.int .i64 n)), (14, .s (.int .i64 i)), (19, row), (20, .s (.int .i64 r.length)), (21, .s (.int .i64 r.length)), (22, .s (.bool false))], H') ∧
      L ≤ H'.length ∧ Ext (A.set o (.cells 0 vs')) H' ∧ getC H' o 0 = some vs' ∧ Bag m H' vs' (rowsV (rest.foldl (bump i) R)) := by
  intro rest
  induction rest with
  | nil =>
    intro k H vs R hd hk hLH he hc hB hR hq
    have hkr : k = r.length := by
      have := congrArg List.length hd
      simp at this
      omega
    subst hkr
    refine ⟨trim L (frOf 38 [(3, .sl o 0 0 n 1), (4, .s (.int .i64 i)), (12, nv), (13, .s (.int .i64 n)), (14, .s (.int .i64 i)), (19, row), (20, .s (.int .i64 r.length)), (21, .s (.int .i64 r.length)), (22, .s (.bool false))]) H, vs, ?_, trim_le hLH, he.trim (by rw [List.length_set]; omega) _, trim_get hc (by omega), hB.trim hc (by omega) _⟩
    rw [itW_step]
    simp only [s_graph_Back_r0_tale,s_graph_Back_r0_kT,s_graph_Back_r0_kA0,s_graph_Back_r1p0_tale,s_graph_Back_r1_x,s_graph_Back_r1t1_x,s_graph_Back_r1t2_tale,s_graph_Back_r1t2_x,s_graph_Back_r2p0_tale,s_graph_Back_r2_x,s_graph_Back_r2t1_x,s_graph_Back_r2t2_tale,s_graph_Back_r2t2_x,s_graph_Back_r3_tale,s_graph_Back_r4_tale,s_graph_Back_r5_tale,s_graph_Back_r6_tale,s_graph_Back_r7_tale,s_graph_Back_r8p0_tale,s_graph_Back_r8_x,s_graph_Back_r8t1_x,s_graph_Back_r8t2_x,s_graph_Back_r8p3_tale,s_graph_Back_r8t3_x,s_graph_Back_r8t4_x,s_graph_Back_r9_tale,s_graph_Back_l0_b,s_graph_Back_l0_ev,s_graph_Back_r10_tale,s_graph_Back_l1_b,s_graph_Back_l1_ev,s_graph_Back_r11_tale, evC_skip,evC_exit,evC_ret,evC_seq,evC_block,evC_cond,evC_loop,evC_row,thenC_nrm,thenC_ext,thenC_ret,thenC_none,thenC_cond,outC_nrm,outC_ret,outC_ext,outC_none,outC_cond,condC_bool,rowC_some,opsC_some,Bool.not_true,Bool.not_false,Bool.and_false,Bool.false_and,Bool.cond_self,taleR_true,setOuts_nil,setOuts_cons,outE_some,reqE_nil,reqE_cons,reqB_bool,List.all_cons,List.all_nil,Option.isSome_some,Bool.and_true,Bool.true_and,V1_some,V2_some,evE_t,evE_c,evE_pick,pickO_bool,pickO_true,pickO_false,evE_bin,evE_binL,evE_binR,evE_eqB,evE_eqBL,evE_eqBR,evE_eqAgg,evE_eqAggL,evE_eqAggR,evE_indexAddr,evE_indexAddrL,evE_indexAddrR,evE_indexStr,evE_indexStrL,evE_indexStrR,evE_minmax,evE_minmaxL,evE_minmaxR,evE_mapGet,evE_mapGetL,evE_mapGetR,evE_nilCheck,evE_eqNil,evE_un,evE_conv,evE_convId,evE_fieldAddr,evE_field,evE_extract,evE_lenS,evE_load,evE_build,evE_mkFn,evE_subStr,evE_subSl,evEs_nil,evEs_cons,L1_some,frOf_get,frOf_set,frOf_kill,getV_cons,getV_nil,putV_cons,putV_nil,killV_cons,killV_nil,startV_cons,bl,i64,Option.map_some,ne_eq,not_true_eq_false,not_false_eq_true,if_false,if_true,reduceIte,reduceCtorEq,Nat.reduceEqDiff,Nat.reduceLT,Nat.reduceLeDiff,Nat.reduceBEq,List.contains_cons,List.contains_nil,Bool.or_false,Bool.false_or,Bool.or_true,Bool.true_or,Bool.false_eq_true,decide_true,decide_false,Int.toNat_natCast,Int.natCast_nonneg,Bool.cond_true_left,Bool.cond_false_right,Bool.cond_false_left,Bool.cond_true_right,cond_true,cond_false,free_row,kept_row,stepW_nrm,stepW_ext,stepW_ret,stepW_cond,trim_self,retC_nrm,retC_ret,retC_cond,resultV1,resultV2,resV_tmp,resV_cell,Nat.reduceAdd,List.nil_append,List.append_nil,List.cons_append,evOps_nil,evOps_cons,evOps_guard,opK_bool,wantV_bool,wantV_und,resK_some,put_some,put_none,resK_cond,opsC_cond,ev_t,ev_c,List.map_cons,List.map_nil,beq_self_eq_true,beq_true,beq_false,op_bin,op_eqB,op_eqAgg,op_indexAddr,op_indexStr,op_minmax,op_nilCheck,op_eqNil,op_un,op_conv,op_convId,op_fieldAddr,op_field,op_extract,op_lenS,op_load,op_mapGet,op_move,op_alloc,op_box,op_mapNew,op_store,op_mkFn,op_append,op_call,op_callR,op_build,op_buildSl,mkSlV_some,RH_some,RS_some,evOp_pick,pickR_bool,pickR_same,bne_self_eq_false,Bool.bne_false,Bool.bne_true,xb_add,xb_sub,xb_mul,xb_eql,xb_neq,xb_lss,xb_leq,xb_gtr,xb_geq,xb_and,xb_or,xb_xor,xb_andNot,xb_quo,xb_rem,xb_shl,xb_shr,xs_eql,xs_neq,xs_lss,xs_add,xq_b,xn_pn,xn_pr,xn_pp,xn_sn,xn_ss,xn_sp,xn_se,xn_mn,xn_mm,xn_fn,xn_ff,xn_fy,xg,xu_not,xu_neg,xc_int,xc_id,xk_ref,xk_pref,xk_fn,xk_yld,xa_ref,xa_pref,xf_agg,xi_sl,xi_psl,xj_str,xe_tup,xl_str,xl_nil,xl_esl,xl_psl,xl_sl,xl_mnil,xo_ref,xo_pref,xm,shut_agg,shut_one,List.getElem?_cons_zero,List.getElem?_cons_succ,List.drop_zero,List.drop_succ_cons,List.take_succ_cons,List.take_zero,List.take_nil,List.drop_nil,List.length_cons,List.length_nil,Nat.le_refl,and_self,and_true,true_and,Nat.zero_add,Nat.mul_one,Nat.add_zero,set_set',bndV_none,bndV_int,xslice_nil,xslice_esl,xslice_psl,xslice_sl,cutSl_some,cutPsl_some,cutNil_some,op_subSl,xsub_sl,op_clear,Option.map_none,Int.sub_zero,Int.le_refl,List.getD_cons_zero,List.getD_cons_succ,cast0,toNat0,getC_snoc,obC_same,len_snoc,ne_add,add_ne,one_int,one_str,one_bool,one_nilS,one_ref,one_sl,one_psl,one_esl,one_mp,one_fn,cells_agg,cells_s,cells_sl,cells_psl,cells_ref,cells_esl,cells_mp,fillA_nil,fillA,List.length_set,List.set_cons_zero,List.set_cons_succ,splice,Nat.reduceMul,startA_nil,startA_cons,segC_some,segL_some,set_snoc',storeV_ref,Nat.add_assoc, Int.lt_irrefl]
  | cons x rest ih =>
    intro k H vs R hd hk hLH he hc hB hR hq
    have hx : r[k]? = some x := by have := congrArg (·[0]?) hd; simp only [List.getElem?_drop] at this; exact this
    have hlt : k < r.length := (List.getElem?_eq_some_iff.1 hx).1
    have hd' : r.drop (k + 1) = rest := by rw [← List.drop_drop, hd]; rfl
    obtain ⟨hx0, hxn⟩ := hin x (List.mem_of_getElem? hx)
    obtain ⟨j, rfl⟩ := Int.eq_ofNat_of_zero_le hx0
    have hjn : j < n := by omega
    have hRj : R[j]? = some (R.getD j []) := by rw [List.getD, List.getElem?_eq_getElem (by omega)]; rfl
    obtain ⟨a, ha1, ha2⟩ := ((hrow _).ext he).at' hw (i := k) (x := iV j) (by rw [List.getElem?_map, hx]; rfl)
    have hmem : R.getD j [] ∈ R := List.mem_of_getElem? hRj
    have hqj := hq _ hmem
    rw [List.length_cons] at hqj
    have hAH := he.le
    rw [List.length_set] at hAH
    obtain ⟨w, v', H1, hw1, happ, hv1, hc1, hm1, hB1, hE1⟩ := hB.append (base := base) (bytes := 8) (x := iV i) hc ho (by omega) (by omega) (rowsV_get hRj) rfl (by rw [List.length_map]; omega)
    obtain ⟨hb1, hb2⟩ := at_sl hc hjn hw1
    have hst := storeV_at (v := v') (base := base) hc1 hb hv1 (off := j) (by rw [hB.1, rowsV_len]; omega)
    have hwk := wrap_pos (n := k) (by omega)
    have hlt' : (k : Int) < (r.length : Int) := by omega
    have hjn' : (j : Int) < (n : Int) := by omega
    have he1 := hE1 _ (by rw [List.length_set]; omega) he
    have he2 := he1.set_both (o := o) (by rw [List.length_set]; omega) (.cells 0 (vs.set j v'))
    rw [List.set_set] at he2
    have hc2 := getC_put (c' := vs.set j v') hc1
    rw [← rowsV_set] at hB1
    obtain ⟨H', vs', p1, p2, p3, p4, p5⟩ := ih (k + 1) (trim L (frOf 38 [(3, .sl o 0 0 n 1), (4, .s (.int .i64 i)), (12, nv), (13, .s (.int .i64 n)), (14, .s (.int .i64 i)), (19, row), (20, .s (.int .i64 r.length)), (21, .s (.int .i64 ((k + 1 : Nat) : Int)))]) (H1.set o (.cells 0 (vs.set j v')))) (vs.set j v') (bump i R j) hd' (by omega) (trim_le (by rw [List.length_set]; omega)) (he2.trim (by rw [List.length_set]; omega) _) (trim_get hc2 (by omega)) (hB1.trim hc2 (by omega) _) (by rw [bump_len]; exact hR) (by
      intro q hqm
      have := bump_le (i := i) (R := R) (k := j) (B := 2 ^ 43 - rest.length) (fun q hq1 => by have := hq q hq1; rw [List.length_cons] at this; omega) (by rw [Int.toNat_natCast]; omega) q hqm
      omega)
    refine ⟨H', vs', ?_, p2, p3, p4, p5⟩
    unfold iV at ha2 happ
    rw [itW_step]
    simp only [s_graph_Back_r0_tale,s_graph_Back_r0_kT,s_graph_Back_r0_kA0,s_graph_Back_r1p0_tale,s_graph_Back_r1_x,s_graph_Back_r1t1_x,s_graph_Back_r1t2_tale,s_graph_Back_r1t2_x,s_graph_Back_r2p0_tale,s_graph_Back_r2_x,s_graph_Back_r2t1_x,s_graph_Back_r2t2_tale,s_graph_Back_r2t2_x,s_graph_Back_r3_tale,s_graph_Back_r4_tale,s_graph_Back_r5_tale,s_graph_Back_r6_tale,s_graph_Back_r7_tale,s_graph_Back_r8p0_tale,s_graph_Back_r8_x,s_graph_Back_r8t1_x,s_graph_Back_r8t2_x,s_graph_Back_r8p3_tale,s_graph_Back_r8t3_x,s_graph_Back_r8t4_x,s_graph_Back_r9_tale,s_graph_Back_l0_b,s_graph_Back_l0_ev,s_graph_Back_r10_tale,s_graph_Back_l1_b,s_graph_Back_l1_ev,s_graph_Back_r11_tale, evC_skip,evC_exit,evC_ret,evC_seq,evC_block,evC_cond,evC_loop,evC_row,thenC_nrm,thenC_ext,thenC_ret,thenC_none,thenC_cond,outC_nrm,outC_ret,outC_ext,outC_none,outC_cond,condC_bool,rowC_some,opsC_some,Bool.not_true,Bool.not_false,Bool.and_false,Bool.false_and,Bool.cond_self,taleR_true,setOuts_nil,setOuts_cons,outE_some,reqE_nil,reqE_cons,reqB_bool,List.all_cons,List.all_nil,Option.isSome_some,Bool.and_true,Bool.true_and,V1_some,V2_some,evE_t,evE_c,evE_pick,pickO_bool,pickO_true,pickO_false,evE_bin,evE_binL,evE_binR,evE_eqB,evE_eqBL,evE_eqBR,evE_eqAgg,evE_eqAggL,evE_eqAggR,evE_indexAddr,evE_indexAddrL,evE_indexAddrR,evE_indexStr,evE_indexStrL,evE_indexStrR,evE_minmax,evE_minmaxL,evE_minmaxR,evE_mapGet,evE_mapGetL,evE_mapGetR,evE_nilCheck,evE_eqNil,evE_un,evE_conv,evE_convId,evE_fieldAddr,evE_field,evE_extract,evE_lenS,evE_load,evE_build,evE_mkFn,evE_subStr,evE_subSl,evEs_nil,evEs_cons,L1_some,frOf_get,frOf_set,frOf_kill,getV_cons,getV_nil,putV_cons,putV_nil,killV_cons,killV_nil,startV_cons,bl,i64,Option.map_some,ne_eq,not_true_eq_false,not_false_eq_true,if_false,if_true,reduceIte,reduceCtorEq,Nat.reduceEqDiff,Nat.reduceLT,Nat.reduceLeDiff,Nat.reduceBEq,List.contains_cons,List.contains_nil,Bool.or_false,Bool.false_or,Bool.or_true,Bool.true_or,Bool.false_eq_true,decide_true,decide_false,Int.toNat_natCast,Int.natCast_nonneg,Bool.cond_true_left,Bool.cond_false_right,Bool.cond_false_left,Bool.cond_true_right,cond_true,cond_false,free_row,kept_row,stepW_nrm,stepW_ext,stepW_ret,stepW_cond,trim_self,retC_nrm,retC_ret,retC_cond,resultV1,resultV2,resV_tmp,resV_cell,Nat.reduceAdd,List.nil_append,List.append_nil,List.cons_append,evOps_nil,evOps_cons,evOps_guard,opK_bool,wantV_bool,wantV_und,resK_some,put_some,put_none,resK_cond,opsC_cond,ev_t,ev_c,List.map_cons,List.map_nil,beq_self_eq_true,beq_true,beq_false,op_bin,op_eqB,op_eqAgg,op_indexAddr,op_indexStr,op_minmax,op_nilCheck,op_eqNil,op_un,op_conv,op_convId,op_fieldAddr,op_field,op_extract,op_lenS,op_load,op_mapGet,op_move,op_alloc,op_box,op_mapNew,op_store,op_mkFn,op_append,op_call,op_callR,op_build,op_buildSl,mkSlV_some,RH_some,RS_some,evOp_pick,pickR_bool,pickR_same,bne_self_eq_false,Bool.bne_false,Bool.bne_true,xb_add,xb_sub,xb_mul,xb_eql,xb_neq,xb_lss,xb_leq,xb_gtr,xb_geq,xb_and,xb_or,xb_xor,xb_andNot,xb_quo,xb_rem,xb_shl,xb_shr,xs_eql,xs_neq,xs_lss,xs_add,xq_b,xn_pn,xn_pr,xn_pp,xn_sn,xn_ss,xn_sp,xn_se,xn_mn,xn_mm,xn_fn,xn_ff,xn_fy,xg,xu_not,xu_neg,xc_int,xc_id,xk_ref,xk_pref,xk_fn,xk_yld,xa_ref,xa_pref,xf_agg,xi_sl,xi_psl,xj_str,xe_tup,xl_str,xl_nil,xl_esl,xl_psl,xl_sl,xl_mnil,xo_ref,xo_pref,xm,shut_agg,shut_one,List.getElem?_cons_zero,List.getElem?_cons_succ,List.drop_zero,List.drop_succ_cons,List.take_succ_cons,List.take_zero,List.take_nil,List.drop_nil,List.length_cons,List.length_nil,Nat.le_refl,and_self,and_true,true_and,Nat.zero_add,Nat.mul_one,Nat.add_zero,set_set',bndV_none,bndV_int,xslice_nil,xslice_esl,xslice_psl,xslice_sl,cutSl_some,cutPsl_some,cutNil_some,op_subSl,xsub_sl,op_clear,Option.map_none,Int.sub_zero,Int.le_refl,List.getD_cons_zero,List.getD_cons_succ,cast0,toNat0,getC_snoc,obC_same,len_snoc,ne_add,add_ne,one_int,one_str,one_bool,one_nilS,one_ref,one_sl,one_psl,one_esl,one_mp,one_fn,cells_agg,cells_s,cells_sl,cells_psl,cells_ref,cells_esl,cells_mp,fillA_nil,fillA,List.length_set,List.set_cons_zero,List.set_cons_succ,splice,Nat.reduceMul,startA_nil,startA_cons,segC_some,segL_some,set_snoc',storeV_ref,Nat.add_assoc, hlt', hwk, ha1, ha2, hb1, hb2, hjn', happ, hst]
    exact p1
def backFrom : Nat → List (List Int) → List (List Int) → List (List Int)
  | _, [], R => R
  | i, r :: N, R => backFrom (i + 1) N (r.foldl (bump i) R)
def sumLen : List (List Int) → Nat
  | [] => 0
  | r :: N => r.length + sumLen N
theorem bumps_le (i : Int) : ∀ (r : List Int) (R : List (List Int)) (B : Nat), (∀ x ∈ r, 0 ≤ x ∧ x < R.length) → (∀ q ∈ R, q.length + r.length ≤ B) → ∀ q ∈ r.foldl (bump i) R, q.length ≤ B := by
  intro r
  induction r with
  | nil => intro R B _ h q hq; exact h q hq
  | cons x r ih =>
    intro R B hx h q hq
    rw [List.foldl_cons] at hq
    have h0 := hx x List.mem_cons_self
    by_cases hB : r.length ≤ B
    · refine ih (bump i R x) B (fun y hy => by rw [bump_len]; exact hx y (List.mem_cons_of_mem _ hy)) (fun q hq => ?_) q hq
      have := bump_le (i := i) (R := R) (k := x) (B := B - r.length) (fun q hq => by have := h q hq; rw [List.length_cons] at this; omega) (by omega) q hq
      omega
    · have : R.getD x.toNat [] ∈ R := by rw [List.getD, List.getElem?_eq_getElem (by omega)]; exact List.getElem_mem (by omega)
      have := h _ this
      rw [List.length_cons] at this
      omega
theorem back_outer (call : CallF) (base n o m L : Nat) (nv : V) (N : List (List Int)) (A : Heap) (hA : A.length = m) (ho : o < m) (hb : base ≤ o) (hL : m ≤ L) (hnv : OwnRows (o + 1) A nv (rowsV N)) (hN : N.length = n) (hin : ∀ r ∈ N, ∀ x ∈ r, 0 ≤ x ∧ x < n) (hr : ∀ r ∈ N, r.length < 2 ^ 40) (hn : n < 2 ^ 40) :
    ∀ (rest : List (List Int)) (i : Nat) (H : Heap) (vs : List V) (R : List (List Int)), N.drop i = rest → i ≤ n → L ≤ H.length → Ext (A.set o (.cells 0 vs)) H → getC H o 0 = some vs → Bag m H vs (rowsV R) → R.length = n → (∀ q ∈ R, q.length + sumLen rest ≤ 2 ^ 43) →
    ∃ H' vs', itW (evC call itW base s_graph_Back_l1) [] L (frOf 38 [(3, .sl o 0 0 n 1), (12, nv), (13, .s (.int .i64 n)), (14, .s (.int .i64 i))]) H =
      some (.ext 0, frOf 38 [(3, .sl o 0 0 n 1), (12, nv), (13, .s (.int .i64 n)), (14, .s (.int .i64 n)), (15, .s (.bool false))], H') ∧
      L ≤ H'.length ∧ Ext (A.set o (.cells 0 vs')) H' ∧ getC H' o 0 = some vs' ∧ Bag m H' vs' (rowsV (backFrom i rest R)) := by
  intro rest
  induction rest with
  | nil =>
    intro i H vs R hd hi hLH he hc hB hR hq
    have hin : i = n := by
      have := congrArg List.length hd
      simp at this
      omega
    subst hin
    refine ⟨trim L (frOf 38 [(3, .sl o 0 0 i 1), (12, nv), (13, .s (.int .i64 i)), (14, .s (.int .i64 i)), (15, .s (.bool false))]) H, vs, ?_, trim_le hLH, he.trim (by rw [List.length_set]; omega) _, trim_get hc (by omega), hB.trim hc (by omega) _⟩
    rw [itW_step]
    simp only [s_graph_Back_r0_tale,s_graph_Back_r0_kT,s_graph_Back_r0_kA0,s_graph_Back_r1p0_tale,s_graph_Back_r1_x,s_graph_Back_r1t1_x,s_graph_Back_r1t2_tale,s_graph_Back_r1t2_x,s_graph_Back_r2p0_tale,s_graph_Back_r2_x,s_graph_Back_r2t1_x,s_graph_Back_r2t2_tale,s_graph_Back_r2t2_x,s_graph_Back_r3_tale,s_graph_Back_r4_tale,s_graph_Back_r5_tale,s_graph_Back_r6_tale,s_graph_Back_r7_tale,s_graph_Back_r8p0_tale,s_graph_Back_r8_x,s_graph_Back_r8t1_x,s_graph_Back_r8t2_x,s_graph_Back_r8p3_tale,s_graph_Back_r8t3_x,s_graph_Back_r8t4_x,s_graph_Back_r9_tale,s_graph_Back_l0_b,s_graph_Back_l0_ev,s_graph_Back_r10_tale,s_graph_Back_l1_b,s_graph_Back_l1_ev,s_graph_Back_r11_tale, evC_skip,evC_exit,evC_ret,evC_seq,evC_block,evC_cond,evC_loop,evC_row,thenC_nrm,thenC_ext,thenC_ret,thenC_none,thenC_cond,outC_nrm,outC_ret,outC_ext,outC_none,outC_cond,condC_bool,rowC_some,opsC_some,Bool.not_true,Bool.not_false,Bool.and_false,Bool.false_and,Bool.cond_self,taleR_true,setOuts_nil,setOuts_cons,outE_some,reqE_nil,reqE_cons,reqB_bool,List.all_cons,List.all_nil,Option.isSome_some,Bool.and_true,Bool.true_and,V1_some,V2_some,evE_t,evE_c,evE_pick,pickO_bool,pickO_true,pickO_false,evE_bin,evE_binL,evE_binR,evE_eqB,evE_eqBL,evE_eqBR,evE_eqAgg,evE_eqAggL,evE_eqAggR,evE_indexAddr,evE_indexAddrL,evE_indexAddrR,evE_indexStr,evE_indexStrL,evE_indexStrR,evE_minmax,evE_minmaxL,evE_minmaxR,evE_mapGet,evE_mapGetL,evE_mapGetR,evE_nilCheck,evE_eqNil,evE_un,evE_conv,evE_convId,evE_fieldAddr,evE_field,evE_extract,evE_lenS,evE_load,evE_build,evE_mkFn,evE_subStr,evE_subSl,evEs_nil,evEs_cons,L1_some,frOf_get,frOf_set,frOf_kill,getV_cons,getV_nil,putV_cons,putV_nil,killV_cons,killV_nil,startV_cons,bl,i64,Option.map_some,ne_eq,not_true_eq_false,not_false_eq_true,if_false,if_true,reduceIte,reduceCtorEq,Nat.reduceEqDiff,Nat.reduceLT,Nat.reduceLeDiff,Nat.reduceBEq,List.contains_cons,List.contains_nil,Bool.or_false,Bool.false_or,Bool.or_true,Bool.true_or,Bool.false_eq_true,decide_true,decide_false,Int.toNat_natCast,Int.natCast_nonneg,Bool.cond_true_left,Bool.cond_false_right,Bool.cond_false_left,Bool.cond_true_right,cond_true,cond_false,free_row,kept_row,stepW_nrm,stepW_ext,stepW_ret,stepW_cond,trim_self,retC_nrm,retC_ret,retC_cond,resultV1,resultV2,resV_tmp,resV_cell,Nat.reduceAdd,List.nil_append,List.append_nil,List.cons_append,evOps_nil,evOps_cons,evOps_guard,opK_bool,wantV_bool,wantV_und,resK_some,put_some,put_none,resK_cond,opsC_cond,ev_t,ev_c,List.map_cons,List.map_nil,beq_self_eq_true,beq_true,beq_false,op_bin,op_eqB,op_eqAgg,op_indexAddr,op_indexStr,op_minmax,op_nilCheck,op_eqNil,op_un,op_conv,op_convId,op_fieldAddr,op_field,op_extract,op_lenS,op_load,op_mapGet,op_move,op_alloc,op_box,op_mapNew,op_store,op_mkFn,op_append,op_call,op_callR,op_build,op_buildSl,mkSlV_some,RH_some,RS_some,evOp_pick,pickR_bool,pickR_same,bne_self_eq_false,Bool.bne_false,Bool.bne_true,xb_add,xb_sub,xb_mul,xb_eql,xb_neq,xb_lss,xb_leq,xb_gtr,xb_geq,xb_and,xb_or,xb_xor,xb_andNot,xb_quo,xb_rem,xb_shl,xb_shr,xs_eql,xs_neq,xs_lss,xs_add,xq_b,xn_pn,xn_pr,xn_pp,xn_sn,xn_ss,xn_sp,xn_se,xn_mn,xn_mm,xn_fn,xn_ff,xn_fy,xg,xu_not,xu_neg,xc_int,xc_id,xk_ref,xk_pref,xk_fn,xk_yld,xa_ref,xa_pref,xf_agg,xi_sl,xi_psl,xj_str,xe_tup,xl_str,xl_nil,xl_esl,xl_psl,xl_sl,xl_mnil,xo_ref,xo_pref,xm,shut_agg,shut_one,List.getElem?_cons_zero,List.getElem?_cons_succ,List.drop_zero,List.drop_succ_cons,List.take_succ_cons,List.take_zero,List.take_nil,List.drop_nil,List.length_cons,List.length_nil,Nat.le_refl,and_self,and_true,true_and,Nat.zero_add,Nat.mul_one,Nat.add_zero,set_set',bndV_none,bndV_int,xslice_nil,xslice_esl,xslice_psl,xslice_sl,cutSl_some,cutPsl_some,cutNil_some,op_subSl,xsub_sl,op_clear,Option.map_none,Int.sub_zero,Int.le_refl,List.getD_cons_zero,List.getD_cons_succ,cast0,toNat0,getC_snoc,obC_same,len_snoc,ne_add,add_ne,one_int,one_str,one_bool,one_nilS,one_ref,one_sl,one_psl,one_esl,one_mp,one_fn,cells_agg,cells_s,cells_sl,cells_psl,cells_ref,cells_esl,cells_mp,fillA_nil,fillA,List.length_set,List.set_cons_zero,List.set_cons_succ,splice,Nat.reduceMul,startA_nil,startA_cons,segC_some,segL_some,set_snoc',storeV_ref,Nat.add_assoc, Int.lt_irrefl]
  | cons r rest ih =>
    intro i H vs R hd hi hLH he hc hB hR hq
    have hx : N[i]? = some r := by have := congrArg (·[0]?) hd; simp only [List.getElem?_drop] at this; exact this
    have hlt : i < n := by have := (List.getElem?_eq_some_iff.1 hx).1; omega
    have hd' : N.drop (i + 1) = rest := by rw [← List.drop_drop, hd]; rfl
    have hmem : r ∈ N := List.mem_of_getElem? hx
    obtain ⟨nid, ng, nvs, rfl, hnc, hnm, hnl, hnr⟩ := hnv
    obtain ⟨x, hx1, hx2⟩ := hnr i _ (rowsV_get hx)
    have hni : nid ≠ o := by omega
    have hAH := he.le
    rw [List.length_set] at hAH
    have hnc' : getC H nid ng = some nvs := getC_ext (by rw [getC_other hni]; exact hnc) he
    obtain ⟨ha1, ha2⟩ := at_sl hnc' (n := N.length) (by omega) hx1
    rw [hN] at ha1
    have hxl : xLen H .s x = some (.s (.int .i64 r.length)) := by
      have := ((hx2.set (by omega) (.cells 0 vs)).ext he).rd.len
      rwa [List.length_map] at this
    have hs : sumLen (r :: rest) = r.length + sumLen rest := rfl
    obtain ⟨H1, vs1, p1, p2, p3, p4, p5⟩ := back_inner call base i n o m H.length (.sl nid ng 0 n 1) x r A hA ho hb (by omega) (fun ob => (hx2.set (by omega) ob).rd) hx2.wide (hin r hmem) (hr r hmem) hn r 0 H vs R rfl (Nat.zero_le _) (Nat.le_refl _) he hc hB hR (fun q hqm => by have := hq q hqm; omega)
    rw [cast0] at p1
    have hw := wrap_pos (n := i) (by omega)
    have hlt' : (i : Int) < (n : Int) := by omega
    obtain ⟨H', vs', q1, q2, q3, q4, q5⟩ := ih (i + 1) (trim L (frOf 38 [(3, .sl o 0 0 n 1), (12, .sl nid ng 0 n 1), (13, .s (.int .i64 n)), (14, .s (.int .i64 ((i + 1 : Nat) : Int)))]) H1) vs1 (r.foldl (bump i) R) hd' (by omega) (trim_le (by omega)) (p3.trim (by rw [List.length_set]; omega) _) (trim_get p4 (by omega)) (p5.trim p4 (by omega) _) (by rw [bumps_len]; exact hR) (fun q hqm => by
      have := bumps_le i r R (2 ^ 43 - sumLen rest) (fun x hx => by rw [hR]; exact hin r hmem x hx) (fun q hq1 => by have := hq q hq1; omega) q hqm
      have h0 : sumLen rest ≤ 2 ^ 43 := by
        match R, hR with
        | [], h => simp at h; omega
        | q0 :: _, _ => have := hq q0 List.mem_cons_self; omega
      omega)
    refine ⟨H', vs', ?_, q2, q3, q4, q5⟩
    rw [rowsV_len, hN] at *
    rw [itW_step]
    simp only [s_graph_Back_r0_tale,s_graph_Back_r0_kT,s_graph_Back_r0_kA0,s_graph_Back_r1p0_tale,s_graph_Back_r1_x,s_graph_Back_r1t1_x,s_graph_Back_r1t2_tale,s_graph_Back_r1t2_x,s_graph_Back_r2p0_tale,s_graph_Back_r2_x,s_graph_Back_r2t1_x,s_graph_Back_r2t2_tale,s_graph_Back_r2t2_x,s_graph_Back_r3_tale,s_graph_Back_r4_tale,s_graph_Back_r5_tale,s_graph_Back_r6_tale,s_graph_Back_r7_tale,s_graph_Back_r8p0_tale,s_graph_Back_r8_x,s_graph_Back_r8t1_x,s_graph_Back_r8t2_x,s_graph_Back_r8p3_tale,s_graph_Back_r8t3_x,s_graph_Back_r8t4_x,s_graph_Back_r9_tale,s_graph_Back_l0_b,s_graph_Back_l0_ev,s_graph_Back_r10_tale,s_graph_Back_l1_b,s_graph_Back_l1_ev,s_graph_Back_r11_tale, evC_skip,evC_exit,evC_ret,evC_seq,evC_block,evC_cond,evC_loop,evC_row,thenC_nrm,thenC_ext,thenC_ret,thenC_none,thenC_cond,outC_nrm,outC_ret,outC_ext,outC_none,outC_cond,condC_bool,rowC_some,opsC_some,Bool.not_true,Bool.not_false,Bool.and_false,Bool.false_and,Bool.cond_self,taleR_true,setOuts_nil,setOuts_cons,outE_some,reqE_nil,reqE_cons,reqB_bool,List.all_cons,List.all_nil,Option.isSome_some,Bool.and_true,Bool.true_and,V1_some,V2_some,evE_t,evE_c,evE_pick,pickO_bool,pickO_true,pickO_false,evE_bin,evE_binL,evE_binR,evE_eqB,evE_eqBL,evE_eqBR,evE_eqAgg,evE_eqAggL,evE_eqAggR,evE_indexAddr,evE_indexAddrL,evE_indexAddrR,evE_indexStr,evE_indexStrL,evE_indexStrR,evE_minmax,evE_minmaxL,evE_minmaxR,evE_mapGet,evE_mapGetL,evE_mapGetR,evE_nilCheck,evE_eqNil,evE_un,evE_conv,evE_convId,evE_fieldAddr,evE_field,evE_extract,evE_lenS,evE_load,evE_build,evE_mkFn,evE_subStr,evE_subSl,evEs_nil,evEs_cons,L1_some,frOf_get,frOf_set,frOf_kill,getV_cons,getV_nil,putV_cons,putV_nil,killV_cons,killV_nil,startV_cons,bl,i64,Option.map_some,ne_eq,not_true_eq_false,not_false_eq_true,if_false,if_true,reduceIte,reduceCtorEq,Nat.reduceEqDiff,Nat.reduceLT,Nat.reduceLeDiff,Nat.reduceBEq,List.contains_cons,List.contains_nil,Bool.or_false,Bool.false_or,Bool.or_true,Bool.true_or,Bool.false_eq_true,decide_true,decide_false,Int.toNat_natCast,Int.natCast_nonneg,Bool.cond_true_left,Bool.cond_false_right,Bool.cond_false_left,Bool.cond_true_right,cond_true,cond_false,free_row,kept_row,stepW_nrm,stepW_ext,stepW_ret,stepW_cond,trim_self,retC_nrm,retC_ret,retC_cond,resultV1,resultV2,resV_tmp,resV_cell,Nat.reduceAdd,List.nil_append,List.append_nil,List.cons_append,evOps_nil,evOps_cons,evOps_guard,opK_bool,wantV_bool,wantV_und,resK_some,put_some,put_none,resK_cond,opsC_cond,ev_t,ev_c,List.map_cons,List.map_nil,beq_self_eq_true,beq_true,beq_false,op_bin,op_eqB,op_eqAgg,op_indexAddr,op_indexStr,op_minmax,op_nilCheck,op_eqNil,op_un,op_conv,op_convId,op_fieldAddr,op_field,op_extract,op_lenS,op_load,op_mapGet,op_move,op_alloc,op_box,op_mapNew,op_store,op_mkFn,op_append,op_call,op_callR,op_build,op_buildSl,mkSlV_some,RH_some,RS_some,evOp_pick,pickR_bool,pickR_same,bne_self_eq_false,Bool.bne_false,Bool.bne_true,xb_add,xb_sub,xb_mul,xb_eql,xb_neq,xb_lss,xb_leq,xb_gtr,xb_geq,xb_and,xb_or,xb_xor,xb_andNot,xb_quo,xb_rem,xb_shl,xb_shr,xs_eql,xs_neq,xs_lss,xs_add,xq_b,xn_pn,xn_pr,xn_pp,xn_sn,xn_ss,xn_sp,xn_se,xn_mn,xn_mm,xn_fn,xn_ff,xn_fy,xg,xu_not,xu_neg,xc_int,xc_id,xk_ref,xk_pref,xk_fn,xk_yld,xa_ref,xa_pref,xf_agg,xi_sl,xi_psl,xj_str,xe_tup,xl_str,xl_nil,xl_esl,xl_psl,xl_sl,xl_mnil,xo_ref,xo_pref,xm,shut_agg,shut_one,List.getElem?_cons_zero,List.getElem?_cons_succ,List.drop_zero,List.drop_succ_cons,List.take_succ_cons,List.take_zero,List.take_nil,List.drop_nil,List.length_cons,List.length_nil,Nat.le_refl,and_self,and_true,true_and,Nat.zero_add,Nat.mul_one,Nat.add_zero,set_set',bndV_none,bndV_int,xslice_nil,xslice_esl,xslice_psl,xslice_sl,cutSl_some,cutPsl_some,cutNil_some,op_subSl,xsub_sl,op_clear,Option.map_none,Int.sub_zero,Int.le_refl,List.getD_cons_zero,List.getD_cons_succ,cast0,toNat0,getC_snoc,obC_same,len_snoc,ne_add,add_ne,one_int,one_str,one_bool,one_nilS,one_ref,one_sl,one_psl,one_esl,one_mp,one_fn,cells_agg,cells_s,cells_sl,cells_psl,cells_ref,cells_esl,cells_mp,fillA_nil,fillA,List.length_set,List.set_cons_zero,List.set_cons_succ,splice,Nat.reduceMul,startA_nil,startA_cons,segC_some,segL_some,set_snoc',storeV_ref,Nat.add_assoc, hlt', hw, ha1, ha2, hxl, p1]
    exact q1
end Go.Proofs.Ytmnlagcmpgilaaa
