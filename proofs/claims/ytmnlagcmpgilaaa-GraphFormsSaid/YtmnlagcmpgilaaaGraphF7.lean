import Derived.Test.YtmnlagcmpgilaaaGraphF6
set_option linter.all false
set_option maxRecDepth 100000
namespace Go.Proofs.Ytmnlagcmpgilaaa
open Go.AM
/-- A table that has the functions of graph. -/
structure CG (CT : Nat → Option CFun) : Prop where
  norm : CT k_graph_Norm = some (.code s_graph_Norm)
  norm1 : CT k_graph_Norm_1 = some (.code s_graph_Norm_1)
  clone : CT k_slices_Clone_int_int = some (.code s_slices_Clone_int_int)
  del : CT k_slices_DeleteFunc_int_int = some (.code s_slices_DeleteFunc_int_int)
  idx : CT k_slices_IndexFunc_int_int = some (.code s_slices_IndexFunc_int_int)
  sort : CT k_slices_Sort_int_int = some (.prim sortG)
  comp : CT k_slices_Compact_int_int = some (.code s_slices_Compact_int_int)
  back : CT k_graph_Back = some (.code s_graph_Back)
theorem chg_mem : ∀ (r : List Int) (p x : Int), x ∈ chg p r → x ∈ r := by
  intro r
  induction r with
  | nil => intro p x h; exact h
  | cons y r ih =>
    intro p x h
    simp only [chg] at h
    split at h
    · exact List.mem_cons_of_mem _ (ih _ _ h)
    · rcases List.mem_cons.1 h with rfl | h
      · exact List.mem_cons_self
      · exact List.mem_cons_of_mem _ (ih _ _ h)
theorem compactZ_mem {r : List Int} {x : Int} (h : x ∈ compactZ r) : x ∈ r := by
  cases r with
  | nil => exact h
  | cons y r =>
    rcases List.mem_cons.1 h with rfl | h
    · exact List.mem_cons_self
    · exact List.mem_cons_of_mem _ (chg_mem _ _ _ h)
theorem compactZ_len (r : List Int) : (compactZ r).length ≤ r.length := by
  cases r with
  | nil => exact Nat.le_refl _
  | cons y r => have := chg_len r y; simp only [compactZ, List.length_cons]; omega
theorem normR_in {n : Nat} {r : List Int} {x : Int} (h : x ∈ normR n r) : 0 ≤ x ∧ x < n := by
  have := compactZ_mem h
  rw [sortZ, List.mem_mergeSort, List.mem_filter] at this
  have := this.2
  simp only [outR, ge_iff_le, Bool.not_or, Bool.and_eq_true, Bool.not_eq_true', decide_eq_false_iff_not, Int.not_lt, Int.not_le] at this
  exact this
theorem normR_len (n : Int) (r : List Int) : (normR n r).length ≤ r.length := by
  refine Nat.le_trans (compactZ_len _) ?_
  rw [sortZ, List.length_mergeSort]
  exact List.length_filter_le _ _
theorem normG_len (G : List (List Int)) : (normG G).length = G.length := by simp [normG]
theorem normG_in {G : List (List Int)} {r : List Int} (h : r ∈ normG G) {x : Int} (hx : x ∈ r) : 0 ≤ x ∧ x < G.length := by
  obtain ⟨g, _, rfl⟩ := List.mem_map.1 h
  exact normR_in hx
theorem normG_small {G : List (List Int)} {b : Nat} (hG : ∀ r ∈ G, r.length < b) : ∀ r ∈ normG G, r.length < b := by
  intro r hr
  obtain ⟨g, hg, rfl⟩ := List.mem_map.1 hr
  exact Nat.lt_of_le_of_lt (normR_len _ _) (hG g hg)
theorem sumLen_le {b : Nat} : ∀ (N : List (List Int)), (∀ r ∈ N, r.length ≤ b) → sumLen N ≤ N.length * b := by
  intro N
  induction N with
  | nil => intro _; simp [sumLen]
  | cons r N ih =>
    intro h
    have h1 := h r List.mem_cons_self
    have h2 := ih fun r hr => h r (List.mem_cons_of_mem _ hr)
    have : (N.length + 1) * b = N.length * b + b := Nat.succ_mul _ _
    simp only [sumLen, List.length_cons]
    omega
def backG (G : List (List Int)) : List (List Int) := backFrom 0 (normG G) (List.replicate G.length [])
theorem backFrom_len : ∀ (N : List (List Int)) (i : Nat) (R : List (List Int)), (backFrom i N R).length = R.length := by
  intro N
  induction N with
  | nil => intro i R; rfl
  | cons r N ih => intro i R; rw [backFrom, ih, bumps_len]
theorem backG_len (G : List (List Int)) : (backG G).length = G.length := by rw [backG, backFrom_len, List.length_replicate]
theorem norm_f {CT : Nat → Option CFun} (h : CG CT) (base : Nat) (H : Heap) (v : V) (G : List (List Int)) (hv : RdRows H v (rowsV G)) (hb : base ≤ H.length) (hn : G.length < 2 ^ 40) (hr : ∀ r ∈ G, r.length < 2 ^ 40) :
    ∃ v' H', callW CT (.fn k_graph_Norm [] []) [v] base H = some (v', H') ∧ Ext H H' ∧ OwnRows H.length H' v' (rowsV (normG G)) := norm_fun h.norm h.clone h.del h.idx h.sort h.comp h.norm1 base H v G hv hb hn hr
theorem back_f {CT : Nat → Option CFun} (h : CG CT) (base : Nat) (H : Heap) (v : V) (G : List (List Int)) (hv : RdRows H v (rowsV G)) (hb : base ≤ H.length) (hn : G.length < 2 ^ 20) (hr : ∀ r ∈ G, r.length < 2 ^ 20) :
    ∃ v' H', callW CT (.fn k_graph_Back [] []) [v] base H = some (v', H') ∧ Ext H H' ∧ RdRows H' v' (rowsV (backG G)) := by
  have hlen : xLen H .s v = some (.s (.int .i64 G.length)) := by rw [← rowsV_len G]; exact hv.len
  have hmk := make_n (H := H) (zero := [nilS]) (sz := 1) (bytes := 24) (k := .i64) (k' := .i64) (n := G.length) (by omega)
  rw [flat_one] at hmk
  obtain ⟨nv, A, p1, p2, p3⟩ := norm_f h base (H ++ [.cells 0 (List.replicate G.length nilS)]) v G (hv.ext (Ext.app _ _)) (by simp; omega) (by omega) (fun r hr' => by have := hr r hr'; omega)
  have hAl := p2.le
  rw [len_snoc] at p3 hAl
  have hc : getC A H.length 0 = some (List.replicate G.length nilS) := getC_ext (getC_new H 0 _) p2
  have hN := normG_len G
  obtain ⟨H', vs', q1, q2, q3, q4, q5⟩ := back_outer (callW CT) base G.length H.length A.length A.length nv (normG G) A rfl (by omega) hb (Nat.le_refl _) p3 hN (fun r hr' x hx => normG_in hr' hx) (fun r hr' => Nat.lt_of_lt_of_le (normG_small hr r hr') (by omega)) (by omega) (normG G) 0 A (List.replicate G.length nilS) (List.replicate G.length []) rfl (Nat.zero_le _) (Nat.le_refl _) (by rw [getC_same hc]; exact Ext.refl A) hc (by have := Bag.start A.length A G.length; rwa [show rowsV (List.replicate G.length []) = List.replicate G.length [] by simp [rowsV]]) (by simp) (fun q hq => by
    rw [List.mem_replicate] at hq
    rw [hq.2]
    have := sumLen_le (b := 2 ^ 20) (normG G) (fun r hr' => Nat.le_of_lt (normG_small hr r hr'))
    rw [hN] at this
    have : G.length * 2 ^ 20 ≤ 2 ^ 20 * 2 ^ 20 := Nat.mul_le_mul_right _ (by omega)
    simp only [List.length_nil]
    omega)
  rw [cast0] at q1
  have hnl : xLen A .s nv = some (.s (.int .i64 G.length)) := by have := p3.rd.len; rwa [rowsV_len, hN] at this
  refine ⟨.sl H.length 0 0 G.length 1, H', callW_fn (c := s_graph_Back) h.back (by simp [s_graph_Back]) ?_, ?_, ?_⟩
  · simp only [nilS] at hmk p1
    simp only [s_graph_Back, s_graph_Back_r0_tale,s_graph_Back_r0_kT,s_graph_Back_r0_kA0,s_graph_Back_r1p0_tale,s_graph_Back_r1_x,s_graph_Back_r1t1_x,s_graph_Back_r1t2_tale,s_graph_Back_r1t2_x,s_graph_Back_r2p0_tale,s_graph_Back_r2_x,s_graph_Back_r2t1_x,s_graph_Back_r2t2_tale,s_graph_Back_r2t2_x,s_graph_Back_r3_tale,s_graph_Back_r4_tale,s_graph_Back_r5_tale,s_graph_Back_r6_tale,s_graph_Back_r7_tale,s_graph_Back_r8p0_tale,s_graph_Back_r8_x,s_graph_Back_r8t1_x,s_graph_Back_r8t2_x,s_graph_Back_r8p3_tale,s_graph_Back_r8t3_x,s_graph_Back_r8t4_x,s_graph_Back_r9_tale,s_graph_Back_l0_b,s_graph_Back_l0_ev,s_graph_Back_r10_tale,s_graph_Back_l1_b,s_graph_Back_l1_ev,s_graph_Back_r11_tale, evC_skip,evC_exit,evC_ret,evC_seq,evC_block,evC_cond,evC_loop,evC_row,thenC_nrm,thenC_ext,thenC_ret,thenC_none,thenC_cond,outC_nrm,outC_ret,outC_ext,outC_none,outC_cond,condC_bool,rowC_some,opsC_some,Bool.not_true,Bool.not_false,Bool.and_false,Bool.false_and,Bool.cond_self,taleR_true,setOuts_nil,setOuts_cons,outE_some,reqE_nil,reqE_cons,reqB_bool,List.all_cons,List.all_nil,Option.isSome_some,Bool.and_true,Bool.true_and,V1_some,V2_some,evE_t,evE_c,evE_pick,pickO_bool,pickO_true,pickO_false,evE_bin,evE_binL,evE_binR,evE_eqB,evE_eqBL,evE_eqBR,evE_eqAgg,evE_eqAggL,evE_eqAggR,evE_indexAddr,evE_indexAddrL,evE_indexAddrR,evE_indexStr,evE_indexStrL,evE_indexStrR,evE_minmax,evE_minmaxL,evE_minmaxR,evE_mapGet,evE_mapGetL,evE_mapGetR,evE_nilCheck,evE_eqNil,evE_un,evE_conv,evE_convId,evE_fieldAddr,evE_field,evE_extract,evE_lenS,evE_load,evE_build,evE_mkFn,evE_subStr,evE_subSl,evEs_nil,evEs_cons,L1_some,frOf_get,frOf_set,frOf_kill,getV_cons,getV_nil,putV_cons,putV_nil,killV_cons,killV_nil,startV_cons,bl,i64,Option.map_some,ne_eq,not_true_eq_false,not_false_eq_true,if_false,if_true,reduceIte,reduceCtorEq,Nat.reduceEqDiff,Nat.reduceLT,Nat.reduceLeDiff,Nat.reduceBEq,List.contains_cons,List.contains_nil,Bool.or_false,Bool.false_or,Bool.or_true,Bool.true_or,Bool.false_eq_true,decide_true,decide_false,Int.toNat_natCast,Int.natCast_nonneg,Bool.cond_true_left,Bool.cond_false_right,Bool.cond_false_left,Bool.cond_true_right,cond_true,cond_false,free_row,kept_row,stepW_nrm,stepW_ext,stepW_ret,stepW_cond,trim_self,retC_nrm,retC_ret,retC_cond,resultV1,resultV2,resV_tmp,resV_cell,Nat.reduceAdd,List.nil_append,List.append_nil,List.cons_append,evOps_nil,evOps_cons,evOps_guard,opK_bool,wantV_bool,wantV_und,resK_some,put_some,put_none,resK_cond,opsC_cond,ev_t,ev_c,List.map_cons,List.map_nil,beq_self_eq_true,beq_true,beq_false,op_bin,op_eqB,op_eqAgg,op_indexAddr,op_indexStr,op_minmax,op_nilCheck,op_eqNil,op_un,op_conv,op_convId,op_fieldAddr,op_field,op_extract,op_lenS,op_load,op_mapGet,op_move,op_alloc,op_box,op_mapNew,op_store,op_mkFn,op_append,op_call,op_callR,op_build,op_buildSl,mkSlV_some,RH_some,RS_some,evOp_pick,pickR_bool,pickR_same,bne_self_eq_false,Bool.bne_false,Bool.bne_true,xb_add,xb_sub,xb_mul,xb_eql,xb_neq,xb_lss,xb_leq,xb_gtr,xb_geq,xb_and,xb_or,xb_xor,xb_andNot,xb_quo,xb_rem,xb_shl,xb_shr,xs_eql,xs_neq,xs_lss,xs_add,xq_b,xn_pn,xn_pr,xn_pp,xn_sn,xn_ss,xn_sp,xn_se,xn_mn,xn_mm,xn_fn,xn_ff,xn_fy,xg,xu_not,xu_neg,xc_int,xc_id,xk_ref,xk_pref,xk_fn,xk_yld,xa_ref,xa_pref,xf_agg,xi_sl,xi_psl,xj_str,xe_tup,xl_str,xl_nil,xl_esl,xl_psl,xl_sl,xl_mnil,xo_ref,xo_pref,xm,shut_agg,shut_one,List.getElem?_cons_zero,List.getElem?_cons_succ,List.drop_zero,List.drop_succ_cons,List.take_succ_cons,List.take_zero,List.take_nil,List.drop_nil,List.length_cons,List.length_nil,Nat.le_refl,and_self,and_true,true_and,Nat.zero_add,Nat.mul_one,Nat.add_zero,set_set',bndV_none,bndV_int,xslice_nil,xslice_esl,xslice_psl,xslice_sl,cutSl_some,cutPsl_some,cutNil_some,op_subSl,xsub_sl,op_clear,Option.map_none,Int.sub_zero,Int.le_refl,List.getD_cons_zero,List.getD_cons_succ,cast0,toNat0,getC_snoc,obC_same,len_snoc,ne_add,add_ne,one_int,one_str,one_bool,one_nilS,one_ref,one_sl,one_psl,one_esl,one_mp,one_fn,cells_agg,cells_s,cells_sl,cells_psl,cells_ref,cells_esl,cells_mp,fillA_nil,fillA,List.length_set,List.set_cons_zero,List.set_cons_succ,splice,Nat.reduceMul,startA_nil,startA_cons,segC_some,segL_some,set_snoc',storeV_ref,Nat.add_assoc, hlen, op_mkSl, hmk, p1, hnl, q1]
  · have e0 : Ext H (A.set H.length (.cells 0 vs')) := ((Ext.app _ _).trans p2).set (Nat.le_refl _) _
    exact e0.trans q3
  · have := q5.rows q4
    rwa [rowsV_len, show (backFrom 0 (normG G) (List.replicate G.length [])).length = G.length from backG_len G] at this
end Go.Proofs.Ytmnlagcmpgilaaa
