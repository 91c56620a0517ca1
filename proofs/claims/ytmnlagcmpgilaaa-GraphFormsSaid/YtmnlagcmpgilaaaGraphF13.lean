import Derived.Test.YtmnlagcmpgilaaaGraphF12
set_option linter.all false
set_option maxRecDepth 100000
namespace Go.Proofs.Ytmnlagcmpgilaaa
open Go.AM
theorem rback_outer (call : CallF) (base n o m L : Nat) (nv : V) (N : List (List Int)) (A : Heap) (hA : A.length = m) (ho : o < m) (hb : base ≤ o) (hL : m ≤ L) (hnv : ∀ ob, RdRows (A.set o ob) nv (rowsV N)) (hN : N.length = n) (hin : ∀ r ∈ N, ∀ x ∈ r, 0 ≤ x ∧ x < n) (hr : ∀ r ∈ N, r.length < 2 ^ 40) (hn : n < 2 ^ 40) :
    ∀ (rest : List (List Int)) (i : Nat) (H : Heap) (vs : List V) (R : List (List Int)), N.drop i = rest → i ≤ n → L ≤ H.length → Ext (A.set o (.cells 0 vs)) H → getC H o 0 = some vs → Bag m H vs (rowsV R) → R.length = n → (∀ q ∈ R, q.length + sumLen rest ≤ 2 ^ 43) →
    ∃ H' vs', itW (evC call itW base s_gnomonref07_Back_l1) [] L (frOf 49 [(0, nv), (3, .sl o 0 0 n 1), (4, .s (.int .i64 i))]) H =
      some (.ext 0, frOf 49 [(0, nv), (3, .sl o 0 0 n 1), (4, .s (.int .i64 n)), (14, .s (.bool false))], H') ∧
      L ≤ H'.length ∧ Ext (A.set o (.cells 0 vs')) H' ∧ getC H' o 0 = some vs' ∧ Bag m H' vs' (rowsV (backFrom i rest R)) := by
  intro rest
  induction rest with
  | nil =>
    intro i H vs R hd hi hLH he hc hB hR hq
    have hin := drop_nil hd (by omega)
    rw [hN] at hin
    subst hin
    have hl := rows_len ((hnv _).ext he)
    rw [hN] at hl
    refine ⟨trim L (frOf 49 [(0, nv), (3, .sl o 0 0 i 1), (4, .s (.int .i64 i)), (14, .s (.bool false))]) H, vs, ?_, trim_le hLH, he.trim (by rw [List.length_set]; omega) _, trim_get hc (by omega), hB.trim hc (by omega) _⟩
    rw [itW_step]
    simp only [s_gnomonref07_Back_r0_tale,s_gnomonref07_Back_r0_kT,s_gnomonref07_Back_r0_kA0,s_gnomonref07_Back_r1p0_tale,s_gnomonref07_Back_r1_x,s_gnomonref07_Back_r1t1_x,s_gnomonref07_Back_r1t2_tale,s_gnomonref07_Back_r1t2_x,s_gnomonref07_Back_r2p0_tale,s_gnomonref07_Back_r2_x,s_gnomonref07_Back_r2t1_x,s_gnomonref07_Back_r2t2_tale,s_gnomonref07_Back_r2t2_x,s_gnomonref07_Back_r3_tale,s_gnomonref07_Back_r4_tale,s_gnomonref07_Back_r5_tale,s_gnomonref07_Back_r6_tale,s_gnomonref07_Back_r7,s_gnomonref07_Back_r7_x,s_gnomonref07_Back_r8_tale,s_gnomonref07_Back_l0_b,s_gnomonref07_Back_l0_ev,s_gnomonref07_Back_r9_tale,s_gnomonref07_Back_l1_b,s_gnomonref07_Back_l1_ev,s_gnomonref07_Back_r10_tale, evC_skip,evC_exit,evC_ret,evC_seq,evC_block,evC_cond,evC_loop,evC_row,thenC_nrm,thenC_ext,thenC_ret,thenC_none,thenC_cond,outC_nrm,outC_ret,outC_ext,outC_none,outC_cond,condC_bool,rowC_some,opsC_some,Bool.not_true,Bool.not_false,Bool.and_false,Bool.false_and,Bool.cond_self,taleR_true,setOuts_nil,setOuts_cons,outE_some,reqE_nil,reqE_cons,reqB_bool,List.all_cons,List.all_nil,Option.isSome_some,Bool.and_true,Bool.true_and,V1_some,V2_some,evE_t,evE_c,evE_pick,pickO_bool,pickO_true,pickO_false,evE_bin,evE_binL,evE_binR,evE_eqB,evE_eqBL,evE_eqBR,evE_eqAgg,evE_eqAggL,evE_eqAggR,evE_indexAddr,evE_indexAddrL,evE_indexAddrR,evE_indexStr,evE_indexStrL,evE_indexStrR,evE_minmax,evE_minmaxL,evE_minmaxR,evE_mapGet,evE_mapGetL,evE_mapGetR,evE_nilCheck,evE_eqNil,evE_un,evE_conv,evE_convId,evE_fieldAddr,evE_field,evE_extract,evE_lenS,evE_load,evE_build,evE_mkFn,evE_subStr,evE_subSl,evEs_nil,evEs_cons,L1_some,frOf_get,frOf_set,frOf_kill,getV_cons,getV_nil,putV_cons,putV_nil,killV_cons,killV_nil,startV_cons,bl,i64,Option.map_some,ne_eq,not_true_eq_false,not_false_eq_true,if_false,if_true,reduceIte,reduceCtorEq,Nat.reduceEqDiff,Nat.reduceLT,Nat.reduceLeDiff,Nat.reduceBEq,List.contains_cons,List.contains_nil,Bool.or_false,Bool.false_or,Bool.or_true,Bool.true_or,Bool.false_eq_true,decide_true,decide_false,Int.toNat_natCast,Int.natCast_nonneg,Bool.cond_true_left,Bool.cond_false_right,Bool.cond_false_left,Bool.cond_true_right,cond_true,cond_false,free_row,kept_row,stepW_nrm,stepW_ext,stepW_ret,stepW_cond,trim_self,retC_nrm,retC_ret,retC_cond,resultV1,resultV2,resV_tmp,resV_cell,Nat.reduceAdd,List.nil_append,List.append_nil,List.cons_append,evOps_nil,evOps_cons,evOps_guard,opK_bool,wantV_bool,wantV_und,resK_some,put_some,put_none,resK_cond,opsC_cond,ev_t,ev_c,List.map_cons,List.map_nil,beq_self_eq_true,beq_true,beq_false,op_bin,op_eqB,op_eqAgg,op_indexAddr,op_indexStr,op_minmax,op_nilCheck,op_eqNil,op_un,op_conv,op_convId,op_fieldAddr,op_field,op_extract,op_lenS,op_load,op_mapGet,op_move,op_alloc,op_box,op_mapNew,op_store,op_mkFn,op_append,op_call,op_callR,op_build,op_buildSl,mkSlV_some,RH_some,RS_some,evOp_pick,pickR_bool,pickR_same,bne_self_eq_false,Bool.bne_false,Bool.bne_true,xb_add,xb_sub,xb_mul,xb_eql,xb_neq,xb_lss,xb_leq,xb_gtr,xb_geq,xb_and,xb_or,xb_xor,xb_andNot,xb_quo,xb_rem,xb_shl,xb_shr,xs_eql,xs_neq,xs_lss,xs_add,xq_b,xn_pn,xn_pr,xn_pp,xn_sn,xn_ss,xn_sp,xn_se,xn_mn,xn_mm,xn_fn,xn_ff,xn_fy,xg,xu_not,xu_neg,xc_int,xc_id,xk_ref,xk_pref,xk_fn,xk_yld,xa_ref,xa_pref,xf_agg,xi_sl,xi_psl,xj_str,xe_tup,xl_str,xl_nil,xl_esl,xl_psl,xl_sl,xl_mnil,xo_ref,xo_pref,xm,shut_agg,shut_one,List.getElem?_cons_zero,List.getElem?_cons_succ,List.drop_zero,List.drop_succ_cons,List.take_succ_cons,List.take_zero,List.take_nil,List.drop_nil,List.length_cons,List.length_nil,Nat.le_refl,and_self,and_true,true_and,Nat.zero_add,Nat.mul_one,Nat.add_zero,set_set',bndV_none,bndV_int,xslice_nil,xslice_esl,xslice_psl,xslice_sl,cutSl_some,cutPsl_some,cutNil_some,op_subSl,xsub_sl,op_clear,Option.map_none,Int.sub_zero,Int.le_refl,List.getD_cons_zero,List.getD_cons_succ,cast0,toNat0,getC_snoc,obC_same,len_snoc,ne_add,add_ne,one_int,one_str,one_bool,one_nilS,one_ref,one_sl,one_psl,one_esl,one_mp,one_fn,cells_agg,cells_s,cells_sl,cells_psl,cells_ref,cells_esl,cells_mp,fillA_nil,fillA,List.length_set,List.set_cons_zero,List.set_cons_succ,splice,Nat.reduceMul,startA_nil,startA_cons,segC_some,segL_some,set_snoc',storeV_ref,Nat.add_assoc, hl, Int.lt_irrefl]
  | cons r rest ih =>
    intro i H vs R hd hi hLH he hc hB hR hq
    obtain ⟨hx, hlt, hd'⟩ := drop_cons hd
    rw [hN] at hlt
    have hmem : r ∈ N := List.mem_of_getElem? hx
    have hAH := he.le
    rw [List.length_set] at hAH
    have hl := rows_len ((hnv _).ext he)
    rw [hN] at hl
    have hs : sumLen (r :: rest) = r.length + sumLen rest := rfl
    obtain ⟨H1, vs1, p1, p2, p3, p4, p5⟩ := rback_inner call base i n o m H.length nv N r A hA ho hb (by omega) hnv hx (hin r hmem) (hr r hmem) hn r 0 H vs R rfl (Nat.zero_le _) (Nat.le_refl _) he hc hB hR (fun q hqm => by have := hq q hqm; omega)
    rw [cast0] at p1
    have hw := wrap_pos (n := i) (by omega)
    have hlt' : (i : Int) < (n : Int) := by omega
    obtain ⟨H', vs', q1, q2, q3, q4, q5⟩ := ih (i + 1) (trim L (frOf 49 [(0, nv), (3, .sl o 0 0 n 1), (4, .s (.int .i64 ((i + 1 : Nat) : Int)))]) H1) vs1 (r.foldl (bump i) R) hd' (by omega) (trim_le (by omega)) (p3.trim (by rw [List.length_set]; omega) _) (trim_get p4 (by omega)) (p5.trim p4 (by omega) _) (by rw [bumps_len]; exact hR) (fun q hqm => by
      have := bumps_le i r R (2 ^ 43 - sumLen rest) (fun x hx => by rw [hR]; exact hin r hmem x hx) (fun q hq1 => by have := hq q hq1; omega) q hqm
      have h0 : sumLen rest ≤ 2 ^ 43 := by
        match R, hR with
        | [], h => simp at h; omega
        | q0 :: _, _ => have := hq q0 List.mem_cons_self; omega
      omega)
    refine ⟨H', vs', ?_, q2, q3, q4, q5⟩
    rw [itW_step]
    simp only [s_gnomonref07_Back_r0_tale,s_gnomonref07_Back_r0_kT,s_gnomonref07_Back_r0_kA0,s_gnomonref07_Back_r1p0_tale,s_gnomonref07_Back_r1_x,s_gnomonref07_Back_r1t1_x,s_gnomonref07_Back_r1t2_tale,s_gnomonref07_Back_r1t2_x,s_gnomonref07_Back_r2p0_tale,s_gnomonref07_Back_r2_x,s_gnomonref07_Back_r2t1_x,s_gnomonref07_Back_r2t2_tale,s_gnomonref07_Back_r2t2_x,s_gnomonref07_Back_r3_tale,s_gnomonref07_Back_r4_tale,s_gnomonref07_Back_r5_tale,s_gnomonref07_Back_r6_tale,s_gnomonref07_Back_r7,s_gnomonref07_Back_r7_x,s_gnomonref07_Back_r8_tale,s_gnomonref07_Back_l0_b,s_gnomonref07_Back_l0_ev,s_gnomonref07_Back_r9_tale,s_gnomonref07_Back_l1_b,s_gnomonref07_Back_l1_ev,s_gnomonref07_Back_r10_tale, evC_skip,evC_exit,evC_ret,evC_seq,evC_block,evC_cond,evC_loop,evC_row,thenC_nrm,thenC_ext,thenC_ret,thenC_none,thenC_cond,outC_nrm,outC_ret,outC_ext,outC_none,outC_cond,condC_bool,rowC_some,opsC_some,Bool.not_true,Bool.not_false,Bool.and_false,Bool.false_and,Bool.cond_self,taleR_true,setOuts_nil,setOuts_cons,outE_some,reqE_nil,reqE_cons,reqB_bool,List.all_cons,List.all_nil,Option.isSome_some,Bool.and_true,Bool.true_and,V1_some,V2_some,evE_t,evE_c,evE_pick,pickO_bool,pickO_true,pickO_false,evE_bin,evE_binL,evE_binR,evE_eqB,evE_eqBL,evE_eqBR,evE_eqAgg,evE_eqAggL,evE_eqAggR,evE_indexAddr,evE_indexAddrL,evE_indexAddrR,evE_indexStr,evE_indexStrL,evE_indexStrR,evE_minmax,evE_minmaxL,evE_minmaxR,evE_mapGet,evE_mapGetL,evE_mapGetR,evE_nilCheck,evE_eqNil,evE_un,evE_conv,evE_convId,evE_fieldAddr,evE_field,evE_extract,evE_lenS,evE_load,evE_build,evE_mkFn,evE_subStr,evE_subSl,evEs_nil,evEs_cons,L1_some,frOf_get,frOf_set,frOf_kill,getV_cons,getV_nil,putV_cons,putV_nil,killV_cons,killV_nil,startV_cons,bl,i64,Option.map_some,ne_eq,not_true_eq_false,not_false_eq_true,if_false,if_true,reduceIte,reduceCtorEq,Nat.reduceEqDiff,Nat.reduceLT,Nat.reduceLeDiff,Nat.reduceBEq,List.contains_cons,List.contains_nil,Bool.or_false,Bool.false_or,Bool.or_true,Bool.true_or,Bool.false_eq_true,decide_true,decide_false,Int.toNat_natCast,Int.natCast_nonneg,Bool.cond_true_left,Bool.cond_false_right,Bool.cond_false_left,Bool.cond_true_right,cond_true,cond_false,free_row,kept_row,stepW_nrm,stepW_ext,stepW_ret,stepW_cond,trim_self,retC_nrm,retC_ret,retC_cond,resultV1,resultV2,resV_tmp,resV_cell,Nat.reduceAdd,List.nil_append,List.append_nil,List.cons_append,evOps_nil,evOps_cons,evOps_guard,opK_bool,wantV_bool,wantV_und,resK_some,put_some,put_none,resK_cond,opsC_cond,ev_t,ev_c,List.map_cons,List.map_nil,beq_self_eq_true,beq_true,beq_false,op_bin,op_eqB,op_eqAgg,op_indexAddr,op_indexStr,op_minmax,op_nilCheck,op_eqNil,op_un,op_conv,op_convId,op_fieldAddr,op_field,op_extract,op_lenS,op_load,op_mapGet,op_move,op_alloc,op_box,op_mapNew,op_store,op_mkFn,op_append,op_call,op_callR,op_build,op_buildSl,mkSlV_some,RH_some,RS_some,evOp_pick,pickR_bool,pickR_same,bne_self_eq_false,Bool.bne_false,Bool.bne_true,xb_add,xb_sub,xb_mul,xb_eql,xb_neq,xb_lss,xb_leq,xb_gtr,xb_geq,xb_and,xb_or,xb_xor,xb_andNot,xb_quo,xb_rem,xb_shl,xb_shr,xs_eql,xs_neq,xs_lss,xs_add,xq_b,xn_pn,xn_pr,xn_pp,xn_sn,xn_ss,xn_sp,xn_se,xn_mn,xn_mm,xn_fn,xn_ff,xn_fy,xg,xu_not,xu_neg,xc_int,xc_id,xk_ref,xk_pref,xk_fn,xk_yld,xa_ref,xa_pref,xf_agg,xi_sl,xi_psl,xj_str,xe_tup,xl_str,xl_nil,xl_esl,xl_psl,xl_sl,xl_mnil,xo_ref,xo_pref,xm,shut_agg,shut_one,List.getElem?_cons_zero,List.getElem?_cons_succ,List.drop_zero,List.drop_succ_cons,List.take_succ_cons,List.take_zero,List.take_nil,List.drop_nil,List.length_cons,List.length_nil,Nat.le_refl,and_self,and_true,true_and,Nat.zero_add,Nat.mul_one,Nat.add_zero,set_set',bndV_none,bndV_int,xslice_nil,xslice_esl,xslice_psl,xslice_sl,cutSl_some,cutPsl_some,cutNil_some,op_subSl,xsub_sl,op_clear,Option.map_none,Int.sub_zero,Int.le_refl,List.getD_cons_zero,List.getD_cons_succ,cast0,toNat0,getC_snoc,obC_same,len_snoc,ne_add,add_ne,one_int,one_str,one_bool,one_nilS,one_ref,one_sl,one_psl,one_esl,one_mp,one_fn,cells_agg,cells_s,cells_sl,cells_psl,cells_ref,cells_esl,cells_mp,fillA_nil,fillA,List.length_set,List.set_cons_zero,List.set_cons_succ,splice,Nat.reduceMul,startA_nil,startA_cons,segC_some,segL_some,set_snoc',storeV_ref,Nat.add_assoc, hlt', hw, hl, p1]
    exact q1
/-! ### The plain law: one form -/
def Up : List Int → Prop
  | [] => True
  | x :: r => (∀ y ∈ r, x < y) ∧ Up r
theorem up_eq : ∀ (a b : List Int), Up a → Up b → (∀ x, x ∈ a ↔ x ∈ b) → a = b := by
  intro a
  induction a with
  | nil => intro b _ _ h; cases b with
    | nil => rfl
    | cons y b => exact absurd ((h y).2 List.mem_cons_self) List.not_mem_nil
  | cons x a ih =>
    intro b ha hb h
    cases b with
    | nil => exact absurd ((h x).1 List.mem_cons_self) List.not_mem_nil
    | cons y b =>
      have hxy : x = y := by
        rcases List.mem_cons.1 ((h x).1 List.mem_cons_self) with e | e
        · exact e
        · rcases List.mem_cons.1 ((h y).2 List.mem_cons_self) with e2 | e2
          · exact e2.symm
          · have := hb.1 x e; have := ha.1 y e2; omega
      subst hxy
      rw [ih b ha.2 hb.2 fun z => ?_]
      constructor
      · intro hz
        have := ha.1 z hz
        rcases List.mem_cons.1 ((h z).1 (List.mem_cons_of_mem _ hz)) with e | e
        · omega
        · exact e
      · intro hz
        have := hb.1 z hz
        rcases List.mem_cons.1 ((h z).2 (List.mem_cons_of_mem _ hz)) with e | e
        · omega
        · exact e
theorem chg_up : ∀ (r : List Int) (p : Int), (p :: r).Pairwise (· ≤ ·) → Up (p :: chg p r) ∧ ∀ x, x ∈ (p :: chg p r) ↔ x ∈ (p :: r) := by
  intro r
  induction r with
  | nil => intro p _; exact ⟨⟨(fun y h => absurd h List.not_mem_nil), trivial⟩, fun _ => Iff.rfl⟩
  | cons y r ih =>
    intro p h
    rw [List.pairwise_cons] at h
    obtain ⟨q1, q2⟩ := ih y h.2
    simp only [chg]
    split
    · rename_i e
      have : y = p := beq_iff_eq.1 e
      subst this
      refine ⟨q1, fun x => ?_⟩
      rw [q2 x]
      simp
    · rename_i e
      have hne : y ≠ p := by intro e2; exact e (beq_iff_eq.2 e2)
      have hlt : p < y := by have := h.1 y List.mem_cons_self; omega
      refine ⟨⟨fun z hz => ?_, q1⟩, fun x => ?_⟩
      · rcases List.mem_cons.1 hz with rfl | hz
        · exact hlt
        · have := q1.1 z hz; omega
      · rw [List.mem_cons, q2 x, ← List.mem_cons]
theorem normR_up (n : Int) (r : List Int) : Up (normR n r) ∧ ∀ x, x ∈ normR n r ↔ x ∈ r ∧ outR n x = false := by
  have hs : (sortZ (r.filter fun k => !outR n k)).Pairwise (· ≤ ·) := by
    have := List.pairwise_mergeSort (le := fun x y : Int => decide (x ≤ y)) (by intro a b c; simp only [decide_eq_true_eq]; omega) (by intro a b; simp only [Bool.or_eq_true, decide_eq_true_eq]; omega) (r.filter fun k => !outR n k)
    simp only [decide_eq_true_eq] at this
    exact this
  have hm : ∀ x, x ∈ sortZ (r.filter fun k => !outR n k) ↔ x ∈ r ∧ outR n x = false := fun x => by
    rw [sortZ, List.mem_mergeSort, List.mem_filter]; simp
  simp only [normR]
  cases hz : sortZ (r.filter fun k => !outR n k) with
  | nil => rw [hz] at hm; exact ⟨trivial, hm⟩
  | cons p l =>
    rw [hz] at hm hs
    obtain ⟨q1, q2⟩ := chg_up l p hs
    exact ⟨q1, fun x => by rw [← hm x]; exact q2 x⟩
theorem up_append : ∀ (a b : List Int), Up a → Up b → (∀ x ∈ a, ∀ y ∈ b, x < y) → Up (a ++ b) := by
  intro a
  induction a with
  | nil => intro b _ hb _; exact hb
  | cons x a ih =>
    intro b ha hb h
    refine ⟨fun y hy => ?_, ih b ha.2 hb fun z hz => h z (List.mem_cons_of_mem _ hz)⟩
    rcases List.mem_append.1 hy with hy | hy
    · exact ha.1 y hy
    · exact h x List.mem_cons_self y hy
theorem up_split (y : Int) : ∀ (l : List Int), Up l → Up (l.takeWhile fun x => decide (x < y)) ∧ Up (l.dropWhile fun x => decide (x < y)) ∧ (∀ x ∈ l.takeWhile fun x => decide (x < y), x < y) ∧ (∀ x ∈ l.dropWhile fun x => decide (x < y), y ≤ x) := by
  intro l
  induction l with
  | nil => intro _; simp [Up]
  | cons x l ih =>
    intro h
    obtain ⟨i1, i2, i3, i4⟩ := ih h.2
    rw [List.takeWhile_cons, List.dropWhile_cons]
    by_cases hx : x < y
    · simp only [hx, decide_true, if_true]
      refine ⟨⟨fun z hz => h.1 z ((List.takeWhile_prefix _).subset hz), i1⟩, i2, fun z hz => ?_, i4⟩
      rcases List.mem_cons.1 hz with rfl | hz
      · exact hx
      · exact i3 z hz
    · simp only [hx, decide_false, Bool.false_eq_true, if_false]
      refine ⟨trivial, h, (fun z hz => absurd hz List.not_mem_nil), fun z hz => ?_⟩
      rcases List.mem_cons.1 hz with rfl | hz
      · omega
      · have := h.1 z hz; omega
theorem addZ_up (l : List Int) (y : Int) (h : Up l) (hy : 0 ≤ y) : Up (addZ l y) ∧ ∀ x, x ∈ addZ l y ↔ x ∈ l ∨ x = y := by
  have h0 : ¬ y < 0 := by omega
  simp only [addZ, h0, decide_false, Bool.false_or]
  cases hc : l.contains y with
  | true =>
    refine ⟨h, fun x => ⟨.inl, fun hx => ?_⟩⟩
    rcases hx with hx | rfl
    · exact hx
    · simpa using hc
  | false =>
    have hny : y ∉ l := by simpa using hc
    obtain ⟨i1, i2, i3, i4⟩ := up_split y l h
    simp only [cond_false]
    have hd : ∀ x ∈ l.dropWhile (fun x => decide (x < y)), y < x := fun x hx => by
      have h1 := i4 x hx
      have h2 : x ∈ l := (List.dropWhile_suffix _).subset hx
      have : x ≠ y := fun e => hny (e ▸ h2)
      omega
    refine ⟨up_append _ _ i1 ⟨hd, i2⟩ fun a ha b hb => ?_, fun x => ?_⟩
    · rcases List.mem_cons.1 hb with rfl | hb
      · exact i3 a ha
      · have := i3 a ha; have := hd b hb; omega
    · rw [List.mem_append, List.mem_cons]
      have hsp : x ∈ l ↔ x ∈ l.takeWhile (fun x => decide (x < y)) ∨ x ∈ l.dropWhile (fun x => decide (x < y)) := by rw [← List.mem_append, List.takeWhile_append_dropWhile]
      rw [hsp]
      constructor
      · rintro (h | rfl | h)
        · exact .inl (.inl h)
        · exact .inr rfl
        · exact .inl (.inr h)
      · rintro ((h | h) | rfl)
        · exact .inl h
        · exact .inr (.inr h)
        · exact .inr (.inl rfl)
theorem refR_up (n : Nat) : ∀ (r l : List Int), Up l → Up (refR n l r) ∧ ∀ x, x ∈ refR n l r ↔ x ∈ l ∨ (x ∈ r ∧ outR n x = false) := by
  intro r
  induction r with
  | nil => intro l h; exact ⟨h, fun x => by simp [refR]⟩
  | cons y r ih =>
    intro l h
    have ho : outR n y = !(decide (y ≥ 0) && decide (y < n)) := by
      simp only [outR, ge_iff_le, Bool.not_and]
      congr 1 <;> (rw [Bool.eq_iff_iff]; simp) <;> omega
    cases hc : decide (y ≥ 0) && decide (y < (n : Int)) with
    | true =>
      rw [hc] at ho
      have hy : 0 ≤ y := by simp at hc; exact hc.1
      obtain ⟨a1, a2⟩ := addZ_up l y h hy
      obtain ⟨q1, q2⟩ := ih (addZ l y) a1
      have he : refR n l (y :: r) = refR n (addZ l y) r := by simp only [refR, List.foldl_cons, hc, cond_true]
      rw [he]
      refine ⟨q1, fun x => ?_⟩
      rw [q2, a2, List.mem_cons]
      constructor
      · rintro ((h | rfl) | ⟨h1, h2⟩)
        · exact .inl h
        · exact .inr ⟨.inl rfl, ho⟩
        · exact .inr ⟨.inr h1, h2⟩
      · rintro (h | ⟨rfl | h1, h2⟩)
        · exact .inl (.inl h)
        · exact .inl (.inr rfl)
        · exact .inr ⟨h1, h2⟩
    | false =>
      rw [hc] at ho
      obtain ⟨q1, q2⟩ := ih l h
      have he : refR n l (y :: r) = refR n l r := by simp only [refR, List.foldl_cons, hc, cond_false]
      rw [he]
      refine ⟨q1, fun x => ?_⟩
      rw [q2, List.mem_cons]
      constructor
      · rintro (h | ⟨h1, h2⟩)
        · exact .inl h
        · exact .inr ⟨.inr h1, h2⟩
      · rintro (h | ⟨rfl | h1, h2⟩)
        · exact .inl h
        · rw [ho] at h2; cases h2
        · exact .inr ⟨h1, h2⟩
theorem norm_ref (n : Nat) (r : List Int) : normR n r = refR n [] r := by
  obtain ⟨a1, a2⟩ := normR_up n r
  obtain ⟨b1, b2⟩ := refR_up n r [] trivial
  refine up_eq _ _ a1 b1 fun x => ?_
  rw [a2, b2]; simp
theorem normG_ref (G : List (List Int)) : normG G = refN G := by
  simp only [normG, refN]
  exact List.map_congr_left fun r _ => norm_ref _ r
end Go.Proofs.Ytmnlagcmpgilaaa
