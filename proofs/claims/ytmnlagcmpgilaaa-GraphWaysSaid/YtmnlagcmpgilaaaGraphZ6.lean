/- The law GraphWays of the given program answers true for every graph, list and two numbers: where ways lead, and how a walk goes, is what the document says. No condition. -/
import Derived.Test.YtmnlagcmpgilaaaP0
import Derived.Test.YtmnlagcmpgilaaaP1
import Derived.Test.YtmnlagcmpgilaaaP2
import Derived.Test.YtmnlagcmpgilaaaP3
import Derived.Test.YtmnlagcmpgilaaaP4
import Derived.Test.YtmnlagcmpgilaaaP5
import Derived.Test.YtmnlagcmpgilaaaRows
import Derived.ProofKit
set_option linter.all false
set_option maxRecDepth 100000
namespace Go.Proofs.Ytmnlagcmpgilaaa
open Go.ChangeShapes Go.WideShapes Go.ChangeAt Go.RowKit Go.AM
theorem Try.own : ownKnob Try.prog.godebug = none := by kernel_rfl
theorem Try.laidOut : laidOutB Try.prog = true := by kernel_rfl
theorem mixed : Try.prog.follows .mixedOrders = true := by kernel_rfl
def CT : Nat → Option CFun
  | 4 => some (.code s_gnomonlaw07_GraphWays)
  | 9 => some (.code s_gnomonlaw07_great)
  | 10 => some (.prim (primC (bl true)))
  | 12 => some (.code s_graph_Norm)
  | 13 => some (.code s_graph_Back)
  | 15 => some (.code s_gnomonref07_Norm)
  | 17 => some (.code s_gnomonref07_Bools)
  | 18 => some (.code s_graph_Reach)
  | 19 => some (.code s_wref07_Reach)
  | 20 => some (.code s_graph_Leads)
  | 21 => some (.code s_gnomonref07_Leads)
  | 22 => some (.code s_gnomonref01_Same)
  | 23 => some (.code s_graph_Post)
  | 24 => some (.code s_wref07_Post)
  | 26 => some (.code s_slices_DeleteFunc_int_int)
  | 27 => some (.code s_slices_Clone_int_int)
  | 28 => some (.code s_graph_Norm_1)
  | 29 => some (.prim sortG)
  | 30 => some (.code s_slices_Compact_int_int)
  | 31 => some (.code s_gnomonref01_Add)
  | 32 => some (.code s_graph_Reach_1)
  | 33 => some (.code s_slices_IndexFunc_int_int)
  | 34 => some (.code s_graph_Post_1)
  | 35 => some (.code s_slices_Reverse_int_int)
  | 36 => some (.code s_gnomonref07_walk)
  | 39 => some (.code s_gnomonref01_Has)
  | _ => none
theorem sort_prim : FunOk Try.prog (fun n => n == 15) 29 (.prim sortG) :=
  sort_ok (Go.Proofs.enters_of Try.func29 (by kernel_rfl) rfl) (fun blk off cap zs w h1 h2 h3 => Try.slices_Sort_int blk off cap zs w h1 h2 h3) (fun p cap w => Try.slices_Sort_int_none p cap w)
theorem CT_ok : ∀ k c, CT k = some c → FunOk Try.prog (fun n => n == 15) k c := by
  intro k c h
  unfold CT at h
  split at h
  · cases h; exact funOk_of CV_4
  · cases h; exact funOk_of CV_9
  · cases h; exact prim_ok mixed CU_ok checks_true rfl
  · cases h; exact funOk_of CV_12
  · cases h; exact funOk_of CV_13
  · cases h; exact funOk_of CV_15
  · cases h; exact funOk_of CV_17
  · cases h; exact funOk_of CV_18
  · cases h; exact funOk_of CW_19
  · cases h; exact funOk_of CV_20
  · cases h; exact funOk_of CV_21
  · cases h; exact funOk_of CV_22
  · cases h; exact funOk_of CV_23
  · cases h; exact funOk_of CW_24
  · cases h; exact funOk_of CV_26
  · cases h; exact funOk_of CV_27
  · cases h; exact funOk_of CV_28
  · cases h; exact sort_prim
  · cases h; exact funOk_of CV_30
  · cases h; exact funOk_of CV_31
  · cases h; exact funOk_of CV_32
  · cases h; exact funOk_of CV_33
  · cases h; exact funOk_of CV_34
  · cases h; exact funOk_of CV_35
  · cases h; exact funOk_of CV_36
  · cases h; exact funOk_of CV_39
  · cases h
theorem law_true (v : V) (G : List (List Int)) (hv : ∀ H, RdRows H v (rowsV G)) (hvi : In1 v) (fv : V) (l : List Int) (hf : ∀ H, Rd H fv (l.map iV)) (hfw : Wide1 fv) (_ : l.length < 2 ^ 63) (a : Int) (_ : IntKind.i64.min ≤ a ∧ a ≤ IntKind.i64.max) (b : Int) (_ : IntKind.i64.min ≤ b ∧ b ≤ IntKind.i64.max) : ∃ m H', callN CT m (.fn 4 [] []) [v, fv, .s (.int .i64 a), .s (.int .i64 b)] 0 [] = some (bl true, H') := by
  obtain ⟨H', h⟩ := ways_law (CT := CT) ⟨rfl, rfl, rfl, rfl, rfl, rfl, rfl, rfl⟩ rfl rfl rfl rfl rfl rfl rfl rfl rfl rfl rfl rfl rfl rfl rfl rfl rfl rfl (fun base H => callW_eq rfl) 0 [] (Nat.le_refl _) v fv G l a b hv hvi hf hfw
  obtain ⟨m, hm⟩ := callW_ex h
  exact ⟨m, _, hm⟩
theorem f_lifted (os : Os) (started : os.Started) (H : Type) (enc : TypeId × Value → H) :
    ReturnsInHanded {} Try.checked os 4 .any (Rows.graphWaysSpec.pre6 enc Try.prog Try.f4 Rows.graphWaysRow.domain false) (Rows.graphWaysSpec.post enc Try.prog Try.f4 false true false false) := by
  refine returnsInHanded_of_change (C := Try.checked) Try.own started (by kernel_rfl) Try.func4
    (ChangeSpec.witness6 (enc := enc) (C := Try.checked) false ⟨#[], #[.slice none 0 0, .slice none 0 0, .int .i64 0, .int .i64 0], []⟩ 8 (by kernel_rfl) (by kernel_rfl) (by kernel_rfl) (by kernel_rfl)) ?_
  intro W base args ds gs before hval0 hW hcnd _
  have hval : ∀ (j : Nat) t v, Try.f4.params[j]? = some t → args[j]? = some v → Value.okWide Try.prog W .any base t v := hval0
  have hW' := hW
  obtain ⟨p, q, hA0, hV, rfl, hfz, hnd⟩ := hW'
  have hA : DataW.TrodAll enc Try.prog W 0 (fun _ => true) true Try.f4.params.toList args.toList ds p := hA0
  rw [Try.params4] at hA hval
  obtain ⟨v0, vs0, d0, ds0, p0, q0, ea0, ed0, ep0, h0, hA0⟩ := trodAll_cons hA
  obtain ⟨v1, vs1, d1, ds1, p1, q1, ea1, ed1, ep1, h1, hA1⟩ := trodAll_cons hA0
  obtain ⟨v2, vs2, d2, ds2, p2, q2, ea2, ed2, ep2, h2, hA2⟩ := trodAll_cons hA1
  obtain ⟨v3, vs3, d3, ds3, p3, q3, ea3, ed3, ep3, h3, hA3⟩ := trodAll_cons hA2
  obtain ⟨en, _, _⟩ := trodAll_nil hA3
  have ha : args = #[v0, v1, v2, v3] := by
    apply Array.ext'
    rw [ea0, ea1, ea2, ea3,  en]
  have hok0 := hval 0 22 v0 (by simp) (by rw [ha]; rfl)
  have hc0 : v0.cells.toList = [v0] := by
    unfold Value.okWide at hok0
    rw [Try.underlying22] at hok0
    cases v0 <;> first | rfl | exact False.elim hok0
  obtain ⟨us0, hvs0, hvr0⟩ := read_arg (ty := tGraph) (n := 20) (by kernel_rfl) hc0 h0
  obtain ⟨u0, he0, G0, hG0⟩ := graph_of hvs0
  have hok1 := hval 1 28 v1 (by simp) (by rw [ha]; rfl)
  have hc1 : v1.cells.toList = [v1] := by
    unfold Value.okWide at hok1
    rw [Try.underlying28] at hok1
    cases v1 <;> first | rfl | exact False.elim hok1
  obtain ⟨us1, hvs1, hvr1⟩ := read_arg (ty := (.sl (.int .i64))) (n := 20) (by kernel_rfl) hc1 h1
  obtain ⟨u1, he1, l1, hl1, hw1, hn1⟩ := row_of hvs1
  have hok2 := hval 2 3 v2 (by simp) (by rw [ha]; rfl)
  have hc2 : v2.cells.toList = [v2] := by
    unfold Value.okWide at hok2
    rw [Try.underlying3] at hok2
    cases v2 <;> first | rfl | exact False.elim hok2
  obtain ⟨us2, hvs2, hvr2⟩ := read_arg (ty := (.int .i64)) (n := 20) (by kernel_rfl) hc2 h2
  obtain ⟨z2, he2, hz2⟩ := hvs2
  have hok3 := hval 3 3 v3 (by simp) (by rw [ha]; rfl)
  have hc3 : v3.cells.toList = [v3] := by
    unfold Value.okWide at hok3
    rw [Try.underlying3] at hok3
    cases v3 <;> first | rfl | exact False.elim hok3
  obtain ⟨us3, hvs3, hvr3⟩ := read_arg (ty := (.int .i64)) (n := 20) (by kernel_rfl) hc3 h3
  obtain ⟨z3, he3, hz3⟩ := hvs3
  refine law_contract (CP := CT) (pure' := fun n => n == 15) mixed CT_ok Try.laidOut (by kernel_rfl) (by kernel_rfl) (tb := 4) rfl (by kernel_rfl) Try.underlying4 (fun t ht => ?_) (fun ds hl => ?_) hW ⟨[u0, u1, .s (.int .i64 z2), .s (.int .i64 z3)], ?_, law_true u0 G0 hG0 (in1_of hvs0 he0) u1 l1 hl1 hw1 hn1 z2 hz2 z3 hz3⟩
  · rw [Try.params4] at ht
    have : t ∈ [22, 28, 3, 3] := ht
    simp only [List.mem_cons, List.not_mem_nil, or_false] at this
    rcases this with rfl | rfl | rfl | rfl <;> exact of_decide_eq_true (by kernel_rfl)
  · rw [Try.params4] at hl
    match ds, hl with
    | [e0, e1, e2, e3], _ => rfl
  · rw [ha]
    subst he0 he1 he2 he3
    exact VRs.cons hvr0 (VRs.cons hvr1 (VRs.cons hvr2 (VRs.cons hvr3 (VRs.nil))))
theorem ways_holds : Rows.GraphWaysSaid :=
  OpenClaim.holds_of_wide 4 Try.f4 rfl rfl rfl rfl rfl rfl rfl ⟨rfl, rfl, rfl, rfl, rfl⟩ rfl rfl rfl rfl rfl (by kernel_rfl) Try.func4 (by kernel_rfl)
    (of_decide_eq_true (by kernel_rfl)) (by unfold Func.isWrapper; first | (rw [if_pos (by decide +kernel)]; kernel_rfl) | (rw [if_neg (by decide +kernel)]; exact ⟨rfl, rfl⟩))
    (fun os started H enc _ => f_lifted os started H enc)
end Go.Proofs.Ytmnlagcmpgilaaa
