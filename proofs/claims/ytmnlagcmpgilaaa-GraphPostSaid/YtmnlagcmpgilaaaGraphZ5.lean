/- The law GraphPost of the given program answers true for every graph and every number: a walk's order is one in which edges go on, but for circles. No condition. -/
import Derived.Test.YtmnlagcmpgilaaaP0
import Derived.Test.YtmnlagcmpgilaaaP1
import Derived.Test.YtmnlagcmpgilaaaP2
import Derived.Test.YtmnlagcmpgilaaaP3
import Derived.Test.YtmnlagcmpgilaaaP4
import Derived.Test.YtmnlagcmpgilaaaP5
import Derived.Test.YtmnlagcmpgilaaaRows
import Derived.ProofKit
set_option linter.all false
set_option maxRecDepth 100000
namespace Go.Proofs.Ytmnlagcmpgilaaa
open Go.ChangeShapes Go.WideShapes Go.ChangeAt Go.RowKit Go.AM
theorem Try.own : ownKnob Try.prog.godebug = none := by kernel_rfl
theorem Try.laidOut : laidOutB Try.prog = true := by kernel_rfl
theorem mixed : Try.prog.follows .mixedOrders = true := by kernel_rfl
def CT : Nat → Option CFun
  | 6 => some (.code s_gnomonlaw07_GraphPost)
  | 9 => some (.code s_gnomonlaw07_great)
  | 10 => some (.prim (primC (bl true)))
  | 12 => some (.code s_graph_Norm)
  | 13 => some (.code s_graph_Back)
  | 18 => some (.code s_graph_Reach)
  | 20 => some (.code s_graph_Leads)
  | 23 => some (.code s_graph_Post)
  | 26 => some (.code s_slices_DeleteFunc_int_int)
  | 27 => some (.code s_slices_Clone_int_int)
  | 28 => some (.code s_graph_Norm_1)
  | 29 => some (.prim sortG)
  | 30 => some (.code s_slices_Compact_int_int)
  | 32 => some (.code s_graph_Reach_1)
  | 33 => some (.code s_slices_IndexFunc_int_int)
  | 34 => some (.code s_graph_Post_1)
  | 35 => some (.code s_slices_Reverse_int_int)
  | _ => none
theorem sort_prim : FunOk Try.prog (fun _ => false) 29 (.prim sortG) :=
  sort_ok (Go.Proofs.enters_of Try.func29 (by kernel_rfl) rfl) (fun blk off cap zs w h1 h2 h3 => Try.slices_Sort_int blk off cap zs w h1 h2 h3) (fun p cap w => Try.slices_Sort_int_none p cap w)
theorem CT_ok : ∀ k c, CT k = some c → FunOk Try.prog (fun _ => false) k c := by
  intro k c h
  unfold CT at h
  split at h
  · cases h; exact funOk_of CS2_6
  · cases h; exact funOk_of CS0_9
  · cases h; exact prim_ok mixed CQ_ok checks_true rfl
  · cases h; exact funOk_of CS0_12
  · cases h; exact funOk_of CS0_13
  · cases h; exact funOk_of CS1_18
  · cases h; exact funOk_of CS1_20
  · cases h; exact funOk_of CS2_23
  · cases h; exact funOk_of CS0_26
  · cases h; exact funOk_of CS0_27
  · cases h; exact funOk_of CS0_28
  · cases h; exact sort_prim
  · cases h; exact funOk_of CS0_30
  · cases h; exact funOk_of CS1_32
  · cases h; exact funOk_of CS0_33
  · cases h; exact funOk_of CS2_34
  · cases h; exact funOk_of CS2_35
  · cases h
theorem law_true (v : V) (G : List (List Int)) (hv : ∀ H, RdRows H v (rowsV G)) (q : Int) (_ : IntKind.i64.min ≤ q ∧ q ≤ IntKind.i64.max) : ∃ m H', callN CT m (.fn 6 [] []) [v, .s (.int .i64 q)] 0 [] = some (bl true, H') := by
  obtain ⟨H', h⟩ := post_law (CT := CT) ⟨rfl, rfl, rfl, rfl, rfl, rfl, rfl, rfl⟩ rfl rfl rfl rfl rfl rfl rfl rfl rfl (fun base H => callW_eq rfl) 0 [] (Nat.le_refl _) v G q (hv _)
  obtain ⟨m, hm⟩ := callW_ex h
  exact ⟨m, _, hm⟩
theorem f_lifted (os : Os) (started : os.Started) (H : Type) (enc : TypeId × Value → H) :
    ReturnsInHanded {} Try.checked os 6 .any (Rows.graphPostSpec.pre6 enc Try.prog Try.f6 Rows.graphPostRow.domain false) (Rows.graphPostSpec.post enc Try.prog Try.f6 false true false false) := by
  refine returnsInHanded_of_change (C := Try.checked) Try.own started (by kernel_rfl) Try.func6
    (ChangeSpec.witness6 (enc := enc) (C := Try.checked) false ⟨#[], #[.slice none 0 0, .int .i64 0], []⟩ 8 (by kernel_rfl) (by kernel_rfl) (by kernel_rfl) (by kernel_rfl)) ?_
  intro W base args ds gs before hval0 hW hcnd _
  have hval : ∀ (j : Nat) t v, Try.f6.params[j]? = some t → args[j]? = some v → Value.okWide Try.prog W .any base t v := hval0
  have hW' := hW
  obtain ⟨p, q, hA0, hV, rfl, hfz, hnd⟩ := hW'
  have hA : DataW.TrodAll enc Try.prog W 0 (fun _ => true) true Try.f6.params.toList args.toList ds p := hA0
  rw [Try.params6] at hA hval
  obtain ⟨v0, vs0, d0, ds0, p0, q0, ea0, ed0, ep0, h0, hA0⟩ := trodAll_cons hA
  obtain ⟨v1, vs1, d1, ds1, p1, q1, ea1, ed1, ep1, h1, hA1⟩ := trodAll_cons hA0
  obtain ⟨en, _, _⟩ := trodAll_nil hA1
  have ha : args = #[v0, v1] := by
    apply Array.ext'
    rw [ea0, ea1,  en]
  have hok0 := hval 0 22 v0 (by simp) (by rw [ha]; rfl)
  have hc0 : v0.cells.toList = [v0] := by
    unfold Value.okWide at hok0
    rw [Try.underlying22] at hok0
    cases v0 <;> first | rfl | exact False.elim hok0
  obtain ⟨us0, hvs0, hvr0⟩ := read_arg (ty := tGraph) (n := 20) (by kernel_rfl) hc0 h0
  obtain ⟨u0, he0, G0, hG0⟩ := graph_of hvs0
  have hok1 := hval 1 3 v1 (by simp) (by rw [ha]; rfl)
  have hc1 : v1.cells.toList = [v1] := by
    unfold Value.okWide at hok1
    rw [Try.underlying3] at hok1
    cases v1 <;> first | rfl | exact False.elim hok1
  obtain ⟨us1, hvs1, hvr1⟩ := read_arg (ty := (.int .i64)) (n := 20) (by kernel_rfl) hc1 h1
  obtain ⟨z1, he1, hz1⟩ := hvs1
  refine law_contract (CP := CT) (pure' := fun _ => false) mixed CT_ok Try.laidOut (by kernel_rfl) (by kernel_rfl) (tb := 4) rfl (by kernel_rfl) Try.underlying4 (fun t ht => ?_) (fun ds hl => ?_) hW ⟨[u0, .s (.int .i64 z1)], ?_, law_true u0 G0 hG0 z1 hz1⟩
  · rw [Try.params6] at ht
    have : t ∈ [22, 3] := ht
    simp only [List.mem_cons, List.not_mem_nil, or_false] at this
    rcases this with rfl | rfl <;> exact of_decide_eq_true (by kernel_rfl)
  · rw [Try.params6] at hl
    match ds, hl with
    | [e0, e1], _ => rfl
  · rw [ha]
    subst he0 he1
    exact VRs.cons hvr0 (VRs.cons hvr1 (VRs.nil))
theorem post_holds : Rows.GraphPostSaid :=
  OpenClaim.holds_of_wide 6 Try.f6 rfl rfl rfl rfl rfl rfl rfl ⟨rfl, rfl, rfl, rfl, rfl⟩ rfl rfl rfl rfl rfl (by kernel_rfl) Try.func6 (by kernel_rfl)
    (of_decide_eq_true (by kernel_rfl)) (by unfold Func.isWrapper; first | (rw [if_pos (by decide +kernel)]; kernel_rfl) | (rw [if_neg (by decide +kernel)]; exact ⟨rfl, rfl⟩))
    (fun os started H enc _ => f_lifted os started H enc)
end Go.Proofs.Ytmnlagcmpgilaaa
