/- The law GraphBack of the given program answers true for every graph: turned round twice a graph is itself, in form; ways lead back. No condition. -/
import Derived.Test.YtmnlagcmpgilaaaP0
import Derived.Test.YtmnlagcmpgilaaaP1
import Derived.Test.YtmnlagcmpgilaaaP2
import Derived.Test.YtmnlagcmpgilaaaP3
import Derived.Test.YtmnlagcmpgilaaaP4
import Derived.Test.YtmnlagcmpgilaaaRows
import Derived.ProofKit
set_option linter.all false
set_option maxRecDepth 100000
namespace Go.Proofs.Ytmnlagcmpgilaaa
open Go.ChangeShapes Go.WideShapes Go.ChangeAt Go.RowKit Go.AM
theorem Try.own : ownKnob Try.prog.godebug = none := by kernel_rfl
theorem Try.laidOut : laidOutB Try.prog = true := by kernel_rfl
theorem mixed : Try.prog.follows .mixedOrders = true := by kernel_rfl
def CT : Nat → Option CFun
  | 5 => some (.code s_gnomonlaw07_GraphBack)
  | 9 => some (.code s_gnomonlaw07_great)
  | 10 => some (.prim (primC (bl true)))
  | 12 => some (.code s_graph_Norm)
  | 13 => some (.code s_graph_Back)
  | 18 => some (.code s_graph_Reach)
  | 20 => some (.code s_graph_Leads)
  | 22 => some (.code s_gnomonref01_Same)
  | 26 => some (.code s_slices_DeleteFunc_int_int)
  | 27 => some (.code s_slices_Clone_int_int)
  | 28 => some (.code s_graph_Norm_1)
  | 29 => some (.prim sortG)
  | 30 => some (.code s_slices_Compact_int_int)
  | 32 => some (.code s_graph_Reach_1)
  | 33 => some (.code s_slices_IndexFunc_int_int)
  | _ => none
theorem sort_prim : FunOk Try.prog (fun _ => false) 29 (.prim sortG) :=
  sort_ok (Go.Proofs.enters_of Try.func29 (by kernel_rfl) rfl) (fun blk off cap zs w h1 h2 h3 => Try.slices_Sort_int blk off cap zs w h1 h2 h3) (fun p cap w => Try.slices_Sort_int_none p cap w)
theorem CT_ok : ∀ k c, CT k = some c → FunOk Try.prog (fun _ => false) k c := by
  intro k c h
  unfold CT at h
  split at h
  · cases h; exact funOk_of CS1_5
  · cases h; exact funOk_of CS0_9
  · cases h; exact prim_ok mixed CQ_ok checks_true rfl
  · cases h; exact funOk_of CS0_12
  · cases h; exact funOk_of CS0_13
  · cases h; exact funOk_of CS1_18
  · cases h; exact funOk_of CS1_20
  · cases h; exact funOk_of CS0_22
  · cases h; exact funOk_of CS0_26
  · cases h; exact funOk_of CS0_27
  · cases h; exact funOk_of CS0_28
  · cases h; exact sort_prim
  · cases h; exact funOk_of CS0_30
  · cases h; exact funOk_of CS1_32
  · cases h; exact funOk_of CS0_33
  · cases h
theorem law_true (v : V) (G : List (List Int)) (hv : ∀ H, RdRows H v (rowsV G)) : ∃ m H', callN CT m (.fn 5 [] []) [v] 0 [] = some (bl true, H') := by
  obtain ⟨H', h⟩ := back_law (CT := CT) ⟨rfl, rfl, rfl, rfl, rfl, rfl, rfl, rfl⟩ rfl rfl rfl rfl rfl rfl (fun base H => callW_eq rfl) 0 [] (Nat.le_refl _) v G (hv _)
  obtain ⟨m, hm⟩ := callW_ex h
  exact ⟨m, _, hm⟩
theorem f_lifted (os : Os) (started : os.Started) (H : Type) (enc : TypeId × Value → H) :
    ReturnsInHanded {} Try.checked os 5 .any (Rows.graphBackSpec.pre6 enc Try.prog Try.f5 Rows.graphBackRow.domain false) (Rows.graphBackSpec.post enc Try.prog Try.f5 false true false false) := by
  refine returnsInHanded_of_change (C := Try.checked) Try.own started (by kernel_rfl) Try.func5
    (ChangeSpec.witness6 (enc := enc) (C := Try.checked) false ⟨#[], #[.slice none 0 0], []⟩ 8 (by kernel_rfl) (by kernel_rfl) (by kernel_rfl) (by kernel_rfl)) ?_
  intro W base args ds gs before hval0 hW hcnd _
  have hval : ∀ (j : Nat) t v, Try.f5.params[j]? = some t → args[j]? = some v → Value.okWide Try.prog W .any base t v := hval0
  have hW' := hW
  obtain ⟨p, q, hA0, hV, rfl, hfz, hnd⟩ := hW'
  have hA : DataW.TrodAll enc Try.prog W 0 (fun _ => true) true Try.f5.params.toList args.toList ds p := hA0
  rw [Try.params5] at hA hval
  obtain ⟨v0, vs0, d0, ds0, p0, q0, ea0, ed0, ep0, h0, hA0⟩ := trodAll_cons hA
  obtain ⟨en, _, _⟩ := trodAll_nil hA0
  have ha : args = #[v0] := by
    apply Array.ext'
    rw [ea0,  en]
  have hok0 := hval 0 22 v0 (by simp) (by rw [ha]; rfl)
  have hc0 : v0.cells.toList = [v0] := by
    unfold Value.okWide at hok0
    rw [Try.underlying22] at hok0
    cases v0 <;> first | rfl | exact False.elim hok0
  obtain ⟨us0, hvs0, hvr0⟩ := read_arg (ty := tGraph) (n := 20) (by kernel_rfl) hc0 h0
  obtain ⟨u0, he0, G0, hG0⟩ := graph_of hvs0
  refine law_contract (CP := CT) (pure' := fun _ => false) mixed CT_ok Try.laidOut (by kernel_rfl) (by kernel_rfl) (tb := 4) rfl (by kernel_rfl) Try.underlying4 (fun t ht => ?_) (fun ds hl => ?_) hW ⟨[u0], ?_, law_true u0 G0 hG0⟩
  · rw [Try.params5] at ht
    have : t ∈ [22] := ht
    simp only [List.mem_cons, List.not_mem_nil, or_false] at this
    rcases this with rfl <;> exact of_decide_eq_true (by kernel_rfl)
  · rw [Try.params5] at hl
    match ds, hl with
    | [e0], _ => rfl
  · rw [ha]
    subst he0
    exact VRs.cons hvr0 (VRs.nil)
theorem back_holds : Rows.GraphBackSaid :=
  OpenClaim.holds_of_wide 5 Try.f5 rfl rfl rfl rfl rfl rfl rfl ⟨rfl, rfl, rfl, rfl, rfl⟩ rfl rfl rfl rfl rfl (by kernel_rfl) Try.func5 (by kernel_rfl)
    (of_decide_eq_true (by kernel_rfl)) (by unfold Func.isWrapper; first | (rw [if_pos (by decide +kernel)]; kernel_rfl) | (rw [if_neg (by decide +kernel)]; exact ⟨rfl, rfl⟩))
    (fun os started H enc _ => f_lifted os started H enc)
end Go.Proofs.Ytmnlagcmpgilaaa
