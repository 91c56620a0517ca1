/- The law GraphForms of the given program answers true for every graph: a graph in form, and turned round, is the document's; what is handed in stays. No condition. -/
import Derived.Test.YtmnlagcmpgilaaaGraphF14
import Derived.Test.YtmnlagcmpgilaaaGraphC
import Derived.Test.YtmnlagcmpgilaaaGraphSh
import Derived.Test.YtmnlagcmpgilaaaAmR
import Derived.Test.YtmnlagcmpgilaaaRows
import Derived.ProofKit
set_option linter.all false
set_option maxRecDepth 100000
namespace Go.Proofs.Ytmnlagcmpgilaaa
open Go.ChangeShapes Go.WideShapes Go.ChangeAt Go.RowKit Go.AM
theorem Try.own : ownKnob Try.prog.godebug = none := by kernel_rfl
theorem Try.laidOut : laidOutB Try.prog = true := by kernel_rfl
def CT : Nat → Option CFun
  | 3 => some (.code s_gnomonlaw07_GraphForms)
  | 9 => some (.code s_gnomonlaw07_great)
  | 10 => some (.prim (primC (bl true)))
  | 11 => some (.code s_gnomonlaw07_own)
  | 12 => some (.code s_graph_Norm)
  | 13 => some (.code s_graph_Back)
  | 14 => some (.code s_gnomonref07_Same)
  | 15 => some (.code s_gnomonref07_Norm)
  | 16 => some (.code s_gnomonref07_Back)
  | 22 => some (.code s_gnomonref01_Same)
  | 26 => some (.code s_slices_DeleteFunc_int_int)
  | 27 => some (.code s_slices_Clone_int_int)
  | 28 => some (.code s_graph_Norm_1)
  | 29 => some (.prim sortG)
  | 30 => some (.code s_slices_Compact_int_int)
  | 31 => some (.code s_gnomonref01_Add)
  | 33 => some (.code s_slices_IndexFunc_int_int)
  | 39 => some (.code s_gnomonref01_Has)
  | _ => none
theorem mixed : Try.prog.follows .mixedOrders = true := by kernel_rfl
theorem sort_prim : FunOk Try.prog (fun _ => false) 29 (.prim sortG) :=
  sort_ok (Go.Proofs.enters_of Try.func29 (by kernel_rfl) rfl) (fun blk off cap zs w h1 h2 h3 => Try.slices_Sort_int blk off cap zs w h1 h2 h3) (fun p cap w => Try.slices_Sort_int_none p cap w)
theorem CT_ok : ∀ k c, CT k = some c → FunOk Try.prog (fun _ => false) k c := by
  intro k c h
  unfold CT at h
  split at h
  · cases h; exact funOk_of CS0_3
  · cases h; exact funOk_of CS0_9
  · cases h; exact prim_ok mixed CQ_ok checks_true rfl
  · cases h; exact funOk_of CS0_11
  · cases h; exact funOk_of CS0_12
  · cases h; exact funOk_of CS0_13
  · cases h; exact funOk_of CS0_14
  · cases h; exact funOk_of CS0_15
  · cases h; exact funOk_of CS0_16
  · cases h; exact funOk_of CS0_22
  · cases h; exact funOk_of CS0_26
  · cases h; exact funOk_of CS0_27
  · cases h; exact funOk_of CS0_28
  · cases h; exact sort_prim
  · cases h; exact funOk_of CS0_30
  · cases h; exact funOk_of CS0_31
  · cases h; exact funOk_of CS0_33
  · cases h; exact funOk_of CS0_39
  · cases h
theorem law_true (v : V) (G : List (List Int)) (hv : ∀ H, RdRows H v (rowsV G)) : ∃ m H', callN CT m (.fn 3 [] []) [v] 0 [] = some (bl true, H') := by
  obtain ⟨H', h⟩ := forms_law (CT := CT) ⟨rfl, rfl, rfl, rfl, rfl, rfl, rfl, rfl⟩ rfl rfl rfl rfl rfl rfl rfl rfl rfl (fun base H => callW_eq rfl) 0 [] (Nat.le_refl _) v G (hv _)
  obtain ⟨m, hm⟩ := callW_ex h
  exact ⟨m, _, hm⟩
/-- the type [][]int -/
def tGraph : Ty := .sl (.sl (.int .i64))
theorem ints_of : ∀ es : List (List V), (∀ x ∈ es, IsV (.int .i64) x) → ∃ l : List Int, es = (l.map iV).map fun x => [x] := by
  intro es
  induction es with
  | nil => intro _; exact ⟨[], rfl⟩
  | cons e es ih =>
    intro h
    obtain ⟨n, rfl, _⟩ := h e List.mem_cons_self
    obtain ⟨l, rfl⟩ := ih fun x hx => h x (List.mem_cons_of_mem _ hx)
    exact ⟨n :: l, rfl⟩
theorem one_wide (l : List V) : Wide1 (.psl (l.map fun x => [x]) 1) := by
  intro e he
  rw [List.mem_map] at he
  obtain ⟨x, _, rfl⟩ := he
  rfl
theorem row_of {v : List V} (h : IsV (.sl (.int .i64)) v) : ∃ u, v = [u] ∧ ∃ l : List Int, (∀ H, Rd H u (l.map iV)) ∧ Wide1 u ∧ l.length < 2 ^ 63 := by
  rcases h with rfl | ⟨es, rfl, hl, he⟩
  · exact ⟨nilS, rfl, [], fun H => Rd.nil H, trivial, by decide⟩
  · obtain ⟨l, rfl⟩ := ints_of es he
    refine ⟨_, rfl, l, fun H => Rd.psl H _, one_wide _, ?_⟩
    simp only [List.length_map, maxLen] at hl
    omega
theorem graph_of {v : List V} (h : IsV tGraph v) : ∃ u, v = [u] ∧ ∃ G : List (List Int), ∀ H, RdRows H u (rowsV G) := by
  rcases h with rfl | ⟨es, rfl, hl, he⟩
  · exact ⟨nilS, rfl, [], fun H => ⟨[], Rd.nil H, trivial, rfl, fun i r hr => by simp [rowsV] at hr⟩⟩
  · have : ∀ es : List (List V), (∀ x ∈ es, IsV (.sl (.int .i64)) x) → ∃ (us : List V) (G : List (List Int)), es = (us.map fun x => [x]) ∧ us.length = G.length ∧ ∀ (i : Nat) (r : List Int), G[i]? = some r → ∃ x, us[i]? = some x ∧ (∀ H, Rd H x (r.map iV)) ∧ Wide1 x := by
      intro es
      induction es with
      | nil => intro _; exact ⟨[], [], rfl, rfl, fun i r hr => by simp at hr⟩
      | cons e es ih =>
        intro h
        obtain ⟨u, rfl, l, q1, q2, _⟩ := row_of (h e List.mem_cons_self)
        obtain ⟨us, G, rfl, h1, h2⟩ := ih fun x hx => h x (List.mem_cons_of_mem _ hx)
        refine ⟨u :: us, l :: G, rfl, by simp [h1], fun i r hr => ?_⟩
        cases i with
        | zero => cases hr; exact ⟨u, rfl, q1, q2⟩
        | succ i => exact h2 i r hr
    obtain ⟨us, G, rfl, h1, h2⟩ := this es he
    refine ⟨_, rfl, G, fun H => ⟨us, Rd.psl H us, one_wide us, by rw [rowsV_len]; exact h1, fun i r hr => ?_⟩⟩
    rw [rowsV, List.getElem?_map, Option.map_eq_some_iff] at hr
    obtain ⟨g, hg, rfl⟩ := hr
    obtain ⟨x, q1, q2, q3⟩ := h2 i g hg
    exact ⟨x, q1, q2 H, q3⟩
theorem f_lifted (os : Os) (started : os.Started) (H : Type) (enc : TypeId × Value → H) :
    ReturnsInHanded {} Try.checked os 3 .any (Rows.graphFormsSpec.pre6 enc Try.prog Try.f3 Rows.graphFormsRow.domain false) (Rows.graphFormsSpec.post enc Try.prog Try.f3 false true false false) := by
  refine returnsInHanded_of_change (C := Try.checked) Try.own started (by kernel_rfl) Try.func3
    (ChangeSpec.witness6 (enc := enc) (C := Try.checked) false ⟨#[], #[.slice none 0 0], []⟩ 8 (by kernel_rfl) (by kernel_rfl) (by kernel_rfl) (by kernel_rfl)) ?_
  intro W base args ds gs before hval0 hW hcnd _
  have hval : ∀ (j : Nat) t v, Try.f3.params[j]? = some t → args[j]? = some v → Value.okWide Try.prog W .any base t v := hval0
  have hW' := hW
  obtain ⟨p, q, hA0, hV, rfl, hfz, hnd⟩ := hW'
  have hA : DataW.TrodAll enc Try.prog W 0 (fun _ => true) true Try.f3.params.toList args.toList ds p := hA0
  rw [Try.params3] at hA hval
  obtain ⟨v0, d0, ha, _, h0⟩ := trodAll_one hA
  have hok := hval 0 22 v0 (by simp) (by rw [ha]; rfl)
  have hc : v0.cells.toList = [v0] := by
    unfold Value.okWide at hok
    rw [Try.underlying22] at hok
    cases v0 <;> first | rfl | exact False.elim hok
  obtain ⟨vs, hvs, hvr⟩ := read_arg (ty := tGraph) (n := 20) (by kernel_rfl) hc h0
  obtain ⟨u, he, G, hG⟩ := graph_of hvs
  refine law_contract (CP := CT) (pure' := fun _ => false) mixed CT_ok Try.laidOut (by kernel_rfl) (by kernel_rfl) (tb := 4) rfl (by kernel_rfl) Try.underlying4 (fun t ht => ?_) (fun ds hl => ?_) hW ⟨[u], ?_, law_true u G hG⟩
  · rw [Try.params3] at ht
    obtain rfl : t = 22 := by simpa using ht
    exact of_decide_eq_true (by kernel_rfl)
  · rw [Try.params3] at hl
    match ds, hl with
    | [d], _ => rfl
  · rw [ha]
    subst he
    exact VRs.cons hvr VRs.nil
theorem forms_holds : Rows.GraphFormsSaid :=
  OpenClaim.holds_of_wide 3 Try.f3 rfl rfl rfl rfl rfl rfl rfl ⟨rfl, rfl, rfl, rfl, rfl⟩ rfl rfl rfl rfl rfl (by kernel_rfl) Try.func3 (by kernel_rfl)
    (of_decide_eq_true (by kernel_rfl)) (by unfold Func.isWrapper; first | (rw [if_pos (by decide +kernel)]; kernel_rfl) | (rw [if_neg (by decide +kernel)]; exact ⟨rfl, rfl⟩))
    (fun os started H enc _ => f_lifted os started H enc)
end Go.Proofs.Ytmnlagcmpgilaaa
