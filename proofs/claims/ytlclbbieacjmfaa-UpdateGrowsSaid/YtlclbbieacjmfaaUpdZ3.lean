/- The law UpdateGrows of the given program answers true for every input. -/
import Derived.Test.YtlclbbieacjmfaaP0
import Derived.Test.YtlclbbieacjmfaaP1
import Derived.Test.YtlclbbieacjmfaaP2
import Derived.Test.YtlclbbieacjmfaaP3
import Derived.Test.YtlclbbieacjmfaaP4
import Derived.Test.YtlclbbieacjmfaaP5
import Derived.Test.YtlclbbieacjmfaaP6
set_option linter.all false
set_option maxRecDepth 100000
namespace Go.Proofs.Ytlclbbieacjmfaa
open Go.ChangeShapes Go.WideShapes Go.ChangeAt Go.RowKit Go.AM
theorem own : ownKnob Try.prog.godebug = none := by kernel_rfl
theorem laidOut : laidOutB Try.prog = true := by kernel_rfl
def CT : Nat → Option CFun
  | 3 => some (.code s_gnomonlaw25_UpdateGrows)
  | 6 => some (.code s_gnomonlaw25_great)
  | 7 => some (.prim (primC (bl true)))
  | 8 => some (.code s_bits_Of)
  | 9 => some (.code s_update_Store)
  | 10 => some (.code s_update_Call)
  | 11 => some (.code s_gnomonlaw25_exits)
  | 12 => some (.code s_bits_Set_Copy)
  | 13 => some (.code s_bits_Set_Union)
  | 14 => some (.code s_bits_Set_In)
  | 15 => some (.code s_bits_Set_Same)
  | 16 => some (.code s_bits_Set_Len)
  | 17 => some (.code s_bits_Set_Drop)
  | 18 => some (.code s_bits_Set_Add)
  | 19 => some (.code s_bits_Set_Has)
  | 20 => some (.prim cloneG)
  | 21 => some (.code s_bits_Set_all)
  | 22 => some (.code s_bits_Set_put)
  | 23 => some (.code s_bits_Set_at)
  | 25 => some (.code s_bits_Set_all_1)
  | 26 => some (.prim (sortedG k_maps_Keys_1))
  | 27 => some (.code s_maps_Keys_map_int_uint64_int_uint64)
  | 28 => some (.code s_math_bits_OnesCount64)
  | _ => none
theorem CT_ok (fx : Nat → Option (Array Value × TypeId × Nat × Nat)) : ∀ k c, CT k = some c → FunOk Try.prog (PXf fx) k c := by
  intro k c h
  unfold CT at h
  split at h
  · cases h; exact funOk_f fx CB4_3
  · cases h; exact funOk_f fx CB3_6
  · cases h; exact wakes_prim fx
  · cases h; exact funOk_f fx CB1_8
  · cases h; exact funOk_f fx CB1_9
  · cases h; exact funOk_f fx CB1_10
  · cases h; exact funOk_f fx CB3_11
  · cases h; exact funOk_f fx CB1_12
  · cases h; exact funOk_f fx CB1_13
  · cases h; exact funOk_f fx CB1_14
  · cases h; exact funOk_f fx CB1_15
  · cases h; exact funOk_f fx CB1_16
  · cases h; exact funOk_f fx CB1_17
  · cases h; exact funOk_f fx CB1_18
  · cases h; exact funOk_f fx CB1_19
  · cases h; exact clone_prim fx
  · cases h; exact funOk_f fx CB1_21
  · cases h; exact funOk_f fx CB1_22
  · cases h; exact funOk_f fx CB1_23
  · cases h; exact funOk_f fx CB1_25
  · cases h; exact sorted_prim fx
  · cases h; exact funOk_f fx CB1_27
  · cases h; exact funOk_f fx CB1_28
  · cases h
theorem tb : TB CT := ⟨rfl, rfl, rfl, rfl, rfl, rfl, rfl, rfl, rfl, rfl, rfl⟩
theorem tc : TC CT := { tb with drop := rfl, copy := rfl, clone := rfl, in' := rfl, same := rfl, union := rfl }
theorem law_true (va : V) (a : List Int) (hva : ∀ H, Rd H va (a.map iV)) (hwa : Wide1 va) (hna : a.length < 2 ^ 63) (hxa : ∀ x ∈ a, x < 2 ^ 63) (vb : V) (b : List Int) (hvb : ∀ H, Rd H vb (b.map iV)) (hwb : Wide1 vb) (hnb : b.length < 2 ^ 63) (hxb : ∀ x ∈ b, x < 2 ^ 63) (vc : V) (c : List Int) (hvc : ∀ H, Rd H vc (c.map iV)) (hwc : Wide1 vc) (hnc : c.length < 2 ^ 63) (hxc : ∀ x ∈ c, x < 2 ^ 63) (o : Int) (ho : o < 2 ^ 63) (single : Bool) (vl : V) (hl : LOk vl) (vm : V) (mm : List Int) (hvm : ∀ H, Rd H vm (mm.map iV)) (hwm : Wide1 vm) (hnm : mm.length < 2 ^ 63) (hxm : ∀ x ∈ mm, x < 2 ^ 63) : ∃ m H', callN CT m (.fn 3 [] []) [va, vb, vc, .s (.int .i64 o), .s (.bool single), vl, vm] 0 [] = some (bl true, H') := by
  obtain ⟨L, h1, h2⟩ := hl
  obtain ⟨H', h⟩ := grows_law (CT := CT) tc rfl rfl rfl rfl rfl (fun base H => wakes_fun rfl base H) va a hva hwa hxa vb b hvb hwb hxb vc c hvc hwc hxc o ho single vl L h1 h2 vm mm hvm hwm hxm
  obtain ⟨m, hm⟩ := callW_ex h
  exact ⟨m, _, hm⟩
theorem f_lifted (os : Os) (started : os.Started) (H : Type) (enc : TypeId × Value → H) :
    ReturnsInHanded {} Try.checked os 3 .any (Rows.updateGrowsSpec.pre6 enc Try.prog Try.f3 Rows.updateGrowsRow.domain false) (Rows.updateGrowsSpec.post enc Try.prog Try.f3 false true false false) := by
  refine returnsInHanded_of_change (C := Try.checked) own started (by kernel_rfl) Try.func3
    (ChangeSpec.witness6 (enc := enc) (C := Try.checked) false ⟨#[], #[.slice none 0 0, .slice none 0 0, .slice none 0 0, .int .i64 0, .bool false, .slice none 0 0, .slice none 0 0], []⟩ 8 (by kernel_rfl) (by kernel_rfl) (by kernel_rfl) (by kernel_rfl)) ?_
  intro W base args ds gs before hval0 hW hcnd _
  have hval : ∀ (j : Nat) t v, Try.f3.params[j]? = some t → args[j]? = some v → Value.okWide Try.prog W .any base t v := hval0
  have hW' := hW
  obtain ⟨p, q, hA0, hV, rfl, hfz, hnd⟩ := hW'
  have hA : DataW.TrodAll enc Try.prog W 0 (fun _ => true) true Try.f3.params.toList args.toList ds p := hA0
  rw [Try.params3] at hA hval
  obtain ⟨v0, vs0, d0, ds0, p0, q0, ea0, ed0, ep0, h0, hA0⟩ := trodAll_cons hA
  obtain ⟨v1, vs1, d1, ds1, p1, q1, ea1, ed1, ep1, h1, hA1⟩ := trodAll_cons hA0
  obtain ⟨v2, vs2, d2, ds2, p2, q2, ea2, ed2, ep2, h2, hA2⟩ := trodAll_cons hA1
  obtain ⟨v3, vs3, d3, ds3, p3, q3, ea3, ed3, ep3, h3, hA3⟩ := trodAll_cons hA2
  obtain ⟨v4, vs4, d4, ds4, p4, q4, ea4, ed4, ep4, h4, hA4⟩ := trodAll_cons hA3
  obtain ⟨v5, vs5, d5, ds5, p5, q5, ea5, ed5, ep5, h5, hA5⟩ := trodAll_cons hA4
  obtain ⟨v6, vs6, d6, ds6, p6, q6, ea6, ed6, ep6, h6, hA6⟩ := trodAll_cons hA5
  obtain ⟨en, _, _⟩ := trodAll_nil hA6
  have ha : args = #[v0, v1, v2, v3, v4, v5, v6] := by
    apply Array.ext'
    rw [ea0, ea1, ea2, ea3, ea4, ea5, ea6,  en]
  have hok0 := hval 0 22 v0 (by simp) (by rw [ha]; rfl)
  have hc0 : v0.cells.toList = [v0] := by
    unfold Value.okWide at hok0
    rw [Try.underlying22] at hok0
    cases v0 <;> first | rfl | exact False.elim hok0
  obtain ⟨us0, hvs0, hvr0⟩ := read_arg (ty := (.sl (.int .i64))) (n := 20) (by kernel_rfl) hc0 h0
  obtain ⟨u0, he0, l0, hl0, hw0, hn0, hx0⟩ := ints_arg hvs0
  have hok1 := hval 1 22 v1 (by simp) (by rw [ha]; rfl)
  have hc1 : v1.cells.toList = [v1] := by
    unfold Value.okWide at hok1
    rw [Try.underlying22] at hok1
    cases v1 <;> first | rfl | exact False.elim hok1
  obtain ⟨us1, hvs1, hvr1⟩ := read_arg (ty := (.sl (.int .i64))) (n := 20) (by kernel_rfl) hc1 h1
  obtain ⟨u1, he1, l1, hl1, hw1, hn1, hx1⟩ := ints_arg hvs1
  have hok2 := hval 2 22 v2 (by simp) (by rw [ha]; rfl)
  have hc2 : v2.cells.toList = [v2] := by
    unfold Value.okWide at hok2
    rw [Try.underlying22] at hok2
    cases v2 <;> first | rfl | exact False.elim hok2
  obtain ⟨us2, hvs2, hvr2⟩ := read_arg (ty := (.sl (.int .i64))) (n := 20) (by kernel_rfl) hc2 h2
  obtain ⟨u2, he2, l2, hl2, hw2, hn2, hx2⟩ := ints_arg hvs2
  have hok3 := hval 3 3 v3 (by simp) (by rw [ha]; rfl)
  have hc3 : v3.cells.toList = [v3] := by
    unfold Value.okWide at hok3
    rw [Try.underlying3] at hok3
    cases v3 <;> first | rfl | exact False.elim hok3
  obtain ⟨us3, hvs3, hvr3⟩ := read_arg (ty := (.int .i64)) (n := 20) (by kernel_rfl) hc3 h3
  obtain ⟨z3, he3, hz3⟩ := int_arg hvs3
  have hok4 := hval 4 4 v4 (by simp) (by rw [ha]; rfl)
  have hc4 : v4.cells.toList = [v4] := by
    unfold Value.okWide at hok4
    rw [Try.underlying4] at hok4
    cases v4 <;> first | rfl | exact False.elim hok4
  obtain ⟨us4, hvs4, hvr4⟩ := read_arg (ty := .bool) (n := 20) (by kernel_rfl) hc4 h4
  obtain ⟨z4, he4⟩ := hvs4
  have hok5 := hval 5 23 v5 (by simp) (by rw [ha]; rfl)
  have hc5 : v5.cells.toList = [v5] := by
    unfold Value.okWide at hok5
    rw [Try.underlying23] at hok5
    cases v5 <;> first | rfl | exact False.elim hok5
  obtain ⟨us5, hvs5, hvr5⟩ := read_arg (ty := (.sl (.st [.bool, .sl (.int .i64)]))) (n := 20) (by kernel_rfl) hc5 h5
  obtain ⟨u5, he5, hu5⟩ := exits_arg hvs5
  have hok6 := hval 6 22 v6 (by simp) (by rw [ha]; rfl)
  have hc6 : v6.cells.toList = [v6] := by
    unfold Value.okWide at hok6
    rw [Try.underlying22] at hok6
    cases v6 <;> first | rfl | exact False.elim hok6
  obtain ⟨us6, hvs6, hvr6⟩ := read_arg (ty := (.sl (.int .i64))) (n := 20) (by kernel_rfl) hc6 h6
  obtain ⟨u6, he6, l6, hl6, hw6, hn6, hx6⟩ := ints_arg hvs6
  refine law_contract (CP := CT) (pure' := PXf (fun _ => none)) mixed (CT_ok (fun _ => none) ) laidOut (by kernel_rfl) (by kernel_rfl) (tb := 4) rfl (by kernel_rfl) Try.underlying4 (fun t ht => ?_) (fun ds hl => ?_) hW ⟨[u0, u1, u2, .s (.int .i64 z3), .s (.bool z4), u5, u6], ?_, law_true u0 l0 hl0 hw0 hn0 hx0 u1 l1 hl1 hw1 hn1 hx1 u2 l2 hl2 hw2 hn2 hx2 z3 hz3 z4 u5 hu5 u6 l6 hl6 hw6 hn6 hx6⟩ (fun B o e => by cases e)
  · rw [Try.params3] at ht
    have : t ∈ [22, 22, 22, 3, 4, 23, 22] := ht
    simp only [List.mem_cons, List.not_mem_nil, or_false] at this
    rcases this with rfl | rfl | rfl | rfl | rfl | rfl | rfl <;> exact of_decide_eq_true (by kernel_rfl)
  · rw [Try.params3] at hl
    match ds, hl with
    | [e0, e1, e2, e3, e4, e5, e6], _ => rfl
  · rw [ha]
    subst he0 he1 he2 he3 he4 he5 he6
    exact VRs.cons hvr0 (VRs.cons hvr1 (VRs.cons hvr2 (VRs.cons hvr3 (VRs.cons hvr4 (VRs.cons hvr5 (VRs.cons hvr6 (VRs.nil)))))))
theorem said : Rows.UpdateGrowsSaid :=
  OpenClaim.holds_of_wide 3 Try.f3 rfl rfl rfl rfl rfl rfl rfl ⟨rfl, rfl, rfl, rfl, rfl⟩ rfl rfl rfl rfl rfl (by kernel_rfl) Try.func3 (by kernel_rfl)
    (of_decide_eq_true (by kernel_rfl)) (by unfold Func.isWrapper; first | (rw [if_pos (by decide +kernel)]; kernel_rfl) | (rw [if_neg (by decide +kernel)]; exact ⟨rfl, rfl⟩))
    (fun os started H enc _ => f_lifted os started H enc)
theorem grows_holds : Rows.UpdateGrowsSaid := said
end Go.Proofs.Ytlclbbieacjmfaa
