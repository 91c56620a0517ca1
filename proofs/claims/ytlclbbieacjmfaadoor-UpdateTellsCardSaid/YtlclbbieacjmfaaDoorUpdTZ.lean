/- The law UpdateTells of the given program answers true for every three lists of numbers, every number, every truth value and every list of functions' exits. The table of package math/bits is as the program's text lays it. -/
import Derived.Test.YtlclbbieacjmfaaDoorP0
import Derived.Test.YtlclbbieacjmfaaDoorP1
import Derived.Test.YtlclbbieacjmfaaDoorP2
import Derived.Test.YtlclbbieacjmfaaDoorP3
import Derived.Test.YtlclbbieacjmfaaDoorP4
import Derived.Test.YtlclbbieacjmfaaDoorP5
import Derived.Test.YtlclbbieacjmfaaDoorP6
set_option linter.all false
set_option maxRecDepth 100000
namespace Go.Proofs.YtlclbbieacjmfaaDoor
open Go.ChangeShapes Go.WideShapes Go.ChangeAt Go.RowKit Go.AM
theorem own : ownKnob Tryd.prog.godebug = none := by kernel_rfl
theorem laidOut : laidOutB Tryd.prog = true := by kernel_rfl
def CT : Nat → Option CFun
  | 3 => some (.code s_gnomonlaw25_UpdateTells)
  | 4 => some (.code s_gnomonlaw25_great)
  | 5 => some (.prim (primC (bl true)))
  | 6 => some (.code s_bits_Of)
  | 7 => some (.code s_update_Store)
  | 8 => some (.code s_gnomonref01_Of)
  | 9 => some (.code s_gnomonlaw25_exits)
  | 10 => some (.code s_update_Call)
  | 11 => some (.code s_gnomonref01_Same)
  | 12 => some (.code s_bits_Set_List)
  | 13 => some (.code s_gnomonref25_Store)
  | 14 => some (.code s_gnomonref25_Call)
  | 15 => some (.code s_bits_Set_Add)
  | 16 => some (.code s_bits_Set_Len)
  | 17 => some (.code s_bits_Set_Same)
  | 18 => some (.code s_bits_Set_Has)
  | 19 => some (.code s_bits_Set_Union)
  | 20 => some (.code s_gnomonref01_Add)
  | 21 => some (.code s_bits_Set_all)
  | 22 => some (.prim tzG)
  | 23 => some (.code s_gnomonref01_Has)
  | 24 => some (.code s_gnomonref01_Union)
  | 25 => some (.code s_bits_Set_put)
  | 26 => some (.code s_bits_Set_at)
  | 27 => some (.code s_bits_Set_In)
  | 28 => some (.code s_bits_Set_all_1)
  | 29 => some (.prim (sortedG k_maps_Keys_1))
  | 30 => some (.code s_maps_Keys_map_int_uint64_int_uint64)
  | 31 => some (.code s_math_bits_OnesCount64)
  | _ => none
theorem CT_ok (fx : Nat → Option (Array Value × TypeId × Nat × Nat)) (hfx : TabFx fx) : ∀ k c, CT k = some c → FunOk Tryd.prog (PXf fx) k c := by
  intro k c h
  unfold CT at h
  split at h
  · cases h; exact funOk_f fx CB4_3
  · cases h; exact funOk_f fx CB3_4
  · cases h; exact wakes_prim fx hfx
  · cases h; exact funOk_f fx CB1_6
  · cases h; exact funOk_f fx CB3_7
  · cases h; exact funOk_f fx CB2_8
  · cases h; exact funOk_f fx CB3_9
  · cases h; exact funOk_f fx CB3_10
  · cases h; exact funOk_f fx CB2_11
  · cases h; exact funOk_f fx CB1_12
  · cases h; exact funOk_f fx CB2_13
  · cases h; exact funOk_f fx CB2_14
  · cases h; exact funOk_f fx CB1_15
  · cases h; exact funOk_f fx CB1_16
  · cases h; exact funOk_f fx CB1_17
  · cases h; exact funOk_f fx CB1_18
  · cases h; exact funOk_f fx CB1_19
  · cases h; exact funOk_f fx CB2_20
  · cases h; exact funOk_f fx CB1_21
  · cases h; exact tz_prim fx hfx
  · cases h; exact funOk_f fx CB2_23
  · cases h; exact funOk_f fx CB2_24
  · cases h; exact funOk_f fx CB1_25
  · cases h; exact funOk_f fx CB1_26
  · cases h; exact funOk_f fx CB1_27
  · cases h; exact funOk_f fx CB1_28
  · cases h; exact sorted_prim fx
  · cases h; exact funOk_f fx CB1_30
  · cases h; exact funOk_f fx CB1_31
  · cases h
theorem tb : TB CT := ⟨rfl, rfl, rfl, rfl, rfl, rfl, rfl, rfl, rfl, rfl, rfl⟩
theorem tc : TC CT := { tb with in' := rfl, same := rfl, union := rfl }
theorem td : TD CT := { tc with tz := rfl, list := rfl }
theorem ru : RU CT := ⟨rfl, rfl, rfl, rfl, rfl, rfl, rfl⟩
theorem law_true (va : V) (a : List Int) (hva : ∀ H, Rd H va (a.map iV)) (hwa : Wide1 va) (hna : a.length < 2 ^ 63) (hxa : ∀ x ∈ a, x < 2 ^ 63) (vb : V) (b : List Int) (hvb : ∀ H, Rd H vb (b.map iV)) (hwb : Wide1 vb) (hnb : b.length < 2 ^ 63) (hxb : ∀ x ∈ b, x < 2 ^ 63) (vc : V) (c : List Int) (hvc : ∀ H, Rd H vc (c.map iV)) (hwc : Wide1 vc) (hnc : c.length < 2 ^ 63) (hxc : ∀ x ∈ c, x < 2 ^ 63) (o : Int) (ho : o < 2 ^ 63) (single : Bool) (vl : V) (hl : LOk vl) : ∃ m H', callN CT m (.fn 3 [] []) [va, vb, vc, .s (.int .i64 o), .s (.bool single), vl] 0 [] = some (bl true, H') := by
  obtain ⟨L, h1, h2⟩ := hl
  obtain ⟨H', h⟩ := tells_law (CT := CT) td ru rfl rfl rfl rfl rfl (fun base H => wakes_fun rfl base H) va a hva hwa hxa vb b hvb hwb hxb vc c hvc hwc hxc o ho single vl L h1 h2
  obtain ⟨m, hm⟩ := callW_ex h
  exact ⟨m, _, hm⟩
theorem f_lifted (os : Os) (started : os.Started) (H : Type) (enc : TypeId × Value → H) :
    ReturnsInHanded {} Tryd.checked os 3 .any (fun w args => (Rows.updateTellsSpec.pre enc Tryd.prog Tryd.f3 [] false w args ∧ laidMetH Tryd.prog Rows.updateTellsRow.laid w) ∧ sizedMet enc Tryd.prog Tryd.f3 (OpenSpec.ofChange Rows.updateTellsSpec) false w args) (Rows.updateTellsSpec.post enc Tryd.prog Tryd.f3 false true false false) := by
  refine returnsInHanded_of_change_and (C := Tryd.checked) (X := fun w _ => laidMetH Tryd.prog Rows.updateTellsRow.laid w) (fun _ _ _ hh h => h.of_heap hh) own started (by kernel_rfl) Tryd.func3
    (ChangeSpec.witness_shaped (enc := enc) (C := Tryd.checked) (os := os) (X := fun w _ => laidMetH Tryd.prog Rows.updateTellsRow.laid w) false (World.doorLaid Tryd.prog 400 os) #[.slice none 0 0, .slice none 0 0, .slice none 0 0, .int .i64 0, .bool false, .slice none 0 0] 8 rfl (World.shaped_of_RefB (by kernel_rfl) (by kernel_rfl)) (by kernel_rfl) (by kernel_rfl) (by kernel_rfl) (door_met os _)) ?_
  intro W base args ds gs before hval0 hW hcnd _ hL _
  obtain ⟨ob, hob1, hob2⟩ := tab_of_laid hL
  have hval : ∀ (j : Nat) t v, Tryd.f3.params[j]? = some t → args[j]? = some v → Value.okWide Tryd.prog W .any base t v := hval0
  have hW' := hW
  obtain ⟨p, q, hA0, hV, rfl, hfz, hnd⟩ := hW'
  have hA : DataW.TrodAll enc Tryd.prog W 0 (fun _ => true) true Tryd.f3.params.toList args.toList ds p := hA0
  rw [Tryd.params3] at hA hval
  obtain ⟨v0, vs0, d0, ds0, p0, q0, ea0, ed0, ep0, h0, hA0⟩ := trodAll_cons hA
  obtain ⟨v1, vs1, d1, ds1, p1, q1, ea1, ed1, ep1, h1, hA1⟩ := trodAll_cons hA0
  obtain ⟨v2, vs2, d2, ds2, p2, q2, ea2, ed2, ep2, h2, hA2⟩ := trodAll_cons hA1
  obtain ⟨v3, vs3, d3, ds3, p3, q3, ea3, ed3, ep3, h3, hA3⟩ := trodAll_cons hA2
  obtain ⟨v4, vs4, d4, ds4, p4, q4, ea4, ed4, ep4, h4, hA4⟩ := trodAll_cons hA3
  obtain ⟨v5, vs5, d5, ds5, p5, q5, ea5, ed5, ep5, h5, hA5⟩ := trodAll_cons hA4
  obtain ⟨en, _, _⟩ := trodAll_nil hA5
  have ha : args = #[v0, v1, v2, v3, v4, v5] := by
    apply Array.ext'
    rw [ea0, ea1, ea2, ea3, ea4, ea5,  en]
  have hok0 := hval 0 22 v0 (by simp) (by rw [ha]; rfl)
  have hc0 : v0.cells.toList = [v0] := by
    unfold Value.okWide at hok0
    rw [Tryd.underlying22] at hok0
    cases v0 <;> first | rfl | exact False.elim hok0
  obtain ⟨us0, hvs0, hvr0⟩ := read_arg (ty := (.sl (.int .i64))) (n := 20) (by kernel_rfl) hc0 h0
  obtain ⟨u0, he0, l0, hl0, hw0, hn0, hx0⟩ := ints_arg hvs0
  have hok1 := hval 1 22 v1 (by simp) (by rw [ha]; rfl)
  have hc1 : v1.cells.toList = [v1] := by
    unfold Value.okWide at hok1
    rw [Tryd.underlying22] at hok1
    cases v1 <;> first | rfl | exact False.elim hok1
  obtain ⟨us1, hvs1, hvr1⟩ := read_arg (ty := (.sl (.int .i64))) (n := 20) (by kernel_rfl) hc1 h1
  obtain ⟨u1, he1, l1, hl1, hw1, hn1, hx1⟩ := ints_arg hvs1
  have hok2 := hval 2 22 v2 (by simp) (by rw [ha]; rfl)
  have hc2 : v2.cells.toList = [v2] := by
    unfold Value.okWide at hok2
    rw [Tryd.underlying22] at hok2
    cases v2 <;> first | rfl | exact False.elim hok2
  obtain ⟨us2, hvs2, hvr2⟩ := read_arg (ty := (.sl (.int .i64))) (n := 20) (by kernel_rfl) hc2 h2
  obtain ⟨u2, he2, l2, hl2, hw2, hn2, hx2⟩ := ints_arg hvs2
  have hok3 := hval 3 3 v3 (by simp) (by rw [ha]; rfl)
  have hc3 : v3.cells.toList = [v3] := by
    unfold Value.okWide at hok3
    rw [Tryd.underlying3] at hok3
    cases v3 <;> first | rfl | exact False.elim hok3
  obtain ⟨us3, hvs3, hvr3⟩ := read_arg (ty := (.int .i64)) (n := 20) (by kernel_rfl) hc3 h3
  obtain ⟨z3, he3, hz3⟩ := int_arg hvs3
  have hok4 := hval 4 4 v4 (by simp) (by rw [ha]; rfl)
  have hc4 : v4.cells.toList = [v4] := by
    unfold Value.okWide at hok4
    rw [Tryd.underlying4] at hok4
    cases v4 <;> first | rfl | exact False.elim hok4
  obtain ⟨us4, hvs4, hvr4⟩ := read_arg (ty := .bool) (n := 20) (by kernel_rfl) hc4 h4
  obtain ⟨z4, he4⟩ := hvs4
  have hok5 := hval 5 23 v5 (by simp) (by rw [ha]; rfl)
  have hc5 : v5.cells.toList = [v5] := by
    unfold Value.okWide at hok5
    rw [Tryd.underlying23] at hok5
    cases v5 <;> first | rfl | exact False.elim hok5
  obtain ⟨us5, hvs5, hvr5⟩ := read_arg (ty := (.sl (.st [.bool, .sl (.int .i64)]))) (n := 20) (by kernel_rfl) hc5 h5
  obtain ⟨u5, he5, hu5⟩ := exits_arg hvs5
  refine law_contract (CP := CT) (pure' := PXf (fun B => if B = 0 then some ob else none)) mixed (CT_ok (fun B => if B = 0 then some ob else none) (tab_fx hob2)) laidOut (by kernel_rfl) (by kernel_rfl) (tb := 4) rfl (by kernel_rfl) Tryd.underlying4 (fun t ht => ?_) (fun ds hl => ?_) hW ⟨[u0, u1, u2, .s (.int .i64 z3), .s (.bool z4), u5], ?_, law_true u0 l0 hl0 hw0 hn0 hx0 u1 l1 hl1 hw1 hn1 hx1 u2 l2 hl2 hw2 hn2 hx2 z3 hz3 z4 u5 hu5⟩ (fun B o e => fx_heap hob1 e)
  · rw [Tryd.params3] at ht
    have : t ∈ [22, 22, 22, 3, 4, 23] := ht
    simp only [List.mem_cons, List.not_mem_nil, or_false] at this
    rcases this with rfl | rfl | rfl | rfl | rfl | rfl <;> exact of_decide_eq_true (by kernel_rfl)
  · rw [Tryd.params3] at hl
    match ds, hl with
    | [e0, e1, e2, e3, e4, e5], _ => rfl
  · rw [ha]
    subst he0 he1 he2 he3 he4 he5
    exact VRs.cons hvr0 (VRs.cons hvr1 (VRs.cons hvr2 (VRs.cons hvr3 (VRs.cons hvr4 (VRs.cons hvr5 (VRs.nil))))))
theorem said : Rows.UpdateTellsSaid :=
  OpenClaim.holds_of_wide 3 Tryd.f3 rfl rfl rfl rfl rfl rfl rfl ⟨rfl, rfl, rfl, rfl, rfl⟩ rfl rfl rfl rfl rfl (by kernel_rfl) Tryd.func3 (by kernel_rfl)
    (of_decide_eq_true (by kernel_rfl)) (by unfold Func.isWrapper; first | (rw [if_pos (by decide +kernel)]; kernel_rfl) | (rw [if_neg (by decide +kernel)]; exact ⟨rfl, rfl⟩))
    (fun os started H enc _ => f_lifted os started H enc)
theorem tells_holds : Rows.UpdateTellsCardSaid :=
  Claim7.holds_tied_plain_at .later [] [.data] true (true, "b264f41a6f96a44f3f9f1b71d4a9f70e0cc93c0e53b5b862c6eb633072bda0c8") false
    said (fun _ h => by cases h) (by kernel_rfl) (fun _ h => by cases h) updateTells_row_tie rfl ⟨rfl, rfl⟩ (by kernel_rfl) rfl
    (fun f fn hf hfn => by
      obtain rfl : f = 3 := Option.some.inj ((show Tryd.prog.funcNamed Rows.updateTellsRow.func = some 3 by kernel_rfl).symm.trans hf) |>.symm
      obtain rfl : fn = Tryd.f3 := (Option.some.inj (Tryd.func3.symm.trans hfn)).symm
      refine ⟨by kernel_rfl, fun j t ht => ?_⟩
      rw [Tryd.params3] at ht
      have hm : t ∈ [22, 22, 22, 3, 4, 23] := by
        have := Array.mem_of_getElem? ht
        simpa using this
      simp only [List.mem_cons, List.not_mem_nil, or_false] at hm
      rcases hm with rfl | rfl | rfl | rfl | rfl | rfl
      · exact (show Tryd.prog.wantsStandIn 22 = false by kernel_rfl)
      · exact (show Tryd.prog.wantsStandIn 22 = false by kernel_rfl)
      · exact (show Tryd.prog.wantsStandIn 22 = false by kernel_rfl)
      · exact (show Tryd.prog.wantsStandIn 3 = false by kernel_rfl)
      · exact (show Tryd.prog.wantsStandIn 4 = false by kernel_rfl)
      · exact (show Tryd.prog.wantsStandIn 23 = false by kernel_rfl))
    (by kernel_rfl)
end Go.Proofs.YtlclbbieacjmfaaDoor
