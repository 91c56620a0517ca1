/- The law BitsPlays of the given program answers true for every list of acts: sets to which anything is done have the numbers that the document says. The table of package math/bits is as the program's text lays it. -/
import Derived.Test.YtccallbknpbggaaDoorP0
import Derived.Test.YtccallbknpbggaaDoorP1
import Derived.Test.YtccallbknpbggaaDoorP2
import Derived.Test.YtccallbknpbggaaDoorP3
import Derived.Test.YtccallbknpbggaaDoorP4
import Derived.Test.YtccallbknpbggaaDoorP5
import Derived.Test.YtccallbknpbggaaDoorP6
import Derived.Test.YtccallbknpbggaaDoorP7
set_option linter.all false
set_option maxRecDepth 100000
namespace Go.Proofs.YtccallbknpbggaaDoor
open Go.ChangeShapes Go.WideShapes Go.ChangeAt Go.RowKit Go.AM
theorem own : ownKnob Tryd.prog.godebug = none := by kernel_rfl
theorem laidOut : laidOutB Tryd.prog = true := by kernel_rfl
def CT : Nat → Option CFun
  | 8 => some (.code s_gnomonlaw01_BitsPlays)
  | 10 => some (.prim (primC (bl true)))
  | 11 => some (.code s_bits_Of)
  | 12 => some (.code s_bits_Set_Add)
  | 13 => some (.code s_gnomonlaw01_place)
  | 14 => some (.code s_bits_Set_Same)
  | 15 => some (.code s_gnomonref01_Same)
  | 16 => some (.code s_bits_Set_List)
  | 17 => some (.code s_bits_Set_Least)
  | 18 => some (.code s_bits_Set_Drop)
  | 19 => some (.code s_bits_Set_Has)
  | 20 => some (.code s_bits_Set_Len)
  | 21 => some (.code s_bits_Set_Copy)
  | 22 => some (.code s_bits_Set_Minus)
  | 23 => some (.code s_bits_Set_Both)
  | 24 => some (.code s_bits_Set_Union)
  | 25 => some (.code s_bits_Set_In)
  | 26 => some (.code s_gnomonref01_Add)
  | 27 => some (.code s_gnomonref01_Pick)
  | 28 => some (.code s_gnomonref01_Union)
  | 29 => some (.code s_gnomonref01_Of)
  | 30 => some (.code s_gnomonlaw01_tells)
  | 31 => some (.code s_bits_Set_put)
  | 32 => some (.code s_bits_Set_at)
  | 33 => some (.code s_bits_Set_all)
  | 34 => some (.prim tzG)
  | 35 => some (.prim cloneG)
  | 36 => some (.code s_bits_Set_pick)
  | 37 => some (.code s_bits_Set_Minus_1)
  | 38 => some (.code s_bits_Set_Both_1)
  | 39 => some (.code s_gnomonref01_Has)
  | 40 => some (.code s_math_bits_OnesCount64)
  | 41 => some (.code s_bits_Set_all_1)
  | 42 => some (.prim (sortedG k_maps_Keys_1))
  | 43 => some (.code s_maps_Keys_map_int_uint64_int_uint64)
  | _ => none
theorem CT_ok (fx : Nat → Option (Array Value × TypeId × Nat × Nat)) (hfx : TabFx fx) : ∀ k c, CT k = some c → FunOk Tryd.prog (PXf fx) k c := by
  intro k c h
  unfold CT at h
  split at h
  · cases h; exact funOk_f fx CB7_8
  · cases h; exact wakes_prim fx hfx
  · cases h; exact funOk_f fx CB1_11
  · cases h; exact funOk_f fx CB1_12
  · cases h; exact funOk_f fx CB2_13
  · cases h; exact funOk_f fx CB1_14
  · cases h; exact funOk_f fx CB2_15
  · cases h; exact funOk_f fx CB1_16
  · cases h; exact funOk_f fx CB1_17
  · cases h; exact funOk_f fx CB1_18
  · cases h; exact funOk_f fx CB1_19
  · cases h; exact funOk_f fx CB1_20
  · cases h; exact funOk_f fx CB1_21
  · cases h; exact funOk_f fx CB1_22
  · cases h; exact funOk_f fx CB1_23
  · cases h; exact funOk_f fx CB1_24
  · cases h; exact funOk_f fx CB1_25
  · cases h; exact funOk_f fx CB8_26
  · cases h; exact funOk_f fx CB8_27
  · cases h; exact funOk_f fx CB8_28
  · cases h; exact funOk_f fx CB8_29
  · cases h; exact funOk_f fx CB7_30
  · cases h; exact funOk_f fx CB1_31
  · cases h; exact funOk_f fx CB1_32
  · cases h; exact funOk_f fx CB1_33
  · cases h; exact tz_prim fx hfx
  · cases h; exact clone_prim fx
  · cases h; exact funOk_f fx CB1_36
  · cases h; exact funOk_f fx CB1_37
  · cases h; exact funOk_f fx CB1_38
  · cases h; exact funOk_f fx CB2_39
  · cases h; exact funOk_f fx CB1_40
  · cases h; exact funOk_f fx CB1_41
  · cases h; exact sorted_prim fx
  · cases h; exact funOk_f fx CB1_43
  · cases h
theorem tb : TB CT := ⟨rfl, rfl, rfl, rfl, rfl, rfl, rfl, rfl, rfl, rfl, rfl⟩
theorem tc : TC CT := { tb with pick := rfl, minus := rfl, both := rfl, minus1 := rfl, both1 := rfl, drop := rfl, copy := rfl, clone := rfl, in' := rfl, same := rfl, union := rfl }
theorem td : TD CT := { tc with tz := rfl, list := rfl, least := rfl }
theorem law_true (va : V) (ha : AOk va) : ∃ m H', callN CT m (.fn 8 [] []) [va] 0 [] = some (bl true, H') := by
  obtain ⟨l, h1, h2⟩ := ha
  obtain ⟨H', h⟩ := plays_law (CT := CT) td ⟨rfl, rfl, rfl, rfl, rfl, rfl⟩ rfl rfl rfl (fun base H => wakes_fun rfl base H) h1 h2
  obtain ⟨m, hm⟩ := callW_ex h
  exact ⟨m, _, hm⟩
theorem f_lifted (os : Os) (started : os.Started) (H : Type) (enc : TypeId × Value → H) :
    ReturnsInHanded {} Tryd.checked os 8 .any (fun w args => (Rows.bitsPlaysSpec.pre enc Tryd.prog Tryd.f8 [] false w args ∧ laidMetH Tryd.prog Rows.bitsPlaysRow.laid w) ∧ sizedMet enc Tryd.prog Tryd.f8 (OpenSpec.ofChange Rows.bitsPlaysSpec) false w args) (Rows.bitsPlaysSpec.post enc Tryd.prog Tryd.f8 false true false false) := by
  refine returnsInHanded_of_change_and (C := Tryd.checked) (X := fun w _ => laidMetH Tryd.prog Rows.bitsPlaysRow.laid w) (fun _ _ _ hh h => h.of_heap hh) own started (by kernel_rfl) Tryd.func8
    (ChangeSpec.witness_shaped (enc := enc) (C := Tryd.checked) (os := os) (X := fun w _ => laidMetH Tryd.prog Rows.bitsPlaysRow.laid w) false (World.doorLaid Tryd.prog 400 os) #[.slice none 0 0] 8 rfl (World.shaped_of_RefB (by kernel_rfl) (by kernel_rfl)) (by kernel_rfl) (by kernel_rfl) (by kernel_rfl) (door_met os _)) ?_
  intro W base args ds gs before hval0 hW hcnd _ hL _
  obtain ⟨ob, hob1, hob2⟩ := tab_of_laid hL
  have hval : ∀ (j : Nat) t v, Tryd.f8.params[j]? = some t → args[j]? = some v → Value.okWide Tryd.prog W .any base t v := hval0
  have hW' := hW
  obtain ⟨p, q, hA0, hV, rfl, hfz, hnd⟩ := hW'
  have hA : DataW.TrodAll enc Tryd.prog W 0 (fun _ => true) true Tryd.f8.params.toList args.toList ds p := hA0
  rw [Tryd.params8] at hA hval
  obtain ⟨v0, vs0, d0, ds0, p0, q0, ea0, ed0, ep0, h0, hA0⟩ := trodAll_cons hA
  obtain ⟨en, _, _⟩ := trodAll_nil hA0
  have ha : args = #[v0] := by
    apply Array.ext'
    rw [ea0,  en]
  have hok0 := hval 0 41 v0 (by simp) (by rw [ha]; rfl)
  have hc0 : v0.cells.toList = [v0] := by
    unfold Value.okWide at hok0
    rw [Tryd.underlying41] at hok0
    cases v0 <;> first | rfl | exact False.elim hok0
  obtain ⟨us0, hvs0, hvr0⟩ := read_arg (ty := (.sl (.st [.int .i64, .int .i64, .int .i64, .int .i64]))) (n := 20) (by kernel_rfl) hc0 h0
  obtain ⟨u0, he0, hu0⟩ := acts_arg hvs0
  refine law_contract (CP := CT) (pure' := PXf (fun B => if B = 0 then some ob else none)) mixed (CT_ok (fun B => if B = 0 then some ob else none) (tab_fx hob2)) laidOut (by kernel_rfl) (by kernel_rfl) (tb := 4) rfl (by kernel_rfl) Tryd.underlying4 (fun t ht => ?_) (fun ds hl => ?_) hW ⟨[u0], ?_, law_true u0 hu0⟩ (fun B o e => fx_heap hob1 e)
  · rw [Tryd.params8] at ht
    have : t ∈ [41] := ht
    simp only [List.mem_cons, List.not_mem_nil, or_false] at this
    rcases this with rfl <;> exact of_decide_eq_true (by kernel_rfl)
  · rw [Tryd.params8] at hl
    match ds, hl with
    | [e0], _ => rfl
  · rw [ha]
    subst he0
    exact VRs.cons hvr0 (VRs.nil)
theorem said : Rows.BitsPlaysSaid :=
  OpenClaim.holds_of_wide 8 Tryd.f8 rfl rfl rfl rfl rfl rfl rfl ⟨rfl, rfl, rfl, rfl, rfl⟩ rfl rfl rfl rfl rfl (by kernel_rfl) Tryd.func8 (by kernel_rfl)
    (of_decide_eq_true (by kernel_rfl)) (by unfold Func.isWrapper; first | (rw [if_pos (by decide +kernel)]; kernel_rfl) | (rw [if_neg (by decide +kernel)]; exact ⟨rfl, rfl⟩))
    (fun os started H enc _ => f_lifted os started H enc)
theorem plays_holds : Rows.BitsPlaysCardSaid :=
  Claim7.holds_tied_plain_at .later [] [.data] true (true, "a3e51bacd0b355231da454a3f92774ab51ac035ade185c8377ea2fb73ab9ee2b") true
    said (fun _ h => by cases h) (by kernel_rfl) (fun _ h => by cases h) bitsPlays_row_tie rfl ⟨rfl, rfl⟩ (by kernel_rfl) rfl
    (fun f fn hf hfn => by
      obtain rfl : f = 8 := Option.some.inj ((show Tryd.prog.funcNamed Rows.bitsPlaysRow.func = some 8 by kernel_rfl).symm.trans hf) |>.symm
      obtain rfl : fn = Tryd.f8 := (Option.some.inj (Tryd.func8.symm.trans hfn)).symm
      refine ⟨by kernel_rfl, fun j t ht => ?_⟩
      rw [Tryd.params8] at ht
      have hm : t ∈ [41] := by
        have := Array.mem_of_getElem? ht
        simpa using this
      simp only [List.mem_cons, List.not_mem_nil, or_false] at hm
      rcases hm with rfl
      · exact (show Tryd.prog.wantsStandIn 41 = false by kernel_rfl))
    (by kernel_rfl)
end Go.Proofs.YtccallbknpbggaaDoor
