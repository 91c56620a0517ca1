/- The law UpdateOrder of the given program answers true for every list of numbers and every list of functions' exits. -/
import Derived.Test.YtlclbbieacjmfaaP0
import Derived.Test.YtlclbbieacjmfaaP1
import Derived.Test.YtlclbbieacjmfaaP2
import Derived.Test.YtlclbbieacjmfaaP3
import Derived.Test.YtlclbbieacjmfaaP4
import Derived.Test.YtlclbbieacjmfaaP5
set_option linter.all false
set_option maxRecDepth 100000
namespace Go.Proofs.Ytlclbbieacjmfaa
open Go.ChangeShapes Go.WideShapes Go.ChangeAt Go.RowKit Go.AM
theorem own : ownKnob Try.prog.godebug = none := by kernel_rfl
theorem laidOut : laidOutB Try.prog = true := by kernel_rfl
def CT : Nat → Option CFun
  | 4 => some (.code s_gnomonlaw25_UpdateOrder)
  | 6 => some (.code s_gnomonlaw25_great)
  | 7 => some (.prim (primC (bl true)))
  | 8 => some (.code s_bits_Of)
  | 10 => some (.code s_update_Call)
  | 11 => some (.code s_gnomonlaw25_exits)
  | 12 => some (.code s_bits_Set_Copy)
  | 13 => some (.code s_bits_Set_Union)
  | 14 => some (.code s_bits_Set_In)
  | 15 => some (.code s_bits_Set_Same)
  | 16 => some (.code s_bits_Set_Len)
  | 17 => some (.code s_bits_Set_Drop)
  | 18 => some (.code s_bits_Set_Add)
  | 19 => some (.code s_bits_Set_Has)
  | 20 => some (.prim cloneG)
  | 21 => some (.code s_bits_Set_all)
  | 22 => some (.code s_bits_Set_put)
  | 23 => some (.code s_bits_Set_at)
  | 25 => some (.code s_bits_Set_all_1)
  | 26 => some (.prim (sortedG k_maps_Keys_1))
  | 27 => some (.code s_maps_Keys_map_int_uint64_int_uint64)
  | 28 => some (.code s_math_bits_OnesCount64)
  | _ => none
theorem CT_ok (fx : Nat → Option (Array Value × TypeId × Nat × Nat)) : ∀ k c, CT k = some c → FunOk Try.prog (PXf fx) k c := by
  intro k c h
  unfold CT at h
  split at h
  · cases h; exact funOk_f fx CB3_4
  · cases h; exact funOk_f fx CB3_6
  · cases h; exact wakes_prim fx
  · cases h; exact funOk_f fx CB1_8
  · cases h; exact funOk_f fx CB1_10
  · cases h; exact funOk_f fx CB3_11
  · cases h; exact funOk_f fx CB1_12
  · cases h; exact funOk_f fx CB1_13
  · cases h; exact funOk_f fx CB1_14
  · cases h; exact funOk_f fx CB1_15
  · cases h; exact funOk_f fx CB1_16
  · cases h; exact funOk_f fx CB1_17
  · cases h; exact funOk_f fx CB1_18
  · cases h; exact funOk_f fx CB1_19
  · cases h; exact clone_prim fx
  · cases h; exact funOk_f fx CB1_21
  · cases h; exact funOk_f fx CB1_22
  · cases h; exact funOk_f fx CB1_23
  · cases h; exact funOk_f fx CB1_25
  · cases h; exact sorted_prim fx
  · cases h; exact funOk_f fx CB1_27
  · cases h; exact funOk_f fx CB1_28
  · cases h
theorem tb : TB CT := ⟨rfl, rfl, rfl, rfl, rfl, rfl, rfl, rfl, rfl, rfl, rfl⟩
theorem tc : TC CT := { tb with drop := rfl, copy := rfl, clone := rfl, in' := rfl, same := rfl, union := rfl }
theorem law_true (va : V) (a : List Int) (hva : ∀ H, Rd H va (a.map iV)) (hwa : Wide1 va) (hna : a.length < 2 ^ 63) (hxa : ∀ x ∈ a, x < 2 ^ 63) (vl : V) (hl : LOk vl) : ∃ m H', callN CT m (.fn 4 [] []) [va, vl] 0 [] = some (bl true, H') := by
  obtain ⟨L, h1, h2⟩ := hl
  obtain ⟨H', h⟩ := order_law (CT := CT) tc rfl rfl rfl rfl (fun base H => wakes_fun rfl base H) va a hva hwa hna hxa vl L h1 h2
  obtain ⟨m, hm⟩ := callW_ex h
  exact ⟨m, _, hm⟩
theorem f_lifted (os : Os) (started : os.Started) (H : Type) (enc : TypeId × Value → H) :
    ReturnsInHanded {} Try.checked os 4 .any (Rows.updateOrderSpec.pre6 enc Try.prog Try.f4 Rows.updateOrderRow.domain false) (Rows.updateOrderSpec.post enc Try.prog Try.f4 false true false false) := by
  refine returnsInHanded_of_change (C := Try.checked) own started (by kernel_rfl) Try.func4
    (ChangeSpec.witness6 (enc := enc) (C := Try.checked) false ⟨#[], #[.slice none 0 0, .slice none 0 0], []⟩ 8 (by kernel_rfl) (by kernel_rfl) (by kernel_rfl) (by kernel_rfl)) ?_
  intro W base args ds gs before hval0 hW hcnd _
  have hval : ∀ (j : Nat) t v, Try.f4.params[j]? = some t → args[j]? = some v → Value.okWide Try.prog W .any base t v := hval0
  have hW' := hW
  obtain ⟨p, q, hA0, hV, rfl, hfz, hnd⟩ := hW'
  have hA : DataW.TrodAll enc Try.prog W 0 (fun _ => true) true Try.f4.params.toList args.toList ds p := hA0
  rw [Try.params4] at hA hval
  obtain ⟨v0, vs0, d0, ds0, p0, q0, ea0, ed0, ep0, h0, hA0⟩ := trodAll_cons hA
  obtain ⟨v1, vs1, d1, ds1, p1, q1, ea1, ed1, ep1, h1, hA1⟩ := trodAll_cons hA0
  obtain ⟨en, _, _⟩ := trodAll_nil hA1
  have ha : args = #[v0, v1] := by
    apply Array.ext'
    rw [ea0, ea1,  en]
  have hok0 := hval 0 22 v0 (by simp) (by rw [ha]; rfl)
  have hc0 : v0.cells.toList = [v0] := by
    unfold Value.okWide at hok0
    rw [Try.underlying22] at hok0
    cases v0 <;> first | rfl | exact False.elim hok0
  obtain ⟨us0, hvs0, hvr0⟩ := read_arg (ty := (.sl (.int .i64))) (n := 20) (by kernel_rfl) hc0 h0
  obtain ⟨u0, he0, l0, hl0, hw0, hn0, hx0⟩ := ints_arg hvs0
  have hok1 := hval 1 23 v1 (by simp) (by rw [ha]; rfl)
  have hc1 : v1.cells.toList = [v1] := by
    unfold Value.okWide at hok1
    rw [Try.underlying23] at hok1
    cases v1 <;> first | rfl | exact False.elim hok1
  obtain ⟨us1, hvs1, hvr1⟩ := read_arg (ty := (.sl (.st [.bool, .sl (.int .i64)]))) (n := 20) (by kernel_rfl) hc1 h1
  obtain ⟨u1, he1, hu1⟩ := exits_arg hvs1
  refine law_contract (CP := CT) (pure' := PXf (fun _ => none)) mixed (CT_ok (fun _ => none) ) laidOut (by kernel_rfl) (by kernel_rfl) (tb := 4) rfl (by kernel_rfl) Try.underlying4 (fun t ht => ?_) (fun ds hl => ?_) hW ⟨[u0, u1], ?_, law_true u0 l0 hl0 hw0 hn0 hx0 u1 hu1⟩ (fun B o e => by cases e)
  · rw [Try.params4] at ht
    have : t ∈ [22, 23] := ht
    simp only [List.mem_cons, List.not_mem_nil, or_false] at this
    rcases this with rfl | rfl <;> exact of_decide_eq_true (by kernel_rfl)
  · rw [Try.params4] at hl
    match ds, hl with
    | [e0, e1], _ => rfl
  · rw [ha]
    subst he0 he1
    exact VRs.cons hvr0 (VRs.cons hvr1 (VRs.nil))
theorem said : Rows.UpdateOrderSaid :=
  OpenClaim.holds_of_wide 4 Try.f4 rfl rfl rfl rfl rfl rfl rfl ⟨rfl, rfl, rfl, rfl, rfl⟩ rfl rfl rfl rfl rfl (by kernel_rfl) Try.func4 (by kernel_rfl)
    (of_decide_eq_true (by kernel_rfl)) (by unfold Func.isWrapper; first | (rw [if_pos (by decide +kernel)]; kernel_rfl) | (rw [if_neg (by decide +kernel)]; exact ⟨rfl, rfl⟩))
    (fun os started H enc _ => f_lifted os started H enc)
theorem order_holds : Rows.UpdateOrderSaid := said
end Go.Proofs.Ytlclbbieacjmfaa
