/- The law TokenLaid of the given program answers true for every row of words and every byte: words that are laid with gaps between them are told by token.Lex as they are laid, each at its spot. The package's variables are as the program's text lays them. -/
import Derived.Test.YtfnkpedipicjnaaDoorP0
import Derived.Test.YtfnkpedipicjnaaDoorP1
import Derived.Test.YtfnkpedipicjnaaDoorP2
import Derived.Test.YtfnkpedipicjnaaDoorP3
import Derived.Test.YtfnkpedipicjnaaDoorP4
import Derived.Test.YtfnkpedipicjnaaDoorP5
set_option linter.all false
set_option maxRecDepth 100000
namespace Go.Proofs.YtfnkpedipicjnaaDoor
open Go.ChangeShapes Go.WideShapes Go.ChangeAt Go.RowKit Go.AM
theorem own : ownKnob Tryd.prog.godebug = none := by kernel_rfl
theorem laidOut : laidOutB Tryd.prog = true := by kernel_rfl
def CT : Nat → Option CFun
  | 5 => some (.code s_gnomonlaw03_TokenLaid)
  | 8 => some (.code s_token_Lex)
  | 11 => some (.prim (primC (bl true)))
  | 13 => some (.code s_token_Lex_1)
  | 14 => some (.code s_token_reader_step)
  | 15 => some (.prim idxG)
  | 16 => some (.code s_token_reader_far)
  | 17 => some (.code s_token_Lex_2)
  | 18 => some (.code s_token_letter)
  | 19 => some (.code s_token_within)
  | 20 => some (.code s_token_digit)
  | 21 => some (.prim atoiG)
  | _ => none
theorem CT_ok : ∀ k c, CT k = some c → FunOk Tryd.prog (PXf (fun _ => none)) k c := by
  intro k c h
  unfold CT at h
  split at h
  · cases h; exact funOk_f (fun _ => none) TA5_5
  · cases h; exact funOk_f (fun _ => none) TA1_8
  · cases h; exact lexes_prim
  · cases h; exact funOk_f (fun _ => none) TA1_13
  · cases h; exact funOk_f (fun _ => none) TA1_14
  · cases h; exact idx_prim
  · cases h; exact funOk_f (fun _ => none) TA1_16
  · cases h; exact funOk_f (fun _ => none) TA1_17
  · cases h; exact funOk_f (fun _ => none) TA1_18
  · cases h; exact funOk_f (fun _ => none) TA1_19
  · cases h; exact funOk_f (fun _ => none) TA1_20
  · cases h; exact atoi_prim
  · cases h
theorem tl : TL CT := ⟨rfl, rfl, rfl, rfl, rfl, rfl, rfl, rfl, rfl⟩
theorem law_true (vl : V) (hl : WOk vl) (vb : V) (hb : ∃ c : Nat, vb = .s (.int .u8 c)) : ∃ m H', callN CT m (.fn 5 [] []) [vl, vb] 0 [] = some (bl true, H') := by
  obtain ⟨L, h1, h2⟩ := hl
  obtain ⟨c, rfl⟩ := hb
  obtain ⟨H', h⟩ := laid_law (CT := CT) rfl rfl tl (fun base H => lexes_fun rfl base H) h1 h2 c
  obtain ⟨m, hm⟩ := callW_ex h
  exact ⟨m, _, hm⟩
theorem f_lifted (os : Os) (started : os.Started) (H : Type) (enc : TypeId × Value → H) :
    ReturnsInHanded {} Tryd.checked os 5 .any (fun w args => (Rows.tokenLaidSpec.pre enc Tryd.prog Tryd.f5 [] false w args ∧ laidMetH Tryd.prog Rows.tokenLaidRow.laid w) ∧ sizedMet enc Tryd.prog Tryd.f5 (OpenSpec.ofChange Rows.tokenLaidSpec) false w args) (Rows.tokenLaidSpec.post enc Tryd.prog Tryd.f5 false true false false) := by
  refine returnsInHanded_of_change_and (C := Tryd.checked) (X := fun w _ => laidMetH Tryd.prog Rows.tokenLaidRow.laid w) (fun _ _ _ hh h => h.of_heap hh) own started (by kernel_rfl) Tryd.func5
    (ChangeSpec.witness_shaped (enc := enc) (C := Tryd.checked) (os := os) (X := fun w _ => laidMetH Tryd.prog Rows.tokenLaidRow.laid w) false (World.doorLaid Tryd.prog 400 os) #[.slice none 0 0, .int .u8 0] 8 rfl (World.shaped_of_RefB (by kernel_rfl) (by kernel_rfl)) (by kernel_rfl) (by kernel_rfl) (by kernel_rfl) (door_met os _)) ?_
  intro W base args ds gs before hval0 hW hcnd _ hL _
  have hval : ∀ (j : Nat) t v, Tryd.f5.params[j]? = some t → args[j]? = some v → Value.okWide Tryd.prog W .any base t v := hval0
  have hW' := hW
  obtain ⟨p, q, hA0, hV, rfl, hfz, hnd⟩ := hW'
  have hA : DataW.TrodAll enc Tryd.prog W 0 (fun _ => true) true Tryd.f5.params.toList args.toList ds p := hA0
  rw [Tryd.params5] at hA hval
  obtain ⟨v0, vs0, d0, ds0, p0, q0, ea0, ed0, ep0, h0, hA0⟩ := trodAll_cons hA
  obtain ⟨v1, vs1, d1, ds1, p1, q1, ea1, ed1, ep1, h1, hA1⟩ := trodAll_cons hA0
  obtain ⟨en, _, _⟩ := trodAll_nil hA1
  have ha : args = #[v0, v1] := by
    apply Array.ext'
    rw [ea0, ea1,  en]
  have hok0 := hval 0 35 v0 (by simp) (by rw [ha]; rfl)
  have hc0 : v0.cells.toList = [v0] := by
    unfold Value.okWide at hok0
    rw [Tryd.underlying35] at hok0
    cases v0 <;> first | rfl | exact False.elim hok0
  obtain ⟨us0, hvs0, hvr0⟩ := read_arg (ty := (.sl (.st [.int .u8, .str, .int .u8]))) (n := 20) (by kernel_rfl) hc0 h0
  obtain ⟨u0, he0, hu0⟩ := words_arg hvs0
  have hok1 := hval 1 5 v1 (by simp) (by rw [ha]; rfl)
  have hc1 : v1.cells.toList = [v1] := by
    unfold Value.okWide at hok1
    rw [Tryd.underlying5] at hok1
    cases v1 <;> first | rfl | exact False.elim hok1
  obtain ⟨us1, hvs1, hvr1⟩ := read_arg (ty := (.int .u8)) (n := 20) (by kernel_rfl) hc1 h1
  obtain ⟨u1, he1, hu1⟩ := u8_arg hvs1
  refine law_contract (CP := CT) (pure' := PXf (fun _ => none)) mixed CT_ok laidOut (by kernel_rfl) (by kernel_rfl) (tb := 4) rfl (by kernel_rfl) Tryd.underlying4 (fun t ht => ?_) (fun ds hl => ?_) hW ⟨[u0, u1], ?_, law_true u0 hu0 u1 hu1⟩ (fun B o e => by cases e)
  · rw [Tryd.params5] at ht
    have : t ∈ [35, 5] := ht
    simp only [List.mem_cons, List.not_mem_nil, or_false] at this
    rcases this with rfl | rfl <;> exact of_decide_eq_true (by kernel_rfl)
  · rw [Tryd.params5] at hl
    match ds, hl with
    | [e0, e1], _ => rfl
  · rw [ha]
    subst he0 he1
    exact VRs.cons hvr0 (VRs.cons hvr1 (VRs.nil))
theorem said : Rows.TokenLaidSaid :=
  OpenClaim.holds_of_wide 5 Tryd.f5 rfl rfl rfl rfl rfl rfl rfl ⟨rfl, rfl, rfl, rfl, rfl⟩ rfl rfl rfl rfl rfl (by kernel_rfl) Tryd.func5 (by kernel_rfl)
    (of_decide_eq_true (by kernel_rfl)) (by unfold Func.isWrapper; first | (rw [if_pos (by decide +kernel)]; kernel_rfl) | (rw [if_neg (by decide +kernel)]; exact ⟨rfl, rfl⟩))
    (fun os started H enc _ => f_lifted os started H enc)
theorem laid_holds : Rows.TokenLaidCardSaid :=
  Claim7.holds_tied_plain_at .later [] [.data, .data, .data, .sentinel, .sentinel] true (true, "2632143c2581cb554d7b49b2f3d5f19e4d6f34e69db7128ec5bc9be4c72c0f06") true
    said (fun _ h => by cases h) (by kernel_rfl) (fun _ h => by cases h) tokenLaid_row_tie rfl ⟨rfl, rfl⟩ (by kernel_rfl) rfl
    (fun f fn hf hfn => by
      obtain rfl : f = 5 := Option.some.inj ((show Tryd.prog.funcNamed Rows.tokenLaidRow.func = some 5 by kernel_rfl).symm.trans hf) |>.symm
      obtain rfl : fn = Tryd.f5 := (Option.some.inj (Tryd.func5.symm.trans hfn)).symm
      refine ⟨by kernel_rfl, fun j t ht => ?_⟩
      rw [Tryd.params5] at ht
      have hm : t ∈ [35, 5] := by
        have := Array.mem_of_getElem? ht
        simpa using this
      simp only [List.mem_cons, List.not_mem_nil, or_false] at hm
      rcases hm with rfl | rfl
      · exact (show Tryd.prog.wantsStandIn 35 = false by kernel_rfl)
      · exact (show Tryd.prog.wantsStandIn 5 = false by kernel_rfl))
    (by kernel_rfl)
end Go.Proofs.YtfnkpedipicjnaaDoor
