/- The closed law TokenKnown of the given program answers true: the chapter's examples, each error, the limit. The package's variables are as the program's text lays them. -/
import Derived.Test.YtfnkpedipicjnaaDoorP0
import Derived.Test.YtfnkpedipicjnaaDoorP1
import Derived.Test.YtfnkpedipicjnaaDoorP2
import Derived.Test.YtfnkpedipicjnaaDoorP3
import Derived.Test.YtfnkpedipicjnaaDoorP4
import Derived.Test.YtfnkpedipicjnaaDoorP5
set_option linter.all false
set_option maxRecDepth 100000
namespace Go.Proofs.YtfnkpedipicjnaaDoor
open Go.ChangeShapes Go.WideShapes Go.ChangeAt Go.RowKit Go.AM
theorem own : ownKnob Tryd.prog.godebug = none := by kernel_rfl
theorem laidOut : laidOutB Tryd.prog = true := by kernel_rfl
def CT : Nat → Option CFun
  | 6 => some (.code s_gnomonlaw03_TokenKnown)
  | 8 => some (.code s_token_Lex)
  | 11 => some (.prim (primC (bl true)))
  | 13 => some (.code s_token_Lex_1)
  | 14 => some (.code s_token_reader_step)
  | 15 => some (.prim idxG)
  | 16 => some (.code s_token_reader_far)
  | 17 => some (.code s_token_Lex_2)
  | 18 => some (.code s_token_letter)
  | 19 => some (.code s_token_within)
  | 20 => some (.code s_token_digit)
  | 21 => some (.prim atoiG)
  | _ => none
theorem CT_ok : ∀ k c, CT k = some c → FunOk Tryd.prog (PXf (fun _ => none)) k c := by
  intro k c h
  unfold CT at h
  split at h
  · cases h; exact funOk_f (fun _ => none) TA6_6
  · cases h; exact funOk_f (fun _ => none) TA1_8
  · cases h; exact lexes_prim
  · cases h; exact funOk_f (fun _ => none) TA1_13
  · cases h; exact funOk_f (fun _ => none) TA1_14
  · cases h; exact idx_prim
  · cases h; exact funOk_f (fun _ => none) TA1_16
  · cases h; exact funOk_f (fun _ => none) TA1_17
  · cases h; exact funOk_f (fun _ => none) TA1_18
  · cases h; exact funOk_f (fun _ => none) TA1_19
  · cases h; exact funOk_f (fun _ => none) TA1_20
  · cases h; exact atoi_prim
  · cases h
theorem tl : TL CT := ⟨rfl, rfl, rfl, rfl, rfl, rfl, rfl, rfl, rfl⟩
theorem law_true : ∃ m H', callN CT m (.fn 6 [] []) [] 0 [] = some (bl true, H') := by
  obtain ⟨H', h⟩ := known_law (CT := CT) rfl rfl tl (fun base H => lexes_fun rfl base H)
  obtain ⟨m, hm⟩ := callW_ex h
  exact ⟨m, _, hm⟩
theorem f_lifted (os : Os) (started : os.Started) (H : Type) (enc : TypeId × Value → H) :
    ReturnsInHanded {} Tryd.checked os 6 .any (fun w args => (Rows.tokenKnownSpec.pre enc Tryd.prog Tryd.f6 [] false w args ∧ laidMetH Tryd.prog Rows.tokenKnownRow.laid w) ∧ sizedMet enc Tryd.prog Tryd.f6 (OpenSpec.ofChange Rows.tokenKnownSpec) false w args) (Rows.tokenKnownSpec.post enc Tryd.prog Tryd.f6 false true false false) := by
  refine returnsInHanded_of_change_and (C := Tryd.checked) (X := fun w _ => laidMetH Tryd.prog Rows.tokenKnownRow.laid w) (fun _ _ _ hh h => h.of_heap hh) own started (by kernel_rfl) Tryd.func6
    (ChangeSpec.witness_shaped (enc := enc) (C := Tryd.checked) (os := os) (X := fun w _ => laidMetH Tryd.prog Rows.tokenKnownRow.laid w) false (World.doorLaid Tryd.prog 400 os) #[] 8 rfl (World.shaped_of_RefB (by kernel_rfl) (by kernel_rfl)) (by kernel_rfl) (by kernel_rfl) (by kernel_rfl) (door_met os _)) ?_
  intro W base args ds gs before hval0 hW hcnd _ hL _
  have hval : ∀ (j : Nat) t v, Tryd.f6.params[j]? = some t → args[j]? = some v → Value.okWide Tryd.prog W .any base t v := hval0
  have hW' := hW
  obtain ⟨p, q, hA0, hV, rfl, hfz, hnd⟩ := hW'
  have hA : DataW.TrodAll enc Tryd.prog W 0 (fun _ => true) true Tryd.f6.params.toList args.toList ds p := hA0
  rw [Tryd.params6] at hA hval
  obtain ⟨en, _, _⟩ := trodAll_nil hA
  have ha : args = #[] := by
    exact Array.ext' en
  refine law_contract (CP := CT) (pure' := PXf (fun _ => none)) mixed CT_ok laidOut (by kernel_rfl) (by kernel_rfl) (tb := 4) rfl (by kernel_rfl) Tryd.underlying4 (fun t ht => ?_) (fun ds hl => ?_) hW ⟨[], ?_, law_true ⟩ (fun B o e => by cases e)
  · rw [Tryd.params6] at ht
    cases ht
  · rw [Tryd.params6] at hl
    match ds, hl with
    | [], _ => rfl
  · rw [ha]
    exact VRs.nil
theorem said : Rows.TokenKnownSaid :=
  OpenClaim.holds_of_wide 6 Tryd.f6 rfl rfl rfl rfl rfl rfl rfl ⟨rfl, rfl, rfl, rfl, rfl⟩ rfl rfl rfl rfl rfl (by kernel_rfl) Tryd.func6 (by kernel_rfl)
    (of_decide_eq_true (by kernel_rfl)) (by unfold Func.isWrapper; first | (rw [if_pos (by decide +kernel)]; kernel_rfl) | (rw [if_neg (by decide +kernel)]; exact ⟨rfl, rfl⟩))
    (fun os started H enc _ => f_lifted os started H enc)
theorem known_holds : Rows.TokenKnownCardSaid :=
  Claim7.holds_tied_plain_at .later [] [.data, .data, .data, .sentinel, .sentinel] true (true, "2632143c2581cb554d7b49b2f3d5f19e4d6f34e69db7128ec5bc9be4c72c0f06") true
    said (fun _ h => by cases h) (by kernel_rfl) (fun _ h => by cases h) tokenKnown_row_tie rfl ⟨rfl, rfl⟩ (by kernel_rfl) rfl
    (fun f fn hf hfn => by
      obtain rfl : f = 6 := Option.some.inj ((show Tryd.prog.funcNamed Rows.tokenKnownRow.func = some 6 by kernel_rfl).symm.trans hf) |>.symm
      obtain rfl : fn = Tryd.f6 := (Option.some.inj (Tryd.func6.symm.trans hfn)).symm
      refine ⟨by kernel_rfl, fun j t ht => ?_⟩
      rw [Tryd.params6] at ht
      simp at ht)
    (by kernel_rfl)
end Go.Proofs.YtfnkpedipicjnaaDoor
