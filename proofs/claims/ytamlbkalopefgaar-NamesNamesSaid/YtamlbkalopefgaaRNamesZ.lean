/- The law NamesNames of the given program answers true for every text: names.Is is the document's. No condition. -/
import Derived.Test.YtamlbkalopefgaaRNamesF3
import Derived.Test.YtamlbkalopefgaaRRows
import Derived.ProofKit
set_option linter.all false
set_option maxRecDepth 100000
namespace Go.Proofs.YtamlbkalopefgaaR
open Go.ChangeShapes Go.WideShapes Go.ChangeAt Go.RowKit Go.AM
theorem Try.own : ownKnob Try.prog.godebug = none := by kernel_rfl
theorem Try.laidOut : laidOutB Try.prog = true := by kernel_rfl
def CT : Nat → Option CFun
  | 3 => some (.code s_gnomonlaw05_NamesNames)
  | 7 => some (.code s_names_Is)
  | 8 => some (.code s_gnomonref05_Is)
  | 9 => some (.prim (primC (bl true)))
  | _ => none
theorem mixed : Try.prog.follows .mixedOrders = true := by kernel_rfl
theorem CT_ok : ∀ k c, CT k = some c → FunOk Try.prog (fun _ => false) k c := by
  intro k c h
  unfold CT at h
  split at h
  · cases h; exact funOk_of CS0_3
  · cases h; exact funOk_of CS0_7
  · cases h; exact funOk_of CS0_8
  · cases h; exact prim_ok mixed CQ_ok checks_true rfl
  · cases h
theorem law_true (b : ByteArray) : ∃ n H', callN CT n (.fn 3 [] []) [.s (.string b)] 0 [] = some (bl true, H') := by
  have h := names_law CT rfl b (fun b base H => is_fun CT rfl b base H) (fun b base H => isr_fun CT rfl b base H) (fun base H => callW_eq rfl)
  obtain ⟨n, hn⟩ := callW_ex h
  exact ⟨n, _, hn⟩
theorem f_lifted (os : Os) (started : os.Started) (H : Type) (enc : TypeId × Value → H) :
    ReturnsInHanded {} Try.checked os 3 .any (Rows.namesNamesSpec.pre6 enc Try.prog Try.f3 Rows.namesNamesRow.domain false) (Rows.namesNamesSpec.post enc Try.prog Try.f3 false true false false) := by
  refine returnsInHanded_of_change (C := Try.checked) Try.own started (by kernel_rfl) Try.func3
    (ChangeSpec.witness6 (enc := enc) (C := Try.checked) false ⟨#[], #[.string ⟨#[]⟩], []⟩ 8 (by kernel_rfl) (by kernel_rfl) (by kernel_rfl) (by kernel_rfl)) ?_
  intro W base args ds gs before hval0 hW hcnd _
  have hval : ∀ (j : Nat) t v, Try.f3.params[j]? = some t → args[j]? = some v → Value.okWide Try.prog W .any base t v := hval0
  have hW' := hW
  obtain ⟨p, q, hA0, hV, rfl, hfz, hnd⟩ := hW'
  have hA : DataW.TrodAll enc Try.prog W 0 (fun _ => true) true Try.f3.params.toList args.toList ds p := hA0
  rw [Try.params3] at hA hval
  obtain ⟨v0, d0, ha, _, h0⟩ := trodAll_one hA
  obtain ⟨b, hb, _, _, hs⟩ := Go.ChangeMaps.open_string Try.underlying9 (hval 0 9 v0 (by simp) (by rw [ha]; rfl)) h0
  subst hb
  refine law_contract (CP := CT) (pure' := fun _ => false) mixed CT_ok Try.laidOut (by kernel_rfl) (by kernel_rfl) (tb := 4) rfl (by kernel_rfl) Try.underlying4 (fun t ht => ?_) (fun ds hl => ?_) hW ⟨[.s (.string b)], ?_, law_true b⟩
  · rw [Try.params3] at ht
    obtain rfl : t = 9 := by simpa using ht
    exact of_decide_eq_true (by kernel_rfl)
  · rw [Try.params3] at hl
    match ds, hl with
    | [d], _ => rfl
  · rw [ha]
    exact VRs.cons (VR.s _) VRs.nil
theorem names_holds : Rows.NamesNamesSaid :=
  OpenClaim.holds_of_wide 3 Try.f3 rfl rfl rfl rfl rfl rfl rfl ⟨rfl, rfl, rfl, rfl, rfl⟩ rfl rfl rfl rfl rfl (by kernel_rfl) Try.func3 (by kernel_rfl)
    (of_decide_eq_true (by kernel_rfl)) (by unfold Func.isWrapper; first | (rw [if_pos (by decide +kernel)]; kernel_rfl) | (rw [if_neg (by decide +kernel)]; exact ⟨rfl, rfl⟩))
    (fun os started H enc _ => f_lifted os started H enc)
end Go.Proofs.YtamlbkalopefgaaR
