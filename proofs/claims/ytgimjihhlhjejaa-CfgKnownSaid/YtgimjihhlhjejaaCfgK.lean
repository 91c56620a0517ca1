/- The closed law CfgKnown of the given program answers true. No condition. -/
import Derived.Test.YtgimjihhlhjejaaP0
import Derived.Test.YtgimjihhlhjejaaP1
import Derived.Test.YtgimjihhlhjejaaP2
import Derived.Test.YtgimjihhlhjejaaP3
import Derived.ProofKit
import Derived.LaidMore
import Derived.Stop.Joined
import Derived.Test.YtgimjihhlhjejaaRows
set_option linter.all false
set_option maxRecDepth 100000
namespace Go.Proofs.Ytgimjihhlhjejaa
open Go.ChangeShapes Go.WideShapes Go.ChangeAt Go.RowKit Go.AM
theorem Try.own : ownKnob Try.prog.godebug = none := by kernel_rfl
theorem Try.laidOut : laidOutB Try.prog = true := by kernel_rfl
theorem mixed : Try.prog.follows .mixedOrders = true := by kernel_rfl
theorem mapM_s {α β : Type} (f : α → Option β) (g : List β → V) (u : Value) (l : List α) (hg : ∀ x, g x ≠ .s u) : (l.mapM f).map g ≠ some (.s u) := by
  cases l.mapM f with
  | none => intro h; cases h
  | some x => intro h; exact hg x (Option.some.inj h)
theorem frz_s {H : Heap} {n : Nat} {v : V} {u : Value} (h : frz H (n + 1) v = some (.s u)) : v = .s u := by
  unfold frz at h
  cases v with
  | s x => exact Option.some.inj h
  | agg cs => exact absurd h (mapM_s _ _ _ _ (fun _ => by intro h; cases h))
  | tup cs => exact absurd h (mapM_s _ _ _ _ (fun _ => by intro h; cases h))
  | _ =>
    simp only at h
    revert h
    repeat' split
    all_goals first | (intro h; cases h; done) | (intro h; exact absurd h (mapM_s _ _ _ _ (fun _ => by intro h; cases h)))
theorem gives_true {CP : Nat → Option CFun} {n k : Nat} (h : givesE CP n k = some (bl true)) : ∃ H0, callN CP n (.fn k [] []) [] 0 [] = some (bl true, H0) := by
  unfold givesE at h
  rw [callE_eq] at h
  cases hc : callN CP n (.fn k [] []) [] 0 [] with
  | none => rw [hc] at h; cases h
  | some r =>
    obtain ⟨v, H0⟩ := r
    rw [hc] at h
    have hz : frz H0 (11 + 1) v = some (bl true) := h
    exact ⟨H0, by rw [show v = bl true from frz_s hz]⟩
theorem f_lifted (os : Os) (started : os.Started) (H : Type) (enc : TypeId × Value → H) :
    ReturnsInHanded {} Try.checked os 7 .any (Rows.cfgKnownSpec.pre6 enc Try.prog Try.f7 Rows.cfgKnownRow.domain false) (Rows.cfgKnownSpec.post enc Try.prog Try.f7 false true false false) := by
  refine returnsInHanded_of_change (C := Try.checked) Try.own started (by kernel_rfl) Try.func7
    (ChangeSpec.witness6 (enc := enc) (C := Try.checked) false ⟨#[], #[], []⟩ 8 (by kernel_rfl) (by kernel_rfl) (by kernel_rfl) (by kernel_rfl)) ?_
  intro W base args ds gs before hval0 hW hcnd _
  have hW' := hW
  obtain ⟨p, q, hA0, hV, rfl, hfz, hnd⟩ := hW'
  have hA : DataW.TrodAll enc Try.prog W 0 (fun _ => true) true Try.f7.params.toList args.toList ds p := hA0
  rw [Try.params7] at hA
  obtain ⟨ha, _, _⟩ := trodAll_nil hA
  obtain rfl : args = #[] := Array.ext' ha
  obtain ⟨H0, hk⟩ := gives_true known_true
  refine law_contract (CP := CQ) (pure' := PXf (fun _ => none)) mixed (CQ_ok (fun _ => none)) Try.laidOut (by kernel_rfl) (by kernel_rfl) (tb := 4) rfl (by kernel_rfl) Try.underlying4 (fun t ht => ?_) (fun ds hl => ?_) hW ⟨[], VRs.nil, 400, H0, hk⟩ (fun B o e => by cases e)
  · rw [Try.params7] at ht
    cases ht
  · rw [Try.params7] at hl
    match ds, hl with
    | [], _ => rfl
theorem known_holds : Rows.CfgKnownSaid :=
  OpenClaim.holds_of_wide 7 Try.f7 rfl rfl rfl rfl rfl rfl rfl ⟨rfl, rfl, rfl, rfl, rfl⟩ rfl rfl rfl rfl rfl (by kernel_rfl) Try.func7 (by kernel_rfl)
    (of_decide_eq_true (by kernel_rfl)) (by unfold Func.isWrapper; first | (rw [if_pos (by decide +kernel)]; kernel_rfl) | (rw [if_neg (by decide +kernel)]; exact ⟨rfl, rfl⟩))
    (fun os started H enc _ => f_lifted os started H enc)
end Go.Proofs.Ytgimjihhlhjejaa
