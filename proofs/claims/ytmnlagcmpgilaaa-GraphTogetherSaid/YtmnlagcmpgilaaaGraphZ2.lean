/- The law GraphTogether of the given program answers true for every graph and every two lists of nodes: what is reached from several is what is reached from each. No condition. -/
import Derived.Test.YtmnlagcmpgilaaaP0
import Derived.Test.YtmnlagcmpgilaaaP1
import Derived.Test.YtmnlagcmpgilaaaP2
import Derived.Test.YtmnlagcmpgilaaaP3
import Derived.Test.YtmnlagcmpgilaaaP4
import Derived.Test.YtmnlagcmpgilaaaP5
import Derived.Test.YtmnlagcmpgilaaaP6
import Derived.Test.YtmnlagcmpgilaaaRows
import Derived.ProofKit
set_option linter.all false
set_option maxRecDepth 100000
namespace Go.Proofs.Ytmnlagcmpgilaaa
open Go.ChangeShapes Go.WideShapes Go.ChangeAt Go.RowKit Go.AM
theorem Try.own : ownKnob Try.prog.godebug = none := by kernel_rfl
theorem Try.laidOut : laidOutB Try.prog = true := by kernel_rfl
theorem mixed : Try.prog.follows .mixedOrders = true := by kernel_rfl
def CT : Nat → Option CFun
  | 7 => some (.code s_gnomonlaw07_GraphTogether)
  | 9 => some (.code s_gnomonlaw07_great)
  | 10 => some (.prim (primC (bl true)))
  | 18 => some (.code s_graph_Reach)
  | 32 => some (.code s_graph_Reach_1)
  | _ => none

theorem CT_ok : ∀ k c, CT k = some c → FunOk Try.prog (fun _ => false) k c := by
  intro k c h
  unfold CT at h
  split at h
  · cases h; exact funOk_of CS1_7
  · cases h; exact funOk_of CS0_9
  · cases h; exact prim_ok mixed CQ_ok checks_true rfl
  · cases h; exact funOk_of CS1_18
  · cases h; exact funOk_of CS1_32
  · cases h
theorem law_true (v : V) (G : List (List Int)) (hv : ∀ H, RdRows H v (rowsV G)) (av : V) (a : List Int) (ha : ∀ H, Rd H av (a.map iV)) (haw : Wide1 av) (_ : a.length < 2 ^ 63) (bv : V) (b : List Int) (hb : ∀ H, Rd H bv (b.map iV)) (hbw : Wide1 bv) (_ : b.length < 2 ^ 63) : ∃ m H', callN CT m (.fn 7 [] []) [v, av, bv] 0 [] = some (bl true, H') := by
  obtain ⟨H', h⟩ := together_law (CT := CT) rfl rfl rfl rfl (fun base H => callW_eq rfl) 0 [] (Nat.le_refl _) v av bv G a b (hv _) (ha _) haw (hb _) hbw
  obtain ⟨m, hm⟩ := callW_ex h
  exact ⟨m, _, hm⟩
theorem f_lifted (os : Os) (started : os.Started) (H : Type) (enc : TypeId × Value → H) :
    ReturnsInHanded {} Try.checked os 7 .any (Rows.graphTogetherSpec.pre6 enc Try.prog Try.f7 Rows.graphTogetherRow.domain false) (Rows.graphTogetherSpec.post enc Try.prog Try.f7 false true false false) := by
  refine returnsInHanded_of_change (C := Try.checked) Try.own started (by kernel_rfl) Try.func7
    (ChangeSpec.witness6 (enc := enc) (C := Try.checked) false ⟨#[], #[.slice none 0 0, .slice none 0 0, .slice none 0 0], []⟩ 8 (by kernel_rfl) (by kernel_rfl) (by kernel_rfl) (by kernel_rfl)) ?_
  intro W base args ds gs before hval0 hW hcnd _
  have hval : ∀ (j : Nat) t v, Try.f7.params[j]? = some t → args[j]? = some v → Value.okWide Try.prog W .any base t v := hval0
  have hW' := hW
  obtain ⟨p, q, hA0, hV, rfl, hfz, hnd⟩ := hW'
  have hA : DataW.TrodAll enc Try.prog W 0 (fun _ => true) true Try.f7.params.toList args.toList ds p := hA0
  rw [Try.params7] at hA hval
  obtain ⟨v0, vs0, d0, ds0, p0, q0, ea0, ed0, ep0, h0, hA0⟩ := trodAll_cons hA
  obtain ⟨v1, vs1, d1, ds1, p1, q1, ea1, ed1, ep1, h1, hA1⟩ := trodAll_cons hA0
  obtain ⟨v2, vs2, d2, ds2, p2, q2, ea2, ed2, ep2, h2, hA2⟩ := trodAll_cons hA1
  obtain ⟨en, _, _⟩ := trodAll_nil hA2
  have ha : args = #[v0, v1, v2] := by
    apply Array.ext'
    rw [ea0, ea1, ea2,  en]
  have hok0 := hval 0 22 v0 (by simp) (by rw [ha]; rfl)
  have hc0 : v0.cells.toList = [v0] := by
    unfold Value.okWide at hok0
    rw [Try.underlying22] at hok0
    cases v0 <;> first | rfl | exact False.elim hok0
  obtain ⟨us0, hvs0, hvr0⟩ := read_arg (ty := tGraph) (n := 20) (by kernel_rfl) hc0 h0
  obtain ⟨u0, he0, G0, hG0⟩ := graph_of hvs0
  have hok1 := hval 1 28 v1 (by simp) (by rw [ha]; rfl)
  have hc1 : v1.cells.toList = [v1] := by
    unfold Value.okWide at hok1
    rw [Try.underlying28] at hok1
    cases v1 <;> first | rfl | exact False.elim hok1
  obtain ⟨us1, hvs1, hvr1⟩ := read_arg (ty := (.sl (.int .i64))) (n := 20) (by kernel_rfl) hc1 h1
  obtain ⟨u1, he1, l1, hl1, hw1, hn1⟩ := row_of hvs1
  have hok2 := hval 2 28 v2 (by simp) (by rw [ha]; rfl)
  have hc2 : v2.cells.toList = [v2] := by
    unfold Value.okWide at hok2
    rw [Try.underlying28] at hok2
    cases v2 <;> first | rfl | exact False.elim hok2
  obtain ⟨us2, hvs2, hvr2⟩ := read_arg (ty := (.sl (.int .i64))) (n := 20) (by kernel_rfl) hc2 h2
  obtain ⟨u2, he2, l2, hl2, hw2, hn2⟩ := row_of hvs2
  refine law_contract (CP := CT) (pure' := fun _ => false) mixed CT_ok Try.laidOut (by kernel_rfl) (by kernel_rfl) (tb := 4) rfl (by kernel_rfl) Try.underlying4 (fun t ht => ?_) (fun ds hl => ?_) hW ⟨[u0, u1, u2], ?_, law_true u0 G0 hG0 u1 l1 hl1 hw1 hn1 u2 l2 hl2 hw2 hn2⟩
  · rw [Try.params7] at ht
    have : t ∈ [22, 28, 28] := ht
    simp only [List.mem_cons, List.not_mem_nil, or_false] at this
    rcases this with rfl | rfl | rfl <;> exact of_decide_eq_true (by kernel_rfl)
  · rw [Try.params7] at hl
    match ds, hl with
    | [e0, e1, e2], _ => rfl
  · rw [ha]
    subst he0 he1 he2
    exact VRs.cons hvr0 (VRs.cons hvr1 (VRs.cons hvr2 (VRs.nil)))
theorem together_holds : Rows.GraphTogetherSaid :=
  OpenClaim.holds_of_wide 7 Try.f7 rfl rfl rfl rfl rfl rfl rfl ⟨rfl, rfl, rfl, rfl, rfl⟩ rfl rfl rfl rfl rfl (by kernel_rfl) Try.func7 (by kernel_rfl)
    (of_decide_eq_true (by kernel_rfl)) (by unfold Func.isWrapper; first | (rw [if_pos (by decide +kernel)]; kernel_rfl) | (rw [if_neg (by decide +kernel)]; exact ⟨rfl, rfl⟩))
    (fun os started H enc _ => f_lifted os started H enc)
end Go.Proofs.Ytmnlagcmpgilaaa
