/- The law CfgUses of the given program answers true for every instruction: cfg.Uses is the document's, and what is handed in stays. No condition. -/
import Derived.Test.YtgimjihhlhjejaaCfgF5
import Derived.Test.YtgimjihhlhjejaaCfgC
import Derived.Test.YtgimjihhlhjejaaAmR
import Derived.Test.YtgimjihhlhjejaaRows
import Derived.ProofKit
set_option linter.all false
set_option maxRecDepth 100000
namespace Go.Proofs.Ytgimjihhlhjejaa
open Go.ChangeShapes Go.WideShapes Go.ChangeAt Go.RowKit Go.AM
theorem Try.own : ownKnob Try.prog.godebug = none := by kernel_rfl
theorem Try.laidOut : laidOutB Try.prog = true := by kernel_rfl
def CT : Nat → Option CFun
  | 3 => some (.code s_gnomonlaw10_CfgUses)
  | 8 => some (.code s_cfg_Uses)
  | 9 => some (.code s_gnomonref05_Uses)
  | 10 => some (.code s_gnomonref05_SameInstr)
  | 11 => some (.prim (primC (bl true)))
  | 19 => some (.code s_cfg_some)
  | 20 => some (.code s_gnomonref05_sameTexts)
  | 26 => some (.code s_slices_DeleteFunc_string_string)
  | 27 => some (.code s_cfg_some_1)
  | 35 => some (.code s_slices_IndexFunc_string_string)
  | _ => none
theorem mixed : Try.prog.follows .mixedOrders = true := by kernel_rfl
theorem CT_ok : ∀ k c, CT k = some c → FunOk Try.prog (fun _ => false) k c := by
  intro k c h
  unfold CT at h
  split at h
  · cases h; exact funOk_of CS0_3
  · cases h; exact funOk_of CS0_8
  · cases h; exact funOk_of CS0_9
  · cases h; exact funOk_of CS0_10
  · cases h; exact prim_ok mixed CQ_ok checks_true rfl
  · cases h; exact funOk_of CS0_19
  · cases h; exact funOk_of CS0_20
  · cases h; exact funOk_of CS0_26
  · cases h; exact funOk_of CS0_27
  · cases h; exact funOk_of CS0_35
  · cases h
theorem law_true (o : Int) (d a b : ByteArray) (n : Int) (f : ByteArray) (av lv : V) (l ll : List ByteArray) (hv : ∀ H, Rd H av (l.map S)) (hl : ∀ H, Rd H lv (ll.map S)) (hw : Wide1 av) (hwl : Wide1 lv) (hn : l.length < 2 ^ 63) (hn2 : ll.length < 2 ^ 63) :
    ∃ m H', callN CT m (.fn 3 [] []) [instr o d a b n f av lv] 0 [] = some (bl true, H') := by
  obtain ⟨H', h⟩ := uses_law (CT := CT) rfl rfl rfl rfl rfl rfl rfl rfl rfl (fun base H => callW_eq rfl) 0 [] (Nat.le_refl _) o d a b n f av lv l ll hv hl hw hwl hn hn2
  obtain ⟨m, hm⟩ := callW_ex h
  exact ⟨m, _, hm⟩
/-- the type api.Instr -/
def tInstr : Ty := .st [.int .u8, .str, .str, .str, .int .i64, .str, .sl .str, .sl .str]
theorem strs_of {v : List V} (h : IsV (.sl .str) v) : ∃ u, v = [u] ∧ ∃ l : List ByteArray, (∀ H, Rd H u (l.map S)) ∧ Wide1 u ∧ l.length < 2 ^ 63 := by
  rcases h with rfl | ⟨es, rfl, hl, he⟩
  · exact ⟨nilS, rfl, [], fun H => Rd.nil H, trivial, by decide⟩
  · have : ∀ es : List (List V), (∀ x ∈ es, IsV .str x) → ∃ l : List ByteArray, es = (l.map S).map fun x => [x] := by
      intro es
      induction es with
      | nil => intro _; exact ⟨[], rfl⟩
      | cons e es ih =>
        intro h
        obtain ⟨b, rfl, _⟩ := h e List.mem_cons_self
        obtain ⟨l, rfl⟩ := ih fun x hx => h x (List.mem_cons_of_mem _ hx)
        exact ⟨b :: l, rfl⟩
    obtain ⟨l, rfl⟩ := this es he
    refine ⟨_, rfl, l, fun H => Rd.psl H _, ?_, ?_⟩
    · intro e he
      rw [List.mem_map] at he
      obtain ⟨x, _, rfl⟩ := he
      rfl
    · simp only [List.length_map, maxLen] at hl
      omega
theorem instr_of {v : List V} (h : IsV tInstr v) : ∃ (o : Int) (d a b : ByteArray) (n : Int) (f : ByteArray) (av lv : V) (l ll : List ByteArray), V.agg v = instr o d a b n f av lv ∧ (∀ H, Rd H av (l.map S)) ∧ (∀ H, Rd H lv (ll.map S)) ∧ Wide1 av ∧ Wide1 lv ∧ l.length < 2 ^ 63 ∧ ll.length < 2 ^ 63 := by
  obtain ⟨_, _, rfl, ⟨o, rfl, _⟩, _, _, rfl, ⟨d, rfl, _⟩, _, _, rfl, ⟨a, rfl, _⟩, _, _, rfl, ⟨b, rfl, _⟩, _, _, rfl, ⟨n, rfl, _⟩, _, _, rfl, ⟨f, rfl, _⟩, _, _, rfl, h1, _, _, rfl, h2, rfl⟩ := h
  obtain ⟨av, rfl, l, q1, q2, q3⟩ := strs_of h1
  obtain ⟨lv, rfl, ll, r1, r2, r3⟩ := strs_of h2
  exact ⟨o, d, a, b, n, f, av, lv, l, ll, rfl, q1, r1, q2, r2, q3, r3⟩
theorem f_lifted (os : Os) (started : os.Started) (H : Type) (enc : TypeId × Value → H) :
    ReturnsInHanded {} Try.checked os 3 .any (Rows.cfgUsesSpec.pre6 enc Try.prog Try.f3 Rows.cfgUsesRow.domain false) (Rows.cfgUsesSpec.post enc Try.prog Try.f3 false true false false) := by
  refine returnsInHanded_of_change (C := Try.checked) Try.own started (by kernel_rfl) Try.func3
    (ChangeSpec.witness6 (enc := enc) (C := Try.checked) false ⟨#[], #[.agg #[.int .u8 0, .string ⟨#[]⟩, .string ⟨#[]⟩, .string ⟨#[]⟩, .int .i64 0, .string ⟨#[]⟩, .slice none 0 0, .slice none 0 0]], []⟩ 8 (by kernel_rfl) (by kernel_rfl) (by kernel_rfl) (by kernel_rfl)) ?_
  intro W base args ds gs before hval0 hW hcnd _
  have hval : ∀ (j : Nat) t v, Try.f3.params[j]? = some t → args[j]? = some v → Value.okWide Try.prog W .any base t v := hval0
  have hW' := hW
  obtain ⟨p, q, hA0, hV, rfl, hfz, hnd⟩ := hW'
  have hA : DataW.TrodAll enc Try.prog W 0 (fun _ => true) true Try.f3.params.toList args.toList ds p := hA0
  rw [Try.params3] at hA hval
  obtain ⟨v0, d0, ha, _, h0⟩ := trodAll_one hA
  have hok := hval 0 25 v0 (by simp) (by rw [ha]; rfl)
  have hagg : ∃ vs, v0 = .agg vs := by
    unfold Value.okWide at hok
    rw [Try.underlying25] at hok
    obtain ⟨cs, rfl, _⟩ := hok
    exact ⟨cs, rfl⟩
  obtain ⟨vs, hvs, hvr⟩ := read_arg (ty := tInstr) (n := 20) (by kernel_rfl) hagg h0
  obtain ⟨o, d, a, b, n, f, av, lv, l, ll, he, q1, q2, q3, q4, q5, q6⟩ := instr_of hvs
  refine law_contract (CP := CT) (pure' := fun _ => false) mixed CT_ok Try.laidOut (by kernel_rfl) (by kernel_rfl) (tb := 4) rfl (by kernel_rfl) Try.underlying4 (fun t ht => ?_) (fun ds hl => ?_) hW ⟨[instr o d a b n f av lv], ?_, law_true o d a b n f av lv l ll q1 q2 q3 q4 q5 q6⟩
  · rw [Try.params3] at ht
    obtain rfl : t = 25 := by simpa using ht
    exact of_decide_eq_true (by kernel_rfl)
  · rw [Try.params3] at hl
    match ds, hl with
    | [d], _ => rfl
  · rw [ha, ← he]
    exact VRs.cons hvr VRs.nil
theorem uses_holds : Rows.CfgUsesSaid :=
  OpenClaim.holds_of_wide 3 Try.f3 rfl rfl rfl rfl rfl rfl rfl ⟨rfl, rfl, rfl, rfl, rfl⟩ rfl rfl rfl rfl rfl (by kernel_rfl) Try.func3 (by kernel_rfl)
    (of_decide_eq_true (by kernel_rfl)) (by unfold Func.isWrapper; first | (rw [if_pos (by decide +kernel)]; kernel_rfl) | (rw [if_neg (by decide +kernel)]; exact ⟨rfl, rfl⟩))
    (fun os started H enc _ => f_lifted os started H enc)
end Go.Proofs.Ytgimjihhlhjejaa
