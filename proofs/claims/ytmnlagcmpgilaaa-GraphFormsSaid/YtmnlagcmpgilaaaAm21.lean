/-
  From what the compiler gives to what the simulation asks.
-/
import Derived.Test.YtmnlagcmpgilaaaAm20
set_option linter.all false
namespace Go.AM
open Go.RowKit

section
variable {P : Program} {pure' : Nat → Bool}

theorem mapM_get2 {α β : Type} {f : α → Option β} : ∀ {l : List α} {us : List β}, l.mapM f = some us → us.length = l.length ∧ ∀ (i : Nat) (v : α) (u : β), l[i]? = some v → us[i]? = some u → f v = some u := by
  intro l
  induction l with
  | nil => intro us h; simp at h; subst h; exact ⟨rfl, fun i v u h => by simp at h⟩
  | cons x l ih =>
    intro us h
    simp only [List.mapM_cons, Option.pure_def, Option.bind_eq_bind, Option.bind_eq_some_iff] at h
    obtain ⟨v, hv, us', hus, e⟩ := h
    cases e
    obtain ⟨h1, h2⟩ := ih hus
    refine ⟨by simp [h1], fun i a u ha hu => ?_⟩
    cases i with
    | zero => simp at ha hu; subst ha; subst hu; exact hv
    | succ i => exact h2 i a u (by simpa using ha) (by simpa using hu)

theorem settle_get {bf : List Nat} {l : List AOper} {i : Nat} {a : AOper} (h : (settleCalls bf l)[i]? = some a) : ∃ b, l[i]? = some b ∧ (a = b ∨ (∃ f xs, b.op = .call f xs ∧ a = { b with op := .callR f xs }) ∨ ∃ k xs, b.op = .callP k xs ∧ a = { b with op := .callQ k xs }) := by
  unfold settleCalls at h
  have hi : i < l.length := by have := (List.getElem?_eq_some_iff.1 h).1; simpa using this
  have hg : l[i]? = some l[i] := List.getElem?_eq_getElem hi
  refine ⟨l[i], hg, ?_⟩
  rw [List.getElem?_map, List.getElem?_range hi] at h
  have hd : l.getD i default = l[i] := getD_of hg
  simp only [Option.map_some, hd, Option.some.injEq] at h
  split at h
  · rename_i f xs hop
    split at h
    · exact .inl h.symm
    · exact .inr (.inl ⟨f, xs, hop, h.symm⟩)
  · rename_i f xs hop
    split at h
    · exact .inl h.symm
    · exact .inr (.inr ⟨f, xs, hop, h.symm⟩)
  · exact .inl h.symm

theorem settle_length {bf : List Nat} {l : List AOper} : (settleCalls bf l).length = l.length := by simp [settleCalls]

theorem compRegion_ok {ops : Array Oper} {draw : Bool} {l : List AOper} {chk : List (Nat × Nat)} (h : compRegion P pure' ops draw = some (l, chk)) :
    RegR P pure' ops l ∧ (draw = true → okOrder (Region.before ops).toList chk l = true ∧ backB ops = true) := by
  unfold compRegion at h
  simp only [Option.bind_eq_bind, Option.bind_eq_some_iff] at h
  obtain ⟨l0, hl0, h⟩ := h
  obtain ⟨h1, h2⟩ := mapM_get2 hl0
  have one : ∀ (i : Nat) (o : Oper) (a : AOper), ops[i]? = some o → l0[i]? = some a → a.dst = o.dst ∧ compOp2 P pure' o = some a.op ∧ compGuard ops o.guard = some a.guard := by
    intro i o a ho ha
    have := h2 i o a (by simpa using ho) ha
    unfold compOper at this
    simp only [Option.bind_eq_bind, Option.bind_eq_some_iff, Option.pure_def, Option.some.injEq] at this
    obtain ⟨op, hop, g, hg, e⟩ := this
    subst e
    exact ⟨rfl, hop, hg⟩
  split at h
  · rename_i hd
    split at h
    · rename_i hok
      simp only [Bool.and_eq_true] at hok
      simp only [Option.pure_def, Option.some.injEq] at h
      cases h
      refine ⟨⟨by rw [settle_length, h1]; simp, fun i o a ho ha => ?_⟩, fun _ => hok⟩
      obtain ⟨b, hb, e⟩ := settle_get ha
      obtain ⟨k1, k2, k3⟩ := one i o b ho hb
      rcases e with rfl | ⟨f, xs, hop, rfl⟩ | ⟨f, xs, hop, rfl⟩
      · exact ⟨k1, .inl k2, k3⟩
      · exact ⟨k1, .inr (.inl ⟨f, xs, by rw [← hop]; exact k2, rfl⟩), k3⟩
      · exact ⟨k1, .inr (.inr ⟨f, xs, by rw [← hop]; exact k2, rfl⟩), k3⟩
    · cases h
  · rename_i hd
    simp only [Option.pure_def, Option.some.injEq] at h
    cases h
    refine ⟨⟨by rw [h1]; simp, fun i o a ho ha => ?_⟩, fun e => absurd e hd⟩
    obtain ⟨k1, k2, k3⟩ := one i o a ho ha
    exact ⟨k1, .inl k2, k3⟩

theorem compC_codeR : ∀ (c : Code) (ac : ACode), compC P pure' c = some ac.bare → CodeR P pure' c ac := by
  intro c
  induction c with
  | skip => intro ac h; simp only [compC, Option.some.injEq] at h; cases ac <;> simp only [ACode.bare] at h <;> first | exact .skip | cases h
  | exit id => intro ac h; simp only [compC, Option.some.injEq] at h; cases ac <;> simp only [ACode.bare] at h <;> first | (cases h; done) | (cases h; exact .exit _)
  | label l => intro ac h; simp only [compC, Option.some.injEq] at h; cases ac <;> simp only [ACode.bare] at h <;> first | exact .label _ | cases h
  | ret => intro ac h; simp only [compC, Option.some.injEq] at h; cases ac <;> simp only [ACode.bare] at h <;> first | exact .ret | cases h
  | scope c => intro ac h; simp [compC] at h
  | goto l => intro ac h; simp [compC] at h
  | refuse w => intro ac h; simp [compC] at h
  | region id ops draw =>
    intro ac h
    simp only [compC, Option.map_eq_some_iff] at h
    obtain ⟨⟨l, chk⟩, hr, e⟩ := h
    obtain ⟨h1, h2⟩ := compRegion_ok hr
    cases ac <;> simp only [ACode.bare] at e <;> first | (cases e; done) | (cases e; exact .region _ _ _ _ _ _ h1 h2) | (cases e; exact .regionE _ _ _ _ _ _ h1 h2)
  | seq a b iha ihb =>
    intro ac h
    simp only [compC, Option.bind_eq_bind, Option.bind_eq_some_iff, Option.pure_def, Option.some.injEq] at h
    obtain ⟨x, hx, y, hy, e⟩ := h
    cases ac <;> simp only [ACode.bare] at e <;> first | (cases e; done) | (cases e; exact .seq _ _ _ _ (iha _ hx) (ihb _ hy))
  | cond c a b iha ihb =>
    intro ac h
    simp only [compC, Option.bind_eq_bind, Option.bind_eq_some_iff, Option.pure_def, Option.some.injEq] at h
    obtain ⟨o, ho, x, hx, y, hy, e⟩ := h
    cases ac <;> simp only [ACode.bare] at e <;> first | (cases e; done) | (cases e; exact .cond _ _ _ _ _ _ ho (iha _ hx) (ihb _ hy))
  | block id c ih =>
    intro ac h
    simp only [compC, Option.bind_eq_bind, Option.bind_eq_some_iff, Option.pure_def, Option.some.injEq] at h
    obtain ⟨x, hx, e⟩ := h
    cases ac <;> simp only [ACode.bare] at e <;> first | (cases e; done) | (cases e; exact .block _ _ _ (ih _ hx))
  | loop c ih =>
    intro ac h
    simp only [compC, Option.bind_eq_bind, Option.bind_eq_some_iff, Option.pure_def, Option.some.injEq] at h
    obtain ⟨x, hx, e⟩ := h
    cases ac <;> simp only [ACode.bare] at e <;> first | (cases e; done) | (cases e; exact .loop _ _ _ (ih _ hx))
  | rangeFunc f ps a b iha ihb =>
    intro ac h
    simp only [compC, Option.bind_eq_bind, Option.bind_eq_some_iff, Option.pure_def, Option.some.injEq] at h
    obtain ⟨o, ho, x, hx, y, hy, e⟩ := h
    cases ac <;> simp only [ACode.bare] at e <;> first | (cases e; done) | (cases e; exact .rangeFunc _ _ _ _ _ _ _ ho (iha _ hx) (ihb _ hy))

/-- What the compiler makes of a function. -/
def compK (P : Program) (pure' : Nat → Bool) (k : Nat) : Option (Bool × Nat × List ARes × ACode) :=
  match P.funcs[k]? with
  | some fn => match fn.body with
    | some body => match compC P pure' body, fn.results.toList.mapM (compRes P) with
      | some a, some rs => some (fn.name == "runtime.NumGoroutine", fn.ntmps, rs, a)
      | _, _ => none
    | none => none
  | none => none

theorem funOk_of {k : Nat} {c : ACFun} (h : compK P pure' k = some (false, c.ntmps, c.results, c.body.bare)) : FunOk P pure' k (.code c) := by
  unfold compK at h
  split at h
  · rename_i fn hfn
    split at h
    · rename_i body hb
      split at h
      · rename_i a rs ha hrs
        simp only [Option.some.injEq, Prod.mk.injEq] at h
        obtain ⟨h1, h2, h3, h4⟩ := h
        exact ⟨fn, body, hfn, hb, h1, compC_codeR _ _ (by rw [ha, h4]), h2, by rw [hrs, h3]⟩
      · cases h
    · cases h
  · cases h
end
end Go.AM
