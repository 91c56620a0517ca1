/-
  Rows told as expressions: sound.
-/
import Derived.Test.YtmnlagcmpgilaaaAm17
set_option linter.all false
namespace Go.AM
open Go.RowKit
section
variable {call : CallF} {base : Nat} {fr fr' vs : List V} {H H' : Heap}

theorem ev_num {x : Opd} {k : Nat} (h : vs.getD k .unk = ev fr x) : ev vs (x.num k) = ev fr x := by
  cases x with
  | t i => exact h
  | c v => rfl

theorem numFrom_ev : ∀ (l : List Opd) (k : Nat), (∀ j x, l[j]? = some x → vs.getD (k + j) .unk = ev fr x) → (numFrom k l).map (ev vs) = l.map (ev fr) := by
  intro l
  induction l with
  | nil => intro k _; rfl
  | cons x l ih =>
    intro k h
    simp only [numFrom, List.map_cons]
    rw [ev_num (by simpa using h 0 x rfl), ih (k + 1) fun j y hj => by have := h (j + 1) y (by simpa using hj); rw [← this]; congr 1; omega]

theorem numParts_ev : ∀ (l : List (Nat × Opd)) (k : Nat), (∀ j x, l[j]? = some x → vs.getD (k + j) .unk = ev fr x.2) → (numParts k l).map (fun p => (p.1, ev vs p.2)) = l.map (fun p => (p.1, ev fr p.2)) := by
  intro l
  induction l with
  | nil => intro k _; rfl
  | cons x l ih =>
    intro k h
    simp only [numParts, List.map_cons]
    rw [ev_num (by simpa using h 0 x rfl), ih (k + 1) fun j y hj => by have := h (j + 1) y (by simpa using hj); rw [← this]; congr 1; omega]

theorem bnd_num {d : Nat} {o : Option Opd} {k : Nat} (h : ∀ x, o = some x → vs.getD k .unk = ev fr x) : bndA vs d (optNum o k) = bndA fr d o := by
  cases o with
  | none => rfl
  | some x => simp only [optNum, Option.map_some, bndA, ev_num (h x rfl)]

/-- An operation, its operands numbered through. -/
theorem ren_ev {c' : CallF} {b' : Nat} (op : AOp) (hq : op.quiet = true) (h : ∀ k x, op.opds[k]? = some x → vs.getD k .unk = ev fr x) : evOp c' b' vs H op.ren = evOp call base fr H op := by
  cases op <;> first | (simp [AOp.quiet] at hq; done) | skip
  case build z pl ps =>
    have := numParts_ev (vs := vs) (fr := fr) ps 0 fun j x hx => by
      rw [Nat.zero_add]
      exact h j x.2 (by simp only [AOp.opds, List.getElem?_map, hx, Option.map_some])
    simp only [AOp.ren, evOp, this]
  case mkFn f a b =>
    have h1 := numFrom_ev (vs := vs) (fr := fr) a 0 fun j x hx => by
      rw [Nat.zero_add]
      refine h j x ?_
      simp only [AOp.opds]
      rw [List.getElem?_append_left (List.getElem?_eq_some_iff.1 hx).1]; exact hx
    have h2 := numFrom_ev (vs := vs) (fr := fr) b a.length fun j x hx => by
      refine h (a.length + j) x ?_
      simp only [AOp.opds]
      rw [List.getElem?_append_right (by omega)]
      simpa using hx
    simp only [AOp.ren, evOp, h1, h2]
  case subStr x lo hi =>
    have h0 := ev_num (vs := vs) (k := 0) (h 0 x rfl)
    have h1 : ∀ d, bndA vs d (optNum lo 1) = bndA fr d lo := fun d => bnd_num fun y hy => h 1 y (by subst hy; rfl)
    have h2 : ∀ d, bndA vs d (optNum hi (1 + lo.toList.length)) = bndA fr d hi := fun d => bnd_num fun y hy => h _ y (by subst hy; cases lo <;> rfl)
    simp only [AOp.ren, evOp, h0, h1, h2]
  case subSl sz x lo hi mx =>
    have h0 := ev_num (vs := vs) (k := 0) (h 0 x rfl)
    have h1 : ∀ d, bndA vs d (optNum lo 1) = bndA fr d lo := fun d => bnd_num fun y hy => h 1 y (by subst hy; rfl)
    have h2 : ∀ d, bndA vs d (optNum hi (1 + lo.toList.length)) = bndA fr d hi := fun d => bnd_num fun y hy => h _ y (by subst hy; cases lo <;> rfl)
    cases mx with
    | none => simp only [AOp.ren, optNum, Option.map_none, evOp, h0]; simp only [optNum] at h1 h2; simp only [h1, h2]
    | some m =>
      have h3 := ev_num (vs := vs) (k := 1 + lo.toList.length + hi.toList.length) (h _ m (by cases lo <;> cases hi <;> rfl))
      cases hi with
      | none => simp only [AOp.ren, optNum, Option.map_none, Option.map_some, evOp]
      | some y =>
        have h4 := ev_num (vs := vs) (k := 1 + lo.toList.length) (h _ y (by cases lo <;> rfl))
        have h1' := h1 0
        simp only [optNum] at h1'
        simp only [AOp.ren, optNum, Option.map_some, evOp, h0, h1']
        simp only [Option.toList_some, List.length_cons, List.length_nil] at h3 h4
        cases bndA fr 0 lo with
        | none => rfl
        | some z =>
          simp only [Option.toList_some, List.length_cons, List.length_nil, h3]
          by_cases hz : z = 0
          · subst hz; simp only [h4]
          · split
            · rename_i e1 e2; exact absurd (Option.some.inj e2) hz
            · split
              · rename_i e1 e2; exact absurd (Option.some.inj e2) hz
              · rfl
  case pick c a b => simp only [AOp.ren, evOp, ev_num (h 0 c rfl), ev_num (h 1 a rfl), ev_num (h 2 b rfl)]
  all_goals first
    | (rename_i x; simp only [AOp.ren, evOp, ev_num (h 0 x rfl)]; done)
    | (rename_i x y; simp only [AOp.ren, evOp, ev_num (h 0 x rfl), ev_num (h 1 y rfl)]; done)
    | (rename_i x y; simp only [AOp.ren, evOp, ev_num (h 0 y rfl)]; done)
    | (rename_i x y; simp only [AOp.ren, evOp, ev_num (h 0 x rfl)]; done)
    | (rename_i x y z; simp only [AOp.ren, evOp, ev_num (h 0 x rfl), ev_num (h 1 y rfl)]; done)
    | (rename_i x y z; simp only [AOp.ren, evOp, ev_num (h 0 y rfl), ev_num (h 1 z rfl)]; done)
    | (rename_i x y z; simp only [AOp.ren, evOp, ev_num (h 0 z rfl)]; done)
    | (rename_i x y z u; simp only [AOp.ren, evOp, ev_num (h 0 z rfl), ev_num (h 1 u rfl)]; done)
    | (rename_i x y z u; simp only [AOp.ren, evOp, ev_num (h 0 u rfl)]; done)
    | (rename_i x y z u q; simp only [AOp.ren, evOp, ev_num (h 0 z rfl), ev_num (h 1 u rfl)]; done)

theorem quiet_heap {op : AOp} (hq : op.quiet = true) {v : V} (h : evOp call base fr H op = some (v, H')) : H' = H := by
  cases hc : op.cls with
  | t => exact (evOp_t hc h).1
  | r => exact (evOp_r hc h).1
  | a => cases op <;> simp [AOp.cls] at hc <;> simp [AOp.quiet] at hq
  | w => cases op <;> simp [AOp.cls] at hc <;> simp [AOp.quiet] at hq

/-- The conditions hold in a frame. -/
def holdsG (G : List (Nat × Bool × E)) (f : List V) : Prop := ∀ p ∈ G, f.getD p.1 .unk = bl p.2.1

/-- What is known of the slots. -/
def Inv (fr : List V) (H : Heap) (σ : List (Nat × Ent)) (f : List V) : Prop :=
  ∀ s, (holdsG (symGet σ s).g f → evE fr H (symGet σ s).e = some (f.getD s .unk)) ∧ (¬ holdsG (symGet σ s).g f → f.getD s .unk = und)

theorem under_holds {G K : List (Nat × Bool × E)} {f : List V} (h : under G K = true) (hk : holdsG K f) : holdsG G f := by
  intro p hp
  unfold under at h
  rw [List.all_eq_true] at h
  have := h p hp
  rw [List.any_eq_true] at this
  obtain ⟨q, hq, hpq⟩ := this
  simp only [Bool.and_eq_true, beq_iff_eq] at hpq
  rw [hpq.1, hpq.2]
  exact hk q hq

theorem symArg_ev {σ : List (Nat × Ent)} {G : List (Nat × Bool × E)} {f : List V} (hi : Inv fr H σ f) (hg : holdsG G f) {x : Opd} {e : E} (h : symArg σ G x = some e) : evE fr H e = some (ev f x) := by
  cases x with
  | c v => cases h; rfl
  | t s =>
    simp only [symArg] at h
    split at h
    · rename_i hu
      cases h
      exact (hi s).1 (under_holds hu hg)
    · cases h

theorem symArgs_ev {σ : List (Nat × Ent)} {G : List (Nat × Bool × E)} {f : List V} (hi : Inv fr H σ f) (hg : holdsG G f) : ∀ {xs : List Opd} {es : List E}, symArgs σ G xs = some es → evEs fr H es = some (xs.map (ev f)) := by
  intro xs
  induction xs with
  | nil => intro es h; cases h; rfl
  | cons x xs ih =>
    intro es h
    simp only [symArgs] at h
    split at h
    · rename_i e es' h1 h2
      cases h
      simp only [evEs, symArg_ev hi hg h1, ih h2, List.map_cons]
    · cases h

/-- An expression goes through: so does the operation, with that value. -/
theorem symOp_ev {σ : List (Nat × Ent)} {G : List (Nat × Bool × E)} {f : List V} (hi : Inv fr H σ f) (hg : holdsG G f) {o : AOp} {e : E} (h : symOp σ G o = some e) {v : V} (he : evE fr H e = some v) : evOp call base f H o = some (v, H) := by
  have gen : ∀ o : AOp, (if o.quiet then match symArgs σ G o.opds with | some xs => some (.op o.ren xs) | none => none else none) = some e → evOp call base f H o = some (v, H) := by
    intro o h
    split at h
    · rename_i hq
      split at h
      · rename_i xs hxs
        cases h
        simp only [evE, symArgs_ev hi hg hxs] at he
        have hr := ren_ev (call := call) (base := base) (c' := fun _ _ _ _ => none) (b' := 0) (vs := o.opds.map (ev f)) (fr := f) (H := H) o hq (fun k x hx => by simp [List.getD, hx])
        rw [hr] at he
        split at he
        · rename_i v' H1 hop
          cases he
          rw [hop, quiet_heap hq hop]
        · cases he
      · cases h
    · cases h
  unfold symOp at h
  split at h
  · rename_i x
    have := symArg_ev hi hg h
    rw [he] at this
    simp only [evOp, ← Option.some.inj this]
  · rename_i c a b
    split at h
    · rename_i x y z hx hy hz
      cases h
      have h1 := symArg_ev hi hg hx
      simp only [evE, h1, pickO] at he
      have hc : ev f (.t c) = f.getD c .unk := rfl
      split at he
      · rename_i heq
        have hcv : ev f (.t c) = bl true := Option.some.inj heq
        have hg2 : holdsG (G ++ [(c, true, (symGet σ c).e)]) f := by
          intro p hp
          rcases List.mem_append.1 hp with hp | hp
          · exact hg p hp
          · simp at hp; subst hp; exact hcv
        have h2 := symArg_ev hi hg2 hy
        rw [he] at h2
        simp only [evOp, hcv, bl]
        rw [← Option.some.inj h2]
      · rename_i heq
        have hcv : ev f (.t c) = bl false := Option.some.inj heq
        have hg2 : holdsG (G ++ [(c, false, (symGet σ c).e)]) f := by
          intro p hp
          rcases List.mem_append.1 hp with hp | hp
          · exact hg p hp
          · simp at hp; subst hp; exact hcv
        have h2 := symArg_ev hi hg2 hz
        rw [he] at h2
        simp only [evOp, hcv, bl]
        rw [← Option.some.inj h2]
      · cases he
    · cases h
  · exact gen _ h

/-! ### The row -/

/-- Conditions that hold are told by their expressions. -/
def Inv2 (fr : List V) (H : Heap) (σ : List (Nat × Ent)) (f : List V) : Prop :=
  Inv fr H σ f ∧ ∀ s, holdsG (symGet σ s).g f → ∀ p ∈ (symGet σ s).g, evE fr H p.2.2 = some (f.getD p.1 .unk)

theorem Inv2.start : Inv2 fr H [] fr :=
  ⟨fun _ => ⟨fun _ => rfl, fun h => absurd (fun p hp => by cases hp) h⟩, fun _ _ p hp => by cases hp⟩

theorem put_other {d : Option Nat} {v : V} {f : List V} {s : Nat} (h : d ≠ some s) : (put d v f).getD s .unk = f.getD s .unk := by
  cases d with
  | none => rfl
  | some k =>
    have hne' : ¬ k = s := fun e => h (by rw [e])
    simp [put, List.getElem?_set_ne hne']

theorem holdsG_put {G : List (Nat × Bool × E)} {f : List V} {d : Nat} {v : V} (h : G.all (fun p => p.1 != d) = true) : (holdsG G (put (some d) v f) ↔ holdsG G f) ∧ ∀ p ∈ G, (put (some d) v f).getD p.1 .unk = f.getD p.1 .unk := by
  rw [List.all_eq_true] at h
  have : ∀ p ∈ G, (put (some d) v f).getD p.1 .unk = f.getD p.1 .unk := by
    intro p hp
    have hne := h p hp
    simp only [bne_iff_ne, ne_eq] at hne
    exact put_other (fun e => hne (Option.some.inj e).symm)
  exact ⟨⟨fun h p hp => by rw [← this p hp]; exact h p hp, fun h p hp => by rw [this p hp]; exact h p hp⟩, this⟩

theorem req_pass {e : E} {K : List (Nat × Bool × E)} : ∀ (G : List (Nat × Bool × E)), (∀ p ∈ G, evE fr H p.2.2 = some (bl p.2.1)) → reqE fr H (G ++ K) e = reqE fr H K e := by
  intro G
  induction G with
  | nil => intro _; rfl
  | cons p G ih =>
    intro h
    have h1 := h p List.mem_cons_self
    simp only [List.cons_append, reqE, h1, bl, reqB, if_true]
    exact ih fun q hq => h q (List.mem_cons_of_mem _ hq)

/-- An operation: carried out with its expression's value, or not at all. -/
theorem sym_step {σ : List (Nat × Ent)} {f : List V} (hi : Inv2 fr H σ f) {o : AOper} {e : E} (he : symOp σ (symGuard σ o.guard) o.op = some e) (hreq : reqE fr H (symGuard σ o.guard) e = true) :
    (∃ v, want o f = some true ∧ evOp call base f H o.op = some (v, H) ∧ evE fr H e = some v ∧ holdsG (symGuard σ o.guard) f) ∨ (want o f = some false ∧ ¬ holdsG (symGuard σ o.guard) f) := by
  cases hg : o.guard with
  | none =>
    rw [hg] at he hreq
    simp only [symGuard, reqE] at he hreq
    obtain ⟨v, hv⟩ := Option.isSome_iff_exists.1 hreq
    have hh : holdsG [] f := fun p hp => by cases hp
    exact .inl ⟨v, by simp [want, hg], symOp_ev hi.1 hh he hv, hv, hh⟩
  | some tb =>
    obtain ⟨t, b⟩ := tb
    rw [hg] at he hreq
    simp only [symGuard] at he hreq ⊢
    by_cases hh : holdsG (symGet σ t).g f
    · have hE := (hi.1 t).1 hh
      rw [req_pass _ (fun p hp => by rw [hi.2 t hh p hp, hh p hp])] at hreq
      simp only [reqE, hE, reqB] at hreq
      split at hreq
      · rename_i z hz
        have hz : f.getD t .unk = bl z := Option.some.inj hz
        split at hreq
        · rename_i hzb
          obtain ⟨v, hv⟩ := Option.isSome_iff_exists.1 hreq
          have hh2 : holdsG ((symGet σ t).g ++ [(t, b, (symGet σ t).e)]) f := by
            intro p hp
            rcases List.mem_append.1 hp with hp | hp
            · exact hh p hp
            · simp at hp; subst hp; rw [hz, hzb]
          exact .inl ⟨v, by simp only [want, hg, hz, bl, hzb, beq_self_eq_true], symOp_ev hi.1 hh2 he hv, hv, hh2⟩
        · rename_i hzb
          refine .inr ⟨by simp only [want, hg, hz, bl]; simp [hzb], fun h2 => hzb ?_⟩
          have := h2 (t, b, (symGet σ t).e) (List.mem_append_right _ (by simp))
          simp only [hz, bl] at this
          simpa using this
      · cases hreq
    · have hu := (hi.1 t).2 hh
      refine .inr ⟨by simp only [want, hg, hu, und]; rfl, fun h2 => hh fun p hp => h2 p (List.mem_append_left _ hp)⟩

theorem symRow_mono : ∀ (os : List AOper) {τ τ' : List (Nat × Ent)} {Q Q' : List (List (Nat × Bool × E) × E)}, symRow τ Q os = some (τ', Q') → ∀ r ∈ Q, r ∈ Q' := by
  intro os
  induction os with
  | nil => intro τ τ' Q Q' h r hr; cases h; exact hr
  | cons o' os ihos =>
    intro τ τ' Q Q' h r hr
    simp only [symRow] at h
    split at h
    · split at h
      · split at h
        · exact ihos h r (List.mem_append_left _ hr)
        · cases h
      · exact ihos h r (List.mem_append_left _ hr)
    · cases h

theorem symGet_all {d : Nat} {σ : List (Nat × Ent)} (h : (σ.all fun q => q.2.g.all fun p => p.1 != d) = true) (s : Nat) : (symGet σ s).g.all (fun p => p.1 != d) = true := by
  induction σ with
  | nil => rfl
  | cons q τ ihτ =>
    obtain ⟨k, en⟩ := q
    simp only [List.all_cons, Bool.and_eq_true] at h
    simp only [symGet]
    split
    · exact h.1
    · exact ihτ h.2

theorem inv_put {σ : List (Nat × Ent)} {f : List V} (hi : Inv2 fr H σ f) {o : AOper} {e : E} {d : Nat} (hdl : d < f.length) (hok1 : (symGuard σ o.guard).all (fun p => p.1 != d) = true) (hok2 : (σ.all fun q => q.2.g.all fun p => p.1 != d) = true)
    {v : V} (h1 : holdsG (symGuard σ o.guard) f → evE fr H e = some v) (h2 : ¬ holdsG (symGuard σ o.guard) f → v = und) : Inv2 fr H ((d, ⟨symGuard σ o.guard, e⟩) :: σ) (put (some d) v f) := by
  have hG := holdsG_put (G := symGuard σ o.guard) (f := f) (v := v) hok1
  refine ⟨fun s => ?_, fun s => ?_⟩
  · simp only [symGet]
    by_cases hs : d = s
    · rw [if_pos hs]
      subst hs
      have hv : (put (some d) v f).getD d .unk = v := by simp [put, hdl]
      rw [hv]
      exact ⟨fun hh => h1 (hG.1.1 hh), fun hh => h2 fun h3 => hh (hG.1.2 h3)⟩
    · rw [if_neg hs]
      have hH := holdsG_put (f := f) (v := v) (symGet_all hok2 s)
      rw [put_other (fun e => hs (Option.some.inj e))]
      exact ⟨fun hh => (hi.1 s).1 (hH.1.1 hh), fun hh => (hi.1 s).2 fun h3 => hh (hH.1.2 h3)⟩
  · simp only [symGet]
    by_cases hs : d = s
    · rw [if_pos hs]
      intro hh p hp
      rw [hG.2 p hp]
      have hh' := hG.1.1 hh
      cases hg : o.guard with
      | none => rw [hg] at hp; cases hp
      | some tb =>
        obtain ⟨t, b⟩ := tb
        rw [hg] at hp hh'
        simp only [symGuard] at hp hh'
        have ht : holdsG (symGet σ t).g f := fun q hq => hh' q (List.mem_append_left _ hq)
        rcases List.mem_append.1 hp with hp | hp
        · exact hi.2 t ht p hp
        · simp at hp; subst hp; exact (hi.1 t).1 ht
    · rw [if_neg hs]
      have hH := holdsG_put (f := f) (v := v) (symGet_all hok2 s)
      intro hh p hp
      rw [hH.2 p hp]
      exact hi.2 s (hH.1.1 hh) p hp

theorem symRow_ev : ∀ (ops : List AOper) (σ : List (Nat × Ent)) (R : List (List (Nat × Bool × E) × E)) (f : List V) {σ' : List (Nat × Ent)} {R' : List (List (Nat × Bool × E) × E)}, symRow σ R ops = some (σ', R') → Inv2 fr H σ f → topDst ops ≤ f.length →
    (∀ r ∈ R', reqE fr H r.1 r.2 = true) → ∃ f', evOps call base ops f H = some (f', H) ∧ Inv2 fr H σ' f' ∧ f'.length = f.length ∧ ∀ s, (∀ o ∈ ops, o.dst ≠ some s) → f'.getD s .unk = f.getD s .unk := by
  intro ops
  induction ops with
  | nil => intro σ R f σ' R' h hi _ _; cases h; exact ⟨f, rfl, hi, rfl, fun _ _ => rfl⟩
  | cons o ops ih =>
    intro σ R f σ' R' h hi hlen hR
    simp only [symRow] at h
    split at h
    case h_2 => cases h
    rename_i e he
    split at h
    · rename_i d hd
      split at h
      case isFalse => cases h
      rename_i hok
      simp only [Bool.and_eq_true] at hok
      simp only [topDst, hd] at hlen
      have hdl : d < f.length := by omega
      have hol : topDst ops ≤ f.length := by omega
      have hmem := symRow_mono ops h (symGuard σ o.guard, e) (List.mem_append_right _ (by simp))
      have fin : ∀ v, (holdsG (symGuard σ o.guard) f → evE fr H e = some v) → (¬ holdsG (symGuard σ o.guard) f → v = und) →
          ∃ f', evOps call base ops (put o.dst v f) H = some (f', H) ∧ Inv2 fr H σ' f' ∧ f'.length = f.length ∧ ∀ s, (∀ o' ∈ o :: ops, o'.dst ≠ some s) → f'.getD s .unk = f.getD s .unk := by
        intro v h1 h2
        obtain ⟨f', q1, q2, q3, q4⟩ := ih _ _ _ h (inv_put hi hdl hok.1 hok.2 h1 h2) (by rw [put_length]; exact hol) hR
        rw [hd]
        refine ⟨f', q1, q2, by rw [q3, put_length], fun s hs => ?_⟩
        rw [q4 s fun o' ho' => hs o' (List.mem_cons_of_mem _ ho')]
        exact put_other (by rw [← hd]; exact hs o List.mem_cons_self)
      rcases sym_step (call := call) (base := base) hi he (hR _ hmem) with ⟨v, w1, w2, w3, w4⟩ | ⟨w1, w4⟩
      · obtain ⟨f', q1, q2⟩ := fin v (fun _ => w3) (fun h => absurd w4 h)
        exact ⟨f', by simp only [evOps, w1, w2]; exact q1, q2⟩
      · obtain ⟨f', q1, q2⟩ := fin und (fun h => absurd h w4) (fun _ => rfl)
        exact ⟨f', by simp only [evOps, w1]; exact q1, q2⟩
    · rename_i hd
      simp only [topDst, hd] at hlen
      have hmem := symRow_mono ops h (symGuard σ o.guard, e) (List.mem_append_right _ (by simp))
      obtain ⟨f', q1, q2, q3, q4⟩ := ih _ _ _ h hi hlen hR
      have q4' : ∀ s, (∀ o' ∈ o :: ops, o'.dst ≠ some s) → f'.getD s .unk = f.getD s .unk := fun s hs => q4 s fun o' ho' => hs o' (List.mem_cons_of_mem _ ho')
      rcases sym_step (call := call) (base := base) hi he (hR _ hmem) with ⟨v, w1, w2, w3, w4⟩ | ⟨w1, w4⟩
      · exact ⟨f', by simp only [evOps, w1, w2, hd, put]; exact q1, q2, q3, q4'⟩
      · exact ⟨f', by simp only [evOps, w1, hd, put]; exact q1, q2, q3, q4'⟩

/-! ### The whole row -/

theorem killS_length (ks : List Nat) : ∀ (f : List V), (killS ks f).length = f.length := by
  induction ks with
  | nil => intro f; rfl
  | cons k ks ih => intro f; exact (ih _).trans (by simp)

theorem killS_getD (ks : List Nat) : ∀ (f : List V) (s : Nat), (killS ks f).getD s .unk = if s ∈ ks then .unk else f.getD s .unk := by
  induction ks with
  | nil => intro f s; simp [killS]
  | cons k ks ih =>
    intro f s
    show (killS ks (f.set k .unk)).getD s .unk = _
    rw [ih]
    by_cases h : s ∈ ks
    · simp [h]
    · by_cases hk : k = s
      · subst hk
        by_cases hl : k < f.length
        · simp [h, hl]
        · simp [h, hl]
      · have hk' : ¬ s = k := fun e => hk e.symm
        simp [h, hk, hk']

theorem setOuts_getD : ∀ (os : List (Nat × E)) (g g' : List V), setOuts fr H os g = some g' → g'.length = g.length ∧ (∀ s, (∀ p ∈ os, p.1 ≠ s) → g'.getD s .unk = g.getD s .unk) ∧
    (∀ (val : Nat → V), (∀ p ∈ os, evE fr H p.2 = some (val p.1)) → ∀ s, s < g.length → (∃ p ∈ os, p.1 = s) → g'.getD s .unk = val s) := by
  intro os
  induction os with
  | nil => intro g g' h; cases h; exact ⟨rfl, fun _ _ => rfl, fun _ _ s _ ⟨p, hp, _⟩ => by cases hp⟩
  | cons p os ih =>
    intro g g' h
    obtain ⟨s0, e0⟩ := p
    simp only [setOuts] at h
    split at h
    case h_2 => cases h
    rename_i v hv
    obtain ⟨h1, h2, h3⟩ := ih _ _ h
    refine ⟨by rw [h1]; simp, fun s hs => ?_, fun val hval s hsl hex => ?_⟩
    · rw [h2 s fun q hq => hs q (List.mem_cons_of_mem _ hq)]
      have hne : s0 ≠ s := hs _ List.mem_cons_self
      simp [hne]
    · by_cases hin : ∃ q ∈ os, q.1 = s
      · exact h3 val (fun q hq => hval q (List.mem_cons_of_mem _ hq)) s (by simpa using hsl) hin
      · obtain ⟨q, hq, hqs⟩ := hex
        rcases List.mem_cons.1 hq with rfl | hq
        · have hqs : s0 = s := hqs
          subst hqs
          rw [h2 s0 fun q hq e => hin ⟨q, hq, e⟩]
          have := hval (s0, e0) List.mem_cons_self
          simp only at this
          rw [hv] at this
          simp [hsl, Option.some.inj this]
        · exact absurd ⟨q, hq, hqs⟩ hin

/-- **A ROW TOLD AS EXPRESSIONS IS THE ROW**, but for the slots that are dropped. -/
theorem evTale_ev {ops : List AOper} {kill outs : List Nat} {f2 : List V} (h : evTale (symAll ops kill outs) kill fr H = some f2) : ∃ f1, evOps call base ops fr H = some (f1, H) ∧ killS kill f1 = f2 := by
  unfold symAll at h
  split at h
  case h_2 => cases h
  rename_i σ R hrow
  split at h
  case isFalse => cases h
  rename_i hok
  simp only [Bool.and_eq_true, List.all_eq_true] at hok
  obtain ⟨⟨k1, k2⟩, k3⟩ := hok
  simp only [evTale] at h
  split at h
  case isFalse => cases h
  rename_i hlen
  split at h
  case isFalse => cases h
  rename_i hR
  rw [List.all_eq_true] at hR
  obtain ⟨f1, q1, q2, q3, q4⟩ := symRow_ev (call := call) (base := base) ops [] [] fr hrow Inv2.start hlen hR
  refine ⟨f1, q1, ?_⟩
  obtain ⟨g1, g2, g3⟩ := setOuts_getD _ _ _ h
  refine getD_ext (by rw [killS_length, q3, g1, killS_length]) fun s hs => ?_
  rw [killS_length, q3] at hs
  rw [killS_getD]
  by_cases ho : s ∈ outs
  · have hnk : s ∉ kill := by have := k3 s ho; simpa using this
    rw [if_neg hnk]
    have hval : ∀ p ∈ outs.map (fun s => (s, (symGet σ s).e)), evE fr H p.2 = some ((fun s => f1.getD s .unk) p.1) := by
      intro p hp
      obtain ⟨s', hs', rfl⟩ := List.mem_map.1 hp
      refine (q2.1 s').1 ?_
      have := k1 s' hs'
      rw [List.isEmpty_iff] at this
      rw [this]
      exact fun p hp => by cases hp
    exact (g3 (fun s => f1.getD s .unk) hval s (by rw [killS_length]; exact hs) ⟨_, List.mem_map.2 ⟨s, ho, rfl⟩, rfl⟩).symm
  · have h2 := g2 s fun p hp e => by
      obtain ⟨s', hs', rfl⟩ := List.mem_map.1 hp
      exact ho (e ▸ hs')
    rw [h2, killS_getD]
    by_cases hk : s ∈ kill
    · rw [if_pos hk, if_pos hk]
    · rw [if_neg hk, if_neg hk]
      refine q4 s fun o hm hd => ?_
      have := k2 o hm
      rw [hd] at this
      simp only [Bool.or_eq_true, List.contains_eq_mem, decide_eq_true_eq] at this
      rcases this with h | h
      · exact hk h
      · exact ho h
end
end Go.AM
