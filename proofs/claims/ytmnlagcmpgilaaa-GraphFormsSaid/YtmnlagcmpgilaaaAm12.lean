/-
  Calls: an operation that calls; a row of operations in the text's order.
-/
import Derived.Test.YtmnlagcmpgilaaaAm11
import Derived.OrdersIn
import Derived.LoopNIn
set_option linter.all false
namespace Go.AM
open Go.RowKit

/-- The wide fence, in a round or not. -/
def Fw (ro : Option Nat) : Fence := { fn := fun _ => True, depth := none, alive := false, round := ro }

section
variable {CC : Code → ACode → Prop} {μ μ' : Mu} {Mt Mt' : Nat → Prop} {w w' : World} {H H' : Heap} {P : Program}

theorem Fw_wide : Fw none = Fence.wide := rfl

/-- What a call leaves. -/
def RetP (CC : Code → ACode → Prop) (μ : Mu) (Mt : Nat → Prop) (w : World) (H : Heap) (r : V) (H' : Heap) (e : Ending) (w' : World) : Prop :=
  ∃ c μ' Mt', e = .returned c ∧ VR μ' Mt' w' r c ∧ Post CC μ Mt w H μ' Mt' w' H'

/-- **What a way of calling owes.** -/
structure SimCall (P : Program) (CC : Code → ACode → Prop) (call : CallF) : Prop where
  fn : ∀ (f : Nat) (fst cap args : List V) (base : Nat) (H : Heap) (r : V) (H' : Heap), call (.fn f fst cap) args base H = some (r, H') →
    (∀ xs w, (callFunc f xs).run P w = .ok (.enter f xs) w) ∧
    ∀ (μ : Mu) (Mt : Nat → Prop) (w : World) (cs : List Value), HR CC μ Mt w H → VRs μ Mt w (fst ++ args ++ cap) cs → ∀ n, CallsIn Fence.wide n P f cs.toArray w (RetP CC μ Mt w H r H')
  yld : ∀ (id : Nat) (args : List V) (base : Nat) (H : Heap) (r : V) (H' : Heap), call (.yld id) args base H = some (r, H') →
    ∀ (μ : Mu) (Mt : Nat → Prop) (w : World) (cs : List Value) (B : Nat), HR CC μ Mt w H → VRs μ Mt w args cs → μ id 0 = some (B, 0) →
      ∃ f tmps assign body, (Instr.yield B cs.toArray).run P w = .ok (.round B f tmps assign body) w ∧ ∀ n, RoundIn Fence.wide n P B f tmps assign body w (RetP CC μ Mt w H r H')
  other : ∀ v args base H, (∀ f a b, v ≠ .fn f a b) → (∀ id, v ≠ .yld id) → call v args base H = none
  /-- what lay there below the base lies as it lay. -/
  floor : ∀ v args base H r H', call v args base H = some (r, H') → H.length ≤ H'.length ∧ ∀ id, id < base → id < H.length → H'[id]? = H[id]?

theorem about_true {n : Nat} {ro : Option Nat} {o : Oper} {a : Act} : ∀ f, o.about P w a.eval = some f → (Fw ro).fn f := fun _ _ => trivial

/-- The call itself, as an operation. -/
theorem wp_callv {call : CallF} (hs : SimCall P CC call) (h : HR CC μ Mt w H) {f : V} {fc : Value} {args : List V} {cargs : Array Value} {base : Nat} {v : V} (hf : VR μ Mt w f fc) (ha : VRs μ Mt w args cargs.toList)
    (hev : call f args base H = some (v, H')) {ro : Option Nat} {n : Nat} {o : Oper} {a : Act} {c : Call} {next : Act → World → Prop} {Q : Exit → Act → World → Prop}
    (ho : o.op = .call c) {g : Operand} (hg : c.callee = .value g) (hgv : a.eval g = fc) (hargs : c.args.map a.eval = cargs)
    (hnext : ∀ r w', RetP CC μ Mt w H v H' (.returned r) w' → next (a.put o.dst r) w') : o.wpIn (Fw ro) n P a w next Q := by
  refine ⟨fun _ _ => trivial, ?_⟩
  rw [Oper.semAt_eq _ _ _ (by simp [ho])]
  have hexec : execOp a.eval o = (do let d ← resolve a.eval c o.type; invoke d.target d.args) := by
    unfold execOp; rw [ho]
  rw [hexec]
  by_cases hfn : ∃ k x y, f = .fn k x y
  · obtain ⟨k, x, y, rfl⟩ := hfn
    cases hf with
    | fn _ _ _ fst' cap' h1 h2 h3 h4 =>
      obtain ⟨hent, hcall⟩ := hs.fn k x y args base H v H' hev
      have hvs : VRs μ Mt w (x ++ args ++ y) (fst' ++ cargs ++ cap').toList := by
        have hx : VRs μ Mt w x fst'.toList := ⟨by simpa using h1, fun i p q hp hq => h3 i p q hp (by simpa using hq)⟩
        have hy : VRs μ Mt w y cap'.toList := ⟨by simpa using h2, fun i p q hp hq => h4 i p q hp (by simpa using hq)⟩
        simpa using (hx.append ha).append hy
      have hrun : (do let d ← resolve a.eval c o.type; invoke d.target d.args : Sem Next).run P w = .ok (.enter k (fst' ++ cargs ++ cap')) w := by
        simp only [resolve, hg, hgv, hargs, Deferred.ofValue, Sem.run_bind, Sem.run_pure, Result.andThen_ok, invoke, hent]
      rw [hrun]
      have hc := hcall μ Mt w _ h hvs (n - 1)
      simp only [Array.toArray_toList] at hc
      refine ⟨fun h => by simp [Fw] at h, hc.mono ?_⟩
      rintro e w1 ⟨r, μ1, Mt1, rfl, hr, hp⟩
      exact hnext r w1 ⟨r, μ1, Mt1, rfl, hr, hp⟩
  · by_cases hyl : ∃ id, f = .yld id
    · obtain ⟨id, rfl⟩ := hyl
      cases hf with
      | yld _ B hm =>
        obtain ⟨k, tmps, assign, body, hy, hround⟩ := hs.yld id args base H v H' hev μ Mt w cargs.toList B h ha hm
        have hrun : (do let d ← resolve a.eval c o.type; invoke d.target d.args : Sem Next).run P w = .ok (.round B k tmps assign body) w := by
          simp only [resolve, hg, hgv, hargs, Deferred.ofValue, Sem.run_bind, Sem.run_pure, Result.andThen_ok, invoke, Array.empty_append]
          simpa using hy
        rw [hrun]
        refine ⟨fun h => by simp [Fw] at h, (hround (n - 1)).mono ?_⟩
        rintro e w1 ⟨r, μ1, Mt1, rfl, hr, hp⟩
        exact hnext r w1 ⟨r, μ1, Mt1, rfl, hr, hp⟩
    · have := hs.other f args base H (fun k x y e => hfn ⟨k, x, y, e⟩) (fun id e => hyl ⟨id, e⟩)
      rw [this] at hev
      cases hev

/-! ### Frozen values -/

theorem mapM_get {f : V → Option V} : ∀ {l us : List V}, l.mapM f = some us → us.length = l.length ∧ ∀ (i : Nat) (u : V), us[i]? = some u → ∃ v, l[i]? = some v ∧ f v = some u := by
  intro l
  induction l with
  | nil => intro us h; simp at h; subst h; exact ⟨rfl, fun i u h => by simp at h⟩
  | cons x l ih =>
    intro us h
    simp only [List.mapM_cons, Option.pure_def, Option.bind_eq_bind, Option.bind_eq_some_iff] at h
    obtain ⟨v, hv, us', hus, e⟩ := h
    cases e
    obtain ⟨h1, h2⟩ := ih hus
    refine ⟨by simp [h1], fun i u hu => ?_⟩
    cases i with
    | zero => simp at hu; subst hu; exact ⟨x, rfl, hv⟩
    | succ i => simp at hu; obtain ⟨v', e1, e2⟩ := h2 i u hu; exact ⟨v', by simpa using e1, e2⟩

/-- What is frozen reads as a pure value, where the rows that it goes through can no more be written. -/
theorem frz_pr (h : HR CC μ Mt w H) (hM : ∀ B, ¬ Mt B → ¬ Mt' B) (hn : ∀ id g B b, μ id g = some (B, b) → ¬ Mt' B) : ∀ (n : Nat) {v u : V} {c : Value}, VR μ Mt w v c → frz H n v = some u → PR Mt' w u c := by
  intro n
  induction n with
  | zero => intro v u c _ hf; simp [frz] at hf
  | succ n ih =>
    intro v u c hv hf
    have lists : ∀ {cs us : List V} {vs : Array Value}, cs.length = vs.size → (∀ (i : Nat) (a : V) (b : Value), cs[i]? = some a → vs[i]? = some b → VR μ Mt w a b) → cs.mapM (frz H n) = some us →
        us.length = vs.size ∧ ∀ (i : Nat) (a : V) (b : Value), us[i]? = some a → vs[i]? = some b → PR Mt' w a b := by
      intro cs us vs hl hvs hm
      obtain ⟨h1, h2⟩ := mapM_get hm
      refine ⟨by rw [h1, hl], fun i a b ha hb => ?_⟩
      obtain ⟨x, hx, hfx⟩ := h2 i a ha
      exact ih (hvs i x b hx hb) hfx
    cases hv with
    | s x => simp [frz] at hf; subst hf; exact .s _
    | unk => simp [frz] at hf
    | agg cs vs hl hvs =>
      simp only [frz, Option.map_eq_some_iff] at hf
      obtain ⟨us, hus, rfl⟩ := hf
      obtain ⟨h1, h2⟩ := lists hl hvs hus
      exact .agg us vs h1 h2
    | tup cs vs hl hvs =>
      simp only [frz, Option.map_eq_some_iff] at hf
      obtain ⟨us, hus, rfl⟩ := hf
      obtain ⟨h1, h2⟩ := lists hl hvs hus
      exact .tup us vs h1 h2
    | ref id g off B b hm =>
      simp only [frz] at hf
      split at hf
      · rename_i row hrow
        split at hf
        case isFalse => cases hf
        rename_i hoff
        simp only [Option.map_eq_some_iff] at hf
        obtain ⟨us, hus, rfl⟩ := hf
        obtain ⟨arr, e, hB, hs, hr⟩ := h.row hrow hm
        obtain ⟨h1, h2⟩ := mapM_get hus
        refine .pref us B (b + off) arr e (0, 0) hB (hn _ _ _ _ hm) (by simp at h1; omega) (fun i a x ha hx => ?_)
        obtain ⟨y, hy, hfy⟩ := h2 i a ha
        rw [List.getElem?_drop] at hy
        exact ih (hr _ y x hy (by rw [← Nat.add_assoc]; exact hx)) hfy
      · cases hf
    | sl id g off len sz B b cap arr e hm hB hc hs =>
      simp only [frz] at hf
      split at hf
      · rename_i row hrow
        split at hf
        · rename_i hlen
          split at hf
          · rename_i us hus
            cases hf
            obtain ⟨arr', e', hB', hs', hr⟩ := h.row hrow hm
            rw [hB] at hB'
            cases hB'
            obtain ⟨h1, h2⟩ := mapM_get hus
            have hul : us.length = len * sz := by rw [h1, hlen]
            have hes : ∀ (i : Nat) (el : List V), ((List.range len).map fun i => (us.drop (i * sz)).take sz)[i]? = some el → i < len ∧ el = (us.drop (i * sz)).take sz := by
              intro i el he
              have hi : i < len := by have := (List.getElem?_eq_some_iff.1 he).1; simpa using this
              refine ⟨hi, ?_⟩
              rw [List.getElem?_map, List.getElem?_range hi] at he
              exact (Option.some.inj he).symm
            have hmul : ∀ i, i < len → i * sz + sz ≤ len * sz := by
              intro i hi
              have : (i + 1) * sz ≤ len * sz := Nat.mul_le_mul_right _ hi
              rwa [Nat.add_mul, Nat.one_mul] at this
            have hcap : len * sz ≤ cap * sz := Nat.mul_le_mul_right _ hc
            have hll : ((List.range len).map fun i => (us.drop (i * sz)).take sz).length = len := by simp
            have key : PR Mt' w (.psl ((List.range len).map fun i => (us.drop (i * sz)).take sz) sz) (.slice (some ⟨B, b + off, none⟩) ((List.range len).map fun i => (us.drop (i * sz)).take sz).length cap) := by
              refine .psl _ sz B (b + off) cap arr e (0, 0) hB (hn _ _ _ _ hm) (by rw [hll]; exact hc) (fun i el he => ?_) (by rw [hll]; omega) (fun i el j a x he ha hx => ?_)
              · obtain ⟨hi, rfl⟩ := hes i el he
                have := hmul i hi
                simp; omega
              · obtain ⟨hi, rfl⟩ := hes i el he
                have hj : j < sz := by have := (List.getElem?_eq_some_iff.1 ha).1; simp at this; omega
                rw [List.getElem?_take_of_lt hj, List.getElem?_drop] at ha
                obtain ⟨y, hy, hfy⟩ := h2 _ a ha
                have hij := hmul i hi
                rw [List.getElem?_take_of_lt (by omega), List.getElem?_drop] at hy
                refine ih (hr _ y x hy ?_) hfy
                rw [← hx]
                congr 1
                omega
            rw [hll] at key
            exact key
          · cases hf
        · cases hf
      · cases hf
    | sl0 id g off sz B b a hm =>
      simp only [frz] at hf
      split at hf
      · split at hf
        · split at hf
          · cases hf; exact .psl0 _ _ _
          · cases hf
        · cases hf
      · cases hf
    | pref cs B o arr e fr hB hMB hs hvv => simp [frz] at hf; subst hf; exact (PR.pref cs B o arr e fr hB hMB hs hvv).mono (fun B _ hm => Classical.byContradiction fun hc => hM B hc hm) (fun _ _ _ => rfl)
    | psl es sz B o cap arr e fr hB hMB hc hz hs hvv => simp [frz] at hf; subst hf; exact (PR.psl es sz B o cap arr e fr hB hMB hc hz hs hvv).mono (fun B _ hm => Classical.byContradiction fun hc => hM B hc hm) (fun _ _ _ => rfl)
    | psl0 sz cap a => simp [frz] at hf; subst hf; exact .psl0 _ _ _
    | esl a => simp [frz] at hf; subst hf; exact .esl _
    | mp => simp [frz] at hf
    | fn f fst cap fst' cap' h1 h2 h3 h4 =>
      simp only [frz] at hf
      split at hf
      · rename_i a b ha hb
        cases hf
        obtain ⟨p1, p2⟩ := lists h1 h3 ha
        obtain ⟨q1, q2⟩ := lists h2 h4 hb
        exact .fn f a b fst' cap' p1 q1 p2 q2
      · cases hf
    | yld => simp [frz] at hf

theorem pure_pr : ∀ (n : Nat) {v : V} {c : Value}, isPure n v = true → VR μ Mt w v c → PR Mt w v c := by
  intro n
  induction n with
  | zero => intro v c h; simp [isPure] at h
  | succ n ih =>
    intro v c h hv
    have all : ∀ {cs : List V} {vs : Array Value}, cs.all (isPure n) = true → (∀ (i : Nat) (a : V) (b : Value), cs[i]? = some a → vs[i]? = some b → VR μ Mt w a b) →
        ∀ (i : Nat) (a : V) (b : Value), cs[i]? = some a → vs[i]? = some b → PR Mt w a b := fun ha hv i a b h1 h2 => ih (by rw [List.all_eq_true] at ha; exact ha a (List.mem_of_getElem? h1)) (hv i a b h1 h2)
    cases hv with
    | s => exact .s _
    | unk => simp [isPure] at h
    | agg cs vs hl hvs => exact .agg cs vs hl (all (by simpa [isPure] using h) hvs)
    | tup cs vs hl hvs => exact .tup cs vs hl (all (by simpa [isPure] using h) hvs)
    | ref => simp [isPure] at h
    | pref cs B o arr e fr hB hMB hs hvv => exact .pref cs B o arr e fr hB hMB hs hvv
    | sl => simp [isPure] at h
    | sl0 => simp [isPure] at h
    | psl es sz B o cap arr e fr hB hMB hc hz hs hvv => exact .psl es sz B o cap arr e fr hB hMB hc hz hs hvv
    | psl0 sz cap a => exact .psl0 _ _ _
    | esl a => exact .esl _
    | mp => simp [isPure] at h
    | fn f fst cap fst' cap' h1 h2 h3 h4 =>
      simp only [isPure, Bool.and_eq_true] at h
      exact .fn f fst cap fst' cap' h1 h2 (all h.1 h3) (all h.2 h4)
    | yld => simp [isPure] at h

theorem frz_pure : ∀ (m : Nat) {n : Nat} {v u : V}, isPure n v = true → frz H m v = some u → u = v := by
  intro m
  induction m with
  | zero => intro n v u _ h; simp [frz] at h
  | succ m ih =>
    intro n v u hp h
    cases n with
    | zero => simp [isPure] at hp
    | succ n =>
      have all : ∀ {cs us : List V}, cs.all (isPure n) = true → cs.mapM (frz H m) = some us → us = cs := by
        intro cs us ha hm
        obtain ⟨h1, h2⟩ := mapM_get hm
        apply List.ext_getElem?
        intro i
        by_cases hi : i < us.length
        · obtain ⟨v, hv, hfv⟩ := h2 i us[i] (List.getElem?_eq_getElem hi)
          rw [List.getElem?_eq_getElem hi, hv]
          congr 1
          exact ih (by rw [List.all_eq_true] at ha; exact ha v (List.mem_of_getElem? hv)) hfv
        · rw [List.getElem?_eq_none (by omega), List.getElem?_eq_none (by omega)]
      cases v <;> simp only [isPure, frz, Option.map_eq_some_iff, Bool.and_eq_true] at hp h <;> first | (cases h; rfl) | (cases hp; done) | skip
      case agg cs => obtain ⟨us, hus, rfl⟩ := h; rw [all hp hus]
      case tup cs => obtain ⟨us, hus, rfl⟩ := h; rw [all hp hus]
      case fn f a b =>
        split at h
        · rename_i x y hx hy
          cases h
          rw [all hp.1 hx, all hp.2 hy]
        · cases h

theorem flat2_pr {u : V} {c : Value} (h : PR Mt w u c) (hf : u.flat2 = true) : PR Mt' w u c := by
  have one : ∀ {u : V} {c : Value}, PR Mt w u c → u.flat = true → PR Mt' w u c := by
    intro u c h hf
    cases h <;> first | exact .s _ | (simp [V.flat] at hf; done)
  cases h with
  | s x => exact .s _
  | agg cs vs hl hvs =>
    refine .agg cs vs hl (fun i a b ha hb => one (hvs i a b ha hb) ?_)
    simp only [V.flat2, List.all_eq_true] at hf
    exact hf a (List.mem_of_getElem? ha)
  | tup cs vs hl hvs =>
    refine .tup cs vs hl (fun i a b ha hb => ?_)
    have hv := hvs i a b ha hb
    simp only [V.flat2, List.all_eq_true] at hf
    have := hf a (List.mem_of_getElem? ha)
    cases hv with
    | s x => exact .s _
    | agg cs vs hl hvs =>
      refine .agg cs vs hl (fun i a b ha hb => one (hvs i a b ha hb) ?_)
      simp only [List.all_eq_true] at this
      exact this a (List.mem_of_getElem? ha)
    | _ => simp at this
  | _ => simp [V.flat2] at hf

theorem mapM_all2 {n : Nat} {vs us : List V} {cs : List Value} (hv : VRs μ Mt w vs cs) (hm : vs.mapM (frz H n) = some us) {Q : V → Value → Prop} (hq : ∀ v u c, VR μ Mt w v c → v ∈ vs → frz H n v = some u → Q u c) :
    us.length = cs.length ∧ ∀ (i : Nat) (a : V) (b : Value), us[i]? = some a → cs[i]? = some b → Q a b := by
  obtain ⟨h1, h2⟩ := mapM_get hm
  refine ⟨by rw [h1, hv.1], fun i a b ha hb => ?_⟩
  obtain ⟨x, hx, hfx⟩ := h2 i a ha
  exact hq x a b (hv.2 i x b hx hb) (List.mem_of_getElem? hx) hfx

/-- **A call apart.** -/
theorem call_apart {call : CallF} (hs : SimCall P CC call) (h : HR CC μ Mt w H) {k : Nat} {vs us : List V} {cs : List Value} (hv : VRs μ Mt w vs cs) (hm : vs.mapM (frz H 12) = some us) {v u : V} {H0 : Heap}
    (hc : call (.fn k [] []) us 0 [] = some (v, H0)) (hu : frz H0 12 v = some u) (hp : (vs.all (isPure 12) || u.flat2) = true) (n : Nat) :
    (∀ xs w, (callFunc k xs).run P w = .ok (.enter k xs) w) ∧ CallsIn Fence.wide n P k cs.toArray w (RetP CC μ Mt w H u H) := by
  obtain ⟨hent, hcall⟩ := hs.fn k [] [] us 0 [] v H0 hc
  refine ⟨hent, ?_⟩
  -- what the inner run may not write
  have main : ∀ Mt0 : Nat → Prop, (∀ B, B < w.heap.size → ¬ Mt B → ¬ Mt0 B) → VRs (fun _ _ => none) Mt0 w us cs →
      (∀ μ1 Mt1 w1 c, Post CC (fun _ _ => none) Mt0 w [] μ1 Mt1 w1 H0 → VR μ1 Mt1 w1 v c → PR (fun B => Mt B ∧ B < w.heap.size) w1 u c) → CallsIn Fence.wide n P k cs.toArray w (RetP CC μ Mt w H u H) := by
    intro Mt0 _ hvs hres
    have h0 : HR CC (fun _ _ => none) Mt0 w [] := ⟨fun _ _ _ h => by simp at h, fun _ _ _ _ h => by simp at h, fun _ _ _ _ _ h => by simp at h, fun _ _ _ _ _ _ _ h => by simp at h, fun _ _ _ _ _ h => by simp at h, fun _ _ h => by simp at h⟩
    refine (hcall _ Mt0 w cs h0 (by simpa using hvs) n).mono ?_
    rintro e w1 ⟨c, μ1, Mt1, rfl, hr, hpost⟩
    have hpr := hres μ1 Mt1 w1 c hpost hr
    have hkeep : ∀ B, B < w.heap.size → w1.heap[B]? = w.heap[B]? := fun B hB => hpost.tr.keep B hB (fun _ _ _ h => by simp at h)
    have hsh := hpost.tr.shape
    refine ⟨c, μ, fun B => Mt B ∧ B < w.heap.size, rfl, hpr.vr, Nat.le_refl _, ⟨h.dom, fun id g B b e => ⟨⟨(h.isMut id g B b e).1, (h.isMut id g B b e).2⟩, Nat.lt_of_lt_of_le (h.isMut id g B b e).2 hpost.tr.size⟩, fun id ob g B b hH hc e => ?_, h.inj, h.gens, h.wf⟩,
      fun _ _ _ h => h, fun B hB => ⟨fun h => h.1, fun h => ⟨h, hB⟩⟩, ⟨hpost.tr.size, hsh, hpost.tr.loops, fun B hB _ => hkeep B hB, hpost.tr.back, hpost.tr.os, hpost.tr.tape, hpost.tr.output⟩, fun id g _ b e _ => ⟨id, g, b, e⟩, fun _ g p e _ => ⟨g, p, e⟩⟩
    obtain ⟨o, ho, hr⟩ := h.objs id ob g B b hH hc e
    exact ⟨o, (hkeep B (lt_of_some ho)).trans ho, hr.mono (fun _ _ _ h => h) (fun B _ hm => hm.1) (fun B hB _ => hkeep B hB) hsh⟩
  by_cases hpure : vs.all (isPure 12) = true
  · refine main Mt (fun _ _ h => h) ?_ ?_
    · refine mapM_all2 (Q := fun a b => VR _ _ _ a b) hv hm (fun x u c hx hmem hf => ?_)
      have hpx : isPure 12 x = true := by rw [List.all_eq_true] at hpure; exact hpure x hmem
      rw [frz_pure 12 hpx hf]
      exact (pure_pr 12 hpx hx).vr
    · intro μ1 Mt1 w1 c hpost hr
      refine frz_pr hpost.hr (fun B hn hm => ?_) (fun id g B b e hm => ?_) 12 hr hu
      · exact hn ((hpost.mt B hm.2).2 hm.1)
      · obtain ⟨id0, g0, b0, e0⟩ := hpost.old id g B b e hm.2
        simp at e0
  · have hfl : u.flat2 = true := by simpa [hpure] using hp
    refine main (fun _ => False) (fun _ _ _ h => h) ?_ ?_
    · refine mapM_all2 (Q := fun a b => VR _ _ _ a b) hv hm (fun x u c hx hmem hf => ?_)
      exact (frz_pr h (Mt' := fun _ => False) (fun _ _ h => h) (fun _ _ _ _ _ h => h) 12 hx hf).vr
    · intro μ1 Mt1 w1 c hpost hr
      exact flat2_pr (frz_pr hpost.hr (Mt' := fun _ => False) (fun _ _ h => h) (fun _ _ _ _ _ h => h) 12 hr hu) hfl

/-! ### An operation -/

/-- Either it calls, or it does not. -/
theorem compOp2_cases {pure' : Nat → Bool} {o : Oper} {ao : AOp} (h : compOp2 P pure' o = some ao) :
    (∃ f args ats xs y, o.op = .call { callee := .value f, args, argTypes := ats } ∧ compOpds args = some xs ∧ compOpd f = some y ∧ ((∃ k, f = .func k ∧ ao = .callP k xs) ∨ ao = .call y xs)) ∨
    (compOp P pure' o = some ao ∧ ao.isCall = false ∧ ∀ c, o.op ≠ .defer c) := by
  unfold compOp2 at h
  split at h
  · rename_i f args ats ho
    split at h
    · rename_i xs y hxs hy
      refine .inl ⟨f, args, ats, xs, y, ho, hxs, hy, ?_⟩
      split at h
      · rename_i k
        split at h
        · cases h; exact .inl ⟨k, rfl, rfl⟩
        · cases h; exact .inr rfl
      · cases h; exact .inr rfl
    · cases h
  · split at h
    · rename_i ao' hao
      split at h
      · cases h
      · rename_i hnc
        cases h
        refine .inr ⟨hao, by simpa using hnc, fun c hc => ?_⟩
        simp [compOp, hc] at hao
    · cases h

theorem apart_fn {k : Nat} : VR μ Mt w (.fn k [] []) (.func (.func k) #[] #[]) :=
  .fn k [] [] #[] #[] rfl rfl (fun _ _ _ h => by simp at h) (fun _ _ _ h => by simp at h)

/-- What is pure is its own reading. -/
theorem frz_of_pure (H : Heap) : ∀ (n : Nat) (v : V), isPure n v = true → frz H n v = some v := by
  intro n
  induction n with
  | zero => intro v h; simp [isPure] at h
  | succ n ih =>
    have all : ∀ l : List V, l.all (isPure n) = true → l.mapM (frz H n) = some l := by
      intro l
      induction l with
      | nil => intro _; rfl
      | cons x l ihl =>
        intro h
        simp only [List.all_cons, Bool.and_eq_true] at h
        simp only [List.mapM_cons, ih x h.1, ihl h.2]
        rfl
    intro v h
    cases v <;> simp only [isPure] at h <;> first | (cases h; done) | rfl | skip
    case agg cs => simp only [frz, all cs h]; rfl
    case tup cs => simp only [frz, all cs h]; rfl
    case fn f a b =>
      simp only [Bool.and_eq_true] at h
      simp only [frz, all a h.1, all b h.2]
theorem frz_all (H : Heap) (n : Nat) : ∀ {l : List V}, l.all (isPure n) = true → l.mapM (frz H n) = some l := by
  intro l
  induction l with
  | nil => intro _; rfl
  | cons x l ih =>
    intro h
    simp only [List.all_cons, Bool.and_eq_true] at h
    simp only [List.mapM_cons, frz_of_pure H n x h.1, ih h.2]
    rfl

/-- **ONE OPERATION, CALLS AND ALL.** -/
theorem oper_wp {call : CallF} (hs : SimCall P CC call) (h : HR CC μ Mt w H) {a : Act} {fr : List V} (hf : FR μ Mt w fr a.tmps) {pure' : Nat → Bool} {o : Oper} {ao : AOp} {base : Nat} {v : V} (hc : CompR P pure' o ao)
    (hev : evOp call base fr H ao = some (v, H')) {ro : Option Nat} {n : Nat} {next : Act → World → Prop} {Q : Exit → Act → World → Prop}
    (hnext : ∀ r w', RetP CC μ Mt w H v H' (.returned r) w' → next (a.put o.dst r) w') : o.wpIn (Fw ro) n P a w next Q := by
  have plain : ∀ (f : Operand) (args : Array Operand) (ats : Array TypeId) (xs : List Opd) (y : Opd) (b : Nat), o.op = .call { callee := .value f, args, argTypes := ats } → compOpds args = some xs → compOpd f = some y →
      call (ev fr y) (xs.map (ev fr)) b H = some (v, H') → o.wpIn (Fw ro) n P a w next Q := by
    intro f args ats xs y b ho hxs hy hcl
    exact wp_callv hs h (opd_vr hf hy) (opds_vr hf hxs) hcl ho (g := f) rfl rfl rfl hnext
  rcases hc with hc | ⟨f, xs, hc, rfl⟩ | ⟨k, xs, hc, rfl⟩
  rcases compOp2_cases hc with ⟨f, args, ats, xs, y, ho, hxs, hy, ⟨k, rfl, rfl⟩ | rfl⟩ | ⟨hc', hnc, hnd⟩
  · -- apart
    simp only [evOp] at hev
    split at hev
    · rename_i us hus
      split at hev
      · rename_i r H0 hcl
        split at hev
        · rename_i u hu
          split at hev
          · rename_i hp
            cases hev
            obtain ⟨hent, hcalls⟩ := call_apart hs h (opds_vr hf hxs) hus hcl hu hp (n - 1)
            refine ⟨fun _ _ => trivial, ?_⟩
            rw [Oper.semAt_eq _ _ _ (by simp [ho])]
            have hexec : execOp a.eval o = (do let d ← resolve a.eval { callee := .value (.func k), args, argTypes := ats } o.type; invoke d.target d.args) := by
              unfold execOp; rw [ho]
            have hrun : (execOp a.eval o).run P w = .ok (.enter k (args.map a.eval)) w := by
              rw [hexec]
              have e1 : a.eval (.func k) = .func (.func k) #[] #[] := rfl
              simp only [resolve, e1, Deferred.ofValue, Sem.run_bind, Sem.run_pure, Result.andThen_ok, invoke, hent]
              simp
            rw [hrun]
            simp only [Array.toArray_toList] at hcalls
            refine ⟨fun h => by simp [Fw] at h, hcalls.mono ?_⟩
            rintro e w1 ⟨r, μ1, Mt1, rfl, hr, hp⟩
            exact hnext r w1 ⟨r, μ1, Mt1, rfl, hr, hp⟩
          · cases hev
        · cases hev
      · cases hev
    · cases hev
  · exact plain f args ats xs y base ho hxs hy hev
  · obtain ⟨cv, w1, μ1, Mt1, hr, hvr, hp⟩ := op_sim h hf hc' hnc hev
    refine ⟨fun _ _ => trivial, ?_⟩
    rw [Oper.semAt_eq _ _ _ hnd]
    rcases hr with hr | ⟨hr, rfl⟩
    · rw [hr]; exact hnext cv w1 ⟨cv, μ1, Mt1, rfl, hvr, hp⟩
    · rw [hr]; exact hnext _ w1 ⟨_, μ1, Mt1, rfl, hvr, hp⟩
  · rcases compOp2_cases hc with ⟨f', args, ats, xs', y, ho, hxs, hy, ⟨k, _, e⟩ | e⟩ | ⟨_, hnc, _⟩
    · cases e
    · cases e
      exact plain f' args ats xs f H.length ho hxs hy hev
    · simp [AOp.isCall] at hnc
  · rcases compOp2_cases hc with ⟨f', args, ats, xs', y, ho, hxs, hy, ⟨k', rfl, e⟩ | e⟩ | ⟨_, hnc, _⟩
    · cases e
      simp only [evOp] at hev
      split at hev
      · rename_i hpure
        split at hev
        · rename_i r H0 hcl
          split at hev
          · rename_i u hu
            cases hev
            obtain ⟨hent, hcalls⟩ := call_apart hs h (opds_vr hf hxs) (frz_all H 12 hpure) hcl hu (by rw [hpure]; rfl) (n - 1)
            refine ⟨fun _ _ => trivial, ?_⟩
            rw [Oper.semAt_eq _ _ _ (by simp [ho])]
            have hexec : execOp a.eval o = (do let d ← resolve a.eval { callee := .value (.func k), args, argTypes := ats } o.type; invoke d.target d.args) := by
              unfold execOp; rw [ho]
            have hrun : (execOp a.eval o).run P w = .ok (.enter k (args.map a.eval)) w := by
              rw [hexec]
              have e1 : a.eval (.func k) = .func (.func k) #[] #[] := rfl
              simp only [resolve, e1, Deferred.ofValue, Sem.run_bind, Sem.run_pure, Result.andThen_ok, invoke, hent]
              simp
            rw [hrun]
            simp only [Array.toArray_toList] at hcalls
            refine ⟨fun h => by simp [Fw] at h, hcalls.mono ?_⟩
            rintro e w1 ⟨r, μ1, Mt1, rfl, hr, hp⟩
            exact hnext r w1 ⟨r, μ1, Mt1, rfl, hr, hp⟩
          · cases hev
        · cases hev
      · cases hev
    · cases e
    · simp [AOp.isCall] at hnc
end
end Go.AM
