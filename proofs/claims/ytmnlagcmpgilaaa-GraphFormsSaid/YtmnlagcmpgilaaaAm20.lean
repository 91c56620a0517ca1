/-
  The whole machine.
-/
import Derived.Test.YtmnlagcmpgilaaaAm19
set_option linter.all false
namespace Go.AM
open Go.RowKit

section
variable {μ μ' : Mu} {Mt Mt' : Nat → Prop} {w w' : World} {H H' : Heap} {P : Program} {pure' : Nat → Bool} {call : CallF}

/-- A function, and what it is read as. -/
def FunOk (P : Program) (pure' : Nat → Bool) (k : Nat) : CFun → Prop
  | .code c => ∃ fn body, P.funcs[k]? = some fn ∧ fn.body = some body ∧ (fn.name == "runtime.NumGoroutine") = false ∧ CodeR P pure' body c.body ∧ fn.ntmps = c.ntmps ∧ fn.results.toList.mapM (compRes P) = some c.results
  | .prim g => (∀ xs w, (callFunc k xs).run P w = .ok (.enter k xs) w) ∧ ∀ vs base H r H', g vs base H = some (r, H') → Floor base H H' ∧
      ∀ μ Mt w cs, HR (CodeR P pure') μ Mt w H → VRs μ Mt w vs cs → ∀ n, CallsIn Fence.wide n P k cs.toArray w (RetP (CodeR P pure') μ Mt w H r H')

theorem setPs_sim : ∀ (ps : List Nat) (vs : List V) (cs : List Value) {fr fr' : List V} {t : Array Value}, setPs ps vs fr = some fr' → VRs μ Mt w vs cs → FR μ Mt w fr t →
    ps.length = cs.length ∧ FR μ Mt w fr' ((ps.zip cs).foldl (fun t p => t.setIfInBounds p.1 p.2) t) := by
  intro ps
  induction ps with
  | nil =>
    intro vs cs fr fr' t h hv hf
    cases vs with
    | nil =>
      cases h
      have : cs = [] := by have := hv.1; cases cs <;> simp at this ⊢
      subst this
      exact ⟨rfl, hf⟩
    | cons v vs => cases h
  | cons p ps ih =>
    intro vs cs fr fr' t h hv hf
    cases vs with
    | nil => cases h
    | cons v vs =>
      cases cs with
      | nil => have := hv.1; simp at this
      | cons c cs =>
        have hv' : VRs μ Mt w vs cs := ⟨by have := hv.1; simpa using this, fun i a b ha hb => hv.2 (i + 1) a b (by simpa using ha) (by simpa using hb)⟩
        have hf' : FR μ Mt w (fr.set p v) (t.setIfInBounds p c) := by
          have := VRs.set hf p (hv.2 0 v c rfl rfl)
          simpa [FR] using this
        obtain ⟨h1, h2⟩ := ih vs cs h hv' hf'
        exact ⟨by simp [h1], by simpa using h2⟩

theorem replicate_vr (n : Nat) : VRs μ Mt w (List.replicate n und) (List.replicate n Go.undef) :=
  ⟨by simp, fun i a b ha hb => by
    have h1 := List.mem_of_getElem? ha
    have h2 := List.mem_of_getElem? hb
    rw [List.mem_replicate] at h1 h2
    rw [h1.2, h2.2]
    exact .s _⟩

variable {CP : Nat → Option CFun}

theorem evCall_fn (hs : SimCall P (CodeR P pure') call) (hmix : P.follows .mixedOrders = true) (nn : Nat) (hCP : ∀ k c, CP k = some c → FunOk P pure' k c)
    {f : Nat} {fst cap args : List V} {base : Nat} {r : V} (hev : evCall CP call (fun b k m => iterN b k m nn) (.fn f fst cap) args base H = some (r, H')) :
    (∀ xs w, (callFunc f xs).run P w = .ok (.enter f xs) w) ∧ Floor base H H' ∧
    ∀ (μ : Mu) (Mt : Nat → Prop) (w : World) (cs : List Value), HR (CodeR P pure') μ Mt w H → VRs μ Mt w (fst ++ args ++ cap) cs → ∀ n, CallsIn Fence.wide n P f cs.toArray w (RetP (CodeR P pure') μ Mt w H r H') := by
  simp only [evCall] at hev
  split at hev
  · rename_i c hc
    obtain ⟨fn, body, h1, h2, h3, h4, h5, h6⟩ := hCP f _ hc
    have fin : ∀ (e : Ex) (fr' : List V) (H1 : Heap), (e = .nrm ∨ e = .ret) → evC call (fun b k m => iterN b k m nn) base c.body (fst ++ args ++ cap ++ List.replicate (c.ntmps - (fst ++ args ++ cap).length) und) H = some (e, fr', H1) →
        (resultV c.results fr' H1).map (fun v => (v, H1)) = some (r, H') → (∀ xs w, (callFunc f xs).run P w = .ok (.enter f xs) w) ∧ Floor base H H' ∧
        ∀ (μ : Mu) (Mt : Nat → Prop) (w : World) (cs : List Value), HR (CodeR P pure') μ Mt w H → VRs μ Mt w (fst ++ args ++ cap) cs → ∀ n, CallsIn Fence.wide n P f cs.toArray w (RetP (CodeR P pure') μ Mt w H r H') := by
      intro e fr' H1 he hb hres
      rw [Option.map_eq_some_iff] at hres
      obtain ⟨v, hv, e1⟩ := hres
      cases e1
      refine ⟨Go.Proofs.enters_of h1 h3 h2, evC_floor hs.floor nn _ hb, fun μ Mt w cs h hvs n => ?_⟩
      refine callsIn_of_wp_marks h1 h2 trivial ?_
      have hf0 : FR μ Mt w (fst ++ args ++ cap ++ List.replicate (c.ntmps - (fst ++ args ++ cap).length) und) (cs.toArray ++ Array.replicate (fn.ntmps - cs.toArray.size) Go.undef) := by
        unfold FR
        have := hvs.append (replicate_vr (μ := μ) (Mt := Mt) (w := w) (c.ntmps - (fst ++ args ++ cap).length))
        simp only [Array.toList_append, Array.toList_replicate, List.size_toArray, h5]
        rw [hvs.1] at this ⊢
        exact this
      refine evC_sim hs hmix nn base h4 none n _ H e fr' H' hb μ Mt w { tmps := cs.toArray ++ Array.replicate (fn.ntmps - cs.toArray.size) Go.undef, defers := [] } _ h hf0 (fun l hl => by cases hl) ?_
      rintro a' w' ⟨μ1, Mt1, p1, f1, L, hL, hnd, hLs⟩
      have key : LeavesInM Fence.wide n P fn a'.tmps (RetP (CodeR P pure') μ Mt w H r H') a'.defers .returning w' := by
        rw [hL, List.append_nil]
        refine leaves_marks (μ := μ1) (Mt := Mt1) (fr := fr') (fun w2 p2 f2 => ?_) L w' p1 f1 hnd hLs
        obtain ⟨cv, k1, k2⟩ := results_sim p2.hr f2 h6 hv
        exact ⟨cv, k1, cv, μ1, Mt1, rfl, k2, p2⟩
      rcases he with rfl | rfl
      · exact key
      · exact key
    split at hev
    · rename_i fr' H1 hb; exact fin .nrm fr' H1 (.inl rfl) hb hev
    · rename_i fr' H1 hb; exact fin .ret fr' H1 (.inr rfl) hb hev
    · cases hev
  · rename_i g hc
    obtain ⟨h1, h2⟩ := hCP f _ hc
    obtain ⟨h3, h4⟩ := h2 _ _ _ _ _ hev
    exact ⟨h1, h3, h4⟩
  · cases hev

theorem putObj_set (w : World) (l : Nat) (o : Obj) : (w.putObj l o).heap = w.heap.setIfInBounds l o := rfl

theorem evCall_yld (hs : SimCall P (CodeR P pure') call) (hmix : P.follows .mixedOrders = true) (nn : Nat)
    {id : Nat} {args : List V} {base : Nat} {r : V} (hev : evCall CP call (fun b k m => iterN b k m nn) (.yld id) args base H = some (r, H')) :
    Floor base H H' ∧ ∀ (μ : Mu) (Mt : Nat → Prop) (w : World) (cs : List Value) (B : Nat), HR (CodeR P pure') μ Mt w H → VRs μ Mt w args cs → μ id 0 = some (B, 0) →
      ∃ f tmps assign body, (Instr.yield B cs.toArray).run P w = .ok (.round B f tmps assign body) w ∧ ∀ n, RoundIn Fence.wide n P B f tmps assign body w (RetP (CodeR P pure') μ Mt w H r H') := by
  simp only [evCall] at hev
  split at hev
  case isFalse => cases hev
  rename_i hbase
  split at hev
  case h_2 => cases hev
  rename_i tmps params assign body hH
  split at hev
  case h_2 => cases hev
  rename_i fr0 hset
  split at hev
  case h_2 => cases hev
  rename_i fr1 H1 hasg
  split at hev
  case h_2 => cases hev
  rename_i t1 ps1 as1 b1 hH1
  split at hev
  case h_2 => cases hev
  rename_i e fr2 H3 hbody
  split at hev
  case h_2 => cases hev
  rename_i t3 ps3 as3 b3 hH3
  cases hev
  have setF : ∀ (G : Heap) (o : Ob), Floor base G (G.set id o) := fun G o => ⟨by simp, fun i h1 _ => by rw [List.getElem?_set_ne (by omega)]⟩
  refine ⟨(evC_floor hs.floor nn _ hasg).trans ((setF _ _).trans ((evC_floor hs.floor nn _ hbody).trans (setF _ _))), ?_⟩
  intro μ Mt w cs B h hvs hm
  obtain ⟨o, ho, hr⟩ := h.objs _ _ 0 _ _ hH rfl hm
  cases o <;> first | exact hr.elim | skip
  rename_i rec
  obtain ⟨_, q1, q2, q3, q4, q5, q6⟩ := hr
  obtain ⟨hlen, hf0⟩ := setPs_sim params args cs hset hvs (t := rec.tmps) q3
  have hsz : cs.toArray.size = rec.params.size := by
    rw [← q4] at hlen; simpa using hlen.symm
  have hfold : (rec.params.zip cs.toArray).foldl (fun tmps (t, a) => tmps.setIfInBounds t a) rec.tmps = (params.zip cs).foldl (fun t p => t.setIfInBounds p.1 p.2) rec.tmps := by
    rw [← Array.foldl_toList, Array.toList_zip, q4]
  refine ⟨_, _, _, _, run_yield ho hsz, fun n => ?_⟩
  refine roundIn_of_wpIn (F := Fence.wide) trivial ?_
  rw [hfold]
  refine evC_sim hs hmix nn base q5 (some B) n fr0 H .nrm fr1 H1 hasg μ Mt w { tmps := (params.zip cs).foldl (fun t p => t.setIfInBounds p.1 p.2) rec.tmps, defers := [] } _ h hf0 (fun l hl => by cases hl; exact ⟨rec, ho⟩) ?_
  rintro a1 w1 ⟨μ1, Mt1, p1, f1, _⟩
  have hm1 := p1.ext _ _ _ hm
  obtain ⟨o1, ho1, hr1⟩ := p1.hr.objs _ _ 0 _ _ hH1 rfl hm1
  cases o1 <;> first | exact hr1.elim | skip
  rename_i rec1
  obtain ⟨_, s1, s2, s3, s4, s5, s6⟩ := hr1
  have hwf1 : ObW H1.length (.loop .busy none t1 ps1 as1 b1) := by have := p1.hr.wf _ _ hH1; exact this
  have p2 : Post (CodeR P pure') μ1 Mt1 w1 H1 (updM μ1 id 0 (B, 0)) Mt1 (w1.putObj B (.loop { rec1 with state := .busy })) (H1.set id (.loop .busy none t1 ps1 as1 b1)) := by
    refine post_set p1.hr 0 0 hH1 rfl hm1 ho1 (fun _ _ _ e => by cases e) (fun _ _ => ⟨_, rfl⟩) (.inl ⟨rfl, rfl⟩) (fun j hj => hj) (fun _ _ e => by cases e) rfl rfl rfl rfl hwf1 ?_
    intro _ μ' Mt' hμ hM
    have hne : ∀ K, K ≠ B → (w1.putObj B (.loop { rec1 with state := .busy })).heap[K]? = w1.heap[K]? := fun K hK => World.putObj_heap_other hK
    refine ⟨rfl, rfl, trivial, ?_, s4, s5, s6⟩
    refine VRs.mono hμ (fun K hK hm => (hM K hK).1 hm) (fun K _ hn => hne K (fun e => hn (e ▸ (p1.hr.isMut _ _ _ _ hm1).1))) (fun K a0 e0 fr0 hK => ?_) s3
    have : K ≠ B := fun e => by subst e; rw [ho1] at hK; cases hK
    exact ⟨a0, (hne K this).trans hK, rfl⟩
  refine ⟨_, run_beginRound ho1 s1, ?_⟩
  have pp := p1.trans p2
  have hB2 : ∃ r, (w1.putObj B (.loop { rec1 with state := .busy })).heap[B]? = some (.loop r) := ⟨_, World.putObj_heap_same (lt_of_some ho1)⟩
  -- which body is run: the record that yield read
  refine evC_sim hs hmix nn base q6 (some B) n fr1 _ e fr2 H3 ?_ _ _ _ a1 _ p2.hr (f1.post p1.hr p2) (fun l hl => by cases hl; exact hB2) ?_
  · exact hbody
  · rintro a3 w3 ⟨μ3, Mt3, p3, _, _⟩
    have hm3 : μ3 id 0 = some (B, 0) := p3.ext _ _ _ (updM_same _ _ _ _)
    obtain ⟨o3, ho3, hr3⟩ := p3.hr.objs _ _ 0 _ _ hH3 rfl hm3
    cases o3 <;> first | exact hr3.elim | skip
    rename_i rec3
    obtain ⟨_, u1, u2, u3, u4, u5, u6⟩ := hr3
    have hwf3 : ∀ st pe, ObW H3.length (.loop st pe t3 ps3 as3 b3) := fun _ _ => by have := p3.hr.wf _ _ hH3; exact this
    have fin : ∀ (jump : Option Code), compStOk (if e = .nrm then .ready else .done) (pendOf e) jump → jump.isNone = decide (e = .nrm) → (if jump.isNone then LoopState.ready else .done) = (if e = .nrm then .ready else .done) →
        ∃ v w', (Instr.endRound B jump).run P w3 = .ok v w' ∧ RetP (CodeR P pure') μ Mt w H (bl (decide (e = .nrm))) (H3.set id (.loop (if e = .nrm then .ready else .done) (pendOf e) t3 ps3 as3 b3)) (.returned v) w' := by
      intro jump hok hj hst
      refine ⟨_, _, run_endRound jump ho3, _, _, _, rfl, by rw [hj]; exact .s _, (pp.trans p3).trans (post_set (g' := 0) (b' := 0) p3.hr hH3 rfl hm3 ho3 (fun _ _ _ e => by cases e) (fun _ _ => ⟨_, rfl⟩) (.inl ⟨rfl, rfl⟩) (fun j hj => hj) (fun _ _ e => by cases e) rfl rfl rfl rfl (hwf3 _ _) ?_)⟩
      intro _ μ' Mt' hμ hM
      have hne : ∀ K, K ≠ B → (w3.putObj B (.loop { rec3 with state := if jump.isNone then .ready else .done, pending := jump })).heap[K]? = w3.heap[K]? := fun K hK => World.putObj_heap_other hK
      refine ⟨rfl, hst, hok, ?_, u4, u5, u6⟩
      refine VRs.mono hμ (fun K hK hm => (hM K hK).1 hm) (fun K _ hn => hne K (fun e => hn (e ▸ (p3.hr.isMut _ _ _ _ hm3).1))) (fun K a0 e0 fr0 hK => ?_) u3
      have : K ≠ B := fun e => by subst e; rw [ho3] at hK; cases hK
      exact ⟨a0, (hne K this).trans hK, rfl⟩
    cases e with
    | nrm => exact fin none rfl rfl rfl
    | ext i => exact fin (some (.exit i)) rfl rfl rfl
    | ret => exact fin (some .ret) rfl rfl rfl

/-- **A LEVEL MORE.** -/
theorem evCall_sim (hs : SimCall P (CodeR P pure') call) (hmix : P.follows .mixedOrders = true) (nn : Nat) (hCP : ∀ k c, CP k = some c → FunOk P pure' k c) : SimCall P (CodeR P pure') (evCall CP call (fun b k m => iterN b k m nn)) where
  fn f fst cap args base H r H' h := by
    obtain ⟨h1, _, h3⟩ := evCall_fn hs hmix nn hCP h
    exact ⟨h1, h3⟩
  yld id args base H r H' h := (evCall_yld hs hmix nn h).2
  other v args base H h1 h2 := by
    cases v <;> first | rfl | exact absurd rfl (h1 _ _ _) | exact absurd rfl (h2 _)
  floor v args base H r H' h := by
    by_cases h1 : ∃ f a b, v = .fn f a b
    · obtain ⟨f, a, b, rfl⟩ := h1
      exact (evCall_fn hs hmix nn hCP h).2.1
    · by_cases h2 : ∃ id, v = .yld id
      · obtain ⟨id, rfl⟩ := h2
        exact (evCall_yld hs hmix nn h).1
      · exfalso
        cases v <;> first | exact h1 ⟨_, _, _, rfl⟩ | exact h2 ⟨_, rfl⟩ | (simp [evCall] at h; done)

/-- **THE MACHINE.** -/
theorem callN_sim (hmix : P.follows .mixedOrders = true) (hCP : ∀ k c, CP k = some c → FunOk P pure' k c) : ∀ n, SimCall P (CodeR P pure') (callN CP n)
  | 0 => ⟨fun _ _ _ _ _ _ _ _ h => (by cases h), fun _ _ _ _ _ _ h => (by cases h), fun _ _ _ _ _ _ => rfl, fun _ _ _ _ _ _ h => (by cases h)⟩
  | n + 1 => evCall_sim (callN_sim hmix hCP n) hmix n hCP

/-- **A CALL FROM OUTSIDE**: its arguments are pure; what lay there lies there. -/
theorem callN_calls (hmix : P.follows .mixedOrders = true) (hCP : ∀ k c, CP k = some c → FunOk P pure' k c) {n k : Nat} {args : List V} {r : V} (h : callN CP n (.fn k [] []) args 0 [] = some (r, H')) {w : World} {cs : Array Value}
    (hargs : VRs (fun _ _ => none) (fun _ => False) w args cs.toList) :
    Calls P k cs w fun e w' => ∃ c μ' Mt', e = .returned c ∧ VR μ' Mt' w' r c ∧ (∀ B, B < w.heap.size → w'.heap[B]? = w.heap[B]?) ∧ Tr (fun _ _ => none) w w' := by
  have h0 : HR (CodeR P pure') (fun _ _ => none) (fun _ => False) w [] := ⟨fun _ _ _ h => by simp at h, fun _ _ _ _ h => by simp at h, fun _ _ _ _ _ h => by simp at h, fun _ _ _ _ _ _ _ h => by simp at h, fun _ _ _ _ _ h => by simp at h, fun _ _ h => by simp at h⟩
  have := ((callN_sim hmix hCP n).fn k [] [] args 0 [] r H' h).2 _ _ w cs.toList h0 (by simpa using hargs) 0
  simp only [Array.toArray_toList] at this
  refine callsIn_wide.1 (CallsIn.mono this ?_)
  rintro e w' ⟨c, μ', Mt', rfl, hv, hp⟩
  exact ⟨c, μ', Mt', rfl, hv, fun B hB => hp.tr.keep B hB (fun _ _ _ h => by simp at h), hp.tr⟩
end
end Go.AM
