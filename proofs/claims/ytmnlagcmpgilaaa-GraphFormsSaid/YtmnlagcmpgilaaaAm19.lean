/-
  Calls: bodies, rounds; the whole machine.
-/
import Derived.Test.YtmnlagcmpgilaaaAm18
import Derived.Laws.Sem
import Derived.Shelf.Abstract
set_option linter.all false
namespace Go.AM
open Go.RowKit

section
variable {CC : Code → ACode → Prop} {μ μ' : Mu} {Mt Mt' : Nat → Prop} {w w' : World} {H H' : Heap} {P : Program} {pure' : Nat → Bool} {call : CallF}

/-! ### A block without a name that holds no row turns -/

theorem PR.monoC (hM : ∀ B, B < w.heap.size → Mt' B → Mt B)
    (hk : ∀ (B : Nat) (arr : Array Value) (e : TypeId) (fr : Nat × Nat), w.heap[B]? = some (.cells arr e fr) → w'.heap[B]? = w.heap[B]?) {v : V} {c : Value} (h : PR Mt w v c) : PR Mt' w' v c := by
  induction h with
  | s v => exact .s v
  | agg cs vs hl _ ih => exact .agg cs vs hl ih
  | tup cs vs hl _ ih => exact .tup cs vs hl ih
  | pref cs B o arr e fr hB hMB hs _ ih => exact .pref cs B o arr e fr ((hk B _ _ _ hB).trans hB) (fun h => hMB (hM B (lt_of_some hB) h)) hs ih
  | psl es sz B o cap arr e fr hB hMB hc hz hs _ ih => exact .psl es sz B o cap arr e fr ((hk B _ _ _ hB).trans hB) (fun h => hMB (hM B (lt_of_some hB) h)) hc hz hs ih
  | psl0 sz cap a => exact .psl0 sz cap a
  | esl a => exact .esl a
  | fn f fst cap fst' cap' hf hc _ _ ih1 ih2 => exact .fn f fst cap fst' cap' hf hc ih1 ih2

theorem VR.monoC (hM : ∀ B, B < w.heap.size → Mt' B → Mt B)
    (hk : ∀ (B : Nat) (arr : Array Value) (e : TypeId) (fr : Nat × Nat), w.heap[B]? = some (.cells arr e fr) → w'.heap[B]? = w.heap[B]?) {v : V} {c : Value} (h : VR μ Mt w v c) : VR μ Mt' w' v c := by
  induction h with
  | s v => exact .s v
  | unk v => exact .unk v
  | agg cs vs hl _ ih => exact .agg cs vs hl ih
  | tup cs vs hl _ ih => exact .tup cs vs hl ih
  | ref id g off B b hm => exact .ref id g off B b hm
  | pref cs B o arr e fr hB hMB hs h => exact .pref cs B o arr e fr ((hk B _ _ _ hB).trans hB) (fun h => hMB (hM B (lt_of_some hB) h)) hs (fun i a b ha hb => (h i a b ha hb).monoC hM hk)
  | sl id g off len sz B b cap arr e hm hB hc hs => exact .sl id g off len sz B b cap arr e hm ((hk B _ _ _ hB).trans hB) hc hs
  | sl0 id g off sz B b a hm => exact .sl0 id g off sz B b a hm
  | psl es sz B o cap arr e fr hB hMB hc hz hs h => exact .psl es sz B o cap arr e fr ((hk B _ _ _ hB).trans hB) (fun h => hMB (hM B (lt_of_some hB) h)) hc hz hs (fun i el j a b he ha hb => (h i el j a b he ha hb).monoC hM hk)
  | psl0 sz cap a => exact .psl0 sz cap a
  | esl a => exact .esl a
  | mp id B hm => exact .mp id B hm
  | fn f fst cap fst' cap' hf hc _ _ ih1 ih2 => exact .fn f fst cap fst' cap' hf hc ih1 ih2
  | yld id B hm => exact .yld id B hm

theorem ObR.monoC (hM : ∀ B, B < w.heap.size → Mt' B → Mt B)
    (hk : ∀ (B : Nat) (arr : Array Value) (e : TypeId) (fr : Nat × Nat), w.heap[B]? = some (.cells arr e fr) → w'.heap[B]? = w.heap[B]?) {ob : Ob} {b : Nat} {o : Obj} (h : ObR CC μ Mt w ob b o) : ObR CC μ Mt' w' ob b o := by
  cases ob with
  | cells g c => cases o <;> first | exact h.elim | exact ⟨h.1, h.2.1, fun i a v ha hv => (h.2.2 i a v ha hv).monoC hM hk⟩
  | map es => cases o <;> first | exact h.elim | exact ⟨h.1, h.2.1, fun i k v e he hv => ⟨(h.2.2 i k v e he hv).1, (h.2.2 i k v e he hv).2.monoC hM hk⟩⟩
  | loop st pend tmps params assign body =>
    cases o <;> first | exact h.elim | skip
    obtain ⟨h0, h1, h2, h3, h4, h5, h6⟩ := h
    exact ⟨h0, h1, h2, ⟨h3.1, fun i a b ha hb => (h3.2 i a b ha hb).monoC hM hk⟩, h4, h5, h6⟩
  | dead => cases o <;> exact h.elim

theorem post_drop {μ0 : Mu} {Mt0 : Nat → Prop} {w0 : World} {H0 : Heap} (hp : Post CC μ0 Mt0 w0 H0 μ Mt w H) {D : Nat} {x y : Option (List Deferred)} (hD : w0.heap.size ≤ D) (hd : w.heap[D]? = some (.deferred x)) (hn : ∀ id g b, μ id g ≠ some (D, b)) :
    Post CC μ0 Mt0 w0 H0 μ Mt (w.putObj D (.deferred y)) H ∧ ∀ {v : V} {c : Value}, VR μ Mt w v c → VR μ Mt (w.putObj D (.deferred y)) v c := by
  have hk : ∀ (B : Nat) (arr : Array Value) (e : TypeId) (fr : Nat × Nat), w.heap[B]? = some (.cells arr e fr) → (w.putObj D (.deferred y)).heap[B]? = w.heap[B]? := by
    intro B arr e fr hB
    refine World.putObj_heap_other (fun e => ?_)
    subst e; rw [hd] at hB; cases hB
  have hsz : (w.putObj D (.deferred y)).heap.size = w.heap.size := World.putObj_size
  have hne : ∀ K, K < w0.heap.size → (w.putObj D (.deferred y)).heap[K]? = w.heap[K]? := fun K hK => World.putObj_heap_other (by omega)
  refine ⟨⟨hp.len, ⟨hp.hr.dom, fun id g B b e => by rw [hsz]; exact hp.hr.isMut id g B b e, fun id ob g B b hH hc e => ?_, hp.hr.inj, hp.hr.gens, hp.hr.wf⟩, hp.ext, hp.mt,
    ⟨by rw [hsz]; exact hp.tr.size, fun B arr e fr hB => ?_, fun B l hB => ?_, fun B hB hu => (hne B hB).trans (hp.tr.keep B hB hu), fun B arr e fr hB => ?_, hp.tr.os, hp.tr.tape, hp.tr.output⟩, hp.old, hp.news⟩, fun h => h.monoC (fun _ _ h => h) hk⟩
  · obtain ⟨o, ho, hr⟩ := hp.hr.objs id ob g B b hH hc e
    refine ⟨o, (World.putObj_heap_other (fun eq => ?_)).trans ho, hr.monoC (fun _ _ h => h) hk⟩
    subst eq
    exact hn id g b e
  · obtain ⟨arr', h1, h2⟩ := hp.tr.shape B arr e fr hB
    exact ⟨arr', (hne B (lt_of_some hB)).trans h1, h2⟩
  · obtain ⟨l', h1⟩ := hp.tr.loops B l hB
    exact ⟨l', (hne B (lt_of_some hB)).trans h1⟩
  · by_cases hBD : B = D
    · subst hBD
      rw [World.putObj_heap_same (lt_of_some hd)] at hB
      cases hB
    · rw [World.putObj_heap_other hBD] at hB
      exact hp.tr.back B arr e fr hB

/-! ### Leaving -/

theorem leaves_marks {μ0 : Mu} {Mt0 : Nat → Prop} {w0 : World} {H0 : Heap} {fn : Func} {tmps : Array Value} {fr : List V} {R : Ending → World → Prop} {n : Nat}
    (hfin : ∀ w', Post CC μ0 Mt0 w0 H0 μ Mt w' H → FR μ Mt w' fr tmps → ∃ v, (results fn tmps).run P w' = .ok v w' ∧ R (.returned v) w') :
    ∀ (L : List Nat) (w : World), Post CC μ0 Mt0 w0 H0 μ Mt w H → FR μ Mt w fr tmps → L.Nodup → (∀ D ∈ L, w0.heap.size ≤ D ∧ w.heap[D]? = some (.deferred (some [])) ∧ ∀ id g b, μ id g ≠ some (D, b)) →
      LeavesInM Fence.wide n P fn tmps R (L.map markOf) .returning w := by
  intro L
  induction L with
  | nil => intro w hp hf _ _; exact hfin w hp hf
  | cons D L ih =>
    intro w hp hf hnd hL
    obtain ⟨h1, h2, h3⟩ := hL D List.mem_cons_self
    refine ⟨by simp, .inl ⟨D, _, rfl, run_takeDeferred h2, ?_⟩⟩
    obtain ⟨p1, hv⟩ := post_drop (y := none) hp h1 h2 h3
    refine ih _ p1 ⟨hf.1, fun i a b ha hb => hv (hf.2 i a b ha hb)⟩ (List.nodup_cons.1 hnd).2 (fun E hE => ?_)
    obtain ⟨k1, k2, k3⟩ := hL E (List.mem_cons_of_mem _ hE)
    have hne : E ≠ D := fun e => by subst e; exact (List.nodup_cons.1 hnd).1 hE
    exact ⟨k1, (World.putObj_heap_other hne).trans k2, k3⟩

theorem results_list (h : HR CC μ Mt w H) {fr : List V} {tmps : Array Value} (hf : FR μ Mt w fr tmps) : ∀ (rs : List ResultVar) (ars : List ARes) (vs : List V), rs.mapM (compRes P) = some ars → ars.mapM (resV fr H) = some vs →
    ∃ cs : List Value, (rs.mapM (fun | .tmp t => pure (tmps.getD t Go.undef) | .cell a t => do loadVar t (← asAddr (tmps.getD a Go.undef)) : ResultVar → Sem Value)).run P w = .ok cs w ∧ VRs μ Mt w vs cs := by
  intro rs
  induction rs with
  | nil =>
    intro ars vs h1 h2
    simp at h1; subst h1
    simp at h2; subst h2
    exact ⟨[], by simp [Sem.run_pure], rfl, fun i a b ha => by simp at ha⟩
  | cons r rs ih =>
    intro ars vs h1 h2
    simp only [List.mapM_cons, Option.pure_def, Option.bind_eq_bind, Option.bind_eq_some_iff] at h1
    obtain ⟨a, ha, as', has, e⟩ := h1
    cases e
    simp only [List.mapM_cons, Option.pure_def, Option.bind_eq_bind, Option.bind_eq_some_iff] at h2
    obtain ⟨v, hv, vs', hvs, e⟩ := h2
    cases e
    obtain ⟨cs, hcs, hr⟩ := ih as' vs' has hvs
    have one : ∃ c, ((fun | .tmp t => pure (tmps.getD t Go.undef) | .cell a t => do loadVar t (← asAddr (tmps.getD a Go.undef)) : ResultVar → Sem Value) r).run P w = .ok c w ∧ VR μ Mt w v c := by
      cases r with
      | tmp t =>
        simp only [compRes] at ha
        cases ha
        simp only [resV] at hv
        cases hv
        exact ⟨_, rfl, hf.getD t⟩
      | cell t ty =>
        simp only [compRes, Option.map_eq_some_iff] at ha
        obtain ⟨⟨agg, k⟩, hs, e⟩ := ha
        cases e
        simp only [resV] at hv
        obtain ⟨c, h1, h2⟩ := loadV_sim (P := P) hs h (hf.getD t) hv
        refine ⟨c, ?_, h2⟩
        have hx := hf.getD t
        unfold loadV at hv
        split at hv
        · rename_i hfv
          rw [hfv] at hx
          obtain ⟨B, b, hm, hpt⟩ := vr_ref hx
          show Sem.run P (do loadVar ty (← asAddr (tmps.getD t Go.undef))) w = _
          rw [hpt] at h1 ⊢
          simpa [Instr.loadAt, Instr.sureAddr, asAddr, Sem.run_bind, Sem.run_pure] using h1
        · rename_i hfv
          rw [hfv] at hx
          obtain ⟨a', hpt, _⟩ := pref_place hx
          show Sem.run P (do loadVar ty (← asAddr (tmps.getD t Go.undef))) w = _
          rw [hpt] at h1 ⊢
          simpa [Instr.loadAt, Instr.sureAddr, asAddr, Sem.run_bind, Sem.run_pure] using h1
        · cases hv
    obtain ⟨c, hc, hvr⟩ := one
    refine ⟨c :: cs, ?_, by simpa using VRs.append (a := [v]) (c := [c]) ⟨rfl, fun i p q hp hq => by
      cases i with
      | zero => simp at hp hq; subst hp; subst hq; exact hvr
      | succ i => simp at hp⟩ hr⟩
    rw [List.mapM_cons]
    simp only [Sem.run_bind]
    rw [hc]
    simp only [Result.andThen_ok, hcs, Sem.run_pure]

theorem results_sim (h : HR CC μ Mt w H) {fr : List V} {tmps : Array Value} (hf : FR μ Mt w fr tmps) {fn : Func} {ars : List ARes} (hc : fn.results.toList.mapM (compRes P) = some ars) {r : V} (hr : resultV ars fr H = some r) :
    ∃ v, (results fn tmps).run P w = .ok v w ∧ VR μ Mt w r v := by
  unfold resultV at hr
  have main : ∀ vs, ars.mapM (resV fr H) = some vs → ∃ cs : List Value, (results fn tmps).run P w = .ok (if h : cs.toArray.size = 1 then cs.toArray[0] else .tuple cs.toArray) w ∧ VRs μ Mt w vs cs := by
    intro vs hvs
    obtain ⟨cs, h1, h2⟩ := results_list (P := P) h hf fn.results.toList ars vs hc hvs
    refine ⟨cs, ?_, h2⟩
    unfold results
    rw [Array.mapM_eq_mapM_toList]
    simp only [Sem.run_bind, map_eq_pure_bind, bind_assoc, pure_bind]
    erw [h1]
    simp only [Result.andThen_ok, Sem.run_pure]
  split at hr
  · rename_i v hvs
    cases hr
    obtain ⟨cs, h1, h2⟩ := main _ hvs
    have hl : cs.length = 1 := by have := h2.1; simp at this; exact this.symm
    match cs, hl with
    | [c], _ => exact ⟨c, by simpa using h1, h2.2 0 r c rfl rfl⟩
  · rename_i vs hne hvs
    cases hr
    obtain ⟨cs, h1, h2⟩ := main _ hvs
    have hl : cs.toArray.size ≠ 1 := by
      intro hl
      have h3 := h2.1
      simp at hl
      rw [hl] at h3
      match vs, h3 with
      | [v], _ => exact hne v rfl
    rw [dif_neg hl] at h1
    exact ⟨_, h1, .tup vs cs.toArray (by simpa using h2.1) (fun i a b ha hb => h2.2 i a b ha (by simpa using hb))⟩
  · cases hr
end
end Go.AM
