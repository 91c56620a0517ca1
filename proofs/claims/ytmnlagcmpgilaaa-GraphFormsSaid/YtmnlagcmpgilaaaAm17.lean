/-
  A row whose order is drawn: the whole.
-/
import Derived.Test.YtmnlagcmpgilaaaAm16
set_option linter.all false
namespace Go.AM
open Go.RowKit
section
variable {CC : Code → ACode → Prop} {μ : Mu} {Mt : Nat → Prop} {w : World} {H : Heap} {P : Program} {pure' : Nat → Bool} {call : CallF} {base : Nat}
variable {ops : Array Oper} {l : List AOper} {chk : List (Nat × Nat)} {fr fr' : List V} {H H' : Heap} {F : Nat → List V} {G : Nat → Heap} {val : Nat → V}

def unlisted (listed : Array Bool) (N : Nat) : Nat := (List.range N).countP fun k => !(listed.getD k false)

/-- **One operation that is ready: what it yields, and where the heap goes.** -/
theorem Row.turn (R : Row P pure' call base ops l chk fr fr' H H' F G val) {S : Nat → Bool} (hd : Dn ops S) {i p : Nat} (hi : i < l.length) (hp : p ≤ l.length) (hSi : S i = false)
    (hah : ∀ j, orderedB (Region.before ops).toList j i = true → S j = true) (hp1 : ∀ k, k < p → (l.getD k default).op.isM = true → S k = true) (hp2 : ∀ k, p ≤ k → k < l.length → (l.getD k default).op.isM = true → S k = false)
    (hh : HR CC μ Mt w (G p)) {t : Array Value} (hf : FR μ Mt w (SF (dstOf l) val fr l.length S) t) :
    ∃ p', p' ≤ l.length ∧ (∀ k, k < p' → (l.getD k default).op.isM = true → ins S i k = true) ∧ (∀ k, p' ≤ k → k < l.length → (l.getD k default).op.isM = true → ins S i k = false) ∧
      TrStep call base (l.getD i default) (SF (dstOf l) val fr l.length S) (G p) (val i) (SF (dstOf l) val fr l.length (ins S i)) (G p') := by
  have hs := R.step hi
  have hrd : ∀ s ∈ (l.getD i default).reads, (SF (dstOf l) val fr l.length S).getD s .unk = (F i).getD s .unk := fun s hs => R.slot hd hi hSi hah hs
  have hw := reads_want hrd
  have haf := R.after hd hi hSi hah
  have hcg : ∀ B, evOp call base (SF (dstOf l) val fr l.length S) B (l.getD i default).op = evOp call base (F i) B (l.getD i default).op := fun B => evOp_congr _ fun x hx => reads_opd hx hrd
  by_cases hM : (l.getD i default).op.isM = true
  · have hpi : p ≤ i := by
      apply Nat.le_of_not_lt
      intro h
      have := hp1 i h hM
      rw [hSi] at this; cases this
    have hG : G i = G p := by
      refine R.heaps hpi (by omega) fun k h1 h2 => ?_
      cases hk : (l.getD k default).op.isM with
      | false => rfl
      | true =>
        exfalso
        have h3 := hp2 k h1 (by omega) hk
        rcases R.pair hd (by omega : k ≠ i) hi (by omega) hSi hah (conf_mm hM hk) (conf_mm hk hM) with h | ⟨_, h, _⟩ | ⟨_, h, _⟩
        · have := h.2 h2; rw [h3] at this; cases this
        · rw [late_mm hk hM] at h; cases h
        · rw [late_mm hM hk] at h; cases h
    refine ⟨i + 1, by omega, fun k h1 h2 => ?_, fun k h1 h2 h3 => ?_, haf, ?_⟩
    · by_cases hk : k = i
      · subst hk; simp [ins]
      · by_cases hkp : k < p
        · simp [ins, hp1 k hkp h2]
        · exfalso
          have h3 := hp2 k (by omega) (by omega) h2
          rcases R.pair hd hk hi (by omega) hSi hah (conf_mm hM h2) (conf_mm h2 hM) with h | ⟨_, h, _⟩ | ⟨_, h, _⟩
          · have := h.2 (by omega); rw [h3] at this; cases this
          · rw [late_mm h2 hM] at h; cases h
          · rw [late_mm hM h2] at h; cases h
    · have : k ≠ i := by omega
      simp [ins, hp2 k (by omega) h2 h3, this]
    · rw [hw, hcg, ← hG]; exact hs.2
  · have hM' : (l.getD i default).op.isM = false := by simpa using hM
    refine ⟨p, hp, fun k h1 h2 => by simp [ins, hp1 k h1 h2], fun k h1 h2 h3 => ?_, haf, ?_⟩
    · have : k ≠ i := fun e => by subst e; exact hM h3
      simp [ins, hp2 k h1 h2 h3, this]
    · rw [hw, hcg]
      rcases hs.2 with ⟨h1, h2, _⟩ | ⟨h1, h2⟩
      · exact .inl ⟨h1, h2, rfl⟩
      · refine .inr ⟨h1, ?_⟩
        cases hc : (l.getD i default).op.cls with
        | t => exact (evOp_t hc h2).2 _
        | a => exact absurd (isM_a hc) hM
        | w => exact absurd (isM_w hc) hM
        | r =>
          obtain ⟨_, x, hx, hb, hg⟩ := evOp_r hc h2
          refine hg _ fun id hid => R.look hd hi hp hSi hah hp1 hp2 hc hx hid (fun _ => hb id hid) (fun _ => ?_)
          -- the place's value reads in the world as it is
          have hpl : placeOk (l.getD i default) = true := by
            have h := R.ord
            unfold okOrder at h
            simp only [Bool.and_eq_true] at h
            have h := h.1.2
            rw [List.all_eq_true] at h
            refine h _ ?_
            have : l[i]? = some l[i] := List.getElem?_eq_getElem hi
            rw [getD_of this]
            exact List.getElem_mem hi
          unfold placeOk at hpl
          rw [hc, hx] at hpl
          cases x with
          | c v => cases v <;> first | (simp at hpl; done) | (simp [ev, V.obj?] at hid; done)
          | t s =>
            have hrs : s ∈ (l.getD i default).reads := by
              refine List.mem_append_left _ (List.mem_flatMap.2 ⟨.t s, ?_, by simp [Opd.slots]⟩)
              cases hop : (l.getD i default).op <;> rw [hop] at hx <;> simp [AOp.place] at hx <;> simp [AOp.opds, hx]
            have hv := (hf.getD s).vw hh.dom
            rw [hrd s hrs] at hv
            exact hv.obj hid

/-- **A ROW WHOSE ORDER IS DRAWN.** -/
theorem reg_any (R : Row P pure' call base ops l chk fr fr' H H' F G val) (hs : SimCall P CC call) {ro : Option Nat} {n : Nat} {Q : Exit → Act → World → Prop} {w0 : World} {ds : List Deferred} (h0 : HR CC μ Mt w0 H) :
    ∀ (fuel : Nat) (listed : Array Bool) (a : Act) (w : World) (μ' : Mu) (Mt' : Nat → Prop) (p : Nat), listed.size = l.length → unlisted listed l.length ≤ fuel → Dn ops (fun k => listed.getD k false) → p ≤ l.length →
      (∀ k, k < p → (l.getD k default).op.isM = true → listed.getD k false = true) → (∀ k, p ≤ k → k < l.length → (l.getD k default).op.isM = true → listed.getD k false = false) →
      Post CC μ Mt w0 H μ' Mt' w (G p) → FR μ' Mt' w (SF (dstOf l) val fr l.length fun k => listed.getD k false) a.tmps → a.defers = ds →
      (∀ a' w', RegQ CC μ Mt w0 H ds fr' H' a' w' → Q .normal a' w') → wpAnyIn (Fw ro) n P .any ops Q fuel listed a w := by
  have hN : l.length = ops.size := R.reg.1
  -- all are taken
  have done : ∀ (listed : Array Bool) (a : Act) (w : World) (μ' : Mu) (Mt' : Nat → Prop) (p : Nat), (∀ k, k < l.length → listed.getD k false = true) → p ≤ l.length →
      (∀ k, p ≤ k → k < l.length → (l.getD k default).op.isM = true → listed.getD k false = false) →
      Post CC μ Mt w0 H μ' Mt' w (G p) → FR μ' Mt' w (SF (dstOf l) val fr l.length fun k => listed.getD k false) a.tmps → a.defers = ds → RegQ CC μ Mt w0 H ds fr' H' a w := by
    intro listed a w μ' Mt' p hall hp hp2 hpost hf hds
    have hG : G l.length = G p := R.heaps hp (Nat.le_refl _) fun k h1 h2 => by
      cases hk : (l.getD k default).op.isM with
      | false => rfl
      | true => have := hp2 k h1 h2 hk; rw [hall k h2] at this; cases this
    have hF : (SF (dstOf l) val fr l.length fun k => listed.getD k false) = F l.length := by
      obtain ⟨h1, h2⟩ := R.frames l.length (Nat.le_refl _)
      refine getD_ext (by rw [SF_length, h1]) fun s hs => ?_
      rw [SF_length] at hs
      rw [SF_getD, if_pos hs, h2 s hs, lw_reads (i := l.length) l.length fun k hk _ => ?_, Nat.min_self]
      simp [hall k hk, hk]
    rw [hF, R.fN] at hf
    rw [← hG, R.gN] at hpost
    exact ⟨μ', Mt', hpost, hf, hds⟩
  have none_ready : ∀ listed : Array Bool, listed.size = l.length → Region.ready .any ops listed = [] → ∀ k, k < l.length → listed.getD k false = true := by
    intro listed hsz hr k
    induction k using Nat.strongRecOn with
    | ind k ih =>
      intro hk
      cases hl : listed.getD k false with
      | true => rfl
      | false =>
        exfalso
        have ho : ops[k]? = some ops[k] := Array.getElem?_eq_getElem (by omega)
        have hmem : k ∈ Region.ready .any ops listed := by
          refine mem_ready.2 ⟨?_, _, ho, fun e he hb => ?_⟩
          · have : k < listed.size := by omega
            simp [this] at hl ⊢
            exact hl
          · have hB := R.back
            unfold backB at hB
            rw [List.all_eq_true] at hB
            have hB := hB k (by simp; omega)
            rw [ho] at hB
            simp only [Array.all_eq_true_iff_forall_mem, Bool.or_eq_true, Bool.not_eq_true', decide_eq_true_eq] at hB
            rcases hB e he with h | h
            · rw [hb] at h; cases h
            · exact ih e.on h (by omega)
        rw [hr] at hmem
        cases hmem
  intro fuel
  induction fuel with
  | zero =>
    intro listed a w μ' Mt' p hsz hct hd hp hp1 hp2 hpost hf hds hQ
    have hall : ∀ k, k < l.length → listed.getD k false = true := by
      intro k hk
      have h0 : unlisted listed l.length = 0 := by omega
      unfold unlisted at h0
      rw [List.countP_eq_zero] at h0
      have := h0 k (by simpa using hk)
      simpa using this
    refine ⟨?_, hQ a w (done listed a w μ' Mt' p hall hp hp2 hpost hf hds)⟩
    cases hr : Region.ready .any ops listed with
    | nil => rfl
    | cons j js =>
      exfalso
      obtain ⟨h1, o, ho, _⟩ := mem_ready.1 (show j ∈ Region.ready .any ops listed by rw [hr]; exact List.mem_cons_self)
      have hj : j < l.length := by have := (Array.getElem?_eq_some_iff.1 ho).1; omega
      have h2 := hall j hj
      have : j < listed.size := by omega
      simp [this] at h1 h2
      rw [h1] at h2; cases h2
  | succ fuel ih =>
    intro listed a w μ' Mt' p hsz hct hd hp hp1 hp2 hpost hf hds hQ
    refine ⟨fun hr => hQ a w (done listed a w μ' Mt' p (none_ready listed hsz hr) hp hp2 hpost hf hds), fun i hir => ?_⟩
    obtain ⟨h1, o, ho, hall⟩ := mem_ready.1 hir
    have hi : i < l.length := by have := (Array.getElem?_eq_some_iff.1 ho).1; omega
    have hilt : i < listed.size := by omega
    have hSi : listed.getD i false = false := by simp [hilt] at h1 ⊢; exact h1
    have hah : ∀ j, orderedB (Region.before ops).toList j i = true → listed.getD j false = true := fun j hj => ready_ahead hd ho hall hj
    have hset : (fun k => (listed.setIfInBounds i true).getD k false) = ins (fun k => listed.getD k false) i := by
      funext k
      by_cases hk : k = i
      · subst hk
        simp [ins, hilt]
      · rw [getD_set_ne false (Ne.symm hk)]
        simp [ins, hk]
    obtain ⟨p', q1, q2, q3, htr⟩ := R.turn hd hi hp hSi hah hp1 hp2 hpost.hr hf
    have hli : l[i]? = some (l.getD i default) := by rw [List.getElem?_eq_getElem hi, getD_of (List.getElem?_eq_getElem hi)]
    obtain ⟨hdst, hcomp, hguard⟩ := R.reg.2 i o _ ho hli
    have hct' : unlisted (listed.setIfInBounds i true) l.length ≤ fuel := by
      have : unlisted (listed.setIfInBounds i true) l.length < unlisted listed l.length := by
        refine countP_lt (fun k _ hk => ?_) ⟨i, by simpa using hi, by simp [hSi], ?_⟩
        · have := congrFun hset k
          simp only [Bool.not_eq_true'] at hk ⊢
          rw [this] at hk
          simp only [ins, Bool.or_eq_false_iff] at hk
          exact hk.1
        · have := congrFun hset i
          simp only [this, ins]
          simp
      omega
    have next : ∀ (c : Value) (w1 : World) (μ1 : Mu) (Mt1 : Nat → Prop), VR μ1 Mt1 w1 (val i) c → Post CC μ' Mt' w (G p) μ1 Mt1 w1 (G p') → wpAnyIn (Fw ro) n P .any ops Q fuel (listed.setIfInBounds i true) (a.put o.dst c) w1 := by
      intro c w1 μ1 Mt1 hv hpp
      refine ih _ _ _ μ1 Mt1 p' (by simpa using hsz) hct' (by rw [hset]; exact dn_ins hd ho hall) q1 (fun k h1 h2 => (congrFun hset k).trans (q2 k h1 h2)) (fun k h1 h2 h3 => (congrFun hset k).trans (q3 k h1 h2 h3))
        (hpost.trans hpp) ?_ (by rw [put_defers]; exact hds) hQ
      rw [hset, htr.1]
      rw [← hdst]
      exact (hf.post hpost.hr hpp).put _ hv
    unfold wpOpIn
    simp only [ho]
    rcases htr.2 with ⟨hw, hv, hg⟩ | ⟨hw, hop⟩
    · rw [want_sim hguard hf hw]
      simp only [Bool.false_eq_true, if_false]
      refine ⟨fun _ _ => trivial, next _ w μ' Mt' ?_ (by rw [hg]; exact Post.refl hpost.hr)⟩
      rw [hv]
      exact .s _
    · rw [want_sim hguard hf hw]
      simp only [if_true]
      refine oper_wp hs hpost.hr hf hcomp hop ?_
      rintro r w1 ⟨c, μ1, Mt1, e, hv, hpp⟩
      cases e
      exact next r w1 μ1 Mt1 hv hpp
end
end Go.AM
