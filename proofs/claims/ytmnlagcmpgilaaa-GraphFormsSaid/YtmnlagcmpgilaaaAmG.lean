/-
  At a call's beginning no slot but the arguments' holds anything that is read.
-/
import Derived.Test.YtmnlagcmpgilaaaAmF
set_option linter.all false
namespace Go.AM
section
variable {call : CallF} {it : IterF} {base : Nat}

/-- Two frames that agree but at some slots. -/
def AgD (D : List Nat) (f g : List V) : Prop := f.length = g.length ∧ ∀ s, s ∉ D → f.getD s .unk = g.getD s .unk

def readsIn (o : AOper) (D : List Nat) : Bool := o.reads.any D.contains
def less (D : List Nat) (d : Option Nat) : List Nat := match d with
  | some d => D.filter (· != d)
  | none => D
/-- No slot of these is read ahead of being written; what is left of them. -/
def indep : List Nat → List AOper → Option (List Nat)
  | D, [] => some D
  | D, o :: os => if readsIn o D then none else indep (less D o.dst) os

theorem put_ag {D : List Nat} {f g : List V} (h : AgD D f g) (d : Option Nat) (v : V) : AgD (less D d) (put d v f) (put d v g) := by
  cases d with
  | none => exact h
  | some d =>
    refine ⟨by simp only [put, List.length_set]; exact h.1, fun s hs => ?_⟩
    simp only [put]
    by_cases e : s = d
    · subst e
      by_cases hl : s < f.length
      · rw [getD_set_same hl, getD_set_same (h.1 ▸ hl)]
      · rw [List.set_eq_of_length_le (by omega), List.set_eq_of_length_le (by have := h.1; omega)]
        simp [List.getD, hl, h.1 ▸ hl]
    · rw [getD_set_other (fun e' => e e'.symm), getD_set_other (fun e' => e e'.symm)]
      refine h.2 s fun hD => hs ?_
      simp only [less, List.mem_filter, bne_iff_ne, ne_eq]
      exact ⟨hD, e⟩

theorem evOps_ag : ∀ (ops : List AOper) (D D' : List Nat) (f g : List V) (H : Heap), indep D ops = some D' → AgD D f g →
    (evOps call base ops f H = none ∧ evOps call base ops g H = none) ∨ ∃ f' g' H', evOps call base ops f H = some (f', H') ∧ evOps call base ops g H = some (g', H') ∧ AgD D' f' g' := by
  intro ops
  induction ops with
  | nil => intro D D' f g H h ha; cases h; exact .inr ⟨f, g, H, rfl, rfl, ha⟩
  | cons o os ih =>
    intro D D' f g H h ha
    simp only [indep] at h
    split at h
    · cases h
    · rename_i hr
      have hrd : ∀ s ∈ o.reads, f.getD s .unk = g.getD s .unk := fun s hs => ha.2 s fun hD => hr (by
        unfold readsIn; rw [List.any_eq_true]; exact ⟨s, hs, by simpa using hD⟩)
      have hw := reads_want hrd
      have hc : evOp call base f H o.op = evOp call base g H o.op := evOp_congr _ fun x hx => reads_opd hx hrd
      simp only [evOps, hw, hc]
      cases want o g with
      | none => exact .inl ⟨rfl, rfl⟩
      | some b =>
        cases b with
        | false => exact ih _ _ _ _ _ h (put_ag ha _ _)
        | true =>
          simp only []
          cases evOp call base g H o.op with
          | none => exact .inl ⟨rfl, rfl⟩
          | some r => obtain ⟨v, H'⟩ := r; exact ih _ _ _ _ _ h (put_ag ha _ _)

theorem kill_ag {D ks : List Nat} {f g : List V} (h : AgD D f g) (hk : D.all ks.contains = true) : killS ks f = killS ks g := by
  refine List.ext_getElem (by rw [killS_length, killS_length, h.1]) fun i h1 h2 => ?_
  have e : (killS ks f).getD i .unk = (killS ks g).getD i .unk := by
    rw [killS_getD, killS_getD]
    split
    · rfl
    · rename_i hi
      refine h.2 i fun hD => hi ?_
      rw [List.all_eq_true] at hk
      simpa using hk i hD
  simpa [List.getD, h1, h2] using e

/-- The first row of a code kills what is not the arguments'. -/
def firstOk (D : List Nat) : ACode → Bool
  | .seq a _ => firstOk D a
  | .region ops [] kill => match indep D ops with
    | some D' => D'.all kill.contains
    | none => false
  | .cond c a b => (c.slots.all fun s => !D.contains s) && firstOk D a && firstOk D b
  | .block _ c => firstOk D c
  | .loop kill _ => D.all kill.contains
  | _ => false

theorem firstOk_eq {D : List Nat} : ∀ (c : ACode) {f g : List V} (H : Heap), firstOk D c = true → AgD D f g → evC call it base c f H = evC call it base c g H := by
  intro c
  induction c with
  | seq a b iha _ => intro f g H h ha; simp only [evC, iha H h ha]
  | block id c ih => intro f g H h ha; simp only [evC, ih H h ha]
  | cond o a b iha ihb =>
    intro f g H h ha
    simp only [firstOk, Bool.and_eq_true] at h
    have : ev f o = ev g o := by
      cases o with
      | c v => rfl
      | t s => exact ha.2 s (by simpa [Opd.slots] using h.1.1)
    simp only [evC, this, iha H h.1.2 ha, ihb H h.2 ha]
  | loop kill c _ => intro f g H h ha; simp only [evC, kill_ag ha h]
  | region ops chk kill =>
    intro f g H h ha
    cases chk with
    | cons _ _ => cases h
    | nil =>
      simp only [firstOk] at h
      split at h
      · rename_i D' hD
        rcases evOps_ag (call := call) (base := base) ops D D' f g H hD ha with ⟨e1, e2⟩ | ⟨f', g', H', e1, e2, ha'⟩
        · simp only [evC, e1, e2]
        · simp only [evC, e1, e2, kill_ag ha' h]
          rfl
      · cases h
  | _ => intro f g H h; cases h

end
def startA : List V → Nat → Env
  | [], _ => []
  | v :: vs, k => (k, v) :: startA vs (k + 1)
theorem startA_nil (k : Nat) : startA [] k = [] := rfl
theorem startA_cons (v : V) (vs : List V) (k : Nat) : startA (v :: vs) k = (k, v) :: startA vs (k + 1) := rfl
theorem getV_startA : ∀ (vs : List V) (k t : Nat), k ≤ t → t < k + vs.length → getV (startA vs k) t = vs.getD (t - k) .unk := by
  intro vs
  induction vs with
  | nil => intro k t h1 h2; simp at h2; omega
  | cons v vs ih =>
    intro k t h1 h2
    simp only [startA, getV, List.length_cons] at h2 ⊢
    split
    · rename_i h; subst h; simp
    · rw [ih (k + 1) t (by omega) (by omega)]
      obtain ⟨d, hd⟩ : ∃ d, t - k = d + 1 := ⟨t - k - 1, by omega⟩
      have : t - (k + 1) = d := by omega
      rw [hd, this]; rfl
/-- A function of the table, opened: its slots but the arguments' are out of sight. -/
theorem callW_fnA {CP : Nat → Option CFun} {f : Nat} {c : ACFun} (hf : CP f = some (.code c)) {fst args cap : List V} {k : Nat} (hk : (fst ++ args ++ cap).length = k) (hl : k ≤ c.ntmps) (hfirst : firstOk (List.range' k (c.ntmps - k)) c.body = true) {base : Nat} {H : Heap} {r : V × Heap}
    (h : retC c.results (evC (callW CP) itW base c.body (frOf c.ntmps (startA (fst ++ args ++ cap) 0)) H) = some r) : callW CP (.fn f fst cap) args base H = some r := by
  refine callW_fn hf (by omega) ?_
  rw [firstOk_eq c.body H hfirst (g := frOf c.ntmps (startA (fst ++ args ++ cap) 0))]
  · exact h
  · refine ⟨by rw [frOf_length, frOf_length], fun s hs => ?_⟩
    by_cases hn : s < c.ntmps
    · rw [frOf_get hn, frOf_get hn]
      have hs' : s < k := by
        apply Nat.lt_of_not_le
        intro h
        apply hs
        rw [List.mem_range']
        exact ⟨s - k, by omega, by omega⟩
      rw [getV_start _ _ 0 s (Nat.zero_le _) hn (by omega), if_pos (by omega), getV_startA _ 0 s (Nat.zero_le _) (by omega)]
    · simp [frOf, List.getD, hn]

/-! ### Rows cut into pieces -/
section
variable (call : CallF) (it : IterF) (base : Nat)
def segC (b : List AOper) (kill : List Nat) (H : Heap) : Option (List V) → Option St → Option St
  | some f, _ => evC call it base (.region b [] kill) f H
  | none, o => o
def segL (H : Heap) : Option (List V) → Option St → Option St
  | some f, _ => some (.nrm, f, H)
  | none, o => o
def origRow (ops : List AOper) (kill : List Nat) (f : List V) (H : Heap) : Option St := evC call it base (.region ops [] kill) f H
theorem segC_some (b : List AOper) (kill : List Nat) (H : Heap) (f : List V) (o : Option St) : segC call it base b kill H (some f) o = evC call it base (.region b [] kill) f H := rfl
theorem segL_some (H : Heap) (f : List V) (o : Option St) : segL H (some f) o = some (.nrm, f, H) := rfl
def cutOk (k : List Nat) (b : List AOper) (kill : List Nat) : Bool := match indep k b with
  | some D => D.all kill.contains
  | none => false
theorem evOps_app : ∀ (a b : List AOper) (f : List V) (H : Heap), evOps call base (a ++ b) f H = match evOps call base a f H with
    | some (f', H') => evOps call base b f' H'
    | none => none := by
  intro a
  induction a with
  | nil => intro b f H; rfl
  | cons o os ih =>
    intro b f H
    simp only [List.cons_append, evOps]
    cases want o f with
    | none => rfl
    | some p =>
      cases p with
      | false => exact ih _ _ _
      | true =>
        simp only []
        cases evOp call base f H o.op with
        | none => rfl
        | some r => exact ih _ _ _
theorem ag_kill (k : List Nat) (f : List V) : AgD k f (killS k f) := ⟨(killS_length k f).symm, fun s hs => by rw [killS_getD, if_neg hs]⟩
theorem region_ag {k kill : List Nat} {b : List AOper} (h : cutOk k b kill = true) (f : List V) (H : Heap) : evC call it base (.region b [] kill) f H = evC call it base (.region b [] kill) (killS k f) H := by
  refine firstOk_eq (D := k) (.region b [] kill) H ?_ (ag_kill k f)
  unfold cutOk at h
  simp only [firstOk]
  exact h
theorem row_op (c d : List AOper) {kc kill : List Nat} (h : cutOk kc d kill = true) (f : List V) (H : Heap) : evC call it base (.region (c ++ d) [] kill) f H = thenC call it base (.region d [] kill) (evC call it base (.region c [] kc) f H) := by
  have e1 : evC call it base (.region (c ++ d) [] kill) f H = match evOps call base c f H with
      | some (f', H') => evC call it base (.region d [] kill) f' H'
      | none => none := by
    simp only [evC, evOps_app]
    cases evOps call base c f H <;> rfl
  rw [e1, evC_ops]
  cases evOps call base c f H with
  | none => rfl
  | some r =>
    obtain ⟨f', H'⟩ := r
    simp only [opsC_some, thenC_nrm]
    exact region_ag call it base h f' H'
theorem row_seg (a b : List AOper) {ka oa kill : List Nat} (h : cutOk ka b kill = true) (f : List V) (H : Heap) : evC call it base (.region (a ++ b) [] kill) f H = segC call it base b kill H (evTale (symAll a ka oa) ka f H) (origRow call it base (a ++ b) kill f H) := by
  cases ht : evTale (symAll a ka oa) ka f H with
  | none => rfl
  | some f2 =>
    obtain ⟨f1, h1, h2⟩ := evTale_ev (call := call) (base := base) ht
    have e1 : evC call it base (.region (a ++ b) [] kill) f H = evC call it base (.region b [] kill) f1 H := by
      simp only [evC, evOps_app, h1]
      cases evOps call base b f1 H <;> rfl
    rw [e1, segC_some, ← h2, region_ag call it base h]
theorem row_last (a : List AOper) {oa kill : List Nat} (f : List V) (H : Heap) : evC call it base (.region a [] kill) f H = segL H (evTale (symAll a kill oa) kill f H) (origRow call it base a kill f H) := by
  cases ht : evTale (symAll a kill oa) kill f H with
  | none => rfl
  | some f2 =>
    obtain ⟨f1, h1, h2⟩ := evTale_ev (call := call) (base := base) ht
    simp only [segL_some, evC, h1, h2, List.all_nil, if_true]
theorem row_ops (ops : List AOper) (chk : List (Nat × Nat)) (kill : List Nat) (f : List V) (H : Heap) : evC call it base (.region ops chk kill) f H = opsC chk ops kill (evOps call base ops f H) := evC_ops ops chk kill f H
end
end Go.AM
