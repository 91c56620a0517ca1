/-
  Operations, one by one: what the abstract machine makes of one, the model makes of it.
-/
import Derived.Test.YtmnlagcmpgilaaaAm3
set_option linter.all false
namespace Go.AM
open Go.RowKit
section
variable {CC : Code → ACode → Prop} {μ μ' : Mu} {Mt Mt' : Nat → Prop} {w w' : World} {H H' : Heap} {P : Program}

/-! ### Readings -/

theorem VRs.nil : VRs μ Mt w [] [] := ⟨rfl, fun _ _ _ h => by simp at h⟩

theorem VRs.cons {v : V} {c : Value} {vs : List V} {cs : List Value} (h : VR μ Mt w v c) (t : VRs μ Mt w vs cs) : VRs μ Mt w (v :: vs) (c :: cs) :=
  ⟨by simp [t.1], fun i a b ha hb => by
    cases i with
    | zero => simp at ha hb; subst ha; subst hb; exact h
    | succ i => simp at ha hb; exact t.2 i a b ha hb⟩

theorem VR.cons {v : V} {c : Value} {vs : List V} {cs : List Value} (h : VR μ Mt w v c) (t : VRs μ Mt w vs cs) : VRs μ Mt w (v :: vs) (c :: cs) := VRs.cons h t

theorem VRs.get {vs : List V} {cs : List Value} (h : VRs μ Mt w vs cs) {i : Nat} {a : V} (ha : vs[i]? = some a) : ∃ b, cs[i]? = some b ∧ VR μ Mt w a b := by
  have hl : i < cs.length := by rw [← h.1]; exact (List.getElem?_eq_some_iff.1 ha).1
  exact ⟨cs[i], List.getElem?_eq_getElem hl, h.2 i a _ ha (List.getElem?_eq_getElem hl)⟩

theorem VRs.append {a b : List V} {c d : List Value} (h : VRs μ Mt w a c) (k : VRs μ Mt w b d) : VRs μ Mt w (a ++ b) (c ++ d) :=
  ⟨by simp [h.1, k.1], fun i x y hx hy => by
    by_cases hi : i < a.length
    · rw [List.getElem?_append_left hi] at hx
      rw [List.getElem?_append_left (by rw [← h.1]; exact hi)] at hy
      exact h.2 i x y hx hy
    · rw [List.getElem?_append_right (by omega)] at hx
      rw [List.getElem?_append_right (by rw [← h.1]; omega), ← h.1] at hy
      exact k.2 _ x y hx hy⟩

theorem VRs.drop {a : List V} {c : List Value} (h : VRs μ Mt w a c) (n : Nat) : VRs μ Mt w (a.drop n) (c.drop n) :=
  ⟨by simp [h.1], fun i x y hx hy => by
    rw [List.getElem?_drop] at hx hy
    exact h.2 _ x y hx hy⟩

theorem VRs.take {a : List V} {c : List Value} (h : VRs μ Mt w a c) (n : Nat) : VRs μ Mt w (a.take n) (c.take n) :=
  ⟨by simp [h.1], fun i x y hx hy => by
    have hi : i < n := by have := (List.getElem?_eq_some_iff.1 hx).1; simp at this; omega
    rw [List.getElem?_take_of_lt hi] at hx hy
    exact h.2 _ x y hx hy⟩

theorem VRs.set {a : List V} {c : List Value} (h : VRs μ Mt w a c) (i : Nat) {x : V} {y : Value} (hxy : VR μ Mt w x y) : VRs μ Mt w (a.set i x) (c.set i y) :=
  ⟨by simp [h.1], fun j u v hu hv => by
    by_cases hj : i = j
    · subst hj
      have hl : i < a.length := by have := (List.getElem?_eq_some_iff.1 hu).1; simpa using this
      rw [List.getElem?_set_self hl] at hu
      rw [List.getElem?_set_self (by rw [← h.1]; exact hl)] at hv
      cases hu; cases hv; exact hxy
    · rw [List.getElem?_set_ne hj] at hu hv
      exact h.2 j u v hu hv⟩

theorem VRs.replicate (n : Nat) {v : V} {c : Value} (h : VR μ Mt w v c) : VRs μ Mt w (List.replicate n v) (List.replicate n c) :=
  ⟨by simp, fun i a b ha hb => by
    rw [List.getElem?_replicate] at ha hb
    split at ha <;> simp_all⟩

theorem VRs.flatten_replicate (n : Nat) {v : List V} {c : List Value} (h : VRs μ Mt w v c) : VRs μ Mt w (List.replicate n v).flatten (List.replicate n c).flatten := by
  induction n with
  | zero => exact VRs.nil
  | succ n ih => simp only [List.replicate_succ, List.flatten_cons]; exact h.append ih

theorem VRs.of_mapM {α : Type} {l : List α} {f : α → Option V} {g : α → Value} (hf : ∀ x ∈ l, ∀ v, f x = some v → VR μ Mt w v (g x)) : ∀ {vs : List V}, l.mapM f = some vs → VRs μ Mt w vs (l.map g) := by
  induction l with
  | nil => intro vs h; simp at h; subst h; exact VRs.nil
  | cons x l ih =>
    intro vs h
    simp only [List.mapM_cons, Option.pure_def, Option.bind_eq_bind, Option.bind_eq_some_iff] at h
    obtain ⟨v, hv, us, hus, e⟩ := h
    cases e
    exact (hf x (by simp) v hv).cons (ih (fun y hy => hf y (by simp [hy])) hus)

theorem vr_s {v c : Value} (h : VR μ Mt w (.s v) c) : c = v := by cases h; rfl
theorem vr_agg {cs : List V} {c : Value} (h : VR μ Mt w (.agg cs) c) : ∃ vs : Array Value, c = .agg vs ∧ VRs μ Mt w cs vs.toList := by
  cases h with | agg _ vs hl h => exact ⟨vs, rfl, by simpa using hl, fun i a b ha hb => h i a b ha (by simpa using hb)⟩
theorem vr_tup {cs : List V} {c : Value} (h : VR μ Mt w (.tup cs) c) : ∃ vs : Array Value, c = .tuple vs ∧ VRs μ Mt w cs vs.toList := by
  cases h with | tup _ vs hl h => exact ⟨vs, rfl, by simpa using hl, fun i a b ha hb => h i a b ha (by simpa using hb)⟩
theorem vr_ref {id g off : Nat} {c : Value} (h : VR μ Mt w (.ref id g off) c) : ∃ B b, μ id g = some (B, b) ∧ c = .pointer (some ⟨B, b + off, none⟩) := by
  cases h with | ref _ _ _ B b hm => exact ⟨B, b, hm, rfl⟩
theorem vr_mp {id : Nat} {c : Value} (h : VR μ Mt w (.mp id) c) : ∃ B, μ id 0 = some (B, 0) ∧ c = .map (some B) := by
  cases h with | mp _ B hm => exact ⟨B, hm, rfl⟩

theorem vr_agg_mk {cs : List V} {vs : List Value} (h : VRs μ Mt w cs vs) : VR μ Mt w (.agg cs) (.agg vs.toArray) :=
  .agg cs _ (by simpa using h.1) (fun i a b ha hb => h.2 i a b ha (by simpa using hb))
theorem vr_tup_mk {cs : List V} {vs : List Value} (h : VRs μ Mt w cs vs) : VR μ Mt w (.tup cs) (.tuple vs.toArray) :=
  .tup cs _ (by simpa using h.1) (fun i a b ha hb => h.2 i a b ha (by simpa using hb))

theorem vr_cells {v : V} {c : Value} (h : VR μ Mt w v c) (hu : v.cells.all V.one = true) : VRs μ Mt w v.cells c.cells.toList := by
  cases h with
  | agg cs vs hl h => exact ⟨by simpa [V.cells, Value.cells] using hl, fun i a b ha hb => h i a b ha (by simpa [Value.cells] using hb)⟩
  | s => cases c <;> first | (simp [V.cells, V.one] at hu; done) | exact VR.cons (.s _) VRs.nil
  | unk v => simp [V.cells, V.one] at hu
  | tup cs vs hl h => simp [V.cells, V.one] at hu
  | ref id g off B b hm => exact VR.cons (.ref id g off B b hm) VRs.nil
  | pref cs B o arr e fr hB hM hs h => exact VR.cons (.pref cs B o arr e fr hB hM hs h) VRs.nil
  | sl id g off len sz B b cap arr e hm hB hc hs => exact VR.cons (.sl id g off len sz B b cap arr e hm hB hc hs) VRs.nil
  | sl0 id g off sz B b a hm => exact VR.cons (.sl0 id g off sz B b a hm) VRs.nil
  | psl es sz B o cap arr e fr hB hM hc hz hs h => exact VR.cons (.psl es sz B o cap arr e fr hB hM hc hz hs h) VRs.nil
  | psl0 sz cap a => exact VR.cons (.psl0 sz cap a) VRs.nil
  | esl a => exact VR.cons (.esl a) VRs.nil
  | mp id B hm => exact VR.cons (.mp id B hm) VRs.nil
  | fn f fst cap fst' cap' hf hc h1 h2 => exact VR.cons (.fn f fst cap fst' cap' hf hc h1 h2) VRs.nil
  | yld id B hm => exact VR.cons (.yld id B hm) VRs.nil

theorem vr_one {v : V} {c : Value} (h : VR μ Mt w v c) (hu : v.one = true) : c.oneCell' = true := by
  cases h <;> first | rfl | (simp [V.one] at hu; done) | skip
  cases c <;> first | rfl | (simp [V.one] at hu; done)

theorem vrs_one {vs : List V} {cs : List Value} (h : VRs μ Mt w vs cs) (hu : vs.all V.one = true) : ∀ c ∈ cs, c.oneCell' = true := by
  intro c hc
  obtain ⟨i, hi, rfl⟩ := List.getElem_of_mem hc
  have hi' : i < vs.length := by rw [h.1]; exact hi
  exact vr_one (h.2 i vs[i] cs[i] (List.getElem?_eq_getElem hi') (List.getElem?_eq_getElem hi)) (by rw [List.all_eq_true] at hu; exact hu _ (List.getElem_mem hi'))

/-! ### Operands -/

theorem ofConst1_vr {v : Value} {x : V} (h : ofConst1 v = some x) : x = .s v ∧ v.oneCell' = true := by
  unfold ofConst1 at h
  split at h <;> simp_all [Value.oneCell']

theorem ofConst_vr {v : Value} {x : V} (h : ofConst v = some x) : VR μ Mt w x v := by
  unfold ofConst at h
  split at h
  · rename_i cs
    rw [Option.map_eq_some_iff] at h
    obtain ⟨us, hus, rfl⟩ := h
    have := VRs.of_mapM (μ := μ) (Mt := Mt) (w := w) (g := id) (fun x _ v hv => by rw [(ofConst1_vr hv).1]; exact .s x) hus
    simp at this
    simpa using vr_agg_mk this
  · rw [(ofConst1_vr h).1]; exact .s v

def FR (μ : Mu) (Mt : Nat → Prop) (w : World) (fr : List V) (tmps : Array Value) : Prop := VRs μ Mt w fr tmps.toList

theorem FR.getD {fr : List V} {tmps : Array Value} (h : FR μ Mt w fr tmps) (t : Nat) : VR μ Mt w (fr.getD t .unk) (tmps.getD t Go.undef) := by
  by_cases hl : t < fr.length
  · obtain ⟨b, hb, hv⟩ := h.get (List.getElem?_eq_getElem hl)
    have hb' : tmps[t]? = some b := by simpa using hb
    have e1 : fr.getD t .unk = fr[t] := by simp [List.getD, hl]
    have e2 : tmps.getD t Go.undef = b := by simp [hb']
    rw [e1, e2]; exact hv
  · have e1 : fr.getD t .unk = .unk := by simp [List.getD, hl]
    rw [e1]; exact .unk _

theorem opd_vr {a : Act} {fr : List V} (h : FR μ Mt w fr a.tmps) {x : Operand} {y : Opd} (hc : compOpd x = some y) : VR μ Mt w (ev fr y) (a.eval x) := by
  cases x with
  | tmp t => simp [compOpd] at hc; subst hc; exact h.getD t
  | const v =>
    simp only [compOpd, Option.map_eq_some_iff] at hc
    obtain ⟨u, hu, rfl⟩ := hc
    exact ofConst_vr hu
  | global g => simp [compOpd] at hc
  | func f =>
    simp [compOpd] at hc; subst hc
    exact .fn f [] [] #[] #[] rfl rfl (fun _ _ _ h => by simp at h) (fun _ _ _ h => by simp at h)

theorem opds_vr {a : Act} {fr : List V} (h : FR μ Mt w fr a.tmps) {xs : Array Operand} {ys : List Opd} (hc : compOpds xs = some ys) : VRs μ Mt w (ys.map (ev fr)) (xs.map a.eval).toList := by
  rw [Array.toList_map]
  unfold compOpds at hc
  generalize xs.toList = l at hc
  induction l generalizing ys with
  | nil => simp at hc; subst hc; exact VRs.nil
  | cons x l ih =>
    simp only [List.mapM_cons, Option.pure_def, Option.bind_eq_bind, Option.bind_eq_some_iff] at hc
    obtain ⟨v, hv, us, hus, e⟩ := hc
    cases e
    exact (opd_vr h hv).cons (ih hus)

theorem parts_vr {a : Act} {fr : List V} (h : FR μ Mt w fr a.tmps) {ps : Array (Nat × Operand)} {qs : List (Nat × Opd)} (hc : compParts ps = some qs) :
    (qs.map (·.1)) = ps.toList.map (·.1) ∧ VRs μ Mt w (qs.map fun p => ev fr p.2) (ps.toList.map fun p => a.eval p.2) := by
  unfold compParts at hc
  generalize ps.toList = l at hc
  induction l generalizing qs with
  | nil => simp at hc; subst hc; exact ⟨rfl, VRs.nil⟩
  | cons x l ih =>
    simp only [List.mapM_cons, Option.pure_def, Option.bind_eq_bind, Option.bind_eq_some_iff, Option.map_eq_some_iff] at hc
    obtain ⟨v, ⟨y, hy, rfl⟩, us, hus, e⟩ := hc
    cases e
    obtain ⟨i1, i2⟩ := ih hus
    exact ⟨by simp [i1], (opd_vr h hy).cons i2⟩

/-! ### Places -/

/-- Cells that lie at an address. -/
def PlaceR (μ : Mu) (Mt : Nat → Prop) (w : World) (cs : List V) (a : Addr) : Prop :=
  ∃ vs : List Value, VRs μ Mt w cs vs ∧ ∀ (j : Nat) (v : Value), vs[j]? = some v → w.cell? (a.add j) = some v

theorem add_mk (B o j : Nat) : (⟨B, o, none⟩ : Addr).add j = ⟨B, o + j, none⟩ := by
  unfold Addr.add
  split
  · rename_i h; subst h; rfl
  · rfl

theorem cell_of_heap {B o : Nat} {arr : Array Value} {e : TypeId} {fr : Nat × Nat} (h : w.heap[B]? = some (.cells arr e fr)) : w.cell? ⟨B, o, none⟩ = arr[o]? := by
  simp [World.cell?, h]

theorem placeR_of_row {B o : Nat} {arr : Array Value} {e : TypeId} {fr : Nat × Nat} {cs : List V} (hB : w.heap[B]? = some (.cells arr e fr)) (hs : o + cs.length ≤ arr.size)
    (h : ∀ (i : Nat) (a : V) (b : Value), cs[i]? = some a → arr[o + i]? = some b → VR μ Mt w a b) : PlaceR μ Mt w cs ⟨B, o, none⟩ := by
  refine ⟨(arr.toList.drop o).take cs.length, ⟨?_, ?_⟩, ?_⟩
  · simp; omega
  · intro i a b ha hb
    have hi : i < cs.length := (List.getElem?_eq_some_iff.1 ha).1
    rw [List.getElem?_take_of_lt hi, List.getElem?_drop] at hb
    exact h i a b ha (by simpa using hb)
  · intro j v hv
    have hi : j < cs.length := by have := (List.getElem?_eq_some_iff.1 hv).1; simp at this; omega
    rw [List.getElem?_take_of_lt hi, List.getElem?_drop] at hv
    rw [add_mk, cell_of_heap hB]
    simpa using hv

theorem getC_some {id g : Nat} {c : List V} (h : getC H id g = some c) : H[id]? = some (.cells g c) := by
  unfold getC at h
  split at h
  · rename_i g' c' e
    split at h
    · rename_i hg; subst hg; simp at h; subst h; exact e
    · simp at h
  · simp at h

/-- A row of the heap, read. -/
theorem HR.row (h : HR CC μ Mt w H) {id g B b : Nat} {c : List V} (hc : getC H id g = some c) (hm : μ id g = some (B, b)) :
    ∃ arr e, w.heap[B]? = some (.cells arr e (0, 0)) ∧ b + c.length ≤ arr.size ∧ ∀ (i : Nat) (a : V) (v : Value), c[i]? = some a → arr[b + i]? = some v → VR μ Mt w a v := by
  obtain ⟨o, ho, hr⟩ := h.objs id _ g B b (getC_some hc) rfl hm
  cases o <;> first | exact hr.elim | skip
  rename_i arr e fr
  obtain ⟨rfl, h1, h2⟩ := hr
  exact ⟨arr, e, ho, h1, h2⟩

theorem HR.place (h : HR CC μ Mt w H) {id g B b off n : Nat} {c : List V} (hc : getC H id g = some c) (hm : μ id g = some (B, b)) (hn : ((c.drop off).take n).length = n) :
    PlaceR μ Mt w ((c.drop off).take n) ⟨B, b + off, none⟩ := by
  obtain ⟨arr, e, hB, hs, hv⟩ := h.row hc hm
  simp at hn
  by_cases hn0 : n = 0
  · subst hn0
    exact ⟨[], ⟨by simp, fun i a b ha _ => by simp at ha⟩, fun j v hv => by simp at hv⟩
  refine placeR_of_row hB (by simp; omega) ?_
  intro i a v ha hv'
  have hi : i < n := by have := (List.getElem?_eq_some_iff.1 ha).1; simp at this; omega
  rw [List.getElem?_take_of_lt hi, List.getElem?_drop] at ha
  exact hv _ a v ha (by rw [← Nat.add_assoc]; exact hv')

theorem PlaceR.take {cs : List V} {a : Addr} (h : PlaceR μ Mt w cs a) (n : Nat) : PlaceR μ Mt w (cs.take n) a := by
  obtain ⟨vs, h1, h2⟩ := h
  refine ⟨vs.take n, h1.take n, fun j v hv => h2 j v ?_⟩
  have hi : j < n := by have := (List.getElem?_eq_some_iff.1 hv).1; simp at this; omega
  rwa [List.getElem?_take_of_lt hi] at hv

theorem pref_place {cs : List V} {c : Value} (h : VR μ Mt w (.pref cs) c) : ∃ a, c = .pointer (some a) ∧ PlaceR μ Mt w cs a := by
  cases h with | pref _ B o arr e fr hB hM hs hv => exact ⟨_, rfl, placeR_of_row hB hs (fun i a b ha hb => (hv i a b ha hb).vr)⟩

/-! ### Runs -/

theorem run_isAgg {t : TypeId} {b : Bool} (h : isAggT P t = some b) : (isAgg t).run P w = .ok b w := by
  unfold isAggT at h
  simp only [isAgg, Sem.run_bind]
  cases e : P.underlying t with
  | none => rw [e] at h; simp at h
  | some d =>
    rw [run_underlying e]
    rw [e] at h
    cases d <;> simp at h <;> subst h <;> rfl

theorem run_sizeOf {t : TypeId} {n : Nat} (h : sizeT P t = some n) : (sizeOf t).run P w = .ok n w := by
  unfold sizeT at h
  rw [Option.map_eq_some_iff] at h
  obtain ⟨i, hi, rfl⟩ := h
  simp [sizeOf, typeInfo, hi]

theorem shapeT_agg {t : TypeId} {b : Bool} {n : Nat} (h : shapeT P t = some (b, n)) : isAggT P t = some b ∧ sizeT P t = some n ∧ (b = false → n = 1) := by
  unfold shapeT at h
  split at h <;> simp at h <;> obtain ⟨rfl, rfl⟩ := h <;> simp_all

theorem run_loadVar {t : TypeId} {agg : Bool} {n : Nat} (hs : shapeT P t = some (agg, n)) {cs : List V} {a : Addr} (hp : PlaceR μ Mt w cs a) (hl : cs.length = n) {v : V} (hv : shut agg cs = some v) :
    ∃ c, (loadVar t a).run P w = .ok c w ∧ VR μ Mt w v c := by
  obtain ⟨h1, h2, h3⟩ := shapeT_agg hs
  obtain ⟨vs, hr, hc⟩ := hp
  cases agg with
  | true =>
    simp [shut] at hv; subst hv
    refine ⟨.agg vs.toArray, ?_, vr_agg_mk hr⟩
    have := run_loadCells_list (P := P) w a vs hc
    rw [← hr.1, hl] at this
    simp [loadVar, Sem.run_bind, run_isAgg h1, Result.andThen, run_sizeOf h2, this]
  | false =>
    have hn := h3 rfl
    subst hn
    match cs, hl, hv with
    | [x], _, hv =>
      simp [shut] at hv; subst hv
      obtain ⟨b, hb, hx⟩ := hr.get (i := 0) (a := x) rfl
      have hcell := hc 0 b hb
      have e0 : a.add 0 = a := by simp [Addr.add]
      rw [e0] at hcell
      exact ⟨b, by simp [loadVar, Sem.run_bind, run_isAgg h1, Result.andThen, hcell], hx⟩

theorem loadV_sim {t : TypeId} {agg : Bool} {n : Nat} (hs : shapeT P t = some (agg, n)) (h : HR CC μ Mt w H) {x v : V} {c : Value} (hx : VR μ Mt w x c) (hv : loadV H agg n x = some v) :
    ∃ r, (Instr.loadAt t c).run P w = .ok r w ∧ VR μ Mt w v r := by
  unfold loadV at hv
  dsimp only at hv
  split at hv
  · rename_i id g off
    obtain ⟨B, b, hm, rfl⟩ := vr_ref hx
    split at hv
    · rename_i cs hc
      split at hv
      · rename_i hl
        obtain ⟨r, h1, h2⟩ := run_loadVar (P := P) hs (h.place hc hm hl) hl hv
        exact ⟨r, by simp [Instr.loadAt, Instr.sureAddr, h1], h2⟩
      · simp at hv
    · simp at hv
  · rename_i cs
    obtain ⟨a, rfl, hp⟩ := pref_place hx
    split at hv
    · rename_i hl
      obtain ⟨r, h1, h2⟩ := run_loadVar (P := P) hs (hp.take n) hl hv
      exact ⟨r, by simp [Instr.loadAt, Instr.sureAddr, h1], h2⟩
    · simp at hv
  · simp at hv

/-- What an operation leaves. -/
def OpRes (CC : Code → ACode → Prop) (μ : Mu) (Mt : Nat → Prop) (w : World) (H : Heap) (r : Result Next) (v : V) (H' : Heap) : Prop :=
  ∃ cv w' μ' Mt', (r = .ok (.value cv) w' ∨ (r = .ok .skip w' ∧ cv = Go.undef)) ∧ VR μ' Mt' w' v cv ∧ Post CC μ Mt w H μ' Mt' w' H'

theorem OpRes.still (h : HR CC μ Mt w H) {v : V} {c : Value} (hv : VR μ Mt w v c) {r : Result Next} (hr : r = .ok (.value c) w) : OpRes CC μ Mt w H r v H :=
  ⟨c, w, μ, Mt, .inl hr, hv, Post.refl h⟩

theorem setRow_eq {B : Nat} {arr arr' : Array Value} {e : TypeId} {fr : Nat × Nat} (h : w.heap[B]? = some (.cells arr e fr)) : (w.setRow B arr').heap = w.heap.setIfInBounds B (.cells arr' e fr) := by
  apply Array.ext_getElem?
  intro i
  by_cases hi : i = B
  · subst hi
    rw [setRow_heap w i arr arr' e fr h, Array.getElem?_setIfInBounds_self_of_lt (lt_of_some h)]
  · rw [setRow_other w B i arr' hi, Array.getElem?_setIfInBounds_ne (Ne.symm hi)]

/-- A store of cells into a named row. -/
theorem post_store (h : HR CC μ Mt w H) {id g B b off : Nat} {c vs : List V} {us : List Value} (hc : getC H id g = some c) (hm : μ id g = some (B, b)) (hl : off + vs.length ≤ c.length) (hv : VRs μ Mt w vs us) (h1 : vs.all V.one = true) :
    ∃ w', (storeCells ⟨B, b + off, none⟩ us).run P w = .ok () w' ∧ Post CC μ Mt w H (updM μ id g (B, b)) Mt w' (H.set id (.cells g (splice c off vs))) := by
  obtain ⟨arr, e, hB, hs, hr⟩ := h.row hc hm
  have hul : us.length = vs.length := hv.1.symm
  have hrun := run_storeCells_at P B (b + off) e us 0 arr w hB (by omega) (vrs_one hv h1)
  refine ⟨_, hrun, ?_⟩
  simp only [Nat.add_zero]
  have hsz : ((arr.toList.take (b + off) ++ us ++ arr.toList.drop (b + off + us.length)).toArray).size = arr.size := by simp; omega
  refine post_set h (o' := .cells (arr.toList.take (b + off) ++ us ++ arr.toList.drop (b + off + us.length)).toArray e (0, 0)) g b (getC_some hc) rfl hm hB ?_ (by simp) (.inl ⟨rfl, rfl⟩) (fun j hj => hj.symm) (fun j c' e' k q hk => by cases e'; exact h.gens _ _ _ _ _ hk (getC_some hc)) (setRow_eq hB) rfl rfl rfl ?_ ?_
  · intro arr0 e0 fr0 h0
    cases h0
    exact ⟨_, rfl, hsz⟩
  · intro v hx
    have hx : v ∈ splice c off vs := hx
    unfold splice at hx
    have hcw : ∀ v ∈ c, VW H.length v := h.wf id _ (getC_some hc)
    rcases List.mem_append.1 hx with hx | hx
    · rcases List.mem_append.1 hx with hx | hx
      · exact hcw v (List.mem_of_mem_take hx)
      · exact hv.vw h.dom v hx
    · exact hcw v (List.mem_of_mem_drop hx)
  · intro _ μ' Mt' hμ hM
    have hk : ∀ K, K < w.heap.size → ¬ Mt K → (w.setRow B (arr.toList.take (b + off) ++ us ++ arr.toList.drop (b + off + us.length)).toArray).heap[K]? = w.heap[K]? :=
      fun K _ hn => setRow_other w B K _ (fun e => hn (e ▸ (h.isMut _ _ _ _ hm).1))
    have hsh : ∀ (K : Nat) (a0 : Array Value) (e : TypeId) (fr : Nat × Nat), w.heap[K]? = some (.cells a0 e fr) → ∃ arr', (w.setRow B (arr.toList.take (b + off) ++ us ++ arr.toList.drop (b + off + us.length)).toArray).heap[K]? = some (.cells arr' e fr) ∧ arr'.size = a0.size := by
      intro K a0 e0 fr0 hK
      by_cases ck : K = B
      · subst ck
        rw [hB] at hK; cases hK
        exact ⟨_, setRow_heap w K arr _ e (0, 0) hB, hsz⟩
      · exact ⟨a0, (setRow_other w B K _ ck).trans hK, rfl⟩
    refine ⟨rfl, by rw [hsz]; simp [splice]; omega, ?_⟩
    intro i a v ha hv'
    have mono : VR μ Mt w a v → VR μ' Mt' (w.setRow B (arr.toList.take (b + off) ++ us ++ arr.toList.drop (b + off + us.length)).toArray) a v :=
      fun x => x.mono hμ (fun K hK hm => (hM K hK).1 hm) hk hsh
    apply mono
    have hv2 : (arr.toList.take (b + off) ++ us ++ arr.toList.drop (b + off + us.length))[b + i]? = some v := by simpa using hv'
    have hi : i < (splice c off vs).length := (List.getElem?_eq_some_iff.1 ha).1
    have hlen : (splice c off vs).length = c.length := by simp [splice]; omega
    rw [hlen] at hi
    unfold splice at ha
    by_cases c1 : i < off
    · rw [List.append_assoc, List.getElem?_append_left (by simp; omega), List.getElem?_take_of_lt c1] at ha
      rw [List.append_assoc, List.getElem?_append_left (by simp; omega), List.getElem?_take_of_lt (by omega)] at hv2
      exact hr i a v ha (by simpa using hv2)
    · by_cases c2 : i < off + vs.length
      · rw [List.append_assoc, List.getElem?_append_right (by simp; omega), List.getElem?_append_left (by simp; omega)] at ha
        rw [List.append_assoc, List.getElem?_append_right (by simp; omega), List.getElem?_append_left (by simp; omega)] at hv2
        have e1 : i - (List.take off c).length = i - off := by simp; omega
        have e2 : b + i - (List.take (b + off) arr.toList).length = i - off := by simp; omega
        rw [e1] at ha
        rw [e2] at hv2
        exact hv.2 _ a v ha hv2
      · rw [List.getElem?_append_right (by simp; omega)] at ha
        rw [List.getElem?_append_right (by simp; omega)] at hv2
        rw [List.getElem?_drop] at ha hv2
        have e1 : off + vs.length + (i - (List.take off c ++ vs).length) = i := by simp; omega
        have e2 : b + off + us.length + (b + i - (List.take (b + off) arr.toList ++ us).length) = b + i := by simp; omega
        rw [e1] at ha
        rw [e2] at hv2
        exact hr i a v ha (by simpa using hv2)
end
end Go.AM
