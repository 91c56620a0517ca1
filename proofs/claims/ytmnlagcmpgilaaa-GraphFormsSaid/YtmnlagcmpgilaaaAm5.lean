/-
  Operations without calls: the simulation.
-/
import Derived.Test.YtmnlagcmpgilaaaAm4
set_option linter.all false
namespace Go.AM
open Go.RowKit
section
variable {CC : Code → ACode → Prop} {μ μ' : Mu} {Mt Mt' : Nat → Prop} {w w' : World} {H H' : Heap} {P : Program}

theorem ofConst1_one {v : Value} {x : V} (h : ofConst1 v = some x) : x.one = true := by
  unfold ofConst1 at h
  split at h <;> simp at h <;> subst h <;> rfl

theorem mapM_all {α β : Type} {f : α → Option β} {p : β → Bool} (hf : ∀ x y, f x = some y → p y = true) : ∀ {l : List α} {us : List β}, l.mapM f = some us → us.all p = true := by
  intro l
  induction l with
  | nil => intro us h; simp at h; subst h; rfl
  | cons x l ih =>
    intro us h
    simp only [List.mapM_cons, Option.pure_def, Option.bind_eq_bind, Option.bind_eq_some_iff] at h
    obtain ⟨v, hv, us, hus, e⟩ := h
    cases e
    simp [hf _ _ hv, ih hus]

theorem ofConst_one {v : Value} {x : V} (h : ofConst v = some x) : x.cells.all V.one = true := by
  unfold ofConst at h
  split at h
  · rw [Option.map_eq_some_iff] at h
    obtain ⟨us, hus, rfl⟩ := h
    exact mapM_all (fun _ _ h => ofConst1_one h) hus
  · have := ofConst1_vr h
    have h1 := ofConst1_one h
    rw [this.1] at h1 ⊢
    simp [V.cells, h1]

theorem zeroT_run {t : TypeId} {z : V} (h : zeroT P t = some z) : ∃ zv, (zeroValue t).run P w = .ok zv w ∧ ofConst zv = some z ∧ ∃ i, P.info? t = some i ∧ i.zero = some zv := by
  unfold zeroT at h
  split at h
  · rename_i i hi
    split at h
    · rename_i zv hz
      exact ⟨zv, by simp [zeroValue, typeInfo, hi, hz], h, i, hi, hz⟩
    · simp at h
  · simp at h

theorem vr_ref_new (μ : Mu) (H : Heap) (w : World) (Mt' : Nat → Prop) (w' : World) : VR (updM μ H.length 0 (w.heap.size, 0)) Mt' w' (.ref H.length 0 0) (.pointer (some ⟨w.heap.size, 0, none⟩)) :=
  .ref _ _ _ w.heap.size 0 (updM_same _ _ _ _)

theorem obR_cells {cs : List V} {vs : List Value} {e : TypeId} (h : VRs μ Mt w cs vs) (g : Nat) : ObR CC μ Mt w (.cells g cs) 0 (.cells vs.toArray e (0, 0)) :=
  ⟨rfl, by simp [h.1], fun i a v ha hv => h.2 i a v ha (by simpa using hv)⟩

theorem obR_cells' {cs : List V} {arr : Array Value} {e : TypeId} (h : VRs μ Mt w cs arr.toList) (g : Nat) : ObR CC μ Mt w (.cells g cs) 0 (.cells arr e (0, 0)) := by
  have := obR_cells (CC := CC) (e := e) h g; simpa using this

/-- A new row and a pointer to it. -/
theorem opRes_new (h : HR CC μ Mt w H) {cs : List V} {arr : Array Value} {e : TypeId} (hv : VRs μ Mt w cs arr.toList) {r : Result Next}
    (hr : r = .ok (.value (.pointer (some ⟨w.heap.size, 0, none⟩))) (w.alloc (.cells arr e))) : OpRes CC μ Mt w H r (.ref H.length 0 0) (H ++ [.cells 0 cs]) :=
  ⟨_, _, _, _, .inl hr, vr_ref_new _ _ _ _ _, post_push h _ _ (obR_cells' hv 0) rfl rfl rfl rfl⟩

theorem sim_alloc (h : HR CC μ Mt w H) {t : TypeId} {z : V} (hz : zeroT P t = some z) :
    OpRes CC μ Mt w H ((do pure (.value (← Instr.alloc t true (.tuple #[]))) : Sem Next).run P w) (.ref H.length 0 0) (H ++ [.cells 0 z.cells]) := by
  obtain ⟨zv, h1, h2, _⟩ := zeroT_run (w := w) hz
  refine opRes_new h (arr := zv.cells) (e := t) (vr_cells (ofConst_vr h2) (ofConst_one h2)) ?_
  simp [Instr.alloc, Sem.run_bind, h1, Result.andThen, newVar, newRow]

theorem sim_box (h : HR CC μ Mt w H) {t : TypeId} {x : V} {c : Value} (hx : VR μ Mt w x c) (h1 : x.cells.all V.one = true) :
    OpRes CC μ Mt w H ((do pure (.value (← Instr.box t c)) : Sem Next).run P w) (.ref H.length 0 0) (H ++ [.cells 0 x.cells]) := by
  refine opRes_new h (arr := c.cells) (e := t) (vr_cells hx h1) ?_
  simp [Instr.box, newVar, newRow]

/-! ### Structs and slices of parts -/

theorem foldl_set (off : Nat) : ∀ (l : List Value) (k : Nat) (cells : Array Value), off + k + l.length ≤ cells.size →
    ((l.zipIdx k).foldl (fun cs p => cs.setIfInBounds (off + p.2) p.1) cells).toList = cells.toList.take (off + k) ++ l ++ cells.toList.drop (off + k + l.length)
  | [], k, cells, _ => by simp
  | v :: l, k, cells, h => by
    simp only [List.length_cons] at h
    simp only [List.zipIdx_cons, List.foldl_cons]
    rw [foldl_set off l (k + 1) _ (by simp; omega)]
    apply List.ext_getElem?
    intro i
    simp only [Array.toList_setIfInBounds]
    rw [List.append_assoc, List.append_assoc]
    by_cases c1 : i < off + k
    · rw [List.getElem?_append_left (by simp; omega), List.getElem?_append_left (by simp; omega), List.getElem?_take_of_lt (by omega), List.getElem?_take_of_lt c1, List.getElem?_set_ne (by omega)]
    · by_cases c2 : i = off + k
      · subst c2
        rw [List.getElem?_append_left (by simp; omega), List.getElem?_append_right (by simp; omega), List.getElem?_take_of_lt (by omega), List.getElem?_set_self (by simp; omega)]
        have e : off + k - (List.take (off + k) cells.toList).length = 0 := by simp; omega
        rw [e]; rfl
      · rw [List.getElem?_append_right (l₁ := List.take (off + (k + 1)) _) (by simp; omega), List.getElem?_append_right (l₁ := List.take (off + k) _) (by simp; omega)]
        have e1 : i - (List.take (off + (k + 1)) (cells.toList.set (off + k) v)).length = i - (off + k + 1) := by simp; omega
        have e2 : i - (List.take (off + k) cells.toList).length = (i - (off + k + 1)) + 1 := by simp; omega
        rw [e1, e2, List.cons_append, List.getElem?_cons_succ]
        by_cases c3 : i - (off + k + 1) < l.length
        · rw [List.getElem?_append_left c3, List.getElem?_append_left c3]
        · rw [List.getElem?_append_right (by omega), List.getElem?_append_right (by omega), List.getElem?_drop, List.getElem?_drop, List.getElem?_set_ne (by omega)]
          congr 1
          simp only [List.length_cons]
          omega

theorem VRs.splice {a b : List V} {c d : List Value} (h : VRs μ Mt w a c) (k : VRs μ Mt w b d) (off : Nat) : VRs μ Mt w (splice a off b) (c.take off ++ d ++ c.drop (off + d.length)) := by
  have := k.1
  unfold AM.splice
  rw [this]
  exact ((h.take off).append k).append (h.drop _)

theorem fill_sim {place place' : Nat → Option (Nat × Nat)} (hp : ∀ i, place' i = place i) : ∀ {ps : List (Nat × V)} {cs : List (Nat × Value)} {cells r : List V} {arr : Array Value},
    ps.map (·.1) = cs.map (·.1) → VRs μ Mt w (ps.map (·.2)) (cs.map (·.2)) → VRs μ Mt w cells arr.toList → fillA place cells ps = some r →
    ∃ ra : Array Value, Instr.fill place' arr cs = some ra ∧ VRs μ Mt w r ra.toList := by
  intro ps
  induction ps with
  | nil =>
    intro cs cells r arr h1 h2 h3 h4
    cases cs with
    | nil => simp [fillA] at h4; subst h4; exact ⟨arr, rfl, h3⟩
    | cons => simp at h1
  | cons p ps ih =>
    intro cs cells r arr h1 h2 h3 h4
    cases cs with
    | nil => simp at h1
    | cons c cs =>
      obtain ⟨i, v⟩ := p
      obtain ⟨i', u⟩ := c
      simp only [List.map_cons, List.cons.injEq] at h1
      obtain ⟨rfl, h1⟩ := h1
      have hvu : VR μ Mt w v u := h2.2 0 v u rfl rfl
      have h2' : VRs μ Mt w (ps.map (·.2)) (cs.map (·.2)) := by
        refine ⟨by have := h2.1; simpa using this, fun j a b ha hb => h2.2 (j + 1) a b (by simpa using ha) (by simpa using hb)⟩
      simp only [fillA] at h4
      split at h4
      · simp at h4
      · rename_i off size hpl
        split at h4
        · rename_i hcond
          obtain ⟨hsz, hle, hone⟩ := hcond
          have hcv := vr_cells hvu hone
          have hcl : u.cells.size = size := by rw [← hsz, hcv.1]; simp
          have hal : arr.size = cells.length := by rw [h3.1]; simp
          have hsp := h3.splice hcv off
          have hf := foldl_set off u.cells.toList 0 arr (by simp only [Nat.add_zero, Array.length_toList]; omega)
          simp only [Nat.add_zero] at hf
          rw [← hf] at hsp
          obtain ⟨ra, hra, hr⟩ := ih (arr := (u.cells.toList.zipIdx 0).foldl (fun cs p => cs.setIfInBounds (off + p.2) p.1) arr) h1 h2' hsp h4
          refine ⟨ra, ?_, hr⟩
          unfold Instr.fill
          simp only [hp, hpl]
          rw [if_neg (by simp; omega)]
          rw [← hra]
          congr 1
          rw [← Array.foldl_toList, Array.toList_zipIdx]
        · simp at h4

/-- The parts' values. -/
theorem parts_map {a : Act} {fr : List V} (h : FR μ Mt w fr a.tmps) {ps : Array (Nat × Operand)} {qs : List (Nat × Opd)} (hc : compParts ps = some qs) :
    (qs.map fun p => (p.1, ev fr p.2)).map (·.1) = ((ps.map fun (i, x) => (i, a.eval x)).toList).map (·.1) ∧
    VRs μ Mt w ((qs.map fun p => (p.1, ev fr p.2)).map (·.2)) (((ps.map fun (i, x) => (i, a.eval x)).toList).map (·.2)) := by
  obtain ⟨h1, h2⟩ := parts_vr h hc
  refine ⟨by simpa [Function.comp_def] using h1, ?_⟩
  have : ((ps.map fun (i, x) => (i, a.eval x)).toList).map (·.2) = ps.toList.map fun p => a.eval p.2 := by simp [Function.comp_def]
  rw [this]
  simpa [Function.comp_def] using h2

theorem places_run (fs : Array Field) {pl : List (Nat × Nat)} (h : (fs.toList.mapM fun f => (sizeT P f.type).map fun n => (f.offset, n)) = some pl) :
    (fs.mapM fun f => (do pure (f.offset, ← sizeOf f.type) : Sem (Nat × Nat))).run P w = .ok pl.toArray w := by
  have key : ∀ (l : List Field) (pl : List (Nat × Nat)), (l.mapM fun f => (sizeT P f.type).map fun n => (f.offset, n)) = some pl →
      (l.mapM fun f => (do pure (f.offset, ← sizeOf f.type) : Sem (Nat × Nat))).run P w = .ok pl w := by
    intro l
    induction l with
    | nil => intro pl h; simp at h; subst h; rfl
    | cons f l ih =>
      intro pl h
      simp only [List.mapM_cons, Option.pure_def, Option.bind_eq_bind, Option.bind_eq_some_iff, Option.map_eq_some_iff] at h
      obtain ⟨p, ⟨n, hn, rfl⟩, us, hus, e⟩ := h
      cases e
      simp only [List.mapM_cons, Sem.run_bind, run_sizeOf hn, Result.andThen_ok, Sem.run_pure, ih us hus]
  rw [Array.mapM_eq_mapM_toList]
  simp only [Sem.run_map, key _ _ h, Result.andThen_ok]

theorem sim_build (h : HR CC μ Mt w H) {a : Act} {fr : List V} (hf : FR μ Mt w fr a.tmps) {t : TypeId} {z : V} {fs : Array Field} {pl : List (Nat × Nat)} {ps : Array (Nat × Operand)} {qs : List (Nat × Opd)} {cs : List V}
    (hz : zeroT P t = some z) (ht : P.underlying t = some (.struct fs)) (hpl : (fs.toList.mapM fun f => (sizeT P f.type).map fun n => (f.offset, n)) = some pl) (hps : compParts ps = some qs)
    (hfill : fillA (pl[·]?) z.cells (qs.map fun p => (p.1, ev fr p.2)) = some cs) :
    OpRes CC μ Mt w H ((do pure (.value (← Instr.build t (ps.map fun (i, x) => (i, a.eval x)))) : Sem Next).run P w) (.agg cs) H := by
  obtain ⟨zv, h1, h2, _⟩ := zeroT_run (w := w) hz
  obtain ⟨p1, p2⟩ := parts_map hf hps
  obtain ⟨ra, hra, hr⟩ := fill_sim (place' := (pl.toArray[·]?)) (by intro i; simp) p1 p2 (vr_cells (ofConst_vr h2) (ofConst_one h2)) hfill
  refine OpRes.still h (vr_agg_mk hr) ?_
  simp only [Instr.build, Sem.run_bind, h1, Result.andThen_ok, run_underlying ht, Sem.run_pure, places_run fs hpl, hra]

theorem replicate_flat (l : List Value) (len : Nat) (hl : 0 < l.length) : ((Array.range (len * l.length)).map (l.toArray[· % l.toArray.size]!)).toList = (List.replicate len l).flatten := by
  apply List.ext_getElem?
  intro i
  have hlen : (List.replicate len l).flatten.length = len * l.length := by simp
  by_cases hi : i < len * l.length
  · have h1 : (((Array.range (len * l.length)).map (l.toArray[· % l.toArray.size]!)).toList)[i]? = some (l.toArray[i % l.length]!) := by simp [hi]
    rw [h1]
    have hm : i % l.length < l.length := Nat.mod_lt _ hl
    have : ∀ (n i : Nat), i < n * l.length → (List.replicate n l).flatten[i]? = l[i % l.length]? := by
      intro n
      induction n with
      | zero => intro i hi; simp at hi
      | succ n ih =>
        intro i hi
        rw [List.replicate_succ, List.flatten_cons]
        by_cases c : i < l.length
        · rw [List.getElem?_append_left c, Nat.mod_eq_of_lt c]
        · rw [List.getElem?_append_right (by omega), ih (i - l.length) (by rw [Nat.add_mul, Nat.one_mul] at hi; omega), ← Nat.mod_eq_sub_mod (by omega)]
    rw [this len i hi, List.getElem?_eq_getElem hm]
    simp [hm]
  · rw [List.getElem?_eq_none (by simp; omega), List.getElem?_eq_none (by omega)]

theorem sim_buildSl (h : HR CC μ Mt w H) {a : Act} {fr : List V} (hf : FR μ Mt w fr a.tmps) {t e : TypeId} {z : V} {sz len : Nat} {ps : Array (Nat × Operand)} {qs : List (Nat × Opd)} {cs : List V}
    (ht : P.underlying t = some (.slice e)) (hsz : sizeT P e = some sz) (hz : zeroT P e = some z) (h0 : 0 < sz) (hb : len * sz ≤ 2 ^ 24) (hzl : z.cells.length = sz) (hps : compParts ps = some qs)
    (hfill : fillA (fun i => some (i * sz, sz)) (List.replicate len z.cells).flatten (qs.map fun p => (p.1, ev fr p.2)) = some cs) :
    OpRes CC μ Mt w H ((do pure (.value (← Instr.buildSlice t len (ps.map fun (i, x) => (i, a.eval x)))) : Sem Next).run P w) (if len = 0 then .esl else .sl H.length 0 0 len sz) (H ++ [.cells 0 cs]) := by
  obtain ⟨zv, h1, h2, _⟩ := zeroT_run (w := w) hz
  obtain ⟨p1, p2⟩ := parts_map hf hps
  have hzc := vr_cells (μ := μ) (Mt := Mt) (w := w) (ofConst_vr h2) (ofConst_one h2)
  have hzs : zv.cells.size = sz := by rw [← hzl, hzc.1]; simp
  have hcells : VRs μ Mt w (List.replicate len z.cells).flatten ((Array.range (len * sz)).map (zv.cells[· % zv.cells.size]!)).toList := by
    have := hzc.flatten_replicate len
    rw [← replicate_flat zv.cells.toList len (by simp; omega)] at this
    simpa [hzs] using this
  obtain ⟨ra, hra, hr⟩ := fill_sim (place' := fun i => some (i * sz, sz)) (fun _ => rfl) p1 p2 hcells hfill
  have hral : len * sz ≤ ra.size ∨ True := .inr trivial
  have hcsl : cs.length = len * sz := by
    have : ∀ (ps : List (Nat × V)) (c r : List V), fillA (fun i => some (i * sz, sz)) c ps = some r → r.length = c.length := by
      intro ps
      induction ps with
      | nil => intro c r h; simp [fillA] at h; rw [h]
      | cons p ps ih =>
        intro c r h
        obtain ⟨i, v⟩ := p
        simp only [fillA] at h
        split at h
        · rename_i hc; rw [ih _ _ h]; simp [splice]; omega
        · simp at h
    rw [this _ _ _ hfill]; simp [hzl]
  have hrun : ((do pure (.value (← Instr.buildSlice t len (ps.map fun (i, x) => (i, a.eval x)))) : Sem Next).run P w) = .ok (.value (.slice (some ⟨w.heap.size, 0, none⟩) len len)) (w.alloc (.cells ra e)) := by
    have hb' : ¬ (len * sz > 16777216) := by simpa using hb
    by_cases hl0 : len * sz = 0
    · have hr0 : Instr.fill (fun i => some (i * sz, sz)) (Array.map (fun x => (#[] : Array Value)[x % 0]!) (Array.range 0)) (ps.map fun (i, x) => (i, a.eval x)).toList = some ra := by
        have em : ∀ f : Nat → Value, Array.map f (Array.range 0) = #[] := fun f => by apply Array.eq_empty_of_size_eq_zero; simp
        rw [← hra, hl0, em, em]
      simp only [Instr.buildSlice, Sem.run_bind, run_underlying ht, run_sizeOf hsz, Result.andThen_ok, hl0, Sem.run_pure, if_true, Sem.run_ite]
      simp at hr0
      simp [hr0, newRow]
    · simp only [Instr.buildSlice, Sem.run_bind, run_underlying ht, run_sizeOf hsz, Result.andThen_ok, Sem.run_pure, Sem.run_ite, if_neg hl0, h1, hra, newRow, run_newObj, Nat.reducePow, if_neg hb']
      rfl
  refine ⟨_, _, _, _, .inl hrun, ?_, post_push h _ _ (obR_cells' hr 0) rfl rfl rfl rfl⟩
  split
  · rename_i hl; subst hl; exact .esl _
  · refine .sl H.length 0 0 len sz w.heap.size 0 len ra e (updM_same _ _ _ _) (heap_push_new (w := w) rfl) (Nat.le_refl _) ?_
    have := hr.1; simp at this; omega

/-- A slice's elements are made zero. -/
theorem sim_clear (h : HR CC μ Mt w H) {t e : TypeId} {z : V} {sz : Nat} {ts : Array TypeId} {ty : TypeId} {x : V} {c : Value} {base : Nat} {v : V} (hts : ts[0]? = some t)
    (ht : P.underlying t = some (.slice e)) (hz : zeroT P e = some z) (h0 : 0 < sz) (hzl : z.cells.length = sz)
    (hev : (match x with
      | .s (.slice none 0 0) => some (und, H)
      | .esl => some (und, H)
      | .sl id g off len sz' => if len = 0 then some (und, H) else if base ≤ id ∧ sz' = sz then match getC H id g with
          | some c => if z.cells.length = sz ∧ off + len * sz ≤ c.length ∧ z.cells.all V.one then some (und, H.set id (.cells g (splice c off (List.replicate len z.cells).flatten))) else none
          | none => none
        else none
      | _ => none) = some (v, H')) (hx : VR μ Mt w x c) :
    OpRes CC μ Mt w H ((do pure (.value (← Builtin.clear_ ts ty #[c])) : Sem Next).run P w) v H' := by
  have quiet : ∀ c, (Builtin.clear_ ts ty #[c]).run P w = .ok (.tuple #[]) w → OpRes CC μ Mt w H ((do pure (.value (← Builtin.clear_ ts ty #[c])) : Sem Next).run P w) und H := by
    intro c hc
    exact OpRes.still h (c := .tuple #[]) (.s _) (by simp only [Sem.run_bind, hc, Result.andThen_ok, Sem.run_pure])
  have still : ∀ c, (c = .slice none 0 0 ∨ ∃ a n, c = .slice (some a) 0 n) → (Builtin.clear_ ts ty #[c]).run P w = .ok (.tuple #[]) w := by
    rintro c (rfl | ⟨a, n, rfl⟩)
    · simp [Builtin.clear_, hts, run_underlying ht]
    · simp [Builtin.clear_, hts, run_underlying ht]
  revert hx
  split at hev
  · intro hx
    cases hev
    rw [vr_s hx]
    exact quiet _ (still _ (.inl rfl))
  · intro hx
    cases hev
    cases hx with
    | esl a => exact quiet _ (still _ (.inr ⟨a, 0, rfl⟩))
  · rename_i id g off len sz'
    intro hx
    split at hev
    · rename_i hl
      cases hev
      subst hl
      cases hx with
      | sl _ _ _ _ _ B b cap arr e' hm hB hc hs => exact quiet _ (still _ (.inr ⟨_, _, rfl⟩))
      | sl0 _ _ _ _ B b a hm => exact quiet _ (still _ (.inr ⟨_, _, rfl⟩))
    · rename_i hl
      split at hev
      · rename_i hb
        split at hev
        · rename_i cc hcc
          split at hev
          · rename_i hk
            cases hev
            obtain ⟨zv, h1, h2, _⟩ := zeroT_run (w := w) hz
            have hzc := vr_cells (μ := μ) (Mt := Mt) (w := w) (ofConst_vr h2) (ofConst_one h2)
            have hzs : zv.cells.size = sz := by rw [← hzl, hzc.1]; simp
            have hcells : VRs μ Mt w (List.replicate len z.cells).flatten (Builtin.zeroCells zv.cells len).toList := by
              have := hzc.flatten_replicate len
              rw [← replicate_flat zv.cells.toList len (by simp; omega)] at this
              simpa [Builtin.zeroCells, hzs] using this
            have hlen : (List.replicate len z.cells).flatten.length = len * sz := by simp [hzl]
            have hone : (List.replicate len z.cells).flatten.all V.one = true := by
              rw [List.all_eq_true]
              intro y hy
              rw [List.mem_flatten] at hy
              obtain ⟨l, hl1, hl2⟩ := hy
              rw [List.mem_replicate] at hl1
              rw [hl1.2] at hl2
              exact (List.all_eq_true.1 hk.2.2) y hl2
            cases hx with
            | sl0 => exact absurd rfl hl
            | sl _ _ _ _ _ B b cap arr e' hm hB hc hs =>
              obtain ⟨w', hr, hp⟩ := post_store (P := P) h hcc hm (by rw [hlen]; exact hk.2.1) hcells hone
              obtain ⟨n, rfl⟩ : ∃ n, len = n + 1 := ⟨len - 1, by omega⟩
              have hrun : (Builtin.clear_ ts ty #[.slice (some ⟨B, b + off, none⟩) (n + 1) cap]).run P w = .ok (.tuple #[]) w' := by
                simp only [Builtin.clear_, hts, Sem.run_bind, run_underlying ht, Result.andThen_ok, List.getElem?_toArray, List.getElem?_cons_zero, h1, hr, Sem.run_pure]
              exact ⟨.tuple #[], w', _, _, .inl (by simp only [Sem.run_bind, hrun, Result.andThen_ok, Sem.run_pure]), .s _, hp⟩
          · cases hev
        · cases hev
      · cases hev
  · cases hev
end
end Go.AM
