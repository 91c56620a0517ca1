/-
  How an abstract state reads a world: values, heaps, frames; what a step keeps. No program is named.
-/
import Derived.Test.YtmnlagcmpgilaaaAm2
import Derived.Laws.AppendOwn
import Derived.Laws.StructEq
import Derived.WalkKit
set_option linter.all false
namespace Go.AM
open Go.RowKit

abbrev Mu := Nat → Nat → Option (Nat × Nat)

/-- A pure value reads a value: no object is named. -/
inductive PR (Mt : Nat → Prop) (w : World) : V → Value → Prop
  | s (v : Value) : PR Mt w (.s v) v
  | agg (cs : List V) (vs : Array Value) (hl : cs.length = vs.size) (h : ∀ (i : Nat) (a : V) (b : Value), cs[i]? = some a → vs[i]? = some b → PR Mt w a b) : PR Mt w (.agg cs) (.agg vs)
  | tup (cs : List V) (vs : Array Value) (hl : cs.length = vs.size) (h : ∀ (i : Nat) (a : V) (b : Value), cs[i]? = some a → vs[i]? = some b → PR Mt w a b) : PR Mt w (.tup cs) (.tuple vs)
  | pref (cs : List V) (B o : Nat) (arr : Array Value) (e : TypeId) (fr : Nat × Nat) (hB : w.heap[B]? = some (.cells arr e fr)) (hM : ¬ Mt B) (hs : o + cs.length ≤ arr.size)
      (h : ∀ (i : Nat) (a : V) (b : Value), cs[i]? = some a → arr[o + i]? = some b → PR Mt w a b) : PR Mt w (.pref cs) (.pointer (some ⟨B, o, none⟩))
  | psl (es : List (List V)) (sz B o cap : Nat) (arr : Array Value) (e : TypeId) (fr : Nat × Nat) (hB : w.heap[B]? = some (.cells arr e fr)) (hM : ¬ Mt B) (hc : es.length ≤ cap)
      (hz : ∀ (i : Nat) (el : List V), es[i]? = some el → el.length = sz) (hs : o + es.length * sz ≤ arr.size)
      (h : ∀ (i : Nat) (el : List V) (j : Nat) (a : V) (b : Value), es[i]? = some el → el[j]? = some a → arr[o + i * sz + j]? = some b → PR Mt w a b) : PR Mt w (.psl es sz) (.slice (some ⟨B, o, none⟩) es.length cap)
  | psl0 (sz cap : Nat) (a : Addr) : PR Mt w (.psl [] sz) (.slice (some a) 0 cap)
  | esl (a : Addr) : PR Mt w .esl (.slice (some a) 0 0)
  | fn (f : Nat) (fst cap : List V) (fst' cap' : Array Value) (hf : fst.length = fst'.size) (hc : cap.length = cap'.size) (h1 : ∀ (i : Nat) (a : V) (b : Value), fst[i]? = some a → fst'[i]? = some b → PR Mt w a b)
      (h2 : ∀ (i : Nat) (a : V) (b : Value), cap[i]? = some a → cap'[i]? = some b → PR Mt w a b) : PR Mt w (.fn f fst cap) (.func (.func f) fst' cap')

/-- An abstract value reads a value. Mt: the blocks that may yet be written. -/
inductive VR (μ : Mu) (Mt : Nat → Prop) (w : World) : V → Value → Prop
  | s (v : Value) : VR μ Mt w (.s v) v
  | unk (v : Value) : VR μ Mt w .unk v
  | agg (cs : List V) (vs : Array Value) (hl : cs.length = vs.size) (h : ∀ (i : Nat) (a : V) (b : Value), cs[i]? = some a → vs[i]? = some b → VR μ Mt w a b) : VR μ Mt w (.agg cs) (.agg vs)
  | tup (cs : List V) (vs : Array Value) (hl : cs.length = vs.size) (h : ∀ (i : Nat) (a : V) (b : Value), cs[i]? = some a → vs[i]? = some b → VR μ Mt w a b) : VR μ Mt w (.tup cs) (.tuple vs)
  | ref (id g off B b : Nat) (hm : μ id g = some (B, b)) : VR μ Mt w (.ref id g off) (.pointer (some ⟨B, b + off, none⟩))
  | pref (cs : List V) (B o : Nat) (arr : Array Value) (e : TypeId) (fr : Nat × Nat) (hB : w.heap[B]? = some (.cells arr e fr)) (hM : ¬ Mt B) (hs : o + cs.length ≤ arr.size)
      (h : ∀ (i : Nat) (a : V) (b : Value), cs[i]? = some a → arr[o + i]? = some b → PR Mt w a b) : VR μ Mt w (.pref cs) (.pointer (some ⟨B, o, none⟩))
  | sl (id g off len sz B b cap : Nat) (arr : Array Value) (e : TypeId) (hm : μ id g = some (B, b)) (hB : w.heap[B]? = some (.cells arr e (0, 0))) (hc : len ≤ cap) (hs : b + off + cap * sz ≤ arr.size) :
      VR μ Mt w (.sl id g off len sz) (.slice (some ⟨B, b + off, none⟩) len cap)
  | sl0 (id g off sz B b : Nat) (a : Addr) (hm : μ id g = some (B, b)) : VR μ Mt w (.sl id g off 0 sz) (.slice (some a) 0 0)
  | psl (es : List (List V)) (sz B o cap : Nat) (arr : Array Value) (e : TypeId) (fr : Nat × Nat) (hB : w.heap[B]? = some (.cells arr e fr)) (hM : ¬ Mt B) (hc : es.length ≤ cap)
      (hz : ∀ (i : Nat) (el : List V), es[i]? = some el → el.length = sz) (hs : o + es.length * sz ≤ arr.size)
      (h : ∀ (i : Nat) (el : List V) (j : Nat) (a : V) (b : Value), es[i]? = some el → el[j]? = some a → arr[o + i * sz + j]? = some b → PR Mt w a b) : VR μ Mt w (.psl es sz) (.slice (some ⟨B, o, none⟩) es.length cap)
  | psl0 (sz cap : Nat) (a : Addr) : VR μ Mt w (.psl [] sz) (.slice (some a) 0 cap)
  | esl (a : Addr) : VR μ Mt w .esl (.slice (some a) 0 0)
  | mp (id B : Nat) (hm : μ id 0 = some (B, 0)) : VR μ Mt w (.mp id) (.map (some B))
  | fn (f : Nat) (fst cap : List V) (fst' cap' : Array Value) (hf : fst.length = fst'.size) (hc : cap.length = cap'.size) (h1 : ∀ (i : Nat) (a : V) (b : Value), fst[i]? = some a → fst'[i]? = some b → VR μ Mt w a b)
      (h2 : ∀ (i : Nat) (a : V) (b : Value), cap[i]? = some a → cap'[i]? = some b → VR μ Mt w a b) : VR μ Mt w (.fn f fst cap) (.func (.func f) fst' cap')
  | yld (id B : Nat) (hm : μ id 0 = some (B, 0)) : VR μ Mt w (.yld id) (.func (.yield B) #[] #[])

/-- Lists of values. -/
def VRs (μ : Mu) (Mt : Nat → Prop) (w : World) (vs : List V) (cs : List Value) : Prop :=
  vs.length = cs.length ∧ ∀ (i : Nat) (a : V) (b : Value), vs[i]? = some a → cs[i]? = some b → VR μ Mt w a b

/-- What the world keeps: blocks that no abstract object lies in; every row's size. -/
structure Tr (μ : Mu) (w w' : World) : Prop where
  size : w.heap.size ≤ w'.heap.size
  shape : ∀ (B : Nat) (arr : Array Value) (e : TypeId) (fr : Nat × Nat), w.heap[B]? = some (.cells arr e fr) → ∃ arr', w'.heap[B]? = some (.cells arr' e fr) ∧ arr'.size = arr.size
  loops : ∀ (B : Nat) (l : Loop), w.heap[B]? = some (.loop l) → ∃ l', w'.heap[B]? = some (.loop l')
  keep : ∀ B, B < w.heap.size → (∀ id g b, μ id g ≠ some (B, b)) → w'.heap[B]? = w.heap[B]?
  back : ∀ (B : Nat) (arr : Array Value) (e : TypeId) (fr : Nat × Nat), w'.heap[B]? = some (.cells arr e fr) → (∃ arr0, w.heap[B]? = some (.cells arr0 e fr)) ∨ w.heap.size ≤ B
  os : w'.os = w.os
  tape : w'.tape = w.tape
  output : w'.output = w.output

theorem lt_of_some {w : World} {B : Nat} {o : Obj} (h : w.heap[B]? = some o) : B < w.heap.size := (Array.getElem?_eq_some_iff.1 h).1

theorem Tr.refl (μ : Mu) (w : World) : Tr μ w w := ⟨Nat.le_refl _, fun _ arr _ _ h => ⟨arr, h, rfl⟩, fun _ l h => ⟨l, h⟩, fun _ _ _ => rfl, fun _ arr _ _ h => .inl ⟨arr, h⟩, rfl, rfl, rfl⟩

theorem PR.vr {μ : Mu} {Mt : Nat → Prop} {w : World} {v : V} {c : Value} (h : PR Mt w v c) : VR μ Mt w v c := by
  induction h with
  | s v => exact .s v
  | agg cs vs hl _ ih => exact .agg cs vs hl ih
  | tup cs vs hl _ ih => exact .tup cs vs hl ih
  | pref cs B o arr e fr hB hMB hs h _ => exact .pref cs B o arr e fr hB hMB hs h
  | psl es sz B o cap arr e fr hB hMB hc hz hs h _ => exact .psl es sz B o cap arr e fr hB hMB hc hz hs h
  | psl0 sz cap a => exact .psl0 sz cap a
  | esl a => exact .esl a
  | fn f fst cap fst' cap' hf hc _ _ ih1 ih2 => exact .fn f fst cap fst' cap' hf hc ih1 ih2

theorem PR.mono {Mt Mt' : Nat → Prop} {w w' : World} (hM : ∀ B, B < w.heap.size → Mt' B → Mt B)
    (hk : ∀ B, B < w.heap.size → ¬ Mt B → w'.heap[B]? = w.heap[B]?) {v : V} {c : Value} (h : PR Mt w v c) : PR Mt' w' v c := by
  induction h with
  | s v => exact .s v
  | agg cs vs hl _ ih => exact .agg cs vs hl ih
  | tup cs vs hl _ ih => exact .tup cs vs hl ih
  | pref cs B o arr e fr hB hMB hs _ ih => exact .pref cs B o arr e fr ((hk B (lt_of_some hB) hMB).trans hB) (fun h => hMB (hM B (lt_of_some hB) h)) hs ih
  | psl es sz B o cap arr e fr hB hMB hc hz hs _ ih => exact .psl es sz B o cap arr e fr ((hk B (lt_of_some hB) hMB).trans hB) (fun h => hMB (hM B (lt_of_some hB) h)) hc hz hs ih
  | psl0 sz cap a => exact .psl0 sz cap a
  | esl a => exact .esl a
  | fn f fst cap fst' cap' hf hc _ _ ih1 ih2 => exact .fn f fst cap fst' cap' hf hc ih1 ih2

theorem VR.mono {μ μ' : Mu} {Mt Mt' : Nat → Prop} {w w' : World} (hμ : ∀ id g p, μ id g = some p → μ' id g = some p) (hM : ∀ B, B < w.heap.size → Mt' B → Mt B)
    (hk : ∀ B, B < w.heap.size → ¬ Mt B → w'.heap[B]? = w.heap[B]?)
    (hsh : ∀ (B : Nat) (arr : Array Value) (e : TypeId) (fr : Nat × Nat), w.heap[B]? = some (.cells arr e fr) → ∃ arr', w'.heap[B]? = some (.cells arr' e fr) ∧ arr'.size = arr.size)
    {v : V} {c : Value} (h : VR μ Mt w v c) : VR μ' Mt' w' v c := by
  induction h with
  | s v => exact .s v
  | unk v => exact .unk v
  | agg cs vs hl _ ih => exact .agg cs vs hl ih
  | tup cs vs hl _ ih => exact .tup cs vs hl ih
  | ref id g off B b hm => exact .ref id g off B b (hμ _ _ _ hm)
  | pref cs B o arr e fr hB hMB hs h => exact .pref cs B o arr e fr ((hk B (lt_of_some hB) hMB).trans hB) (fun h => hMB (hM B (lt_of_some hB) h)) hs (fun i a b ha hb => (h i a b ha hb).mono hM hk)
  | sl id g off len sz B b cap arr e hm hB hc hs =>
    obtain ⟨arr', h1, h2⟩ := hsh B arr e _ hB
    exact .sl id g off len sz B b cap arr' e (hμ _ _ _ hm) h1 hc (by omega)
  | sl0 id g off sz B b a hm => exact .sl0 id g off sz B b a (hμ _ _ _ hm)
  | psl es sz B o cap arr e fr hB hMB hc hz hs h => exact .psl es sz B o cap arr e fr ((hk B (lt_of_some hB) hMB).trans hB) (fun h => hMB (hM B (lt_of_some hB) h)) hc hz hs (fun i el j a b he ha hb => (h i el j a b he ha hb).mono hM hk)
  | psl0 sz cap a => exact .psl0 sz cap a
  | esl a => exact .esl a
  | mp id B hm => exact .mp id B (hμ _ _ _ hm)
  | fn f fst cap fst' cap' hf hc _ _ ih1 ih2 => exact .fn f fst cap fst' cap' hf hc ih1 ih2
  | yld id B hm => exact .yld id B (hμ _ _ _ hm)

/-- The generation that an object stands in. -/
def Ob.cur : Ob → Nat → Prop
  | .cells g' _, g => g' = g
  | .map _, g => g = 0
  | .loop .., g => g = 0
  | .dead, _ => False

def compStOk (st : LoopState) (pend : Option Ex) (pc : Option Code) : Prop :=
  match st, pend with
  | .ready, none => pc = none
  | .busy, none => True
  | .done, some .ret => pc = some .ret
  | .done, some (.ext id) => pc = some (.exit id)
  | _, _ => False

/-- What a loop's record reads: the code is the compiled one. -/
def LoopR (CC : Code → ACode → Prop) (μ : Mu) (Mt : Nat → Prop) (w : World) (st : LoopState) (pend : Option Ex) (tmps : List V) (params : List Nat) (assign body : ACode) (l : Loop) : Prop :=
  l.state = st ∧ compStOk st pend l.pending ∧ VRs μ Mt w tmps l.tmps.toList ∧ l.params.toList = params ∧ CC l.assign assign ∧ CC l.body body

/-- An object reads a block, from b on. -/
def ObR (CC : Code → ACode → Prop) (μ : Mu) (Mt : Nat → Prop) (w : World) : Ob → Nat → Obj → Prop
  | .cells _ c, b, .cells arr _ fr => fr = (0, 0) ∧ b + c.length ≤ arr.size ∧ ∀ (i : Nat) (a : V) (v : Value), c[i]? = some a → arr[b + i]? = some v → VR μ Mt w a v
  | .map es, b, .map arr _ => b = 0 ∧ arr.size = es.length ∧ ∀ (i : Nat) (k : Value) (v : V) (e : MapEntry), es[i]? = some (k, v) → arr[i]? = some e → e.key = k ∧ VR μ Mt w v e.val
  | .loop st pend tmps params assign body, b, .loop l => b = 0 ∧ LoopR CC μ Mt w st pend tmps params assign body l
  | _, _, _ => False

/-- A value names objects below m alone. -/
inductive VW (m : Nat) : V → Prop
  | s (v : Value) : VW m (.s v)
  | unk : VW m .unk
  | agg (cs : List V) (h : ∀ v ∈ cs, VW m v) : VW m (.agg cs)
  | tup (cs : List V) (h : ∀ v ∈ cs, VW m v) : VW m (.tup cs)
  | ref (id g off : Nat) (h : id < m) : VW m (.ref id g off)
  | pref (cs : List V) : VW m (.pref cs)
  | sl (id g off len sz : Nat) (h : id < m) : VW m (.sl id g off len sz)
  | psl (es : List (List V)) (sz : Nat) : VW m (.psl es sz)
  | esl : VW m .esl
  | mp (id : Nat) (h : id < m) : VW m (.mp id)
  | fn (f : Nat) (a b : List V) (ha : ∀ v ∈ a, VW m v) (hb : ∀ v ∈ b, VW m v) : VW m (.fn f a b)
  | yld (id : Nat) (h : id < m) : VW m (.yld id)

theorem VW.mono {m m' : Nat} (hm : m ≤ m') {v : V} (h : VW m v) : VW m' v := by
  induction h with
  | s v => exact .s v
  | unk => exact .unk
  | agg cs _ ih => exact .agg cs ih
  | tup cs _ ih => exact .tup cs ih
  | ref id g off h => exact .ref id g off (Nat.lt_of_lt_of_le h hm)
  | pref cs => exact .pref cs
  | sl id g off len sz h => exact .sl id g off len sz (Nat.lt_of_lt_of_le h hm)
  | psl es sz => exact .psl es sz
  | esl => exact .esl
  | mp id h => exact .mp id (Nat.lt_of_lt_of_le h hm)
  | fn f a b _ _ ih1 ih2 => exact .fn f a b ih1 ih2
  | yld id h => exact .yld id (Nat.lt_of_lt_of_le h hm)

theorem VR.vw {μ : Mu} {Mt : Nat → Prop} {w : World} {m : Nat} (hd : ∀ id g p, μ id g = some p → id < m) {v : V} {c : Value} (h : VR μ Mt w v c) : VW m v := by
  have lists : ∀ {cs : List V} {vs : Array Value}, cs.length = vs.size → (∀ (i : Nat) (a : V) (b : Value), cs[i]? = some a → vs[i]? = some b → VW m a) → ∀ v ∈ cs, VW m v := by
    intro cs vs hl h v hv
    obtain ⟨i, hi, rfl⟩ := List.getElem_of_mem hv
    exact h i cs[i] vs[i] (List.getElem?_eq_getElem hi) (Array.getElem?_eq_getElem (by omega))
  induction h with
  | s v => exact .s v
  | unk v => exact .unk
  | agg cs vs hl _ ih => exact .agg cs (lists hl ih)
  | tup cs vs hl _ ih => exact .tup cs (lists hl ih)
  | ref id g off B b hm => exact .ref id g off (hd _ _ _ hm)
  | pref cs => exact .pref cs
  | sl id g off len sz B b cap arr e hm => exact .sl id g off len sz (hd _ _ _ hm)
  | sl0 id g off sz B b a hm => exact .sl id g off 0 sz (hd _ _ _ hm)
  | psl es sz => exact .psl es sz
  | psl0 sz => exact .psl [] sz
  | esl a => exact .esl
  | mp id B hm => exact .mp id (hd _ _ _ hm)
  | fn f fst cap fst' cap' hf hc _ _ ih1 ih2 => exact .fn f fst cap (lists hf ih1) (lists hc ih2)
  | yld id B hm => exact .yld id (hd _ _ _ hm)

def ObW (m : Nat) : Ob → Prop
  | .cells _ c => ∀ v ∈ c, VW m v
  | .map es => ∀ e ∈ es, VW m e.2
  | .loop _ _ t _ _ _ => ∀ v ∈ t, VW m v
  | .dead => True

theorem ObW.mono {m m' : Nat} (hm : m ≤ m') {ob : Ob} (h : ObW m ob) : ObW m' ob := by
  cases ob with
  | cells g c => exact fun v hv => (h v hv).mono hm
  | map es => exact fun e he => (h e he).mono hm
  | loop st pe t ps a b => exact fun v hv => (h v hv).mono hm
  | dead => trivial

theorem ObR.obw {CC : Code → ACode → Prop} {μ : Mu} {Mt : Nat → Prop} {w : World} {m : Nat} (hd : ∀ id g p, μ id g = some p → id < m) {ob : Ob} {b : Nat} {o : Obj} (h : ObR CC μ Mt w ob b o) : ObW m ob := by
  cases ob with
  | cells g c =>
    cases o <;> first | exact h.elim | skip
    intro v hv
    obtain ⟨i, hi, rfl⟩ := List.getElem_of_mem hv
    obtain ⟨_, h1, h2⟩ := h
    exact (h2 i c[i] _ (List.getElem?_eq_getElem hi) (Array.getElem?_eq_getElem (by omega))).vw hd
  | map es =>
    cases o <;> first | exact h.elim | skip
    intro e he
    obtain ⟨i, hi, rfl⟩ := List.getElem_of_mem he
    obtain ⟨_, h1, h2⟩ := h
    exact (h2 i es[i].1 es[i].2 _ (List.getElem?_eq_getElem hi) (Array.getElem?_eq_getElem (by omega))).2.vw hd
  | loop st pe t ps a b' =>
    cases o <;> first | exact h.elim | skip
    intro v hv
    obtain ⟨_, _, _, h3, _⟩ := h
    obtain ⟨i, hi, rfl⟩ := List.getElem_of_mem hv
    have hl := h3.1
    exact (h3.2 i t[i] _ (List.getElem?_eq_getElem hi) (List.getElem?_eq_getElem (by omega))).vw hd
  | dead => trivial

theorem VRs.vw {μ : Mu} {Mt : Nat → Prop} {w : World} {m : Nat} (hd : ∀ id g p, μ id g = some p → id < m) {vs : List V} {cs : List Value} (h : VRs μ Mt w vs cs) : ∀ v ∈ vs, VW m v := by
  intro v hv
  obtain ⟨i, hi, rfl⟩ := List.getElem_of_mem hv
  have hl := h.1
  exact (h.2 i vs[i] cs[i] (List.getElem?_eq_getElem hi) (List.getElem?_eq_getElem (by omega))).vw hd

/-- The heap reads the world. -/
structure HR (CC : Code → ACode → Prop) (μ : Mu) (Mt : Nat → Prop) (w : World) (H : Heap) : Prop where
  dom : ∀ id g p, μ id g = some p → id < H.length
  isMut : ∀ id g B b, μ id g = some (B, b) → Mt B ∧ B < w.heap.size
  objs : ∀ (id : Nat) (ob : Ob) (g B b : Nat), H[id]? = some ob → ob.cur g → μ id g = some (B, b) → ∃ o, w.heap[B]? = some o ∧ ObR CC μ Mt w ob b o
  inj : ∀ (id g id' g' B b b' : Nat), μ id g = some (B, b) → μ id' g' = some (B, b') → id = id'
  gens : ∀ (id g g' : Nat) (c : List V) (p : Nat × Nat), μ id g = some p → H[id]? = some (.cells g' c) → g ≤ g'
  wf : ∀ (id : Nat) (ob : Ob), H[id]? = some ob → ObW H.length ob

/-- What a step leaves: the new reading. -/
structure Post (CC : Code → ACode → Prop) (μ : Mu) (Mt : Nat → Prop) (w : World) (H : Heap) (μ' : Mu) (Mt' : Nat → Prop) (w' : World) (H' : Heap) : Prop where
  len : H.length ≤ H'.length
  hr : HR CC μ' Mt' w' H'
  ext : ∀ id g p, μ id g = some p → μ' id g = some p
  mt : ∀ B, B < w.heap.size → (Mt' B ↔ Mt B)
  tr : Tr μ w w'
  /-- a block that lay there and is named now was named. -/
  old : ∀ id g B b, μ' id g = some (B, b) → B < w.heap.size → ∃ id0 g0 b0, μ id0 g0 = some (B, b0)
  /-- an object that was not named is not named now, but for new ones. -/
  news : ∀ id g p, μ' id g = some p → id < H.length → ∃ g0 p0, μ id g0 = some p0

theorem HR.mtOf {CC : Code → ACode → Prop} {μ : Mu} {Mt : Nat → Prop} {w : World} {H : Heap} (h : HR CC μ Mt w H) {B : Nat} (hn : ¬ Mt B) : ∀ id g b, μ id g ≠ some (B, b) :=
  fun id g b e => hn (h.isMut id g B b e).1

theorem Post.vr {CC : Code → ACode → Prop} {μ : Mu} {Mt : Nat → Prop} {w : World} {H : Heap} {μ' : Mu} {Mt' : Nat → Prop} {w' : World} {H' : Heap} (h0 : HR CC μ Mt w H)
    (h : Post CC μ Mt w H μ' Mt' w' H') {v : V} {c : Value} (hv : VR μ Mt w v c) : VR μ' Mt' w' v c :=
  hv.mono h.ext (fun B hB hm => (h.mt B hB).1 hm) (fun B hB hm => h.tr.keep B hB (h0.mtOf hm)) h.tr.shape

theorem Post.vrs {CC : Code → ACode → Prop} {μ : Mu} {Mt : Nat → Prop} {w : World} {H : Heap} {μ' : Mu} {Mt' : Nat → Prop} {w' : World} {H' : Heap} (h0 : HR CC μ Mt w H)
    (h : Post CC μ Mt w H μ' Mt' w' H') {v : List V} {c : List Value} (hv : VRs μ Mt w v c) : VRs μ' Mt' w' v c :=
  ⟨hv.1, fun i a b ha hb => h.vr h0 (hv.2 i a b ha hb)⟩

theorem Post.refl {CC : Code → ACode → Prop} {μ : Mu} {Mt : Nat → Prop} {w : World} {H : Heap} (h : HR CC μ Mt w H) : Post CC μ Mt w H μ Mt w H :=
  ⟨Nat.le_refl _, h, fun _ _ _ h => h, fun _ _ => Iff.rfl, Tr.refl μ w, fun id g _ b h _ => ⟨id, g, b, h⟩, fun _ g p h _ => ⟨g, p, h⟩⟩

theorem Post.trans {CC : Code → ACode → Prop} {μ : Mu} {Mt : Nat → Prop} {w : World} {H : Heap} {μ₁ : Mu} {Mt₁ : Nat → Prop} {w₁ : World} {H₁ : Heap} {μ₂ : Mu} {Mt₂ : Nat → Prop} {w₂ : World} {H₂ : Heap}
    (h : Post CC μ Mt w H μ₁ Mt₁ w₁ H₁) (k : Post CC μ₁ Mt₁ w₁ H₁ μ₂ Mt₂ w₂ H₂) : Post CC μ Mt w H μ₂ Mt₂ w₂ H₂ where
  len := Nat.le_trans h.len k.len
  hr := k.hr
  ext id g p e := k.ext id g p (h.ext id g p e)
  mt B hB := (k.mt B (Nat.lt_of_lt_of_le hB h.tr.size)).trans (h.mt B hB)
  tr := {
    size := Nat.le_trans h.tr.size k.tr.size
    shape := fun B arr e fr hB => by
      obtain ⟨arr1, h1, h2⟩ := h.tr.shape B arr e fr hB
      obtain ⟨arr2, h3, h4⟩ := k.tr.shape B arr1 e fr h1
      exact ⟨arr2, h3, h4.trans h2⟩
    loops := fun B l hB => by
      obtain ⟨l1, h1⟩ := h.tr.loops B l hB
      exact k.tr.loops B l1 h1
    keep := fun B hB hn => by
      refine (k.tr.keep B (Nat.lt_of_lt_of_le hB h.tr.size) ?_).trans (h.tr.keep B hB hn)
      intro id g b e
      obtain ⟨id0, g0, b0, e0⟩ := h.old id g B b e hB
      exact hn id0 g0 b0 e0
    back := fun B arr e fr hB => by
      rcases k.tr.back B arr e fr hB with ⟨arr1, h1⟩ | h1
      · exact h.tr.back B arr1 e fr h1
      · exact .inr (Nat.le_trans h.tr.size h1)
    os := k.tr.os.trans h.tr.os
    tape := k.tr.tape.trans h.tr.tape
    output := k.tr.output.trans h.tr.output }
  old id g B b e hB := by
    obtain ⟨id1, g1, b1, e1⟩ := k.old id g B b e (Nat.lt_of_lt_of_le hB h.tr.size)
    exact h.old id1 g1 B b1 e1 hB
  news id g p e hid := by
    obtain ⟨g1, p1, e1⟩ := k.news id g p e (Nat.lt_of_lt_of_le hid h.len)
    exact h.news id g1 p1 e1 hid


section
variable {CC : Code → ACode → Prop} {μ μ' : Mu} {Mt Mt' : Nat → Prop} {w w' : World} {H : Heap}

theorem VRs.mono (hμ : ∀ id g p, μ id g = some p → μ' id g = some p) (hM : ∀ B, B < w.heap.size → Mt' B → Mt B)
    (hk : ∀ B, B < w.heap.size → ¬ Mt B → w'.heap[B]? = w.heap[B]?)
    (hsh : ∀ (B : Nat) (arr : Array Value) (e : TypeId) (fr : Nat × Nat), w.heap[B]? = some (.cells arr e fr) → ∃ arr', w'.heap[B]? = some (.cells arr' e fr) ∧ arr'.size = arr.size)
    {v : List V} {c : List Value} (h : VRs μ Mt w v c) : VRs μ' Mt' w' v c :=
  ⟨h.1, fun i a b ha hb => (h.2 i a b ha hb).mono hμ hM hk hsh⟩

theorem ObR.mono (hμ : ∀ id g p, μ id g = some p → μ' id g = some p) (hM : ∀ B, B < w.heap.size → Mt' B → Mt B)
    (hk : ∀ B, B < w.heap.size → ¬ Mt B → w'.heap[B]? = w.heap[B]?)
    (hsh : ∀ (B : Nat) (arr : Array Value) (e : TypeId) (fr : Nat × Nat), w.heap[B]? = some (.cells arr e fr) → ∃ arr', w'.heap[B]? = some (.cells arr' e fr) ∧ arr'.size = arr.size)
    {ob : Ob} {b : Nat} {o : Obj} (h : ObR CC μ Mt w ob b o) : ObR CC μ' Mt' w' ob b o := by
  cases ob with
  | cells g c => cases o <;> first | exact h.elim | exact ⟨h.1, h.2.1, fun i a v ha hv => (h.2.2 i a v ha hv).mono hμ hM hk hsh⟩
  | map es => cases o <;> first | exact h.elim | exact ⟨h.1, h.2.1, fun i k v e he hv => ⟨(h.2.2 i k v e he hv).1, (h.2.2 i k v e he hv).2.mono hμ hM hk hsh⟩⟩
  | loop st pend tmps params assign body =>
    cases o <;> first | exact h.elim | skip
    obtain ⟨h0, h1, h2, h3, h4, h5, h6⟩ := h
    exact ⟨h0, h1, h2, h3.mono hμ hM hk hsh, h4, h5, h6⟩
  | dead => cases o <;> exact h.elim

/-- A world's rows keep their sizes, blocks that can't be written lie as they lay: out of what a push does. -/
theorem heap_push {o : Obj} (hh : w'.heap = w.heap.push o) {B : Nat} (hB : B < w.heap.size) : w'.heap[B]? = w.heap[B]? := by
  rw [hh, Array.getElem?_push, if_neg (by omega)]

theorem heap_push_new {o : Obj} (hh : w'.heap = w.heap.push o) : w'.heap[w.heap.size]? = some o := by
  rw [hh, Array.getElem?_push, if_pos rfl]

/-- A new name at generation 0. -/
def updM (μ : Mu) (id g : Nat) (p : Nat × Nat) : Mu := fun i j => if i = id ∧ j = g then some p else μ i j

theorem updM_same (μ : Mu) (id g : Nat) (p : Nat × Nat) : updM μ id g p id g = some p := by simp [updM]
theorem updM_other {μ : Mu} {id g i j : Nat} {p : Nat × Nat} (h : ¬ (i = id ∧ j = g)) : updM μ id g p i j = μ i j := by simp only [updM, if_neg h]
theorem updM_ext {μ : Mu} {id g : Nat} {p : Nat × Nat} (hn : μ id g = none) : ∀ i j q, μ i j = some q → updM μ id g p i j = some q := by
  intro i j q h
  by_cases e : i = id ∧ j = g
  · rw [e.1, e.2, hn] at h; cases h
  · rw [updM_other e]; exact h

theorem HR.none_new (h : HR CC μ Mt w H) (g : Nat) : μ H.length g = none := by
  cases e : μ H.length g with
  | none => rfl
  | some p => exact absurd (h.dom _ _ _ e) (Nat.lt_irrefl _)

/-- **A new block, and an object that reads it.** -/
theorem post_push (h : HR CC μ Mt w H) (o : Obj) (ob : Ob) (hob : ObR CC μ Mt w ob 0 o) (hh : w'.heap = w.heap.push o)
    (hos : w'.os = w.os) (htape : w'.tape = w.tape) (hout : w'.output = w.output) :
    Post CC μ Mt w H (updM μ H.length 0 (w.heap.size, 0)) (fun B => Mt B ∨ B = w.heap.size) w' (H ++ [ob]) := by
  have hμ := updM_ext (p := (w.heap.size, 0)) (h.none_new 0)
  have hM : ∀ B, B < w.heap.size → (Mt B ∨ B = w.heap.size) → Mt B := fun B hB hm => hm.resolve_right (by omega)
  have hk : ∀ B, B < w.heap.size → ¬ Mt B → w'.heap[B]? = w.heap[B]? := fun B hB _ => heap_push hh hB
  have hsh : ∀ (B : Nat) (arr : Array Value) (e : TypeId) (fr : Nat × Nat), w.heap[B]? = some (.cells arr e fr) → ∃ arr', w'.heap[B]? = some (.cells arr' e fr) ∧ arr'.size = arr.size :=
    fun B arr e fr hB => ⟨arr, (heap_push hh (lt_of_some hB)).trans hB, rfl⟩
  have hbk : ∀ (B : Nat) (arr : Array Value) (e : TypeId) (fr : Nat × Nat), w'.heap[B]? = some (.cells arr e fr) → (∃ arr0, w.heap[B]? = some (.cells arr0 e fr)) ∨ (w.heap.size ≤ B ∧ fr = (0, 0)) := by
    intro B arr e fr hB
    by_cases hlt : B < w.heap.size
    · exact .inl ⟨arr, (heap_push hh hlt).symm.trans hB⟩
    · have hB' := hB
      rw [hh, Array.getElem?_push] at hB'
      split at hB'
      · rename_i hBe
        refine .inr ⟨by omega, ?_⟩
        cases hB'
        cases ob <;> first | exact hob.elim | exact hob.1
      · rw [Array.getElem?_eq_none (by omega)] at hB'; cases hB'
  have hsz : w'.heap.size = w.heap.size + 1 := by rw [hh, Array.size_push]
  have cases_mu : ∀ id g p, updM μ H.length 0 (w.heap.size, 0) id g = some p → (id = H.length ∧ g = 0 ∧ p = (w.heap.size, 0)) ∨ (id < H.length ∧ μ id g = some p) := by
    intro id g p e
    by_cases c : id = H.length ∧ g = 0
    · obtain ⟨rfl, rfl⟩ := c
      rw [updM_same] at e
      exact .inl ⟨rfl, rfl, (Option.some.inj e).symm⟩
    · rw [updM_other c] at e
      exact .inr ⟨h.dom _ _ _ e, e⟩
  refine ⟨by simp, ⟨?_, ?_, ?_, ?_, ?_, ?_⟩, hμ, fun B hB => ⟨hM B hB, .inl⟩, ⟨by omega, hsh, fun B l hB => ⟨l, (heap_push hh (lt_of_some hB)).trans hB⟩, fun B hB _ => heap_push hh hB, (fun B arr e fr h => (hbk B arr e fr h).imp (fun x => x) And.left), hos, htape, hout⟩, ?_, ?_⟩
  · intro id g p e
    rcases cases_mu id g p e with ⟨rfl, _, _⟩ | ⟨hl, _⟩ <;> simp <;> omega
  · intro id g B b e
    rcases cases_mu id g _ e with ⟨_, _, hp⟩ | ⟨_, e'⟩
    · cases hp; exact ⟨.inr rfl, by omega⟩
    · exact ⟨.inl (h.isMut _ _ _ _ e').1, by have := (h.isMut _ _ _ _ e').2; omega⟩
  · intro id ob' g B b hH hc e
    rcases cases_mu id g _ e with ⟨rfl, rfl, hp⟩ | ⟨hl, e'⟩
    · cases hp
      rw [List.getElem?_append_right (Nat.le_refl _)] at hH
      simp at hH
      subst hH
      exact ⟨o, heap_push_new hh, hob.mono hμ hM hk hsh⟩
    · rw [List.getElem?_append_left hl] at hH
      obtain ⟨o', ho', hr⟩ := h.objs id ob' g B b hH hc e'
      exact ⟨o', (heap_push hh (lt_of_some ho')).trans ho', hr.mono hμ hM hk hsh⟩
  · intro id g id' g' B b b' e1 e2
    rcases cases_mu id g _ e1 with ⟨r1, _, p1⟩ | ⟨l1, e1'⟩ <;> rcases cases_mu id' g' _ e2 with ⟨r2, _, p2⟩ | ⟨l2, e2'⟩
    · rw [r1, r2]
    · cases p1; have := (h.isMut _ _ _ _ e2').2; omega
    · cases p2; have := (h.isMut _ _ _ _ e1').2; omega
    · exact h.inj _ _ _ _ _ _ _ e1' e2'
  · intro id g g' c p e hH
    rcases cases_mu id g _ e with ⟨rfl, rfl, _⟩ | ⟨hl, e'⟩
    · exact Nat.zero_le _
    · rw [List.getElem?_append_left hl] at hH
      exact h.gens _ _ _ _ _ e' hH
  · intro id ob' hH
    by_cases hl : id < H.length
    · rw [List.getElem?_append_left hl] at hH
      exact (h.wf id ob' hH).mono (by simp)
    · rw [List.getElem?_append_right (by omega)] at hH
      have e0 : id - H.length = 0 := by have := (List.getElem?_eq_some_iff.1 hH).1; simp at this; omega
      rw [e0] at hH
      simp at hH
      subst hH
      exact (hob.obw h.dom).mono (by simp)
  · intro id g B b e hB
    rcases cases_mu id g _ e with ⟨_, _, hp⟩ | ⟨_, e'⟩
    · cases hp; omega
    · exact ⟨_, _, _, e'⟩
  · intro id g p e hid
    rcases cases_mu id g _ e with ⟨rfl, _, _⟩ | ⟨_, e'⟩
    · omega
    · exact ⟨_, _, e'⟩

/-- What a store into a named block keeps. -/
theorem heap_set {o' : Obj} {B : Nat} (hh : w'.heap = w.heap.setIfInBounds B o') {K : Nat} (hne : K ≠ B) : w'.heap[K]? = w.heap[K]? := by
  rw [hh, Array.getElem?_setIfInBounds_ne (by omega)]

theorem heap_set_same {o' : Obj} {B : Nat} (hh : w'.heap = w.heap.setIfInBounds B o') (hB : B < w.heap.size) : w'.heap[B]? = some o' := by
  rw [hh, Array.getElem?_setIfInBounds_self_of_lt hB]

/-- **A named block is written; its object turns, and may come into a new generation there.** -/
theorem post_set (h : HR CC μ Mt w H) {id g B b : Nat} {ob ob' : Ob} {o o' : Obj} (g' b' : Nat) (hid : H[id]? = some ob) (hcur : ob.cur g) (hm : μ id g = some (B, b)) (ho : w.heap[B]? = some o)
    (hkind : ∀ arr e fr, o = .cells arr e fr → ∃ arr', o' = .cells arr' e fr ∧ arr'.size = arr.size)
    (hkind2 : ∀ l, o = .loop l → ∃ l', o' = .loop l')
    (hg' : g' = g ∧ b' = b ∨ μ id g' = none) (hc' : ∀ j, ob'.cur j → j = g') (hcells : ∀ j c, ob' = .cells j c → ∀ k q, μ id k = some q → k ≤ j)
    (hh : w'.heap = w.heap.setIfInBounds B o') (hos : w'.os = w.os) (htape : w'.tape = w.tape) (hout : w'.output = w.output)
    (hwf : ObW H.length ob')
    (hob : ob'.cur g' → ∀ μ' Mt', (∀ i j q, μ i j = some q → μ' i j = some q) → (∀ K, K < w.heap.size → (Mt' K ↔ Mt K)) → ObR CC μ' Mt' w' ob' b' o')
    (hkind3 : ∀ arr e fr, o' = .cells arr e fr → ∃ arr0, o = .cells arr0 e fr := by intro _ _ _ e; cases e <;> exact ⟨_, rfl⟩) :
    Post CC μ Mt w H (updM μ id g' (B, b')) Mt w' (H.set id ob') := by
  have hlt : B < w.heap.size := lt_of_some ho
  have hμ : ∀ i j q, μ i j = some q → updM μ id g' (B, b') i j = some q := by
    rcases hg' with ⟨rfl, rfl⟩ | hn
    · intro i j q e
      by_cases c : i = id ∧ j = g'
      · obtain ⟨rfl, rfl⟩ := c; rw [hm] at e; rw [updM_same]; exact e
      · rw [updM_other c]; exact e
    · exact updM_ext hn
  have hk : ∀ K, K < w.heap.size → ¬ Mt K → w'.heap[K]? = w.heap[K]? := fun K _ hn => heap_set hh (fun e => hn (e ▸ (h.isMut _ _ _ _ hm).1))
  have hsh : ∀ (K : Nat) (arr : Array Value) (e : TypeId) (fr : Nat × Nat), w.heap[K]? = some (.cells arr e fr) → ∃ arr', w'.heap[K]? = some (.cells arr' e fr) ∧ arr'.size = arr.size := by
    intro K arr e fr hK
    by_cases c : K = B
    · subst c
      rw [ho] at hK
      obtain ⟨arr', e1, e2⟩ := hkind arr e fr (Option.some.inj hK)
      exact ⟨arr', by rw [heap_set_same hh hlt, e1], e2⟩
    · exact ⟨arr, (heap_set hh c).trans hK, rfl⟩
  have hlp : ∀ (K : Nat) (l : Loop), w.heap[K]? = some (.loop l) → ∃ l', w'.heap[K]? = some (.loop l') := by
    intro K l hK
    by_cases c : K = B
    · subst c
      rw [ho] at hK
      obtain ⟨l', e1⟩ := hkind2 l (Option.some.inj hK)
      exact ⟨l', by rw [heap_set_same hh hlt, e1]⟩
    · exact ⟨l, (heap_set hh c).trans hK⟩
  have hsz : w'.heap.size = w.heap.size := by rw [hh, Array.size_setIfInBounds]
  have hbk : ∀ (K : Nat) (arr : Array Value) (e : TypeId) (fr : Nat × Nat), w'.heap[K]? = some (.cells arr e fr) → (∃ arr0, w.heap[K]? = some (.cells arr0 e fr)) ∨ (w.heap.size ≤ K ∧ fr = (0, 0)) := by
    intro K arr e fr hK
    by_cases c : K = B
    · subst c
      rw [heap_set_same hh hlt] at hK
      obtain ⟨arr0, h0⟩ := hkind3 arr e fr (Option.some.inj hK)
      exact .inl ⟨arr0, by rw [ho, h0]⟩
    · exact .inl ⟨arr, (heap_set hh c).symm.trans hK⟩
  have hidl : id < H.length := (List.getElem?_eq_some_iff.1 hid).1
  have cases_mu : ∀ i j p, updM μ id g' (B, b') i j = some p → (i = id ∧ j = g' ∧ p = (B, b')) ∨ (¬ (i = id ∧ j = g') ∧ μ i j = some p) := by
    intro i j p e
    by_cases c : i = id ∧ j = g'
    · obtain ⟨rfl, rfl⟩ := c
      rw [updM_same] at e
      exact .inl ⟨rfl, rfl, (Option.some.inj e).symm⟩
    · rw [updM_other c] at e
      exact .inr ⟨c, e⟩
  refine ⟨by simp, ⟨?_, ?_, ?_, ?_, ?_, ?_⟩, hμ, fun _ _ => Iff.rfl, ⟨by omega, hsh, hlp, fun K _ hn => heap_set hh (fun e => hn id g b (e ▸ hm)), (fun B arr e fr h => (hbk B arr e fr h).imp (fun x => x) And.left), hos, htape, hout⟩, ?_, ?_⟩
  · intro i j p e
    rw [List.length_set]
    rcases cases_mu i j p e with ⟨rfl, _, _⟩ | ⟨_, e'⟩
    · exact hidl
    · exact h.dom _ _ _ e'
  · intro i j K k e
    rcases cases_mu i j _ e with ⟨_, _, hp⟩ | ⟨_, e'⟩
    · cases hp; exact ⟨(h.isMut _ _ _ _ hm).1, by omega⟩
    · exact ⟨(h.isMut _ _ _ _ e').1, by have := (h.isMut _ _ _ _ e').2; omega⟩
  · intro i obi j K k hH hc e
    by_cases c : i = id
    · subst c
      rw [List.getElem?_set_self hidl] at hH
      cases hH
      have := hc' j hc
      subst this
      rw [updM_same] at e
      cases e
      exact ⟨o', heap_set_same hh hlt, hob hc _ _ hμ (fun _ _ => Iff.rfl)⟩
    · rw [List.getElem?_set_ne (Ne.symm c)] at hH
      rcases cases_mu i j _ e with ⟨r, _, _⟩ | ⟨_, e'⟩
      · exact absurd r c
      · have hne : K ≠ B := fun eq => by
          subst eq
          exact c (h.inj _ _ _ _ _ _ _ e' hm)
        obtain ⟨o1, ho1, hr⟩ := h.objs i obi j K k hH hc e'
        exact ⟨o1, (heap_set hh hne).trans ho1, hr.mono hμ (fun _ _ hm => hm) hk hsh⟩
  · intro i j i' j' K k k' e1 e2
    rcases cases_mu i j _ e1 with ⟨r1, _, p1⟩ | ⟨_, e1'⟩ <;> rcases cases_mu i' j' _ e2 with ⟨r2, _, p2⟩ | ⟨_, e2'⟩
    · rw [r1, r2]
    · cases p1; rw [r1]; exact h.inj _ _ _ _ _ _ _ hm e2'
    · cases p2; rw [r2]; exact h.inj _ _ _ _ _ _ _ e1' hm
    · exact h.inj _ _ _ _ _ _ _ e1' e2'
  · intro i j j' c p e hH
    by_cases ci : i = id
    · subst ci
      rw [List.getElem?_set_self hidl] at hH
      cases hH
      rcases cases_mu i j _ e with ⟨_, rfl, _⟩ | ⟨_, e'⟩
      · have := hc' j' rfl; omega
      · exact hcells _ _ rfl _ _ e'
    · rw [List.getElem?_set_ne (Ne.symm ci)] at hH
      rcases cases_mu i j _ e with ⟨r, _, _⟩ | ⟨_, e'⟩
      · exact absurd r ci
      · exact h.gens _ _ _ _ _ e' hH
  · intro i obi hH
    rw [List.length_set]
    by_cases ci : i = id
    · subst ci
      rw [List.getElem?_set_self hidl] at hH
      cases hH
      exact hwf
    · rw [List.getElem?_set_ne (Ne.symm ci)] at hH
      exact h.wf i obi hH
  · intro i j K k e _
    rcases cases_mu i j _ e with ⟨_, _, hp⟩ | ⟨_, e'⟩
    · cases hp; exact ⟨_, _, _, hm⟩
    · exact ⟨_, _, _, e'⟩
  · intro i j p e _
    rcases cases_mu i j _ e with ⟨rfl, _, _⟩ | ⟨_, e'⟩
    · exact ⟨_, _, hm⟩
    · exact ⟨_, _, e'⟩

/-- **An object moves into a new block, and comes into a new generation there.** -/
theorem post_move (h : HR CC μ Mt w H) {id : Nat} {ob ob' : Ob} (o' : Obj) (g' : Nat) (hid : H[id]? = some ob) {g0 : Nat} {p0 : Nat × Nat} (hnamed : μ id g0 = some p0) (hg' : μ id g' = none) (hc' : ∀ j, ob'.cur j → j = g')
    (hcells : ∀ j c, ob' = .cells j c → ∀ k q, μ id k = some q → k ≤ j)
    (hob : ObR CC μ Mt w ob' 0 o') (hh : w'.heap = w.heap.push o') (hos : w'.os = w.os) (htape : w'.tape = w.tape) (hout : w'.output = w.output) :
    Post CC μ Mt w H (updM μ id g' (w.heap.size, 0)) (fun B => Mt B ∨ B = w.heap.size) w' (H.set id ob') := by
  have hμ := updM_ext (p := (w.heap.size, 0)) hg'
  have hM : ∀ B, B < w.heap.size → (Mt B ∨ B = w.heap.size) → Mt B := fun B hB hm => hm.resolve_right (by omega)
  have hk : ∀ B, B < w.heap.size → ¬ Mt B → w'.heap[B]? = w.heap[B]? := fun B hB _ => heap_push hh hB
  have hsh : ∀ (B : Nat) (arr : Array Value) (e : TypeId) (fr : Nat × Nat), w.heap[B]? = some (.cells arr e fr) → ∃ arr', w'.heap[B]? = some (.cells arr' e fr) ∧ arr'.size = arr.size :=
    fun B arr e fr hB => ⟨arr, (heap_push hh (lt_of_some hB)).trans hB, rfl⟩
  have hbk : ∀ (B : Nat) (arr : Array Value) (e : TypeId) (fr : Nat × Nat), w'.heap[B]? = some (.cells arr e fr) → (∃ arr0, w.heap[B]? = some (.cells arr0 e fr)) ∨ (w.heap.size ≤ B ∧ fr = (0, 0)) := by
    intro B arr e fr hB
    by_cases hlt : B < w.heap.size
    · exact .inl ⟨arr, (heap_push hh hlt).symm.trans hB⟩
    · have hB' := hB
      rw [hh, Array.getElem?_push] at hB'
      split at hB'
      · rename_i hBe
        refine .inr ⟨by omega, ?_⟩
        cases hB'
        cases ob' <;> first | exact hob.elim | exact hob.1
      · rw [Array.getElem?_eq_none (by omega)] at hB'; cases hB'
  have hsz : w'.heap.size = w.heap.size + 1 := by rw [hh, Array.size_push]
  have hidl : id < H.length := (List.getElem?_eq_some_iff.1 hid).1
  have cases_mu : ∀ i j p, updM μ id g' (w.heap.size, 0) i j = some p → (i = id ∧ j = g' ∧ p = (w.heap.size, 0)) ∨ (¬ (i = id ∧ j = g') ∧ μ i j = some p) := by
    intro i j p e
    by_cases c : i = id ∧ j = g'
    · obtain ⟨rfl, rfl⟩ := c
      rw [updM_same] at e
      exact .inl ⟨rfl, rfl, (Option.some.inj e).symm⟩
    · rw [updM_other c] at e
      exact .inr ⟨c, e⟩
  refine ⟨by simp, ⟨?_, ?_, ?_, ?_, ?_, ?_⟩, hμ, fun B hB => ⟨hM B hB, .inl⟩, ⟨by omega, hsh, fun B l hB => ⟨l, (heap_push hh (lt_of_some hB)).trans hB⟩, fun B hB _ => heap_push hh hB, (fun B arr e fr h => (hbk B arr e fr h).imp (fun x => x) And.left), hos, htape, hout⟩, ?_, ?_⟩
  · intro i j p e
    rw [List.length_set]
    rcases cases_mu i j p e with ⟨rfl, _, _⟩ | ⟨_, e'⟩
    · exact hidl
    · exact h.dom _ _ _ e'
  · intro i j K k e
    rcases cases_mu i j _ e with ⟨_, _, hp⟩ | ⟨_, e'⟩
    · cases hp; exact ⟨.inr rfl, by omega⟩
    · exact ⟨.inl (h.isMut _ _ _ _ e').1, by have := (h.isMut _ _ _ _ e').2; omega⟩
  · intro i obi j K k hH hc e
    by_cases c : i = id
    · subst c
      rw [List.getElem?_set_self hidl] at hH
      cases hH
      have := hc' j hc
      subst this
      rw [updM_same] at e
      cases e
      exact ⟨o', heap_push_new hh, hob.mono hμ hM hk hsh⟩
    · rw [List.getElem?_set_ne (Ne.symm c)] at hH
      rcases cases_mu i j _ e with ⟨r, _, _⟩ | ⟨_, e'⟩
      · exact absurd r c
      · obtain ⟨o1, ho1, hr⟩ := h.objs i obi j K k hH hc e'
        exact ⟨o1, (heap_push hh (lt_of_some ho1)).trans ho1, hr.mono hμ hM hk hsh⟩
  · intro i j i' j' K k k' e1 e2
    rcases cases_mu i j _ e1 with ⟨r1, _, p1⟩ | ⟨_, e1'⟩ <;> rcases cases_mu i' j' _ e2 with ⟨r2, _, p2⟩ | ⟨_, e2'⟩
    · rw [r1, r2]
    · cases p1; have := (h.isMut _ _ _ _ e2').2; omega
    · cases p2; have := (h.isMut _ _ _ _ e1').2; omega
    · exact h.inj _ _ _ _ _ _ _ e1' e2'
  · intro i j j' c p e hH
    by_cases ci : i = id
    · subst ci
      rw [List.getElem?_set_self hidl] at hH
      cases hH
      rcases cases_mu i j _ e with ⟨_, rfl, _⟩ | ⟨_, e'⟩
      · have := hc' j' rfl; omega
      · exact hcells _ _ rfl _ _ e'
    · rw [List.getElem?_set_ne (Ne.symm ci)] at hH
      rcases cases_mu i j _ e with ⟨r, _, _⟩ | ⟨_, e'⟩
      · exact absurd r ci
      · exact h.gens _ _ _ _ _ e' hH
  · intro i obi hH
    rw [List.length_set]
    by_cases ci : i = id
    · subst ci
      rw [List.getElem?_set_self hidl] at hH
      cases hH
      exact hob.obw h.dom
    · rw [List.getElem?_set_ne (Ne.symm ci)] at hH
      exact h.wf i obi hH
  · intro i j K k e hB
    rcases cases_mu i j _ e with ⟨_, _, hp⟩ | ⟨_, e'⟩
    · cases hp; omega
    · exact ⟨_, _, _, e'⟩
  · intro i j p e _
    rcases cases_mu i j _ e with ⟨rfl, _, _⟩ | ⟨_, e'⟩
    · exact ⟨_, _, hnamed⟩
    · exact ⟨_, _, e'⟩

/-- **A new block that no object lies in.** -/
theorem post_ghost (h : HR CC μ Mt w H) (o : Obj) (hh : w'.heap = w.heap.push o) (hos : w'.os = w.os) (htape : w'.tape = w.tape) (hout : w'.output = w.output) : Post CC μ Mt w H μ Mt w' H := by
  have hk : ∀ B, B < w.heap.size → ¬ Mt B → w'.heap[B]? = w.heap[B]? := fun B hB _ => heap_push hh hB
  have hsh : ∀ (B : Nat) (arr : Array Value) (e : TypeId) (fr : Nat × Nat), w.heap[B]? = some (.cells arr e fr) → ∃ arr', w'.heap[B]? = some (.cells arr' e fr) ∧ arr'.size = arr.size :=
    fun B arr e fr hB => ⟨arr, (heap_push hh (lt_of_some hB)).trans hB, rfl⟩
  have hbk : ∀ (B : Nat) (arr : Array Value) (e : TypeId) (fr : Nat × Nat), w'.heap[B]? = some (.cells arr e fr) → (∃ arr0, w.heap[B]? = some (.cells arr0 e fr)) ∨ w.heap.size ≤ B := by
    intro B arr e fr hB
    by_cases hlt : B < w.heap.size
    · exact .inl ⟨arr, (heap_push hh hlt).symm.trans hB⟩
    · exact .inr (by omega)
  have hsz : w'.heap.size = w.heap.size + 1 := by rw [hh, Array.size_push]
  refine ⟨Nat.le_refl _, ⟨h.dom, fun id g B b e => ⟨(h.isMut id g B b e).1, by have := (h.isMut id g B b e).2; omega⟩, fun id ob g B b hH hc e => ?_, h.inj, h.gens, h.wf⟩, fun _ _ _ h => h, fun _ _ => Iff.rfl,
    ⟨by omega, hsh, fun B l hB => ⟨l, (heap_push hh (lt_of_some hB)).trans hB⟩, fun B hB _ => heap_push hh hB, hbk, hos, htape, hout⟩, fun id g _ b e _ => ⟨id, g, b, e⟩, fun _ g p e _ => ⟨g, p, e⟩⟩
  obtain ⟨o1, ho1, hr⟩ := h.objs id ob g B b hH hc e
  exact ⟨o1, (heap_push hh (lt_of_some ho1)).trans ho1, hr.mono (fun _ _ _ h => h) (fun _ _ h => h) hk hsh⟩

/-- A draw alone. -/
theorem post_drew (h : HR CC μ Mt w H) (hh : w'.heap = w.heap) (hos : w'.os = w.os) (htape : w'.tape = w.tape) (hout : w'.output = w.output) : Post CC μ Mt w H μ Mt w' H := by
  have hk : ∀ B, B < w.heap.size → ¬ Mt B → w'.heap[B]? = w.heap[B]? := fun B hB _ => by rw [hh]
  have hsh : ∀ (B : Nat) (arr : Array Value) (e : TypeId) (fr : Nat × Nat), w.heap[B]? = some (.cells arr e fr) → ∃ arr', w'.heap[B]? = some (.cells arr' e fr) ∧ arr'.size = arr.size :=
    fun B arr e fr hB => ⟨arr, by rw [hh]; exact hB, rfl⟩
  refine ⟨Nat.le_refl _, ⟨h.dom, fun id g B b e => by rw [hh]; exact h.isMut id g B b e, fun id ob g B b hH hc e => ?_, h.inj, h.gens, h.wf⟩, fun _ _ _ h => h, fun _ _ => Iff.rfl,
    ⟨by rw [hh]; exact Nat.le_refl _, hsh, fun B l hB => ⟨l, by rw [hh]; exact hB⟩, fun B hB _ => by rw [hh], fun B arr e fr hB => .inl ⟨arr, by rw [hh] at hB; exact hB⟩, hos, htape, hout⟩, fun id g _ b e _ => ⟨id, g, b, e⟩, fun _ g p e _ => ⟨g, p, e⟩⟩
  obtain ⟨o1, ho1, hr⟩ := h.objs id ob g B b hH hc e
  exact ⟨o1, by rw [hh]; exact ho1, hr.mono (fun _ _ _ h => h) (fun _ _ h => h) hk hsh⟩
end

end Go.AM
