/-
  A row whose order is drawn: the walk.
-/
import Derived.Test.YtmnlagcmpgilaaaAm15
set_option linter.all false
namespace Go.AM
open Go.RowKit
section
variable {CC : Code → ACode → Prop} {μ : Mu} {Mt : Nat → Prop} {w : World} {H : Heap} {P : Program} {pure' : Nat → Bool} {call : CallF} {base : Nat}

theorem VW.obj {m : Nat} {v : V} (h : VW m v) {id : Nat} (ho : v.obj? = some (some id)) : id < m := by
  cases h <;> simp [V.obj?] at ho <;> (subst ho; assumption)

theorem countP_lt {p q : Nat → Bool} : ∀ {l : List Nat}, (∀ k ∈ l, q k = true → p k = true) → (∃ k ∈ l, p k = true ∧ q k = false) → l.countP q < l.countP p := by
  intro l
  induction l with
  | nil => rintro _ ⟨k, hk, _⟩; cases hk
  | cons x l ih =>
    intro h hx
    have hle : ∀ (l : List Nat), (∀ k ∈ l, q k = true → p k = true) → l.countP q ≤ l.countP p := fun l h => List.countP_mono_left h
    rw [List.countP_cons, List.countP_cons]
    obtain ⟨k, hk, h1, h2⟩ := hx
    rcases List.mem_cons.1 hk with rfl | hk
    · have := hle l fun k hk => h k (List.mem_cons_of_mem _ hk)
      simp [h1, h2]; omega
    · have := ih (fun k hk => h k (List.mem_cons_of_mem _ hk)) ⟨k, hk, h1, h2⟩
      have hx := h x List.mem_cons_self
      by_cases hq : q x = true
      · simp [hq, hx hq]; omega
      · simp [hq]; split <;> omega

/-- What is known of the row. -/
structure Row (P : Program) (pure' : Nat → Bool) (call : CallF) (base : Nat) (ops : Array Oper) (l : List AOper) (chk : List (Nat × Nat)) (fr fr' : List V) (H H' : Heap) (F : Nat → List V) (G : Nat → Heap) (val : Nat → V) : Prop where
  reg : RegR P pure' ops l
  ord : okOrder (Region.before ops).toList chk l = true
  back : backB ops = true
  f0 : F 0 = fr
  g0 : G 0 = H
  fN : F l.length = fr'
  gN : G l.length = H'
  steps : ∀ k o, l[k]? = some o → TrStep call base o (F k) (G k) (val k) (F (k + 1)) (G (k + 1))
  apart : chk.all (apartAt l fr') = true
  floor : ∀ v args base H r H', call v args base H = some (r, H') → H.length ≤ H'.length ∧ ∀ id, id < base → id < H.length → H'[id]? = H[id]?

variable {ops : Array Oper} {l : List AOper} {chk : List (Nat × Nat)} {fr fr' : List V} {H H' : Heap} {F : Nat → List V} {G : Nat → Heap} {val : Nat → V}

abbrev dstOf (l : List AOper) (k : Nat) : Option Nat := (l.getD k default).dst

theorem getD_of {k : Nat} {o : AOper} (h : l[k]? = some o) : l.getD k default = o := by simp [List.getD, h]

theorem Row.frames (R : Row P pure' call base ops l chk fr fr' H H' F G val) : ∀ k, k ≤ l.length → (F k).length = fr.length ∧ ∀ s, s < fr.length → (F k).getD s .unk = lw (dstOf l) val (fr.getD s .unk) (fun _ => true) s k := by
  intro k
  induction k with
  | zero => intro _; rw [R.f0]; exact ⟨rfl, fun s _ => rfl⟩
  | succ k ih =>
    intro hk
    obtain ⟨h1, h2⟩ := ih (by omega)
    have hl : l[k]? = some l[k] := List.getElem?_eq_getElem (by omega)
    have hs := (R.steps k _ hl).1
    rw [hs]
    refine ⟨by rw [put_length, h1], fun s hs' => ?_⟩
    rw [put_getD _ _ _ _ (by rw [h1]; exact hs'), h2 s hs']
    have hd : dstOf l k = l[k].dst := by rw [dstOf, getD_of hl]
    simp only [lw, hd, true_and]

theorem Row.ordered (R : Row P pure' call base ops l chk fr fr' H H' F G val) {i j : Nat} (hij : i < j) (hj : j < l.length) :
    conflictA (l.getD i default) (l.getD j default) = false ∨ orderedB (Region.before ops).toList i j = true ∨ (lateA (l.getD i default) (l.getD j default) = true ∧ (i, j) ∈ chk) := by
  have h := R.ord
  unfold okOrder at h
  simp only [Bool.and_eq_true] at h
  have h := h.2
  rw [List.all_eq_true] at h
  have h := h j (by simpa using hj)
  rw [List.all_eq_true] at h
  have h := h i (by simpa using hij)
  simp only [Bool.or_eq_true, Bool.not_eq_true', Bool.and_eq_true] at h
  rcases h with (h | h) | h
  · exact .inl h
  · exact .inr (.inl h)
  · exact .inr (.inr ⟨h.1, by simpa using h.2⟩)

/-- Of two operations that conflict and are not late, one is taken before the other as the text has it. -/
theorem Row.pair (R : Row P pure' call base ops l chk fr fr' H H' F G val) {S : Nat → Bool} (hd : Dn ops S) {i k : Nat} (hik : k ≠ i) (hi : i < l.length) (hk : k < l.length) (hSi : S i = false)
    (hah : ∀ j, orderedB (Region.before ops).toList j i = true → S j = true)
    (hc1 : conflictA (l.getD i default) (l.getD k default) = true) (hc2 : conflictA (l.getD k default) (l.getD i default) = true) :
    (S k = true ↔ k < i) ∨ (k < i ∧ lateA (l.getD k default) (l.getD i default) = true ∧ (k, i) ∈ chk) ∨ (i < k ∧ lateA (l.getD i default) (l.getD k default) = true ∧ (i, k) ∈ chk) := by
  by_cases h : k < i
  · rcases R.ordered h hi with h1 | h1 | h1
    · rw [hc2] at h1; cases h1
    · exact .inl ⟨fun _ => h, fun _ => hah k h1⟩
    · exact .inr (.inl ⟨h, h1⟩)
  · have h' : i < k := by omega
    rcases R.ordered h' hk with h1 | h1 | h1
    · rw [hc1] at h1; cases h1
    · exact .inl ⟨fun hs => (by have := hd k hs i h1; rw [hSi] at this; cases this), fun hlt => absurd hlt h⟩
    · exact .inr (.inr ⟨h', h1⟩)

theorem conf_clash {a b : AOper} (h : clash a b = true) : conflictA a b = true := by simp [conflictA, h]
theorem late_clash {a b : AOper} (h : clash a b = true) : lateA a b = false := by simp [lateA, h]
theorem conf_wr {a b : AOper} (h : a.op.cls = .w) (k : b.op.cls = .r) : conflictA a b = true ∧ conflictA b a = true := by simp [conflictA, h, k]
theorem isM_t {o : AOp} (h : o.cls = .t) : o.isM = false := by simp [AOp.isM, h]
theorem isM_r {o : AOp} (h : o.cls = .r) : o.isM = false := by simp [AOp.isM, h]
theorem isM_a {o : AOp} (h : o.cls = .a) : o.isM = true := by simp [AOp.isM, h]
theorem isM_w {o : AOp} (h : o.cls = .w) : o.isM = true := by simp [AOp.isM, h]
theorem conf_mm {a b : AOper} (h : a.op.isM = true) (k : b.op.isM = true) : conflictA a b = true := by simp [conflictA, h, k]
theorem late_mm {a b : AOper} (h : a.op.isM = true) (k : b.op.isM = true) : lateA a b = false := by
  obtain ⟨_, oa, _⟩ := a
  obtain ⟨_, ob, _⟩ := b
  cases oa <;> first | (simp [AOp.isM, AOp.cls] at h; done) | (cases ob <;> first | (simp [AOp.isM, AOp.cls] at k; done) | (simp [lateA]; done))
theorem late_store {a b : AOper} (h : a.op.cls = .w) (k : b.op.cls = .r) (hl : lateA a b = true ∨ lateA b a = true) : (∃ n x v, a.op = .store n x v) ∨ ∃ sz bytes s x, a.op = .append sz bytes s x := by
  obtain ⟨_, oa, _⟩ := a
  obtain ⟨_, ob, _⟩ := b
  cases oa <;> first | (simp [AOp.cls] at h; done) | exact .inl ⟨_, _, _, rfl⟩ | exact .inr ⟨_, _, _, _, rfl⟩ | (cases ob <;> first | (simp [AOp.cls] at k; done) | (simp [lateA] at hl; done))
theorem dst_names {o : AOper} {s : Nat} (h : o.dst = some s) : s ∈ o.names := by simp [AOper.names, h]

theorem clash_comm (a b : AOper) : clash a b = clash b a := by unfold clash; rw [Bool.or_comm]

theorem Row.clashes (R : Row P pure' call base ops l chk fr fr' H H' F G val) {S : Nat → Bool} (hd : Dn ops S) {i k : Nat} (hik : k ≠ i) (hi : i < l.length) (hk : k < l.length) (hSi : S i = false)
    (hah : ∀ j, orderedB (Region.before ops).toList j i = true → S j = true) (hc : clash (l.getD k default) (l.getD i default) = true) : S k = true ↔ k < i := by
  have hc' : clash (l.getD i default) (l.getD k default) = true := by rw [clash_comm]; exact hc
  rcases R.pair hd hik hi hk hSi hah (conf_clash hc') (conf_clash hc) with h | ⟨_, h, _⟩ | ⟨_, h, _⟩
  · exact h
  · rw [late_clash hc] at h; cases h
  · rw [late_clash hc'] at h; cases h

theorem mem_names {o : AOper} {s : Nat} (h : s ∈ o.names) {a : AOper} (ha : a.dst = some s) : clash a o = true := by
  simp [clash, ha, h]

/-- The operands, when i is taken next, are those of the text's order. -/
theorem Row.slot (R : Row P pure' call base ops l chk fr fr' H H' F G val) {S : Nat → Bool} (hd : Dn ops S) {i : Nat} (hi : i < l.length) (hSi : S i = false)
    (hah : ∀ j, orderedB (Region.before ops).toList j i = true → S j = true) {s : Nat} (hs : s ∈ (l.getD i default).reads) : (SF (dstOf l) val fr l.length S).getD s .unk = (F i).getD s .unk := by
  obtain ⟨hlen, hF⟩ := R.frames i (by omega)
  rw [SF_getD]
  split
  · rename_i hlt
    rw [hF s hlt, lw_reads (i := i) l.length fun k hk hdk => ?_]
    · rw [Nat.min_eq_right (by omega)]
    · by_cases hki : k = i
      · subst hki
        rw [hSi]
        exact ⟨fun h => (by cases h), fun h => absurd h (Nat.lt_irrefl _)⟩
      · exact R.clashes hd hki hi hk hSi hah (mem_names (List.mem_append_right _ hs) hdk)
  · rename_i hlt
    simp [List.getD, hlen, hlt]

theorem Row.after (R : Row P pure' call base ops l chk fr fr' H H' F G val) {S : Nat → Bool} (hd : Dn ops S) {i : Nat} (hi : i < l.length) (hSi : S i = false)
    (hah : ∀ j, orderedB (Region.before ops).toList j i = true → S j = true) : SF (dstOf l) val fr l.length (ins S i) = put (dstOf l i) (val i) (SF (dstOf l) val fr l.length S) := by
  refine getD_ext (by rw [put_length, SF_length, SF_length]) fun s hs => ?_
  rw [SF_length] at hs
  rw [put_getD _ _ _ _ (by rw [SF_length]; exact hs), SF_getD, SF_getD, if_pos hs, if_pos hs]
  split
  · rename_i hd'
    refine lw_ins_eq hd' _ hi fun k h1 h2 h3 => ?_
    cases hSk : S k with
    | false => rfl
    | true =>
      have hn : s ∈ (l.getD i default).names := by
        exact dst_names hd'
      have := (R.clashes hd (by omega) hi h2 hSi hah (mem_names hn h3)).1 hSk
      omega
  · rename_i hd'
    exact lw_ins_ne hd' _

theorem reads_opd {o : AOper} {x : Opd} (hx : x ∈ o.op.opds) {f1 f2 : List V} (h : ∀ s ∈ o.reads, f1.getD s .unk = f2.getD s .unk) : ev f1 x = ev f2 x := by
  cases x with
  | c v => rfl
  | t s => exact h s (List.mem_append_left _ (List.mem_flatMap.2 ⟨_, hx, by simp [Opd.slots]⟩))

theorem reads_want {o : AOper} {f1 f2 : List V} (h : ∀ s ∈ o.reads, f1.getD s .unk = f2.getD s .unk) : want o f1 = want o f2 := by
  unfold want
  cases hg : o.guard with
  | none => rfl
  | some p =>
    obtain ⟨t, b⟩ := p
    have := h t (by simp [AOper.reads, hg])
    simp only [this]

/-- An operation that makes or writes nothing leaves the heap. -/
theorem TrStep.same {o : AOper} {A A' : List V} {B B' : Heap} {v : V} (h : TrStep call base o A B v A' B') (hm : o.op.isM = false) : B' = B := by
  rcases h.2 with ⟨_, _, e⟩ | ⟨_, e⟩
  · exact e
  · exact evOp_same hm e

theorem TrStep.len (hfl : ∀ v args base H r H', call v args base H = some (r, H') → H.length ≤ H'.length ∧ ∀ id, id < base → id < H.length → H'[id]? = H[id]?) {o : AOper} {A A' : List V} {B B' : Heap} {v : V} (h : TrStep call base o A B v A' B') : B.length ≤ B'.length := by
  rcases h.2 with ⟨_, _, e⟩ | ⟨_, e⟩
  · rw [e]; exact Nat.le_refl _
  · exact (evOp_floor hfl e).1

theorem Row.step (R : Row P pure' call base ops l chk fr fr' H H' F G val) {k : Nat} (hk : k < l.length) : TrStep call base (l.getD k default) (F k) (G k) (val k) (F (k + 1)) (G (k + 1)) := by
  have hl : l[k]? = some l[k] := List.getElem?_eq_getElem hk
  rw [getD_of hl]
  exact R.steps k _ hl

theorem Row.lens (R : Row P pure' call base ops l chk fr fr' H H' F G val) {a b : Nat} (hab : a ≤ b) (hb : b ≤ l.length) : (G a).length ≤ (G b).length := by
  induction b with
  | zero => have : a = 0 := by omega
            subst this; exact Nat.le_refl _
  | succ b ih =>
    by_cases h : a = b + 1
    · subst h; exact Nat.le_refl _
    · exact Nat.le_trans (ih (by omega) (by omega)) ((R.step (by omega)).len R.floor)

theorem Row.heaps (R : Row P pure' call base ops l chk fr fr' H H' F G val) {a b : Nat} (hab : a ≤ b) (hb : b ≤ l.length) (h : ∀ k, a ≤ k → k < b → (l.getD k default).op.isM = false) : G b = G a := by
  induction b with
  | zero => have : a = 0 := by omega
            subst this; rfl
  | succ b ih =>
    by_cases hc : a = b + 1
    · subst hc; rfl
    · rw [(R.step (by omega)).same (h b (by omega) (by omega))]
      exact ih (by omega) (by omega) fun k h1 h2 => h k h1 (by omega)

/-- A place that is written no more reads at the end as it did. -/
theorem Row.stay (R : Row P pure' call base ops l chk fr fr' H H' F G val) {i : Nat} (hi : i < l.length) (hs : stayA l i = true) {x : Opd} (hx : (l.getD i default).op.place = some x) : ev fr' x = ev (F i) x := by
  unfold stayA at hs
  rw [hx] at hs
  cases x with
  | c v => rfl
  | t s =>
    simp only [Opd.slots, List.all_cons, List.all_nil, Bool.and_true, List.all_eq_true, List.mem_range, Bool.or_eq_true, decide_eq_true_eq, bne_iff_ne, ne_eq] at hs
    obtain ⟨h1, h2⟩ := R.frames i (by omega)
    obtain ⟨h3, h4⟩ := R.frames l.length (Nat.le_refl _)
    rw [← R.fN]
    show (F l.length).getD s .unk = (F i).getD s .unk
    by_cases hlt : s < fr.length
    · rw [h2 s hlt, h4 s hlt, lw_reads (S := fun _ => true) (i := i) l.length fun k hk hd => ?_, Nat.min_eq_right (by omega)]
      rcases hs k hk with h | h
      · simp [h]
      · exact absurd hd h
    · simp [List.getD, h1, h3, hlt]

theorem Row.late (R : Row P pure' call base ops l chk fr fr' H H' F G val) {i j : Nat} (hm : (i, j) ∈ chk) (hi : i < l.length) (hj : j < l.length) {x y : Opd} (hx : (l.getD i default).op.place = some x) (hy : (l.getD j default).op.place = some y)
    {a b : Nat} (ha : (l.getD i default).op.obj (ev (F i) x) = some (some a)) (hb : (l.getD j default).op.obj (ev (F j) y) = some (some b)) : a ≠ b := by
  have h1 := R.apart
  rw [List.all_eq_true] at h1
  have h1 := h1 _ hm
  have h2 := R.ord
  unfold okOrder at h2
  simp only [Bool.and_eq_true, List.all_eq_true] at h2
  have h2 := h2.1.1 _ hm
  simp only [apartAt, hx, hy, R.stay hi h2.1 hx, R.stay hj h2.2 hy, ha, hb] at h1
  simpa using h1

/-- **What an operation that looks finds, whatever of the rest is taken.** -/
theorem Row.look (R : Row P pure' call base ops l chk fr fr' H H' F G val) {S : Nat → Bool} (hd : Dn ops S) {i p : Nat} (hi : i < l.length) (hp : p ≤ l.length) (hSi : S i = false)
    (hah : ∀ j, orderedB (Region.before ops).toList j i = true → S j = true) (hp1 : ∀ k, k < p → (l.getD k default).op.isM = true → S k = true) (hp2 : ∀ k, p ≤ k → k < l.length → (l.getD k default).op.isM = true → S k = false)
    (hr : (l.getD i default).op.cls = .r) {x : Opd} (hx : (l.getD i default).op.place = some x) {id : Nat} (hid : (ev (F i) x).obj? = some (some id)) (hlt : i ≤ p → id < (G i).length) (hlt2 : p ≤ i → id < (G p).length) : (G p)[id]? = (G i)[id]? := by
  have one : ∀ k, k < l.length → (i ≤ k ∧ k < p ∨ p ≤ k ∧ k < i) → id < (G k).length → (G (k + 1))[id]? = (G k)[id]? := by
    intro k hk hb hlk
    have hs := R.step hk
    rcases hs.2 with ⟨_, _, e⟩ | ⟨_, e⟩
    · rw [e]
    · cases hc : (l.getD k default).op.cls with
      | t => rw [evOp_same (isM_t hc) e]
      | r => rw [evOp_same (isM_r hc) e]
      | a => exact (evOp_a R.floor hc e).2 id hlk
      | w =>
        have hki : k ≠ i := fun h => by subst h; rw [hr] at hc; cases hc
        have hM : (l.getD k default).op.isM = true := isM_w hc
        have fin : (lateA (l.getD k default) (l.getD i default) = true ∨ lateA (l.getD i default) (l.getD k default) = true) → ((k, i) ∈ chk ∨ (i, k) ∈ chk) → (G (k + 1))[id]? = (G k)[id]? := by
          intro hla hch
          have hob : (l.getD i default).op.obj (ev (F i) x) = some (some id) := by
            rw [← hid]
            cases hop : (l.getD i default).op <;> first | rfl | (rw [hop] at hr; simp [AOp.cls] at hr; done)
          rcases late_store hc hr hla with ⟨n, a, v, hop⟩ | ⟨sz, bytes, s, y, hop⟩
          · rw [hop] at e
            obtain ⟨id', h1, _, h3⟩ := evOp_store e
            refine h3 id ?_
            have h1' : (l.getD k default).op.obj (ev (F k) a) = some (some id') := by rw [hop]; exact h1
            rcases hch with hch | hch
            · exact (R.late hch hk hi (by rw [hop]; rfl) hx h1' hob).symm
            · exact R.late hch hi hk hx (by rw [hop]; rfl) hob h1'
          · rw [hop] at e
            refine evOp_append e id hlk fun h1 => ?_
            have h1' : (l.getD k default).op.obj (ev (F k) s) = some (some id) := by rw [hop]; exact h1
            rcases hch with hch | hch
            · exact R.late hch hk hi (by rw [hop]; rfl) hx h1' hob rfl
            · exact R.late hch hi hk hx (by rw [hop]; rfl) hob h1' rfl
        rcases R.pair hd hki hi hk hSi hah (conf_wr hc hr).2 (conf_wr hc hr).1 with h | ⟨_, h, hm⟩ | ⟨_, h, hm⟩
        · exfalso
          rcases hb with ⟨h1, h2⟩ | ⟨h1, h2⟩
          · have := h.1 (hp1 k h2 hM); omega
          · have := h.2 h2; rw [hp2 k h1 hk hM] at this; cases this
        · exact fin (.inl h) (.inl hm)
        · exact fin (.inr h) (.inr hm)
  have run : ∀ n a b, b = a + n → b ≤ l.length → id < (G a).length → (∀ k, a ≤ k → k < b → (i ≤ k ∧ k < p ∨ p ≤ k ∧ k < i)) → (G b)[id]? = (G a)[id]? := by
    intro n
    induction n with
    | zero => intro a b hb _ _ _; have : b = a := by omega
              rw [this]
    | succ n ih =>
      intro a b hb hbl hl hk
      have h1 := ih (a + 1) b (by omega) hbl (Nat.lt_of_lt_of_le hl (R.lens (by omega) (by omega))) fun k h1 h2 => hk k (by omega) h2
      rw [h1]
      exact one a (by omega) (hk a (Nat.le_refl _) (by omega)) hl
  by_cases h : i ≤ p
  · exact run (p - i) i p (by omega) hp (hlt h) fun k h1 h2 => .inl ⟨h1, h2⟩
  · exact (run (i - p) p i (by omega) (by omega) (hlt2 (by omega)) fun k h1 h2 => .inr ⟨h1, h2⟩).symm
end
end Go.AM
