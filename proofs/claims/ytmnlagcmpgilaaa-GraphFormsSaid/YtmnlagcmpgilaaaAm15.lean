/-
  A row whose order is drawn: every order answers as the text's.
-/
import Derived.Test.YtmnlagcmpgilaaaAm14
set_option linter.all false
namespace Go.AM
open Go.RowKit

/-! ### The edges -/
section
variable {ops : Array Oper}

def bitsOf (acc : Array Nat) (o : Oper) : Nat := o.after.foldl (fun s e => if Region.binds .any e then s ||| 2 ^ e.on ||| acc.getD e.on 0 else s) 0

theorem before_eq : Region.before ops = ops.toList.foldl (fun acc o => acc.push (bitsOf acc o)) #[] := by
  unfold Region.before
  rw [← Array.foldl_toList]
  rfl

theorem bits_spec (acc : Array Nat) (o : Oper) {i : Nat} (h : (bitsOf acc o).testBit i = true) : ∃ e ∈ o.after, Region.binds .any e = true ∧ (i = e.on ∨ (acc.getD e.on 0).testBit i = true) := by
  unfold bitsOf at h
  rw [← Array.foldl_toList] at h
  have key : ∀ (l : List Edge) (s : Nat), (l.foldl (fun s e => if Region.binds .any e then s ||| 2 ^ e.on ||| acc.getD e.on 0 else s) s).testBit i = true → s.testBit i = true ∨ ∃ e ∈ l, Region.binds .any e = true ∧ (i = e.on ∨ (acc.getD e.on 0).testBit i = true) := by
    intro l
    induction l with
    | nil => intro s h; exact .inl h
    | cons e l ih =>
      intro s h
      rw [List.foldl_cons] at h
      rcases ih _ h with h | ⟨e', he', h⟩
      · by_cases hb : Region.binds .any e = true
        · rw [if_pos hb, Nat.testBit_or, Nat.testBit_or, Nat.testBit_two_pow] at h
          simp only [Bool.or_eq_true, decide_eq_true_eq] at h
          rcases h with (h | h) | h
          · exact .inl h
          · exact .inr ⟨e, List.mem_cons_self, hb, .inl h.symm⟩
          · exact .inr ⟨e, List.mem_cons_self, hb, .inr h⟩
        · rw [if_neg hb] at h; exact .inl h
      · exact .inr ⟨e', List.mem_cons_of_mem _ he', h⟩
  rcases key _ _ h with h | ⟨e, he, h⟩
  · simp at h
  · exact ⟨e, by simpa using he, h⟩

theorem before_fold : ∀ (l : List Oper) (acc : Array Nat),
    (∀ (j v : Nat), acc[j]? = some v → (l.foldl (fun acc o => acc.push (bitsOf acc o)) acc)[j]? = some v) ∧
    ∀ (j v : Nat), (l.foldl (fun acc o => acc.push (bitsOf acc o)) acc)[j]? = some v → acc[j]? = some v ∨ (acc.size ≤ j ∧ ∃ (o : Oper) (pre : Array Nat), l[j - acc.size]? = some o ∧ v = bitsOf pre o ∧
      ∀ (m x : Nat), pre[m]? = some x → (l.foldl (fun acc o => acc.push (bitsOf acc o)) acc)[m]? = some x) := by
  intro l
  induction l with
  | nil => intro acc; exact ⟨fun j v h => h, fun j v h => .inl h⟩
  | cons o l ih =>
    intro acc
    rw [List.foldl_cons]
    obtain ⟨h1, h2⟩ := ih (acc.push (bitsOf acc o))
    have hp : ∀ (j v : Nat), acc[j]? = some v → (acc.push (bitsOf acc o))[j]? = some v := by
      intro j v h
      have := (Array.getElem?_eq_some_iff.1 h).1
      rw [Array.getElem?_push, if_neg (by omega)]; exact h
    refine ⟨fun j v h => h1 j v (hp j v h), fun j v h => ?_⟩
    rcases h2 j v h with h | ⟨hj, o', pre, e1, e2, e3⟩
    · rw [Array.getElem?_push] at h
      split at h
      · rename_i hjs
        cases h
        refine .inr ⟨by omega, o, acc, by simp [hjs], rfl, fun m x hm => h1 m x (hp m x hm)⟩
      · exact .inl h
    · simp only [Array.size_push] at hj e1
      refine .inr ⟨by omega, o', pre, ?_, e2, e3⟩
      have : j - acc.size = j - (acc.size + 1) + 1 := by omega
      rw [this, List.getElem?_cons_succ]; exact e1

/-- What stands ahead of an operation is named by an edge, or stands ahead of one that is. -/
theorem before_bit {i j : Nat} (h : orderedB (Region.before ops).toList i j = true) : ∃ o, ops[j]? = some o ∧ ∃ e ∈ o.after, Region.binds .any e = true ∧ (i = e.on ∨ orderedB (Region.before ops).toList i e.on = true) := by
  unfold orderedB at h
  have hget : ∃ v, (Region.before ops)[j]? = some v ∧ v.testBit i = true := by
    cases e : (Region.before ops)[j]? with
    | none => 
      have : (Region.before ops).toList.getD j 0 = 0 := by simp [List.getD, e]
      rw [this] at h; simp at h
    | some v =>
      have : (Region.before ops).toList.getD j 0 = v := by simp [List.getD, e]
      rw [this] at h; exact ⟨v, rfl, h⟩
  obtain ⟨v, hv, hb⟩ := hget
  rw [before_eq] at hv
  rcases (before_fold ops.toList #[]).2 j v hv with h0 | ⟨_, o, pre, e1, e2, e3⟩
  · simp at h0
  · subst e2
    obtain ⟨e, he, hbe, hi⟩ := bits_spec pre o hb
    refine ⟨o, by simpa using e1, e, he, hbe, hi.imp id fun hi => ?_⟩
    unfold orderedB
    cases ep : pre[e.on]? with
    | none =>
      have : pre.getD e.on 0 = 0 := by simp [ep]
      rw [this] at hi; simp at hi
    | some x =>
      have : pre.getD e.on 0 = x := by simp [ep]
      rw [this] at hi
      have hx := e3 _ _ ep
      rw [← before_eq] at hx
      have : (Region.before ops).toList.getD e.on 0 = x := by simp [List.getD, hx]
      rw [this]; exact hi

/-- What is taken is taken with all that stands ahead of it. -/
def Dn (ops : Array Oper) (S : Nat → Bool) : Prop := ∀ j, S j = true → ∀ i, orderedB (Region.before ops).toList i j = true → S i = true

def ins (S : Nat → Bool) (i : Nat) : Nat → Bool := fun k => S k || k == i

theorem ready_ahead {S : Nat → Bool} (hd : Dn ops S) {j : Nat} {o : Oper} (ho : ops[j]? = some o) (hall : ∀ e ∈ o.after, Region.binds .any e = true → S e.on = true) {i : Nat} (h : orderedB (Region.before ops).toList i j = true) : S i = true := by
  obtain ⟨o', ho', e, he, hb, hi⟩ := before_bit h
  rw [ho] at ho'
  cases ho'
  have := hall e he hb
  rcases hi with rfl | hi
  · exact this
  · exact hd _ this _ hi

theorem dn_ins {S : Nat → Bool} (hd : Dn ops S) {j : Nat} {o : Oper} (ho : ops[j]? = some o) (hall : ∀ e ∈ o.after, Region.binds .any e = true → S e.on = true) : Dn ops (ins S j) := by
  intro k hk i hi
  unfold ins at hk ⊢
  simp only [Bool.or_eq_true, beq_iff_eq] at hk ⊢
  rcases hk with hk | rfl
  · exact .inl (hd k hk i hi)
  · exact .inl (ready_ahead hd ho hall hi)
end

/-! ### The run in the text's order -/
section
variable {call : CallF} {base : Nat}

def TrStep (call : CallF) (base : Nat) (o : AOper) (F : List V) (G : Heap) (v : V) (F' : List V) (G' : Heap) : Prop :=
  F' = put o.dst v F ∧ ((want o F = some false ∧ v = und ∧ G' = G) ∨ (want o F = some true ∧ evOp call base F G o.op = some (v, G')))

theorem evOps_trace : ∀ (l : List AOper) (fr : List V) (H : Heap) (fr' : List V) (H' : Heap), evOps call base l fr H = some (fr', H') →
    ∃ (F : Nat → List V) (G : Nat → Heap) (val : Nat → V), F 0 = fr ∧ G 0 = H ∧ F l.length = fr' ∧ G l.length = H' ∧
      ∀ k o, l[k]? = some o → TrStep call base o (F k) (G k) (val k) (F (k + 1)) (G (k + 1)) := by
  intro l
  induction l with
  | nil => intro fr H fr' H' h; cases h; exact ⟨fun _ => fr, fun _ => H, fun _ => und, rfl, rfl, rfl, rfl, fun k o h => by simp at h⟩
  | cons o l ih =>
    intro fr H fr' H' h
    have build : ∀ (v : V) (H1 : Heap), evOps call base l (put o.dst v fr) H1 = some (fr', H') → TrStep call base o fr H v (put o.dst v fr) H1 →
        ∃ (F : Nat → List V) (G : Nat → Heap) (val : Nat → V), F 0 = fr ∧ G 0 = H ∧ F (o :: l).length = fr' ∧ G (o :: l).length = H' ∧
          ∀ k o', (o :: l)[k]? = some o' → TrStep call base o' (F k) (G k) (val k) (F (k + 1)) (G (k + 1)) := by
      intro v H1 h1 hs
      obtain ⟨F, G, val, a1, a2, a3, a4, a5⟩ := ih _ _ _ _ h1
      refine ⟨fun k => match k with | 0 => fr | k + 1 => F k, fun k => match k with | 0 => H | k + 1 => G k, fun k => match k with | 0 => v | k + 1 => val k, rfl, rfl, a3, a4, ?_⟩
      intro k o' hk
      cases k with
      | zero => simp at hk; subst hk; simp only [Nat.zero_add, a1, a2]; exact hs
      | succ k => exact a5 k o' (by simpa using hk)
    simp only [evOps] at h
    split at h
    · cases h
    · rename_i hw; exact build und H h ⟨rfl, .inl ⟨hw, rfl, rfl⟩⟩
    · rename_i hw
      split at h
      · rename_i v H1 hop; exact build v H1 h ⟨rfl, .inr ⟨hw, hop⟩⟩
      · cases h

/-- A slot's last writer among the first m. -/
def lw (dst : Nat → Option Nat) (val : Nat → V) (f0 : V) (S : Nat → Bool) (s : Nat) : Nat → V
  | 0 => f0
  | k + 1 => if S k = true ∧ dst k = some s then val k else lw dst val f0 S s k

variable {dst : Nat → Option Nat} {val : Nat → V} {f0 : V} {S : Nat → Bool} {s i : Nat}

theorem lw_reads : ∀ m, (∀ k, k < m → dst k = some s → (S k = true ↔ k < i)) → lw dst val f0 S s m = lw dst val f0 (fun _ => true) s (min m i) := by
  intro m
  induction m with
  | zero => intro _; simp [lw]
  | succ m ih =>
    intro h
    have h' := ih fun k hk => h k (by omega)
    by_cases hd : dst m = some s
    · have hm := h m (by omega) hd
      by_cases hs : S m = true
      · have hi := hm.1 hs
        have e : min (m + 1) i = m + 1 := by omega
        rw [e]
        simp [lw, hs, hd]
      · have hi : ¬ m < i := fun hi => hs (hm.2 hi)
        have e : min (m + 1) i = min m i := by omega
        rw [e, ← h']
        simp [lw, hs]
    · have e1 : lw dst val f0 S s (m + 1) = lw dst val f0 S s m := by simp [lw, hd]
      rw [e1, h']
      by_cases hi : m < i
      · have e2 : min (m + 1) i = m + 1 := by omega
        have e3 : min m i = m := by omega
        rw [e2, e3]
        simp [lw, hd]
      · have e2 : min (m + 1) i = min m i := by omega
        rw [e2]

theorem lw_ins_ne (h : dst i ≠ some s) : ∀ m, lw dst val f0 (ins S i) s m = lw dst val f0 S s m := by
  intro m
  induction m with
  | zero => rfl
  | succ m ih =>
    simp only [lw, ih]
    by_cases hm : m = i
    · subst hm; simp [h]
    · simp [ins, hm]

theorem lw_ins_eq (h : dst i = some s) : ∀ m, i < m → (∀ k, i < k → k < m → dst k = some s → S k = false) → lw dst val f0 (ins S i) s m = val i := by
  intro m
  induction m with
  | zero => intro hi; omega
  | succ m ih =>
    intro hi hk
    by_cases hm : m = i
    · subst hm; simp [lw, ins, h]
    · have e : lw dst val f0 (ins S i) s (m + 1) = lw dst val f0 (ins S i) s m := by
        have : ¬ (ins S i m = true ∧ dst m = some s) := by
          rintro ⟨h1, h2⟩
          have := hk m (by omega) (by omega) h2
          simp [ins, this, hm] at h1
        simp only [lw, if_neg this]
      rw [e]
      exact ih (by omega) fun k h1 h2 => hk k h1 (by omega)

/-- The frame when S is taken. -/
def SF (dst : Nat → Option Nat) (val : Nat → V) (fr : List V) (N : Nat) (S : Nat → Bool) : List V := (List.range fr.length).map fun s => lw dst val (fr.getD s .unk) S s N

theorem SF_getD {fr : List V} {N : Nat} (s : Nat) : (SF dst val fr N S).getD s .unk = if s < fr.length then lw dst val (fr.getD s .unk) S s N else .unk := by
  unfold SF
  by_cases h : s < fr.length
  · simp [h]
  · simp [h]

theorem SF_length {fr : List V} {N : Nat} : (SF dst val fr N S).length = fr.length := by simp [SF]

theorem getD_ext {x y : List V} (hl : x.length = y.length) (h : ∀ s, s < x.length → x.getD s .unk = y.getD s .unk) : x = y := by
  apply List.ext_getElem hl
  intro s h1 h2
  have := h s h1
  simpa [List.getD, h1, h2] using this

theorem put_length (d : Option Nat) (v : V) (fr : List V) : (put d v fr).length = fr.length := by cases d <;> simp [put]

theorem put_getD (d : Option Nat) (v : V) (fr : List V) (s : Nat) (hs : s < fr.length) : (put d v fr).getD s .unk = if d = some s then v else fr.getD s .unk := by
  cases d with
  | none => simp [put]
  | some d =>
    by_cases h : d = s
    · subst h; simp [put, hs]
    · simp [put, h]
end
end Go.AM
