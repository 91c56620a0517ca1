/-
  Slices made, rows of slices, slices of the call's own.
-/
import Derived.Test.YtmnlagcmpgilaaaAmQ
set_option linter.all false
namespace Go.AM
def makeV (H : Heap) (zero : List V) (sz bytes : Nat) (a b : V) : Option (V × Heap) :=
  match a, b with
  | .s (.int _ l), .s (.int _ c) => if 0 ≤ l ∧ l ≤ c ∧ c * bytes ≤ 2 ^ 47 then some (.sl H.length 0 0 l.toNat sz, H ++ [.cells 0 (List.replicate l.toNat zero).flatten]) else none
  | _, _ => none
theorem op_mkSl (call : CallF) (base : Nat) (fr : List V) (H : Heap) (zero : List V) (sz bytes : Nat) (x y : Opd) : evOp call base fr H (.mkSl zero sz bytes x y) = makeV H zero sz bytes (ev fr x) (ev fr y) := rfl
theorem make_n {H : Heap} {zero : List V} {sz bytes : Nat} {k k' : IntKind} {n : Nat} (h : n * bytes ≤ 2 ^ 47) : makeV H zero sz bytes (.s (.int k n)) (.s (.int k' n)) = some (.sl H.length 0 0 n sz, H ++ [.cells 0 (List.replicate n zero).flatten]) := by
  have h1 : (n : Int) * (bytes : Int) ≤ 2 ^ 47 := by exact_mod_cast h
  have h2 : (0 : Int) ≤ n ∧ (n : Int) ≤ n ∧ (n : Int) * (bytes : Int) ≤ 2 ^ 47 := ⟨by omega, by omega, h1⟩
  simp only [makeV, h2, and_self, if_true, Int.toNat_natCast]
theorem xsub_mkFn (H : Heap) (f : Nat) (a b : List Opd) (vs : List V) : xSub H (.mkFn f a b) (some vs) = some (.fn f (a.map (ev vs)) (b.map (ev vs))) := rfl
theorem trim_le {m : Nat} {fr : List V} {H : Heap} (h : m ≤ H.length) : m ≤ (trim m fr H).length := by
  rcases trim_or m fr H with e | ⟨e, _⟩ <;> rw [e]
  · exact h
  · rw [List.length_take]; omega
theorem flat_one (n : Nat) (x : V) : (List.replicate n [x]).flatten = List.replicate n x := by
  induction n with
  | zero => rfl
  | succ n ih => simp [List.replicate_succ, ih]

/-! ### What is left behind a turn of a loop -/
theorem trim_or' (m : Nat) (fr : List V) (H : Heap) : trim m fr H = H ∨ (trim m fr H = H.take m ∧ (∀ v ∈ fr, idsUnder m 8 v = true) ∧ ∀ id g c, id < m → getC H id g = some c → ∀ i h o n z, V.sl i h o n z ∈ c → i < m) := by
  unfold trim
  split
  · rename_i h
    simp only [Bool.and_eq_true, List.all_eq_true] at h
    refine .inr ⟨rfl, h.1, ?_⟩
    intro id g c hid hc i h' o n z hx
    unfold getC at hc
    split at hc
    · rename_i g' c' hh
      split at hc
      · cases hc
        have hm : Ob.cells g' c ∈ H.take m := by
          have : (H.take m)[id]? = some (Ob.cells g' c) := by rw [List.getElem?_take_of_lt hid]; exact hh
          exact List.mem_of_getElem? this
        have := h.2 _ hm
        simp only [Ob.under, List.all_eq_true] at this
        have := this _ hx
        simpa [idsUnder] using this
      · cases hc
    · cases hc
  · exact .inl rfl
theorem trim_get {m : Nat} {fr : List V} {H : Heap} {id g : Nat} {c : List V} (hc : getC H id g = some c) (hid : id < m) : getC (trim m fr H) id g = some c := by
  rcases trim_or' m fr H with e | ⟨e, _⟩ <;> rw [e]
  · exact hc
  · unfold getC at hc ⊢
    rw [List.getElem?_take_of_lt hid]; exact hc

/-! ### Slices of the call's own -/
def OwnN (m : Nat) (H : Heap) (v : V) (l : List V) : Prop := (l = [] ∧ (v = nilS ∨ v = .esl)) ∨ ∃ id g c, v = .sl id g 0 l.length 1 ∧ getC H id g = some c ∧ l.length ≤ c.length ∧ c.take l.length = l ∧ m ≤ id
theorem OwnN.rd {m : Nat} {H : Heap} {v : V} {l : List V} (h : OwnN m H v l) : Rd H v l := by
  rcases h with ⟨rfl, rfl | rfl⟩ | ⟨id, g, c, rfl, hc, hl, ht, _⟩
  · exact Rd.nil H
  · exact Rd.esl H
  · have := Rd.sl hc (off := 0) (n := l.length) (by omega)
    rwa [List.drop_zero, ht] at this
theorem OwnN.wide {m : Nat} {H : Heap} {v : V} {l : List V} (h : OwnN m H v l) : Wide1 v := by
  rcases h with ⟨_, rfl | rfl⟩ | ⟨_, _, _, rfl, _⟩ <;> trivial
theorem OwnN.one {m : Nat} {H : Heap} {v : V} {l : List V} (h : OwnN m H v l) : v.one = true := h.rd.one
theorem OwnN.mono {m k : Nat} {H : Heap} {v : V} {l : List V} (h : OwnN m H v l) (hk : k ≤ m) : OwnN k H v l := by
  rcases h with h | ⟨id, g, c, h1, h2, h3, h4, h5⟩
  · exact .inl h
  · exact .inr ⟨id, g, c, h1, h2, h3, h4, by omega⟩
theorem OwnN.ext {m : Nat} {H H' : Heap} {v : V} {l : List V} (h : OwnN m H v l) (k : Ext H H') : OwnN m H' v l := by
  rcases h with h | ⟨id, g, c, h1, h2, h3, h4, h5⟩
  · exact .inl h
  · exact .inr ⟨id, g, c, h1, getC_ext h2 k, h3, h4, h5⟩
theorem getC_other {H : Heap} {id id' g : Nat} {ob : Ob} (h : id ≠ id') : getC (H.set id' ob) id g = getC H id g := by
  simp only [getC, List.getElem?_set_ne (Ne.symm h)]
theorem OwnN.set {m : Nat} {H : Heap} {v : V} {l : List V} (h : OwnN m H v l) {id : Nat} (hid : id < m) (ob : Ob) : OwnN m (H.set id ob) v l := by
  rcases h with h | ⟨i, g, c, h1, h2, h3, h4, h5⟩
  · exact .inl h
  · exact .inr ⟨i, g, c, h1, by rw [getC_other (by omega)]; exact h2, h3, h4, h5⟩
/-- a row of a slice that stands below -/
theorem OwnN.trim {m L : Nat} {H : Heap} {v : V} {l : List V} (h : OwnN m H v l) {id g : Nat} {c : List V} (hc : getC H id g = some c) (hid : id < L) (hv : v ∈ c) (fr : List V) : OwnN m (trim L fr H) v l := by
  rcases h with h | ⟨i, g', c', rfl, h2, h3, h4, h5⟩
  · exact .inl h
  · refine .inr ⟨i, g', c', rfl, ?_, h3, h4, h5⟩
    rcases trim_or' L fr H with e | ⟨e, _, hu⟩
    · rw [e]; exact h2
    · exact trim_get h2 (hu _ _ _ hid hc _ _ _ _ _ hv)
theorem getC_sl {H : Heap} {id g : Nat} {c : List V} (h : getC H id g = some c) : Rd H (.sl id g 0 c.length 1) c := by
  have := Rd.sl h (off := 0) (n := c.length) (by omega)
  rwa [List.drop_zero, List.take_length] at this
theorem getC_put {H : Heap} {id g : Nat} {c c' : List V} (h : getC H id g = some c) : getC (H.set id (.cells g c')) id g = some c' := getC_set h _

theorem at_sl {H : Heap} {id g n j : Nat} {c : List V} {w : V} (hc : getC H id g = some c) (hj : j < n) (hw : c[j]? = some w) : xIndexAddr 1 (.sl id g 0 n 1) (.s (.int .i64 j)) = some (.ref id g j) ∧ xLoad H false 1 (.ref id g j) = some w := by
  have h1 : (0 : Int) ≤ j ∧ (j : Int) < n ∧ 1 = 1 := ⟨by omega, by omega, rfl⟩
  have hl := (List.getElem?_eq_some_iff.1 hw).1
  refine ⟨by simp only [xi_sl, h1, and_self, if_true, Int.toNat_natCast, Nat.mul_one, Nat.zero_add], ?_⟩
  have ht : (c.drop j).take 1 = [w] := by
    rw [List.drop_eq_getElem_cons hl, List.take_succ_cons, List.take_zero]
    rw [List.getElem?_eq_getElem hl] at hw
    cases hw; rfl
  simp only [xo_ref, hc, ht, List.length_singleton, if_true, shut_one]
/-! ### Slices of slices -/
def RdRows (H : Heap) (v : V) (R : List (List V)) : Prop := ∃ vs, Rd H v vs ∧ Wide1 v ∧ vs.length = R.length ∧ ∀ (i : Nat) (r : List V), R[i]? = some r → ∃ x, vs[i]? = some x ∧ Rd H x r ∧ Wide1 x
theorem RdRows.ext {H H' : Heap} {v : V} {R : List (List V)} (h : RdRows H v R) (k : Ext H H') : RdRows H' v R := by
  obtain ⟨vs, h1, h2, h3, h4⟩ := h
  refine ⟨vs, h1.ext k, h2, h3, fun i r hr => ?_⟩
  obtain ⟨x, q1, q2, q3⟩ := h4 i r hr
  exact ⟨x, q1, q2.ext k, q3⟩
theorem RdRows.len {H : Heap} {v : V} {R : List (List V)} (h : RdRows H v R) : xLen H .s v = some (.s (.int .i64 R.length)) := by
  obtain ⟨vs, h1, _, h3, _⟩ := h
  rw [h1.len, h3]
theorem RdRows.at {H : Heap} {v : V} {R : List (List V)} (h : RdRows H v R) {i : Nat} {r : List V} (hr : R[i]? = some r) : ∃ a x, xIndexAddr 1 v (.s (.int .i64 i)) = some a ∧ xLoad H false 1 a = some x ∧ Rd H x r ∧ Wide1 x := by
  obtain ⟨vs, h1, h2, _, h4⟩ := h
  obtain ⟨x, q1, q2, q3⟩ := h4 i r hr
  obtain ⟨a, e1, e2⟩ := h1.at' h2 q1
  exact ⟨a, x, e1, e2, q2, q3⟩
/-- A slice of slices of the call's own. -/
def OwnRows (m : Nat) (H : Heap) (v : V) (R : List (List V)) : Prop := ∃ id g vs, v = .sl id g 0 R.length 1 ∧ getC H id g = some vs ∧ m ≤ id ∧ vs.length = R.length ∧ ∀ (i : Nat) (r : List V), R[i]? = some r → ∃ x, vs[i]? = some x ∧ OwnN (id + 1) H x r
theorem OwnRows.rd {m : Nat} {H : Heap} {v : V} {R : List (List V)} (h : OwnRows m H v R) : RdRows H v R := by
  obtain ⟨id, g, vs, rfl, h2, _, h4, h5⟩ := h
  refine ⟨vs, by rw [← h4]; exact getC_sl h2, trivial, h4, fun i r hr => ?_⟩
  obtain ⟨x, q1, q2⟩ := h5 i r hr
  exact ⟨x, q1, q2.rd, q2.wide⟩
theorem OwnRows.ext {m : Nat} {H H' : Heap} {v : V} {R : List (List V)} (h : OwnRows m H v R) (k : Ext H H') : OwnRows m H' v R := by
  obtain ⟨id, g, vs, h1, h2, h3, h4, h5⟩ := h
  refine ⟨id, g, vs, h1, getC_ext h2 k, h3, h4, fun i r hr => ?_⟩
  obtain ⟨x, q1, q2⟩ := h5 i r hr
  exact ⟨x, q1, q2.ext k⟩
end Go.AM
