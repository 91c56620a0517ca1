/-
  A slice of slices to which is appended row by row.
-/
import Derived.Test.YtmnlagcmpgilaaaAmM
set_option linter.all false
namespace Go.AM
def Bag (m : Nat) (H : Heap) (vs : List V) (R : List (List V)) : Prop :=
  vs.length = R.length ∧ (∀ (j : Nat) (r : List V), R[j]? = some r → ∃ x, vs[j]? = some x ∧ ((r = [] ∧ x = nilS) ∨ ∃ id g, x = .sl id g 0 r.length 1 ∧ getC H id g = some r ∧ m ≤ id)) ∧
  ∀ (j k id g n id' g' n' : Nat), j ≠ k → vs[j]? = some (.sl id g 0 n 1) → vs[k]? = some (.sl id' g' 0 n' 1) → id ≠ id'
theorem Bag.start (m : Nat) (H : Heap) (n : Nat) : Bag m H (List.replicate n nilS) (List.replicate n []) := by
  refine ⟨by simp, fun j r hr => ?_, fun j k id g n id' g' n' _ h => ?_⟩
  · rw [List.getElem?_replicate] at hr
    split at hr
    · rename_i hj
      cases hr
      exact ⟨nilS, by rw [List.getElem?_replicate, if_pos hj], .inl ⟨rfl, rfl⟩⟩
    · cases hr
  · rw [List.getElem?_replicate] at h
    split at h
    · cases h
    · cases h
theorem Bag.get {m : Nat} {H : Heap} {vs : List V} {R : List (List V)} (h : Bag m H vs R) {j : Nat} {r : List V} (hr : R[j]? = some r) : ∃ x, vs[j]? = some x ∧ Rd H x r ∧ Wide1 x := by
  obtain ⟨x, h1, h2⟩ := h.2.1 j r hr
  refine ⟨x, h1, ?_⟩
  rcases h2 with ⟨rfl, rfl⟩ | ⟨id, g, rfl, hc, _⟩
  · exact ⟨Rd.nil H, trivial⟩
  · exact ⟨getC_sl hc, trivial⟩
theorem Bag.rows {m : Nat} {H : Heap} {vs : List V} {R : List (List V)} (h : Bag m H vs R) {o g : Nat} (hc : getC H o g = some vs) : RdRows H (.sl o g 0 R.length 1) R := by
  refine ⟨vs, by rw [← h.1]; exact getC_sl hc, trivial, h.1, fun i r hr => h.get hr⟩
theorem Bag.keep {m : Nat} {H H' : Heap} {vs : List V} {R : List (List V)} (h : Bag m H vs R) (hk : ∀ id g n c, V.sl id g 0 n 1 ∈ vs → m ≤ id → getC H id g = some c → getC H' id g = some c) : Bag m H' vs R := by
  refine ⟨h.1, fun j r hr => ?_, h.2.2⟩
  obtain ⟨x, h1, h2⟩ := h.2.1 j r hr
  refine ⟨x, h1, ?_⟩
  rcases h2 with h2 | ⟨id, g, rfl, hc, hm⟩
  · exact .inl h2
  · exact .inr ⟨id, g, rfl, hk id g _ _ (List.mem_of_getElem? h1) hm hc, hm⟩
theorem Bag.trim {m L o : Nat} {H : Heap} {vs : List V} {R : List (List V)} (h : Bag m H vs R) (hc : getC H o 0 = some vs) (ho : o < L) (fr : List V) : Bag m (trim L fr H) vs R := by
  refine h.keep fun id g n c hv hm hg => ?_
  rcases trim_or' L fr H with e | ⟨_, _, hu⟩
  · rw [e]; exact hg
  · exact trim_get hg (hu _ _ _ ho hc _ _ _ _ _ hv)
theorem Bag.ext {m : Nat} {H H' : Heap} {vs : List V} {R : List (List V)} (h : Bag m H vs R) (k : Ext H H') : Bag m H' vs R := h.keep fun _ _ _ _ _ _ hg => getC_ext hg k
theorem Ext.set_both {A H : Heap} (h : Ext A H) {o : Nat} (ho : o < A.length) (ob : Ob) : Ext (A.set o ob) (H.set o ob) :=
  Ext.of_get (by rw [List.length_set, List.length_set]; exact h.le) fun i hi => by
    rw [List.length_set] at hi
    by_cases he : o = i
    · subst he
      rw [List.getElem?_set_self ho, List.getElem?_set_self (by have := h.le; omega)]
    · rw [List.getElem?_set_ne he, List.getElem?_set_ne he, h.get hi]
/-- 'out[k] = append(out[k], x)' -/
theorem Bag.append {m o base bytes k : Nat} {H : Heap} {vs : List V} {R : List (List V)} {r : List V} {x : V} (h : Bag m H vs R) (hc : getC H o 0 = some vs) (ho : o < m) (hb : base ≤ m) (hm : m ≤ H.length) (hr : R[k]? = some r) (hx : x.one = true) (hs : (r.length + 1) * bytes ≤ 2 ^ 47) :
    ∃ w v' H', vs[k]? = some w ∧ appendV (H ++ [.cells 0 [x]]) base 1 bytes w (.sl H.length 0 0 1 1) = some (v', H') ∧ v'.one = true ∧ getC H' o 0 = some vs ∧ H.length ≤ H'.length ∧
      Bag m (H'.set o (.cells 0 (vs.set k v'))) (vs.set k v') (R.set k (r ++ [x])) ∧ ∀ H0, H0.length ≤ m → Ext H0 H → Ext H0 H' := by
  obtain ⟨w, hw, hwr⟩ := h.2.1 k r hr
  have hkl : k < vs.length := (List.getElem?_eq_some_iff.1 hw).1
  have hx' : [x].all V.one = true := by simp [hx]
  have hol := getC_lt hc
  have fin : ∀ (id g : Nat) (H' : Heap), (∀ j g' n, j ≠ k → vs[j]? ≠ some (.sl id g' 0 n 1)) → m ≤ id → getC H' id g = some (r ++ [x]) → (∀ i, i ≠ id → i < H.length → H'[i]? = H[i]?) →
      Bag m (H'.set o (.cells 0 (vs.set k (.sl id g 0 (r.length + 1) 1)))) (vs.set k (.sl id g 0 (r.length + 1) 1)) (R.set k (r ++ [x])) := by
    intro id g H' hne hid hg hsame
    refine ⟨by rw [List.length_set, List.length_set]; exact h.1, fun j r' hr' => ?_, fun i j a b c a' b' c' hij hi hj => ?_⟩
    · by_cases hjk : k = j
      · subst hjk
        rw [List.getElem?_set_self (by rw [← h.1]; exact hkl)] at hr'
        cases hr'
        refine ⟨_, List.getElem?_set_self hkl, .inr ⟨id, g, by simp, ?_, hid⟩⟩
        rw [getC_other (by omega)]; exact hg
      · rw [List.getElem?_set_ne hjk] at hr'
        obtain ⟨y, h1, h2⟩ := h.2.1 j r' hr'
        refine ⟨y, by rw [List.getElem?_set_ne hjk]; exact h1, ?_⟩
        rcases h2 with h2 | ⟨id2, g2, rfl, hc2, hm2⟩
        · exact .inl h2
        · refine .inr ⟨id2, g2, rfl, ?_, hm2⟩
          have hd : id2 ≠ id := by
            intro e
            subst e
            exact hne j _ _ (Ne.symm hjk) h1
          rw [getC_other (by omega)]
          have := getC_lt hc2
          rw [← hc2]
          simp only [getC, hsame id2 hd this]
    · by_cases hik : k = i
      · subst hik
        rw [List.getElem?_set_self hkl] at hi
        rw [List.getElem?_set_ne hij] at hj
        cases hi
        intro e
        subst e
        exact hne j _ _ (Ne.symm hij) hj
      · rw [List.getElem?_set_ne hik] at hi
        by_cases hjk : k = j
        · subst hjk
          rw [List.getElem?_set_self hkl] at hj
          cases hj
          intro e
          subst e
          exact hne i _ _ hij hi
        · rw [List.getElem?_set_ne hjk] at hj
          exact h.2.2 i j a b c a' b' c' hij hi hj
  rcases hwr with ⟨rfl, rfl⟩ | ⟨id, g, rfl, hg, hid⟩
  · have hs' : 1 * bytes ≤ 2 ^ 47 := by simpa using hs
    refine ⟨nilS, .sl (H.length + 1) 0 0 1 1, H ++ [.cells 0 [x]] ++ [.cells 0 [x]], hw, ?_, rfl, getC_app (getC_app hc), by simp, ?_, fun H0 _ he => he.trans ⟨[.cells 0 [x], .cells 0 [x]], by simp⟩⟩
    · simp only [appendV, elems_new, hx', if_true, nilS, Nat.one_ne_zero, if_false, hs', List.length_append, List.length_cons, List.length_nil]
    · refine fin (H.length + 1) 0 _ (fun j g' n hj e => ?_) (by omega) ?_ (fun i _ hi => by simp [List.getElem?_append_left hi])
      · cases hR : R[j]? with
        | none =>
          have h1 := (List.getElem?_eq_some_iff.1 e).1
          have h2 := List.getElem?_eq_none_iff.1 hR
          rw [h.1] at h1
          omega
        | some r' =>
          obtain ⟨y, h1, h2⟩ := h.2.1 j r' hR
          rw [e] at h1
          cases h1
          rcases h2 with ⟨_, h2⟩ | ⟨id2, g2, h2, hc2, _⟩
          · cases h2
          · cases h2
            have := getC_lt hc2
            omega
      · have := getC_new (H ++ [Ob.cells 0 [x]]) 0 [x]
        simpa using this
  · have hlt := getC_lt hg
    have hg' := getC_app hg (G := [Ob.cells 0 [x]])
    have hbi : base ≤ id := by omega
    have hne : id ≠ o := by omega
    refine ⟨_, .sl id (g + 1) 0 (r.length + 1) 1, (H ++ [Ob.cells 0 [x]]).set id (.cells (g + 1) (r ++ [x])), hw, ?_, rfl, ?_, by simp, ?_, fun H0 h0 he => (he.trans (Ext.app _ _)).set (by omega) _⟩
    · have h2 : 0 + r.length ≤ r.length := by omega
      simp only [appendV, elems_new, hx', if_true, true_and, hbi, hg', h2, Nat.one_ne_zero, if_false, hs, List.drop_zero, Nat.mul_one, List.take_length]
    · rw [getC_other (Ne.symm hne)]; exact getC_app hc
    · refine fin id (g + 1) _ (fun j g' n hj e => ?_) hid (getC_set hg' _) (fun i hi hl => by rw [List.getElem?_set_ne (Ne.symm hi), List.getElem?_append_left hl])
      exact h.2.2 j k _ _ _ _ _ _ hj e hw rfl
theorem OwnRows.set {m : Nat} {H : Heap} {v : V} {R : List (List V)} (h : OwnRows m H v R) {o : Nat} (ho : o < m) (ob : Ob) : OwnRows m (H.set o ob) v R := by
  obtain ⟨id, g, vs, h1, h2, h3, h4, h5⟩ := h
  refine ⟨id, g, vs, h1, by rw [getC_other (by omega)]; exact h2, h3, h4, fun i r hr => ?_⟩
  obtain ⟨x, q1, q2⟩ := h5 i r hr
  exact ⟨x, q1, q2.set (by omega) _⟩
/-! ### Parts of slices -/
theorem Rd.slice {H : Heap} {v : V} {l : List V} (h : Rd H v l) (hw : Wide1 v) {lo hi : Option V} {a b : Nat} (hlo : bndV 0 lo = some (a : Int)) (hhi : bndV l.length hi = some (b : Int)) (hab : a ≤ b) (hb : b ≤ l.length) :
    ∃ w, xSlice 1 v lo hi = some w ∧ Rd H w ((l.drop a).take (b - a)) ∧ Wide1 w := by
  have i1 : (0 : Int) ≤ a := by omega
  have i2 : (a : Int) ≤ b := by omega
  have i3 : ((b : Int) - (a : Int)).toNat = b - a := by omega
  rcases h.cases with ⟨rfl, hv⟩ | ⟨es, rfl, rfl, he⟩ | ⟨id, g, off, n, c, rfl, hc, rfl, hn⟩
  · have ha : a = 0 := by simp at hb; omega
    have hb0 : b = 0 := by simpa using hb
    subst ha hb0
    rcases hv with rfl | rfl
    · refine ⟨nilS, ?_, Rd.nil H, trivial⟩
      simp only [List.length_nil] at hhi
      simp only [xslice_nil, hlo, hhi, cutNil_some, cast0, and_self, if_true]
    · refine ⟨.esl, ?_, Rd.esl H, trivial⟩
      simp only [List.length_nil] at hhi
      simp only [xslice_esl, hlo, hhi, cutNil_some, cast0, and_self, if_true]
  · have h1 : ∀ e ∈ es, e.length = 1 := hw
    have hmap : ∀ es : List (List V), (∀ e ∈ es, e.length = 1) → es = es.flatten.map fun x => [x] := by
      intro es
      induction es with
      | nil => intro _; rfl
      | cons e es ih =>
        intro h
        have he := h e List.mem_cons_self
        match e, he with
        | [y], _ =>
          show [y] :: es = (y :: es.flatten).map _
          rw [List.map_cons, ← ih fun e he => h e (List.mem_cons_of_mem _ he)]
    have hm := hmap es h1
    refine ⟨.psl ((es.drop a).take (b - a)) 1, ?_, ?_, fun e he => h1 e (List.mem_of_mem_drop (List.mem_of_mem_take he))⟩
    · rw [← he] at hhi
      have i4 : (b : Int) ≤ es.length := by omega
      simp only [xslice_psl, hlo, hhi, cutPsl_some, i1, i2, i3, i4, and_self, if_true, Int.toNat_natCast]
    · have := Rd.psl H ((es.flatten.drop a).take (b - a))
      rw [List.map_take, List.map_drop, ← hm] at this
      exact this
  · refine ⟨.sl id g (off + a) (b - a) 1, ?_, ?_, trivial⟩
    · rw [← hn] at hhi
      have i4 : (b : Int) ≤ n := by omega
      simp only [xslice_sl, hlo, hhi, cutSl_some, i1, i2, i3, i4, and_self, if_true, Int.toNat_natCast, Nat.mul_one]
    · by_cases hn0 : n = 0
      · subst hn0
        have hb0 : b = 0 := by simpa using hb
        have ha0 : a = 0 := by omega
        subst hb0 ha0
        simpa using h
      have hl : off + b ≤ c.length := by
        simp at hb hn
        omega
      have := Rd.sl hc (off := off + a) (n := b - a) (by omega)
      rw [List.drop_take, List.take_take, List.drop_drop, Nat.min_eq_left (by omega)]
      exact this
theorem bnd_lo0 : bndV 0 none = some ((0 : Nat) : Int) := rfl
/-! ### Rows appended to a slice of slices -/
def AccR (H0 H : Heap) (v : V) (R : List (List V)) : Prop := ∃ vs, Acc H0 H v vs ∧ vs.length = R.length ∧ ∀ (j : Nat) (r : List V), R[j]? = some r → ∃ x, vs[j]? = some x ∧ OwnN H0.length H x r ∧ ∀ id g n id' g' n', v = .sl id g 0 n 1 → x = .sl id' g' 0 n' 1 → id ≠ id'
theorem AccR.start (H : Heap) : AccR H H nilS [] := ⟨[], Acc.start H, rfl, fun j r h => by simp at h⟩
theorem AccR.ext0 {H0 H : Heap} {v : V} {R : List (List V)} (h : AccR H0 H v R) : Ext H0 H := by obtain ⟨vs, h, _⟩ := h; exact h.1
theorem AccR.rows {H0 H : Heap} {v : V} {R : List (List V)} (h : AccR H0 H v R) : RdRows H v R := by
  obtain ⟨vs, h1, h2, h3⟩ := h
  refine ⟨vs, h1.rd, h1.wide, h2, fun j r hr => ?_⟩
  obtain ⟨x, q1, q2, _⟩ := h3 j r hr
  exact ⟨x, q1, q2.rd, q2.wide⟩
theorem AccR.ext {H0 H H' : Heap} {v : V} {R : List (List V)} (h : AccR H0 H v R) (k : Ext H H') : AccR H0 H' v R := by
  obtain ⟨vs, h1, h2, h3⟩ := h
  refine ⟨vs, ⟨h1.1.trans k, ?_⟩, h2, fun j r hr => ?_⟩
  · rcases h1.2 with h | ⟨id, g, a, b, c⟩
    · exact .inl h
    · exact .inr ⟨id, g, a, getC_ext b k, c⟩
  · obtain ⟨x, q1, q2, q3⟩ := h3 j r hr
    exact ⟨x, q1, q2.ext k, q3⟩
theorem AccR.trim {H0 H : Heap} {v : V} {R : List (List V)} (h : AccR H0 H v R) {m : Nat} (hm : H0.length ≤ m) {fr : List V} (hv : v ∈ fr) : AccR H0 (trim m fr H) v R := by
  obtain ⟨vs, h1, h2, h3⟩ := h
  refine ⟨vs, h1.trim hm hv, h2, fun j r hr => ?_⟩
  obtain ⟨x, q1, q2, q3⟩ := h3 j r hr
  refine ⟨x, q1, ?_, q3⟩
  rcases h1.2 with ⟨rfl, _⟩ | ⟨id, g, rfl, hc, hid⟩
  · simp at q1
  · rcases trim_or m fr H with e | ⟨e, hu⟩
    · rw [e]; exact q2
    · have := hu _ hv
      simp only [idsUnder, decide_eq_true_eq] at this
      exact q2.trim hc this (List.mem_of_getElem? q1) fr
/-- 'append(v, x)', x a row -/
theorem AccR.append {H0 H : Heap} {v : V} {R : List (List V)} (h : AccR H0 H v R) {base bytes : Nat} (hb : base ≤ H0.length) {x : V} {r : List V} (hx : OwnN H0.length H x r) (hxv : ∀ id g n id' g' n', v = .sl id g 0 n 1 → x = .sl id' g' 0 n' 1 → id ≠ id') (hs : (R.length + 1) * bytes ≤ 2 ^ 47) :
    ∃ v' H', appendV (H ++ [.cells 0 [x]]) base 1 bytes v (.sl H.length 0 0 1 1) = some (v', H') ∧ AccR H0 H' v' (R ++ [r]) ∧ v'.one = true := by
  obtain ⟨vs, h1, h2, h3⟩ := h
  have hx1 := hx.one
  have hx' : [x].all V.one = true := by simp [hx1]
  have rows : ∀ (v' : V) (H' : Heap), (∀ y q, (y = x ∨ y ∈ vs) → OwnN H0.length H y q → (∀ id g n id' g' n', v = .sl id g 0 n 1 → y = .sl id' g' 0 n' 1 → id ≠ id') → OwnN H0.length H' y q ∧ ∀ id g n id' g' n', v' = .sl id g 0 n 1 → y = .sl id' g' 0 n' 1 → id ≠ id') →
      ∀ (j : Nat) (q : List V), (R ++ [r])[j]? = some q → ∃ y, (vs ++ [x])[j]? = some y ∧ OwnN H0.length H' y q ∧ ∀ id g n id' g' n', v' = .sl id g 0 n 1 → y = .sl id' g' 0 n' 1 → id ≠ id' := by
    intro v' H' hk j q hq
    by_cases hj : j < R.length
    · rw [List.getElem?_append_left hj] at hq
      obtain ⟨y, q1, q2, q3⟩ := h3 j q hq
      exact ⟨y, by rw [List.getElem?_append_left (by omega)]; exact q1, hk y q (.inr (List.mem_of_getElem? q1)) q2 q3⟩
    · rw [List.getElem?_append_right (by omega)] at hq
      have hj0 : j - R.length = 0 := by
        have := (List.getElem?_eq_some_iff.1 hq).1
        simp at this
        omega
      rw [hj0] at hq
      cases hq
      refine ⟨x, by rw [List.getElem?_append_right (by omega), h2, hj0]; rfl, hk x _ (.inl rfl) hx hxv⟩
  rcases h1.2 with ⟨rfl, rfl⟩ | ⟨id, g, rfl, hc, hid⟩
  · have hR : R.length = 0 := by rw [← h2]; rfl
    have hs' : 1 * bytes ≤ 2 ^ 47 := by rw [hR] at hs; simpa using hs
    refine ⟨.sl (H.length + 1) 0 0 1 1, H ++ [.cells 0 [x]] ++ [.cells 0 [x]], ?_, ⟨[x], ⟨h1.1.trans ⟨[.cells 0 [x], .cells 0 [x]], by simp⟩, .inr ⟨H.length + 1, 0, rfl, ?_, ?_⟩⟩, by simp [hR], rows _ _ fun y q hy hyo hyv => ⟨hyo.ext ⟨[.cells 0 [x], .cells 0 [x]], by simp⟩, ?_⟩⟩, rfl⟩
    · simp only [appendV, elems_new, hx', if_true, nilS, Nat.one_ne_zero, if_false, hs', List.length_append, List.length_cons, List.length_nil]
    · have := getC_new (H ++ [.cells 0 [x]]) 0 [x]
      simpa using this
    · have := h1.1.le; omega
    · intro a b c a' b' c' e1 e2
      cases e1
      rcases hyo with ⟨_, rfl | rfl⟩ | ⟨i, g, cc, rfl, hcc, _⟩
      · cases e2
      · cases e2
      · cases e2
        have := getC_lt hcc
        omega
  · have hlt := getC_lt hc
    have hc' := getC_app hc (G := [Ob.cells 0 [x]])
    have hbi : base ≤ id := by omega
    refine ⟨.sl id (g + 1) 0 (vs.length + 1) 1, (H ++ [Ob.cells 0 [x]]).set id (.cells (g + 1) (vs ++ [x])), ?_, ⟨vs ++ [x], ⟨(h1.1.trans (Ext.app _ _)).set hid _, .inr ⟨id, g + 1, by simp, getC_set hc' _, hid⟩⟩, by simp [h2], rows _ _ fun y q hy hyo hyv => ⟨?_, ?_⟩⟩, rfl⟩
    · have e2 : 0 + vs.length ≤ vs.length := by omega
      rw [← h2] at hs
      simp only [appendV, elems_new, hx', if_true, true_and, hbi, hc', e2, Nat.one_ne_zero, if_false, hs, List.drop_zero, Nat.mul_one, List.take_length]
    · rcases hyo with hyo | ⟨i, g', cc, rfl, hcc, p1, p2, p3⟩
      · exact .inl hyo
      · refine .inr ⟨i, g', cc, rfl, ?_, p1, p2, p3⟩
        have : id ≠ i := hyv _ _ _ _ _ _ rfl rfl
        rw [getC_other (Ne.symm this)]
        exact getC_app hcc
    · intro a b c a' b' c' e1 e2
      cases e1
      exact hyv _ _ _ _ _ _ rfl e2
theorem AccR.lt {H0 H : Heap} {v : V} {R : List (List V)} (h : AccR H0 H v R) {id g n : Nat} (hv : v = .sl id g 0 n 1) : id < H.length := by
  obtain ⟨vs, h1, _⟩ := h
  rcases h1.2 with ⟨_, e⟩ | ⟨i, g', e, hc, _⟩
  · rw [hv] at e; cases e
  · rw [hv] at e; cases e; exact getC_lt hc
theorem OwnN.apart {m : Nat} {H : Heap} {v x : V} {l : List V} (h : OwnN m H x l) (hv : ∀ id g n, v = .sl id g 0 n 1 → id < m) : ∀ id g n id' g' n', v = .sl id g 0 n 1 → x = .sl id' g' 0 n' 1 → id ≠ id' := by
  intro id g n id' g' n' e1 e2
  have h1 := hv id g n e1
  rcases h with ⟨_, e | e⟩ | ⟨i, gg, c, e, _, _, _, hi⟩
  · rw [e] at e2; cases e2
  · rw [e] at e2; cases e2
  · rw [e] at e2; cases e2; omega
theorem OwnN.trim_fr {m L : Nat} {H : Heap} {x : V} {l : List V} (h : OwnN m H x l) {fr : List V} (hx : x ∈ fr) : OwnN m (Go.AM.trim L fr H) x l := by
  rcases h with h | ⟨i, g, c, rfl, h2, h3, h4, h5⟩
  · exact .inl h
  · refine .inr ⟨i, g, c, rfl, ?_, h3, h4, h5⟩
    rcases trim_or L fr H with e | ⟨e, hu⟩
    · rw [e]; exact h2
    · have := hu _ hx
      simp only [idsUnder, decide_eq_true_eq] at this
      exact trim_get h2 this
/-! ### Looks beside an append -/
def apartO : Option (Option Nat) → Option (Option Nat) → Bool
  | some (some i), some (some j) => i != j
  | some _, some _ => true
  | _, _ => false
def apartP (x y : AOp) (fr : List V) : Bool :=
  match x.place, y.place with
  | some a, some b => apartO (x.obj (ev fr a)) (y.obj (ev fr b))
  | _, _ => false
theorem apartAt_eq (ops : List AOper) (fr : List V) (i j : Nat) : apartAt ops fr (i, j) = apartP (ops.getD i default).op (ops.getD j default).op fr := by
  simp only [apartAt, apartP]
  cases (ops.getD i default).op.place <;> cases (ops.getD j default).op.place <;> rfl
theorem apartP_load_app (g : Bool) (n : Nat) (a : Opd) (sz b : Nat) (s t : Opd) (fr : List V) : apartP (.load g n a) (.append sz b s t) fr = apartO (V.obj? (ev fr a)) (V.appObj (ev fr s)) := rfl
/-- where a read lands -/
theorem Rd.look {A H : Heap} {v : V} {l : List V} (h : Rd A v l) (k : Ext A H) (hw : Wide1 v) {i : Nat} {x : V} (hx : l[i]? = some x) : ∃ a, xIndexAddr 1 v (.s (.int .i64 i)) = some a ∧ xLoad H false 1 a = some x ∧ ∀ w, (∀ id g n, w = .sl id g 0 n 1 → A.length ≤ id) → (w = nilS ∨ ∃ id g n, w = .sl id g 0 n 1) → apartO (V.obj? a) (V.appObj w) = true := by
  obtain ⟨a, h1, h2⟩ := (h.ext k).at' hw hx
  refine ⟨a, h1, h2, fun w hw1 hw2 => ?_⟩
  have hi := (List.getElem?_eq_some_iff.1 hx).1
  rcases h.cases with ⟨rfl, _⟩ | ⟨es, rfl, _⟩ | ⟨id, g, off, n, c, rfl, hc, _⟩
  · simp at hi
  · simp only [xi_psl] at h1
    split at h1
    · rw [Option.map_eq_some_iff] at h1
      obtain ⟨q, _, rfl⟩ := h1
      rcases hw2 with rfl | ⟨id, g, n, rfl⟩ <;> rfl
    · cases h1
  · simp only [xi_sl] at h1
    split at h1
    · cases h1
      have hlt := getC_lt hc
      rcases hw2 with rfl | ⟨id', g', n', rfl⟩
      · rfl
      · have := hw1 _ _ _ rfl
        simp only [V.obj?, V.appObj, apartO, bne_iff_ne]
        omega
    · cases h1
theorem Bag.own {m : Nat} {H : Heap} {vs : List V} {R : List (List V)} (h : Bag m H vs R) {j : Nat} {w : V} (hw : vs[j]? = some w) : (∀ id g n, w = .sl id g 0 n 1 → m ≤ id) ∧ (w = nilS ∨ ∃ id g n, w = .sl id g 0 n 1) := by
  have hj := (List.getElem?_eq_some_iff.1 hw).1
  have hR : j < R.length := by rw [← h.1]; exact hj
  obtain ⟨x, h1, h2⟩ := h.2.1 j R[j] (List.getElem?_eq_getElem hR)
  rw [hw] at h1
  cases h1
  rcases h2 with ⟨_, rfl⟩ | ⟨id, g, rfl, _, hm⟩
  · exact ⟨fun _ _ _ e => (by cases e), .inl rfl⟩
  · exact ⟨fun _ _ _ e => (by cases e; exact hm), .inr ⟨_, _, _, rfl⟩⟩
end Go.AM
