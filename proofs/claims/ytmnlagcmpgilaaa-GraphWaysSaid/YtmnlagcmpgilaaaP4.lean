/- Texts of the proof: AmN, GraphF6, GraphF7, GraphF8, GraphF9, GraphF10, GraphF11, GraphF12, GraphF13, GraphF14, AmO, GraphF15, GraphR, GraphF16, GraphF17, GraphF18, GraphF19, GraphF20, GraphF21, GraphF22, GraphP1, GraphP2, GraphB1, GraphD, GraphD2, GraphD3, GraphB2, GraphE, GraphQ, GraphQ2, GraphQ3, GraphW1, GraphW2, GraphW3, GraphW4, GraphW5. -/
import Derived.Test.YtmnlagcmpgilaaaP0
import Derived.Test.YtmnlagcmpgilaaaP1
import Derived.Test.YtmnlagcmpgilaaaP2
import Derived.Test.YtmnlagcmpgilaaaP3
set_option linter.all false
namespace Go.AM
def Bag (m : Nat) (H : Heap) (vs : List V) (R : List (List V)) : Prop :=
  vs.length = R.length ∧ (∀ (j : Nat) (r : List V), R[j]? = some r → ∃ x, vs[j]? = some x ∧ ((r = [] ∧ x = nilS) ∨ ∃ id g, x = .sl id g 0 r.length 1 ∧ getC H id g = some r ∧ m ≤ id)) ∧
  ∀ (j k id g n id' g' n' : Nat), j ≠ k → vs[j]? = some (.sl id g 0 n 1) → vs[k]? = some (.sl id' g' 0 n' 1) → id ≠ id'
theorem Bag.start (m : Nat) (H : Heap) (n : Nat) : Bag m H (List.replicate n nilS) (List.replicate n []) := by
  refine ⟨by simp, fun j r hr => ?_, fun j k id g n id' g' n' _ h => ?_⟩
  · rw [List.getElem?_replicate] at hr
    split at hr
    · rename_i hj
      cases hr
      exact ⟨nilS, by rw [List.getElem?_replicate, if_pos hj], .inl ⟨rfl, rfl⟩⟩
    · cases hr
  · rw [List.getElem?_replicate] at h
    split at h
    · cases h
    · cases h
theorem Bag.get {m : Nat} {H : Heap} {vs : List V} {R : List (List V)} (h : Bag m H vs R) {j : Nat} {r : List V} (hr : R[j]? = some r) : ∃ x, vs[j]? = some x ∧ Rd H x r ∧ Wide1 x := by
  obtain ⟨x, h1, h2⟩ := h.2.1 j r hr
  refine ⟨x, h1, ?_⟩
  rcases h2 with ⟨rfl, rfl⟩ | ⟨id, g, rfl, hc, _⟩
  · exact ⟨Rd.nil H, trivial⟩
  · exact ⟨getC_sl hc, trivial⟩
theorem Bag.rows {m : Nat} {H : Heap} {vs : List V} {R : List (List V)} (h : Bag m H vs R) {o g : Nat} (hc : getC H o g = some vs) : RdRows H (.sl o g 0 R.length 1) R := by
  refine ⟨vs, by rw [← h.1]; exact getC_sl hc, trivial, h.1, fun i r hr => h.get hr⟩
theorem Bag.keep {m : Nat} {H H' : Heap} {vs : List V} {R : List (List V)} (h : Bag m H vs R) (hk : ∀ id g n c, V.sl id g 0 n 1 ∈ vs → m ≤ id → getC H id g = some c → getC H' id g = some c) : Bag m H' vs R := by
  refine ⟨h.1, fun j r hr => ?_, h.2.2⟩
  obtain ⟨x, h1, h2⟩ := h.2.1 j r hr
  refine ⟨x, h1, ?_⟩
  rcases h2 with h2 | ⟨id, g, rfl, hc, hm⟩
  · exact .inl h2
  · exact .inr ⟨id, g, rfl, hk id g _ _ (List.mem_of_getElem? h1) hm hc, hm⟩
theorem Bag.trim {m L o : Nat} {H : Heap} {vs : List V} {R : List (List V)} (h : Bag m H vs R) (hc : getC H o 0 = some vs) (ho : o < L) (fr : List V) : Bag m (trim L fr H) vs R := by
  refine h.keep fun id g n c hv hm hg => ?_
  rcases trim_or' L fr H with e | ⟨_, _, hu⟩
  · rw [e]; exact hg
  · exact trim_get hg (hu _ _ _ ho hc _ _ _ _ _ hv)
theorem Bag.ext {m : Nat} {H H' : Heap} {vs : List V} {R : List (List V)} (h : Bag m H vs R) (k : Ext H H') : Bag m H' vs R := h.keep fun _ _ _ _ _ _ hg => getC_ext hg k
theorem Bag.append {m o base bytes k : Nat} {H : Heap} {vs : List V} {R : List (List V)} {r : List V} {x : V} (h : Bag m H vs R) (hc : getC H o 0 = some vs) (ho : o < m) (hb : base ≤ m) (hm : m ≤ H.length) (hr : R[k]? = some r) (hx : x.one = true) (hs : (r.length + 1) * bytes ≤ 2 ^ 47) :
    ∃ w v' H', vs[k]? = some w ∧ appendV (H ++ [.cells 0 [x]]) base 1 bytes w (.sl H.length 0 0 1 1) = some (v', H') ∧ v'.one = true ∧ getC H' o 0 = some vs ∧ H.length ≤ H'.length ∧
      Bag m (H'.set o (.cells 0 (vs.set k v'))) (vs.set k v') (R.set k (r ++ [x])) ∧ ∀ H0, H0.length ≤ m → Ext H0 H → Ext H0 H' := by
  obtain ⟨w, hw, hwr⟩ := h.2.1 k r hr
  have hkl : k < vs.length := (List.getElem?_eq_some_iff.1 hw).1
  have hx' : [x].all V.one = true := by simp [hx]
  have hol := getC_lt hc
  have fin : ∀ (id g : Nat) (H' : Heap), (∀ j g' n, j ≠ k → vs[j]? ≠ some (.sl id g' 0 n 1)) → m ≤ id → getC H' id g = some (r ++ [x]) → (∀ i, i ≠ id → i < H.length → H'[i]? = H[i]?) →
      Bag m (H'.set o (.cells 0 (vs.set k (.sl id g 0 (r.length + 1) 1)))) (vs.set k (.sl id g 0 (r.length + 1) 1)) (R.set k (r ++ [x])) := by
    intro id g H' hne hid hg hsame
    refine ⟨by rw [List.length_set, List.length_set]; exact h.1, fun j r' hr' => ?_, fun i j a b c a' b' c' hij hi hj => ?_⟩
    · by_cases hjk : k = j
      · subst hjk
        rw [List.getElem?_set_self (by rw [← h.1]; exact hkl)] at hr'
        cases hr'
        refine ⟨_, List.getElem?_set_self hkl, .inr ⟨id, g, by simp, ?_, hid⟩⟩
        rw [getC_other (by omega)]; exact hg
      · rw [List.getElem?_set_ne hjk] at hr'
        obtain ⟨y, h1, h2⟩ := h.2.1 j r' hr'
        refine ⟨y, by rw [List.getElem?_set_ne hjk]; exact h1, ?_⟩
        rcases h2 with h2 | ⟨id2, g2, rfl, hc2, hm2⟩
        · exact .inl h2
        · refine .inr ⟨id2, g2, rfl, ?_, hm2⟩
          have hd : id2 ≠ id := by
            intro e
            subst e
            exact hne j _ _ (Ne.symm hjk) h1
          rw [getC_other (by omega)]
          have := getC_lt hc2
          rw [← hc2]
          simp only [getC, hsame id2 hd this]
    · by_cases hik : k = i
      · subst hik
        rw [List.getElem?_set_self hkl] at hi
        rw [List.getElem?_set_ne hij] at hj
        cases hi
        intro e
        subst e
        exact hne j _ _ (Ne.symm hij) hj
      · rw [List.getElem?_set_ne hik] at hi
        by_cases hjk : k = j
        · subst hjk
          rw [List.getElem?_set_self hkl] at hj
          cases hj
          intro e
          subst e
          exact hne i _ _ hij hi
        · rw [List.getElem?_set_ne hjk] at hj
          exact h.2.2 i j a b c a' b' c' hij hi hj
  rcases hwr with ⟨rfl, rfl⟩ | ⟨id, g, rfl, hg, hid⟩
  · have hs' : 1 * bytes ≤ 2 ^ 47 := by simpa using hs
    refine ⟨nilS, .sl (H.length + 1) 0 0 1 1, H ++ [.cells 0 [x]] ++ [.cells 0 [x]], hw, ?_, rfl, getC_app (getC_app hc), by simp, ?_, fun H0 _ he => he.trans ⟨[.cells 0 [x], .cells 0 [x]], by simp⟩⟩
    · simp only [appendV, elems_new, hx', if_true, nilS, Nat.one_ne_zero, if_false, hs', List.length_append, List.length_cons, List.length_nil]
    · refine fin (H.length + 1) 0 _ (fun j g' n hj e => ?_) (by omega) ?_ (fun i _ hi => by simp [List.getElem?_append_left hi])
      · cases hR : R[j]? with
        | none =>
          have h1 := (List.getElem?_eq_some_iff.1 e).1
          have h2 := List.getElem?_eq_none_iff.1 hR
          rw [h.1] at h1
          omega
        | some r' =>
          obtain ⟨y, h1, h2⟩ := h.2.1 j r' hR
          rw [e] at h1
          cases h1
          rcases h2 with ⟨_, h2⟩ | ⟨id2, g2, h2, hc2, _⟩
          · cases h2
          · cases h2
            have := getC_lt hc2
            omega
      · have := getC_new (H ++ [Ob.cells 0 [x]]) 0 [x]
        simpa using this
  · have hlt := getC_lt hg
    have hg' := getC_app hg (G := [Ob.cells 0 [x]])
    have hbi : base ≤ id := by omega
    have hne : id ≠ o := by omega
    refine ⟨_, .sl id (g + 1) 0 (r.length + 1) 1, (H ++ [Ob.cells 0 [x]]).set id (.cells (g + 1) (r ++ [x])), hw, ?_, rfl, ?_, by simp, ?_, fun H0 h0 he => (he.trans (Ext.app _ _)).set (by omega) _⟩
    · have h2 : 0 + r.length ≤ r.length := by omega
      simp only [appendV, elems_new, hx', if_true, true_and, hbi, hg', h2, Nat.one_ne_zero, if_false, hs, List.drop_zero, Nat.mul_one, List.take_length]
    · rw [getC_other (Ne.symm hne)]; exact getC_app hc
    · refine fin id (g + 1) _ (fun j g' n hj e => ?_) hid (getC_set hg' _) (fun i hi hl => by rw [List.getElem?_set_ne (Ne.symm hi), List.getElem?_append_left hl])
      exact h.2.2 j k _ _ _ _ _ _ hj e hw rfl
theorem OwnRows.set {m : Nat} {H : Heap} {v : V} {R : List (List V)} (h : OwnRows m H v R) {o : Nat} (ho : o < m) (ob : Ob) : OwnRows m (H.set o ob) v R := by
  obtain ⟨id, g, vs, h1, h2, h3, h4, h5⟩ := h
  refine ⟨id, g, vs, h1, by rw [getC_other (by omega)]; exact h2, h3, h4, fun i r hr => ?_⟩
  obtain ⟨x, q1, q2⟩ := h5 i r hr
  exact ⟨x, q1, q2.set (by omega) _⟩
theorem Rd.slice {H : Heap} {v : V} {l : List V} (h : Rd H v l) (hw : Wide1 v) {lo hi : Option V} {a b : Nat} (hlo : bndV 0 lo = some (a : Int)) (hhi : bndV l.length hi = some (b : Int)) (hab : a ≤ b) (hb : b ≤ l.length) :
    ∃ w, xSlice 1 v lo hi = some w ∧ Rd H w ((l.drop a).take (b - a)) ∧ Wide1 w := by
  have i1 : (0 : Int) ≤ a := by omega
  have i2 : (a : Int) ≤ b := by omega
  have i3 : ((b : Int) - (a : Int)).toNat = b - a := by omega
  rcases h.cases with ⟨rfl, hv⟩ | ⟨es, rfl, rfl, he⟩ | ⟨id, g, off, n, c, rfl, hc, rfl, hn⟩
  · have ha : a = 0 := by simp at hb; omega
    have hb0 : b = 0 := by simpa using hb
    subst ha hb0
    rcases hv with rfl | rfl
    · refine ⟨nilS, ?_, Rd.nil H, trivial⟩
      simp only [List.length_nil] at hhi
      simp only [xslice_nil, hlo, hhi, cutNil_some, cast0, and_self, if_true]
    · refine ⟨.esl, ?_, Rd.esl H, trivial⟩
      simp only [List.length_nil] at hhi
      simp only [xslice_esl, hlo, hhi, cutNil_some, cast0, and_self, if_true]
  · have h1 : ∀ e ∈ es, e.length = 1 := hw
    have hmap : ∀ es : List (List V), (∀ e ∈ es, e.length = 1) → es = es.flatten.map fun x => [x] := by
      intro es
      induction es with
      | nil => intro _; rfl
      | cons e es ih =>
        intro h
        have he := h e List.mem_cons_self
        match e, he with
        | [y], _ =>
          show [y] :: es = (y :: es.flatten).map _
          rw [List.map_cons, ← ih fun e he => h e (List.mem_cons_of_mem _ he)]
    have hm := hmap es h1
    refine ⟨.psl ((es.drop a).take (b - a)) 1, ?_, ?_, fun e he => h1 e (List.mem_of_mem_drop (List.mem_of_mem_take he))⟩
    · rw [← he] at hhi
      have i4 : (b : Int) ≤ es.length := by omega
      simp only [xslice_psl, hlo, hhi, cutPsl_some, i1, i2, i3, i4, and_self, if_true, Int.toNat_natCast]
    · have := Rd.psl H ((es.flatten.drop a).take (b - a))
      rw [List.map_take, List.map_drop, ← hm] at this
      exact this
  · refine ⟨.sl id g (off + a) (b - a) 1, ?_, ?_, trivial⟩
    · rw [← hn] at hhi
      have i4 : (b : Int) ≤ n := by omega
      simp only [xslice_sl, hlo, hhi, cutSl_some, i1, i2, i3, i4, and_self, if_true, Int.toNat_natCast, Nat.mul_one]
    · by_cases hn0 : n = 0
      · subst hn0
        have hb0 : b = 0 := by simpa using hb
        have ha0 : a = 0 := by omega
        subst hb0 ha0
        simpa using h
      have hl : off + b ≤ c.length := by
        simp at hb hn
        omega
      have := Rd.sl hc (off := off + a) (n := b - a) (by omega)
      rw [List.drop_take, List.take_take, List.drop_drop, Nat.min_eq_left (by omega)]
      exact this
def AccR (H0 H : Heap) (v : V) (R : List (List V)) : Prop := ∃ vs, Acc H0 H v vs ∧ vs.length = R.length ∧ ∀ (j : Nat) (r : List V), R[j]? = some r → ∃ x, vs[j]? = some x ∧ OwnN H0.length H x r ∧ ∀ id g n id' g' n', v = .sl id g 0 n 1 → x = .sl id' g' 0 n' 1 → id ≠ id'
theorem AccR.start (H : Heap) : AccR H H nilS [] := ⟨[], Acc.start H, rfl, fun j r h => by simp at h⟩
theorem AccR.ext0 {H0 H : Heap} {v : V} {R : List (List V)} (h : AccR H0 H v R) : Ext H0 H := by obtain ⟨vs, h, _⟩ := h; exact h.1
theorem AccR.rows {H0 H : Heap} {v : V} {R : List (List V)} (h : AccR H0 H v R) : RdRows H v R := by
  obtain ⟨vs, h1, h2, h3⟩ := h
  refine ⟨vs, h1.rd, h1.wide, h2, fun j r hr => ?_⟩
  obtain ⟨x, q1, q2, _⟩ := h3 j r hr
  exact ⟨x, q1, q2.rd, q2.wide⟩
theorem AccR.ext {H0 H H' : Heap} {v : V} {R : List (List V)} (h : AccR H0 H v R) (k : Ext H H') : AccR H0 H' v R := by
  obtain ⟨vs, h1, h2, h3⟩ := h
  refine ⟨vs, ⟨h1.1.trans k, ?_⟩, h2, fun j r hr => ?_⟩
  · rcases h1.2 with h | ⟨id, g, a, b, c⟩
    · exact .inl h
    · exact .inr ⟨id, g, a, getC_ext b k, c⟩
  · obtain ⟨x, q1, q2, q3⟩ := h3 j r hr
    exact ⟨x, q1, q2.ext k, q3⟩
theorem AccR.trim {H0 H : Heap} {v : V} {R : List (List V)} (h : AccR H0 H v R) {m : Nat} (hm : H0.length ≤ m) {fr : List V} (hv : v ∈ fr) : AccR H0 (trim m fr H) v R := by
  obtain ⟨vs, h1, h2, h3⟩ := h
  refine ⟨vs, h1.trim hm hv, h2, fun j r hr => ?_⟩
  obtain ⟨x, q1, q2, q3⟩ := h3 j r hr
  refine ⟨x, q1, ?_, q3⟩
  rcases h1.2 with ⟨rfl, _⟩ | ⟨id, g, rfl, hc, hid⟩
  · simp at q1
  · rcases trim_or m fr H with e | ⟨e, hu⟩
    · rw [e]; exact q2
    · have := hu _ hv
      simp only [idsUnder, decide_eq_true_eq] at this
      exact q2.trim hc this (List.mem_of_getElem? q1) fr
theorem AccR.append {H0 H : Heap} {v : V} {R : List (List V)} (h : AccR H0 H v R) {base bytes : Nat} (hb : base ≤ H0.length) {x : V} {r : List V} (hx : OwnN H0.length H x r) (hxv : ∀ id g n id' g' n', v = .sl id g 0 n 1 → x = .sl id' g' 0 n' 1 → id ≠ id') (hs : (R.length + 1) * bytes ≤ 2 ^ 47) :
    ∃ v' H', appendV (H ++ [.cells 0 [x]]) base 1 bytes v (.sl H.length 0 0 1 1) = some (v', H') ∧ AccR H0 H' v' (R ++ [r]) ∧ v'.one = true := by
  obtain ⟨vs, h1, h2, h3⟩ := h
  have hx1 := hx.one
  have hx' : [x].all V.one = true := by simp [hx1]
  have rows : ∀ (v' : V) (H' : Heap), (∀ y q, (y = x ∨ y ∈ vs) → OwnN H0.length H y q → (∀ id g n id' g' n', v = .sl id g 0 n 1 → y = .sl id' g' 0 n' 1 → id ≠ id') → OwnN H0.length H' y q ∧ ∀ id g n id' g' n', v' = .sl id g 0 n 1 → y = .sl id' g' 0 n' 1 → id ≠ id') →
      ∀ (j : Nat) (q : List V), (R ++ [r])[j]? = some q → ∃ y, (vs ++ [x])[j]? = some y ∧ OwnN H0.length H' y q ∧ ∀ id g n id' g' n', v' = .sl id g 0 n 1 → y = .sl id' g' 0 n' 1 → id ≠ id' := by
    intro v' H' hk j q hq
    by_cases hj : j < R.length
    · rw [List.getElem?_append_left hj] at hq
      obtain ⟨y, q1, q2, q3⟩ := h3 j q hq
      exact ⟨y, by rw [List.getElem?_append_left (by omega)]; exact q1, hk y q (.inr (List.mem_of_getElem? q1)) q2 q3⟩
    · rw [List.getElem?_append_right (by omega)] at hq
      have hj0 : j - R.length = 0 := by
        have := (List.getElem?_eq_some_iff.1 hq).1
        simp at this
        omega
      rw [hj0] at hq
      cases hq
      refine ⟨x, by rw [List.getElem?_append_right (by omega), h2, hj0]; rfl, hk x _ (.inl rfl) hx hxv⟩
  rcases h1.2 with ⟨rfl, rfl⟩ | ⟨id, g, rfl, hc, hid⟩
  · have hR : R.length = 0 := by rw [← h2]; rfl
    have hs' : 1 * bytes ≤ 2 ^ 47 := by rw [hR] at hs; simpa using hs
    refine ⟨.sl (H.length + 1) 0 0 1 1, H ++ [.cells 0 [x]] ++ [.cells 0 [x]], ?_, ⟨[x], ⟨h1.1.trans ⟨[.cells 0 [x], .cells 0 [x]], by simp⟩, .inr ⟨H.length + 1, 0, rfl, ?_, ?_⟩⟩, by simp [hR], rows _ _ fun y q hy hyo hyv => ⟨hyo.ext ⟨[.cells 0 [x], .cells 0 [x]], by simp⟩, ?_⟩⟩, rfl⟩
    · simp only [appendV, elems_new, hx', if_true, nilS, Nat.one_ne_zero, if_false, hs', List.length_append, List.length_cons, List.length_nil]
    · have := getC_new (H ++ [.cells 0 [x]]) 0 [x]
      simpa using this
    · have := h1.1.le; omega
    · intro a b c a' b' c' e1 e2
      cases e1
      rcases hyo with ⟨_, rfl | rfl⟩ | ⟨i, g, cc, rfl, hcc, _⟩
      · cases e2
      · cases e2
      · cases e2
        have := getC_lt hcc
        omega
  · have hlt := getC_lt hc
    have hc' := getC_app hc (G := [Ob.cells 0 [x]])
    have hbi : base ≤ id := by omega
    refine ⟨.sl id (g + 1) 0 (vs.length + 1) 1, (H ++ [Ob.cells 0 [x]]).set id (.cells (g + 1) (vs ++ [x])), ?_, ⟨vs ++ [x], ⟨(h1.1.trans (Ext.app _ _)).set hid _, .inr ⟨id, g + 1, by simp, getC_set hc' _, hid⟩⟩, by simp [h2], rows _ _ fun y q hy hyo hyv => ⟨?_, ?_⟩⟩, rfl⟩
    · have e2 : 0 + vs.length ≤ vs.length := by omega
      rw [← h2] at hs
      simp only [appendV, elems_new, hx', if_true, true_and, hbi, hc', e2, Nat.one_ne_zero, if_false, hs, List.drop_zero, Nat.mul_one, List.take_length]
    · rcases hyo with hyo | ⟨i, g', cc, rfl, hcc, p1, p2, p3⟩
      · exact .inl hyo
      · refine .inr ⟨i, g', cc, rfl, ?_, p1, p2, p3⟩
        have : id ≠ i := hyv _ _ _ _ _ _ rfl rfl
        rw [getC_other (Ne.symm this)]
        exact getC_app hcc
    · intro a b c a' b' c' e1 e2
      cases e1
      exact hyv _ _ _ _ _ _ rfl e2
theorem AccR.lt {H0 H : Heap} {v : V} {R : List (List V)} (h : AccR H0 H v R) {id g n : Nat} (hv : v = .sl id g 0 n 1) : id < H.length := by
  obtain ⟨vs, h1, _⟩ := h
  rcases h1.2 with ⟨_, e⟩ | ⟨i, g', e, hc, _⟩
  · rw [hv] at e; cases e
  · rw [hv] at e; cases e; exact getC_lt hc
theorem OwnN.apart {m : Nat} {H : Heap} {v x : V} {l : List V} (h : OwnN m H x l) (hv : ∀ id g n, v = .sl id g 0 n 1 → id < m) : ∀ id g n id' g' n', v = .sl id g 0 n 1 → x = .sl id' g' 0 n' 1 → id ≠ id' := by
  intro id g n id' g' n' e1 e2
  have h1 := hv id g n e1
  rcases h with ⟨_, e | e⟩ | ⟨i, gg, c, e, _, _, _, hi⟩
  · rw [e] at e2; cases e2
  · rw [e] at e2; cases e2
  · rw [e] at e2; cases e2; omega
theorem OwnN.trim_fr {m L : Nat} {H : Heap} {x : V} {l : List V} (h : OwnN m H x l) {fr : List V} (hx : x ∈ fr) : OwnN m (Go.AM.trim L fr H) x l := by
  rcases h with h | ⟨i, g, c, rfl, h2, h3, h4, h5⟩
  · exact .inl h
  · refine .inr ⟨i, g, c, rfl, ?_, h3, h4, h5⟩
    rcases trim_or L fr H with e | ⟨e, hu⟩
    · rw [e]; exact h2
    · have := hu _ hx
      simp only [idsUnder, decide_eq_true_eq] at this
      exact trim_get h2 this
def apartO : Option (Option Nat) → Option (Option Nat) → Bool
  | some (some i), some (some j) => i != j
  | some _, some _ => true
  | _, _ => false
theorem Rd.look {A H : Heap} {v : V} {l : List V} (h : Rd A v l) (k : Ext A H) (hw : Wide1 v) {i : Nat} {x : V} (hx : l[i]? = some x) : ∃ a, xIndexAddr 1 v (.s (.int .i64 i)) = some a ∧ xLoad H false 1 a = some x ∧ ∀ w, (∀ id g n, w = .sl id g 0 n 1 → A.length ≤ id) → (w = nilS ∨ ∃ id g n, w = .sl id g 0 n 1) → apartO (V.obj? a) (V.appObj w) = true := by
  obtain ⟨a, h1, h2⟩ := (h.ext k).at' hw hx
  refine ⟨a, h1, h2, fun w hw1 hw2 => ?_⟩
  have hi := (List.getElem?_eq_some_iff.1 hx).1
  rcases h.cases with ⟨rfl, _⟩ | ⟨es, rfl, _⟩ | ⟨id, g, off, n, c, rfl, hc, _⟩
  · simp at hi
  · simp only [xi_psl] at h1
    split at h1
    · rw [Option.map_eq_some_iff] at h1
      obtain ⟨q, _, rfl⟩ := h1
      rcases hw2 with rfl | ⟨id, g, n, rfl⟩ <;> rfl
    · cases h1
  · simp only [xi_sl] at h1
    split at h1
    · cases h1
      have hlt := getC_lt hc
      rcases hw2 with rfl | ⟨id', g', n', rfl⟩
      · rfl
      · have := hw1 _ _ _ rfl
        simp only [V.obj?, V.appObj, apartO, bne_iff_ne]
        omega
    · cases h1
theorem Bag.own {m : Nat} {H : Heap} {vs : List V} {R : List (List V)} (h : Bag m H vs R) {j : Nat} {w : V} (hw : vs[j]? = some w) : (∀ id g n, w = .sl id g 0 n 1 → m ≤ id) ∧ (w = nilS ∨ ∃ id g n, w = .sl id g 0 n 1) := by
  have hj := (List.getElem?_eq_some_iff.1 hw).1
  have hR : j < R.length := by rw [← h.1]; exact hj
  obtain ⟨x, h1, h2⟩ := h.2.1 j R[j] (List.getElem?_eq_getElem hR)
  rw [hw] at h1
  cases h1
  rcases h2 with ⟨_, rfl⟩ | ⟨id, g, rfl, _, hm⟩
  · exact ⟨fun _ _ _ e => (by cases e), .inl rfl⟩
  · exact ⟨fun _ _ _ e => (by cases e; exact hm), .inr ⟨_, _, _, rfl⟩⟩
end Go.AM
set_option maxRecDepth 100000
namespace Go.Proofs.Ytmnlagcmpgilaaa
open Go.AM
def sumLen : List (List Int) → Nat
  | [] => 0
  | r :: N => r.length + sumLen N
end Go.Proofs.Ytmnlagcmpgilaaa
set_option maxRecDepth 100000
namespace Go.Proofs.Ytmnlagcmpgilaaa
open Go.AM
structure CG (CT : Nat → Option CFun) : Prop where
  norm : CT k_graph_Norm = some (.code s_graph_Norm)
  norm1 : CT k_graph_Norm_1 = some (.code s_graph_Norm_1)
  clone : CT k_slices_Clone_int_int = some (.code s_slices_Clone_int_int)
  del : CT k_slices_DeleteFunc_int_int = some (.code s_slices_DeleteFunc_int_int)
  idx : CT k_slices_IndexFunc_int_int = some (.code s_slices_IndexFunc_int_int)
  sort : CT k_slices_Sort_int_int = some (.prim sortG)
  comp : CT k_slices_Compact_int_int = some (.code s_slices_Compact_int_int)
  back : CT k_graph_Back = some (.code s_graph_Back)
theorem chg_mem : ∀ (r : List Int) (p x : Int), x ∈ chg p r → x ∈ r := by
  intro r
  induction r with
  | nil => intro p x h; exact h
  | cons y r ih =>
    intro p x h
    simp only [chg] at h
    split at h
    · exact List.mem_cons_of_mem _ (ih _ _ h)
    · rcases List.mem_cons.1 h with rfl | h
      · exact List.mem_cons_self
      · exact List.mem_cons_of_mem _ (ih _ _ h)
theorem compactZ_mem {r : List Int} {x : Int} (h : x ∈ compactZ r) : x ∈ r := by
  cases r with
  | nil => exact h
  | cons y r =>
    rcases List.mem_cons.1 h with rfl | h
    · exact List.mem_cons_self
    · exact List.mem_cons_of_mem _ (chg_mem _ _ _ h)
theorem compactZ_len (r : List Int) : (compactZ r).length ≤ r.length := by
  cases r with
  | nil => exact Nat.le_refl _
  | cons y r => have := chg_len r y; simp only [compactZ, List.length_cons]; omega
theorem normR_in {n : Nat} {r : List Int} {x : Int} (h : x ∈ normR n r) : 0 ≤ x ∧ x < n := by
  have := compactZ_mem h
  rw [sortZ, List.mem_mergeSort, List.mem_filter] at this
  have := this.2
  simp only [outR, ge_iff_le, Bool.not_or, Bool.and_eq_true, Bool.not_eq_true', decide_eq_false_iff_not, Int.not_lt, Int.not_le] at this
  exact this
theorem normR_len (n : Int) (r : List Int) : (normR n r).length ≤ r.length := by
  refine Nat.le_trans (compactZ_len _) ?_
  rw [sortZ, List.length_mergeSort]
  exact List.length_filter_le _ _
theorem normG_len (G : List (List Int)) : (normG G).length = G.length := by simp [normG]
theorem normG_in {G : List (List Int)} {r : List Int} (h : r ∈ normG G) {x : Int} (hx : x ∈ r) : 0 ≤ x ∧ x < G.length := by
  obtain ⟨g, _, rfl⟩ := List.mem_map.1 h
  exact normR_in hx
theorem normG_small {G : List (List Int)} {b : Nat} (hG : ∀ r ∈ G, r.length < b) : ∀ r ∈ normG G, r.length < b := by
  intro r hr
  obtain ⟨g, hg, rfl⟩ := List.mem_map.1 hr
  exact Nat.lt_of_le_of_lt (normR_len _ _) (hG g hg)
theorem norm_f {CT : Nat → Option CFun} (h : CG CT) (base : Nat) (H : Heap) (v : V) (G : List (List Int)) (hv : RdRows H v (rowsV G)) (hb : base ≤ H.length) (hn : G.length < 2 ^ 40) (hr : ∀ r ∈ G, r.length < 2 ^ 40) :
    ∃ v' H', callW CT (.fn k_graph_Norm [] []) [v] base H = some (v', H') ∧ Ext H H' ∧ OwnRows H.length H' v' (rowsV (normG G)) := norm_fun h.norm h.clone h.del h.idx h.sort h.comp h.norm1 base H v G hv hb hn hr
end Go.Proofs.Ytmnlagcmpgilaaa
set_option maxRecDepth 100000
namespace Go.Proofs.Ytmnlagcmpgilaaa
open Go.AM
theorem drop_cons {α : Type} {l r : List α} {x : α} {k : Nat} (h : l.drop k = x :: r) : l[k]? = some x ∧ k < l.length ∧ l.drop (k + 1) = r := by
  have hx : l[k]? = some x := by have := congrArg (·[0]?) h; simp only [List.getElem?_drop] at this; exact this
  exact ⟨hx, (List.getElem?_eq_some_iff.1 hx).1, by rw [← List.drop_drop, h]; rfl⟩
theorem drop_nil {α : Type} {l : List α} {k : Nat} (h : l.drop k = []) (hk : k ≤ l.length) : k = l.length := by
  have := congrArg List.length h
  simp at this
  omega
theorem iV_at {H : Heap} {v : V} {l : List Int} (h : Rd H v (l.map iV)) (hw : Wide1 v) {k : Nat} {x : Int} (hx : l[k]? = some x) : ∃ a, xIndexAddr 1 v (.s (.int .i64 k)) = some a ∧ xLoad H false 1 a = some (.s (.int .i64 x)) := h.at' hw (by rw [List.getElem?_map, hx]; rfl)
theorem iV_len {H : Heap} {v : V} {l : List Int} (h : Rd H v (l.map iV)) : xLen H .s v = some (.s (.int .i64 l.length)) := by have := h.len; rwa [List.length_map] at this
theorem has_loop (call : CallF) (base : Nat) (H : Heap) (v : V) (l : List Int) (y : Int) (hv : Rd H v (l.map iV)) (hw : Wide1 v) (hn : l.length < 2 ^ 62) : ∀ (r : List Int) (k : Nat), l.drop k = r → k ≤ l.length →
    itW (evC call itW base s_gnomonref01_Has_l0) [] H.length (frOf 18 [(0, v), (1, .s (.int .i64 y)), (5, .s (.int .i64 k))]) H =
      bif r.contains y then some (.ret, frOf 18 [(4, .s (.bool true))], H) else some (.ext 0, frOf 18 [(0, v), (1, .s (.int .i64 y)), (5, .s (.int .i64 l.length)), (9, .s (.bool false))], H) := by
  intro r
  induction r with
  | nil =>
    intro k hd hk
    obtain rfl := drop_nil hd hk
    rw [itW_step]
    simp only [a_gnomonref01_Has,s_gnomonref01_Has_l0_b, am0,am1,am2,am3,am4,am5,am6,am7,bl,i64,reduceIte,reduceCtorEq,Nat.reduceEqDiff,Nat.reduceLT,Nat.reduceLeDiff,Nat.reduceBEq,Nat.reduceAdd,fillA,splice,Nat.reduceMul,al0,al1,al2,al3,al4,al5,al6,al7,al8,al9,al10,al11,al12,al13,al14,al15,al16,al17,al18,al19,al20,al21,al22,al23,al24,al25,al26,al27,al28,al29,al30,al31,al32,al33,al34, iV_len hv, Int.lt_irrefl, trim_same rfl, List.contains_nil]
  | cons x r ih =>
    intro k hd hk
    obtain ⟨hx, hlt, hd'⟩ := drop_cons hd
    obtain ⟨a, ha1, ha2⟩ := iV_at hv hw hx
    have hlt' : (k : Int) < (l.length : Int) := by omega
    have hwk := wrap_pos (n := k) (by omega)
    rw [itW_step]
    cases hxy : x == y with
    | true =>
      have : (x :: r).contains y = true := by rw [List.contains_cons, beq_iff_eq.1 hxy]; simp
      simp only [a_gnomonref01_Has,s_gnomonref01_Has_l0_b, am0,am1,am2,am3,am4,am5,am6,am7,bl,i64,reduceIte,reduceCtorEq,Nat.reduceEqDiff,Nat.reduceLT,Nat.reduceLeDiff,Nat.reduceBEq,Nat.reduceAdd,fillA,splice,Nat.reduceMul,al0,al1,al2,al3,al4,al5,al6,al7,al8,al9,al10,al11,al12,al13,al14,al15,al16,al17,al18,al19,al20,al21,al22,al23,al24,al25,al26,al27,al28,al29,al30,al31,al32,al33,al34, iV_len hv, hlt', ha1, ha2, hxy, trim_same rfl, this]
    | false =>
      have : (x :: r).contains y = r.contains y := by
        have : (y == x) = false := by rw [beq_eq_false_iff_ne] at hxy ⊢; exact fun e => hxy e.symm
        rw [List.contains_cons, this, Bool.false_or]
      simp only [a_gnomonref01_Has,s_gnomonref01_Has_l0_b, am0,am1,am2,am3,am4,am5,am6,am7,bl,i64,reduceIte,reduceCtorEq,Nat.reduceEqDiff,Nat.reduceLT,Nat.reduceLeDiff,Nat.reduceBEq,Nat.reduceAdd,fillA,splice,Nat.reduceMul,al0,al1,al2,al3,al4,al5,al6,al7,al8,al9,al10,al11,al12,al13,al14,al15,al16,al17,al18,al19,al20,al21,al22,al23,al24,al25,al26,al27,al28,al29,al30,al31,al32,al33,al34, iV_len hv, hlt', ha1, ha2, hxy, hwk, trim_same rfl, this]
      exact ih (k + 1) hd' (by omega)
theorem has_fun {CT : Nat → Option CFun} (hT : CT k_gnomonref01_Has = some (.code s_gnomonref01_Has)) (base : Nat) (H : Heap) (v : V) (l : List Int) (y : Int) (hv : Rd H v (l.map iV)) (hw : Wide1 v) (hn : l.length < 2 ^ 62) :
    callW CT (.fn k_gnomonref01_Has [] []) [v, .s (.int .i64 y)] base H = some (.s (.bool (l.contains y)), H) := by
  refine callW_fn (c := s_gnomonref01_Has) hT (by simp [s_gnomonref01_Has]) ?_
  have hl := has_loop (callW CT) base H v l y hv hw hn l 0 rfl (Nat.zero_le _)
  rw [cast0] at hl
  simp only [s_gnomonref01_Has, a_gnomonref01_Has,s_gnomonref01_Has_l0_b, am0,am1,am2,am3,am4,am5,am6,am7,bl,i64,reduceIte,reduceCtorEq,Nat.reduceEqDiff,Nat.reduceLT,Nat.reduceLeDiff,Nat.reduceBEq,Nat.reduceAdd,fillA,splice,Nat.reduceMul,al0,al1,al2,al3,al4,al5,al6,al7,al8,al9,al10,al11,al12,al13,al14,al15,al16,al17,al18,al19,al20,al21,al22,al23,al24,al25,al26,al27,al28,al29,al30,al31,al32,al33,al34, hl]
  cases l.contains y <;> simp only [a_gnomonref01_Has,s_gnomonref01_Has_l0_b, am0,am1,am2,am3,am4,am5,am6,am7,bl,i64,reduceIte,reduceCtorEq,Nat.reduceEqDiff,Nat.reduceLT,Nat.reduceLeDiff,Nat.reduceBEq,Nat.reduceAdd,fillA,splice,Nat.reduceMul,al0,al1,al2,al3,al4,al5,al6,al7,al8,al9,al10,al11,al12,al13,al14,al15,al16,al17,al18,al19,al20,al21,al22,al23,al24,al25,al26,al27,al28,al29,al30,al31,al32,al33,al34]
theorem same_loop (call : CallF) (base : Nat) (H : Heap) (v w : V) (l l2 : List Int) (hv : Rd H v (l.map iV)) (hw : Wide1 v) (hv2 : Rd H w (l2.map iV)) (hw2 : Wide1 w) (hn : l.length < 2 ^ 62) (hll : l2.length = l.length) : ∀ (r r2 : List Int) (k : Nat), l.drop k = r → l2.drop k = r2 → k ≤ l.length →
    itW (evC call itW base s_gnomonref01_Same_l0) [] H.length (frOf 26 [(0, v), (1, w), (5, .s (.int .i64 k))]) H =
      bif r == r2 then some (.ext 0, frOf 26 [(0, v), (1, w), (5, .s (.int .i64 l.length)), (14, .s (.bool false))], H) else some (.ret, frOf 26 [(4, .s (.bool false))], H) := by
  intro r
  induction r with
  | nil =>
    intro r2 k hd hd2 hk
    obtain rfl := drop_nil hd hk
    have : r2 = [] := by rw [← hd2]; exact List.drop_of_length_le (by omega)
    subst this
    rw [itW_step]
    simp only [a_gnomonref01_Same,s_gnomonref01_Same_l0_b, am0,am1,am2,am3,am4,am5,am6,am7,bl,i64,reduceIte,reduceCtorEq,Nat.reduceEqDiff,Nat.reduceLT,Nat.reduceLeDiff,Nat.reduceBEq,Nat.reduceAdd,fillA,splice,Nat.reduceMul,al0,al1,al2,al3,al4,al5,al6,al7,al8,al9,al10,al11,al12,al13,al14,al15,al16,al17,al18,al19,al20,al21,al22,al23,al24,al25,al26,al27,al28,al29,al30,al31,al32,al33,al34, iV_len hv, Int.lt_irrefl, trim_same rfl, BEq.rfl]
  | cons x r ih =>
    intro r2 k hd hd2 hk
    obtain ⟨hx, hlt, hd'⟩ := drop_cons hd
    match r2, hd2 with
    | [], hd2 => have := drop_nil hd2 (by omega); omega
    | y :: r2, hd2 =>
      obtain ⟨hy, _, hd2'⟩ := drop_cons hd2
      obtain ⟨a, ha1, ha2⟩ := iV_at hv hw hx
      obtain ⟨b, hb1, hb2⟩ := iV_at hv2 hw2 hy
      have hlt' : (k : Int) < (l.length : Int) := by omega
      have hwk := wrap_pos (n := k) (by omega)
      have hc : ((x :: r) == (y :: r2)) = ((x == y) && (r == r2)) := rfl
      rw [itW_step, hc]
      cases hxy : x == y with
      | true =>
        have hne : (x != y) = false := by rw [bne, hxy]; rfl
        simp only [a_gnomonref01_Same,s_gnomonref01_Same_l0_b, am0,am1,am2,am3,am4,am5,am6,am7,bl,i64,reduceIte,reduceCtorEq,Nat.reduceEqDiff,Nat.reduceLT,Nat.reduceLeDiff,Nat.reduceBEq,Nat.reduceAdd,fillA,splice,Nat.reduceMul,al0,al1,al2,al3,al4,al5,al6,al7,al8,al9,al10,al11,al12,al13,al14,al15,al16,al17,al18,al19,al20,al21,al22,al23,al24,al25,al26,al27,al28,al29,al30,al31,al32,al33,al34, iV_len hv, hlt', ha1, ha2, hb1, hb2, hne, hwk, trim_same rfl]
        exact ih r2 (k + 1) hd' hd2' (by omega)
      | false =>
        have hne : (x != y) = true := by rw [bne, hxy]; rfl
        simp only [a_gnomonref01_Same,s_gnomonref01_Same_l0_b, am0,am1,am2,am3,am4,am5,am6,am7,bl,i64,reduceIte,reduceCtorEq,Nat.reduceEqDiff,Nat.reduceLT,Nat.reduceLeDiff,Nat.reduceBEq,Nat.reduceAdd,fillA,splice,Nat.reduceMul,al0,al1,al2,al3,al4,al5,al6,al7,al8,al9,al10,al11,al12,al13,al14,al15,al16,al17,al18,al19,al20,al21,al22,al23,al24,al25,al26,al27,al28,al29,al30,al31,al32,al33,al34, iV_len hv, hlt', ha1, ha2, hb1, hb2, hne, trim_same rfl]
theorem same_fun {CT : Nat → Option CFun} (hT : CT k_gnomonref01_Same = some (.code s_gnomonref01_Same)) (base : Nat) (H : Heap) (v w : V) (l l2 : List Int) (hv : Rd H v (l.map iV)) (hw : Wide1 v) (hv2 : Rd H w (l2.map iV)) (hw2 : Wide1 w) (hn : l.length < 2 ^ 62) :
    callW CT (.fn k_gnomonref01_Same [] []) [v, w] base H = some (.s (.bool (l == l2)), H) := by
  refine callW_fn (c := s_gnomonref01_Same) hT (by simp [s_gnomonref01_Same]) ?_
  by_cases hll : l.length = l2.length
  · have hl := same_loop (callW CT) base H v w l l2 hv hw hv2 hw2 hn hll.symm l l2 0 rfl rfl (Nat.zero_le _)
    rw [cast0] at hl
    have hne : (((l.length : Nat) : Int) != (l2.length : Nat)) = false := by rw [hll, bne, BEq.rfl]; rfl
    simp only [s_gnomonref01_Same, a_gnomonref01_Same,s_gnomonref01_Same_l0_b, am0,am1,am2,am3,am4,am5,am6,am7,bl,i64,reduceIte,reduceCtorEq,Nat.reduceEqDiff,Nat.reduceLT,Nat.reduceLeDiff,Nat.reduceBEq,Nat.reduceAdd,fillA,splice,Nat.reduceMul,al0,al1,al2,al3,al4,al5,al6,al7,al8,al9,al10,al11,al12,al13,al14,al15,al16,al17,al18,al19,al20,al21,al22,al23,al24,al25,al26,al27,al28,al29,al30,al31,al32,al33,al34, iV_len hv, iV_len hv2, hne, hl]
    cases l == l2 <;> simp only [a_gnomonref01_Same,s_gnomonref01_Same_l0_b, am0,am1,am2,am3,am4,am5,am6,am7,bl,i64,reduceIte,reduceCtorEq,Nat.reduceEqDiff,Nat.reduceLT,Nat.reduceLeDiff,Nat.reduceBEq,Nat.reduceAdd,fillA,splice,Nat.reduceMul,al0,al1,al2,al3,al4,al5,al6,al7,al8,al9,al10,al11,al12,al13,al14,al15,al16,al17,al18,al19,al20,al21,al22,al23,al24,al25,al26,al27,al28,al29,al30,al31,al32,al33,al34]
  · have hne : (((l.length : Nat) : Int) != (l2.length : Nat)) = true := by rw [bne_iff_ne]; omega
    have : (l == l2) = false := by rw [beq_eq_false_iff_ne]; intro e; exact hll (by rw [e])
    simp only [s_gnomonref01_Same, a_gnomonref01_Same,s_gnomonref01_Same_l0_b, am0,am1,am2,am3,am4,am5,am6,am7,bl,i64,reduceIte,reduceCtorEq,Nat.reduceEqDiff,Nat.reduceLT,Nat.reduceLeDiff,Nat.reduceBEq,Nat.reduceAdd,fillA,splice,Nat.reduceMul,al0,al1,al2,al3,al4,al5,al6,al7,al8,al9,al10,al11,al12,al13,al14,al15,al16,al17,al18,al19,al20,al21,al22,al23,al24,al25,al26,al27,al28,al29,al30,al31,al32,al33,al34, iV_len hv, iV_len hv2, hne, this]
end Go.Proofs.Ytmnlagcmpgilaaa
set_option maxRecDepth 100000
namespace Go.Proofs.Ytmnlagcmpgilaaa
open Go.AM
theorem rows_at {H : Heap} {v : V} {G : List (List Int)} (h : RdRows H v (rowsV G)) {k : Nat} {r : List Int} (hr : G[k]? = some r) : ∃ a x, xIndexAddr 1 v (.s (.int .i64 k)) = some a ∧ xLoad H false 1 a = some x ∧ Rd H x (r.map iV) ∧ Wide1 x := h.at (rowsV_get hr)
theorem rows_len {H : Heap} {v : V} {G : List (List Int)} (h : RdRows H v (rowsV G)) : xLen H .s v = some (.s (.int .i64 G.length)) := by have := h.len; rwa [rowsV_len] at this
def greatFrom : List (List Int) → Nat → Bool
  | [], n => decide (n > 3000)
  | r :: G, n => bif decide (r.length > 3000) then true else greatFrom G (n + r.length)
def greatG (G : List (List Int)) : Bool := decide (G.length > 200) || greatFrom G 0
theorem great_loop (call : CallF) (base : Nat) (H : Heap) (v : V) (G : List (List Int)) (hv : RdRows H v (rowsV G)) (hn : G.length ≤ 200) : ∀ (r : List (List Int)) (k n : Nat), G.drop k = r → k ≤ G.length → n ≤ 3000 * k →
    ∃ n' : Nat, itW (evC call itW base s_gnomonlaw07_great_l0) [] H.length (frOf 29 [(0, v), (3, .s (.int .i64 n)), (4, .s (.int .i64 k))]) H =
      some (if n' ≤ 3000000 then (.ext 0, frOf 29 [(0, v), (3, .s (.int .i64 n')), (4, .s (.int .i64 G.length)), (11, .s (.bool false))], H) else (.ret, frOf 29 [(2, .s (.bool true))], H)) ∧ greatFrom r n = decide (n' > 3000) := by
  intro r
  induction r with
  | nil =>
    intro k n hd hk hb
    obtain rfl := drop_nil hd hk
    refine ⟨n, ?_, rfl⟩
    rw [itW_step, if_pos (by omega)]
    simp only [a_gnomonlaw07_great,s_gnomonlaw07_great_l0_b, am0,am1,am2,am3,am4,am5,am6,am7,bl,i64,reduceIte,reduceCtorEq,Nat.reduceEqDiff,Nat.reduceLT,Nat.reduceLeDiff,Nat.reduceBEq,Nat.reduceAdd,fillA,splice,Nat.reduceMul,al0,al1,al2,al3,al4,al5,al6,al7,al8,al9,al10,al11,al12,al13,al14,al15,al16,al17,al18,al19,al20,al21,al22,al23,al24,al25,al26,al27,al28,al29,al30,al31,al32,al33,al34, rows_len hv, Int.lt_irrefl, trim_same rfl]
  | cons x r ih =>
    intro k n hd hk hb
    obtain ⟨hx, hlt, hd'⟩ := drop_cons hd
    obtain ⟨a, xv, ha1, ha2, ha3, ha4⟩ := rows_at hv hx
    have hlt' : (k : Int) < (G.length : Int) := by omega
    have hwk := wrap_pos (n := k) (by omega)
    by_cases hg : x.length > 3000
    · refine ⟨3000001, ?_, by simp only [greatFrom, hg, decide_true, cond_true]; decide⟩
      have hg' : ((x.length : Nat) : Int) > 3000 := by omega
      rw [itW_step, if_neg (by omega)]
      simp only [a_gnomonlaw07_great,s_gnomonlaw07_great_l0_b, am0,am1,am2,am3,am4,am5,am6,am7,bl,i64,reduceIte,reduceCtorEq,Nat.reduceEqDiff,Nat.reduceLT,Nat.reduceLeDiff,Nat.reduceBEq,Nat.reduceAdd,fillA,splice,Nat.reduceMul,al0,al1,al2,al3,al4,al5,al6,al7,al8,al9,al10,al11,al12,al13,al14,al15,al16,al17,al18,al19,al20,al21,al22,al23,al24,al25,al26,al27,al28,al29,al30,al31,al32,al33,al34, rows_len hv, hlt', ha1, ha2, iV_len ha3, hg', gt_iff_lt.1 hg', trim_same rfl]
    · obtain ⟨n', q1, q2⟩ := ih (k + 1) (n + x.length) hd' (by omega) (by omega)
      refine ⟨n', ?_, by simp only [greatFrom, hg, decide_false, cond_false]; exact q2⟩
      have hg' : ¬ (3000 : Int) < (x.length : Nat) := by omega
      have hwn : IntKind.i64.wrap ((n : Int) + (x.length : Nat)) = ((n + x.length : Nat) : Int) := by rw [IntKind.wrap_i64]; omega
      rw [itW_step]
      simp only [a_gnomonlaw07_great,s_gnomonlaw07_great_l0_b, am0,am1,am2,am3,am4,am5,am6,am7,bl,i64,reduceIte,reduceCtorEq,Nat.reduceEqDiff,Nat.reduceLT,Nat.reduceLeDiff,Nat.reduceBEq,Nat.reduceAdd,fillA,splice,Nat.reduceMul,al0,al1,al2,al3,al4,al5,al6,al7,al8,al9,al10,al11,al12,al13,al14,al15,al16,al17,al18,al19,al20,al21,al22,al23,al24,al25,al26,al27,al28,al29,al30,al31,al32,al33,al34, rows_len hv, hlt', ha1, ha2, iV_len ha3, hg', gt_iff_lt, hwn, hwk, trim_same rfl]
      exact q1
theorem great_fun {CT : Nat → Option CFun} (hT : CT k_gnomonlaw07_great = some (.code s_gnomonlaw07_great)) (base : Nat) (H : Heap) (v : V) (G : List (List Int)) (hv : RdRows H v (rowsV G)) :
    callW CT (.fn k_gnomonlaw07_great [] []) [v] base H = some (.s (.bool (greatG G)), H) := by
  refine callW_fn (c := s_gnomonlaw07_great) hT (by simp [s_gnomonlaw07_great]) ?_
  by_cases hg : G.length > 200
  · have hg' : (200 : Int) < (G.length : Nat) := by omega
    simp only [s_gnomonlaw07_great, a_gnomonlaw07_great,s_gnomonlaw07_great_l0_b, am0,am1,am2,am3,am4,am5,am6,am7,bl,i64,reduceIte,reduceCtorEq,Nat.reduceEqDiff,Nat.reduceLT,Nat.reduceLeDiff,Nat.reduceBEq,Nat.reduceAdd,fillA,splice,Nat.reduceMul,al0,al1,al2,al3,al4,al5,al6,al7,al8,al9,al10,al11,al12,al13,al14,al15,al16,al17,al18,al19,al20,al21,al22,al23,al24,al25,al26,al27,al28,al29,al30,al31,al32,al33,al34, rows_len hv, gt_iff_lt, hg', greatG, hg, decide_true, Bool.true_or]
  · have hg' : ¬ (200 : Int) < (G.length : Nat) := by omega
    obtain ⟨n, q1, q2⟩ := great_loop (callW CT) base H v G hv (by omega) G 0 0 rfl (Nat.zero_le _) (Nat.zero_le _)
    rw [cast0] at q1
    have hgG : greatG G = decide (n > 3000) := by rw [greatG, q2]; simp [hg]
    simp only [s_gnomonlaw07_great, a_gnomonlaw07_great,s_gnomonlaw07_great_l0_b, am0,am1,am2,am3,am4,am5,am6,am7,bl,i64,reduceIte,reduceCtorEq,Nat.reduceEqDiff,Nat.reduceLT,Nat.reduceLeDiff,Nat.reduceBEq,Nat.reduceAdd,fillA,splice,Nat.reduceMul,al0,al1,al2,al3,al4,al5,al6,al7,al8,al9,al10,al11,al12,al13,al14,al15,al16,al17,al18,al19,al20,al21,al22,al23,al24,al25,al26,al27,al28,al29,al30,al31,al32,al33,al34, rows_len hv, gt_iff_lt, hg', q1, hgG]
    split
    · have : decide ((3000 : Int) < (n : Int)) = decide (3000 < n) := by rw [decide_eq_decide]; omega
      simp only [a_gnomonlaw07_great,s_gnomonlaw07_great_l0_b, am0,am1,am2,am3,am4,am5,am6,am7,bl,i64,reduceIte,reduceCtorEq,Nat.reduceEqDiff,Nat.reduceLT,Nat.reduceLeDiff,Nat.reduceBEq,Nat.reduceAdd,fillA,splice,Nat.reduceMul,al0,al1,al2,al3,al4,al5,al6,al7,al8,al9,al10,al11,al12,al13,al14,al15,al16,al17,al18,al19,al20,al21,al22,al23,al24,al25,al26,al27,al28,al29,al30,al31,al32,al33,al34, gt_iff_lt, this]
    · have : decide (3000 < n) = true := by rw [decide_eq_true_eq]; omega
      simp only [a_gnomonlaw07_great,s_gnomonlaw07_great_l0_b, am0,am1,am2,am3,am4,am5,am6,am7,bl,i64,reduceIte,reduceCtorEq,Nat.reduceEqDiff,Nat.reduceLT,Nat.reduceLeDiff,Nat.reduceBEq,Nat.reduceAdd,fillA,splice,Nat.reduceMul,al0,al1,al2,al3,al4,al5,al6,al7,al8,al9,al10,al11,al12,al13,al14,al15,al16,al17,al18,al19,al20,al21,al22,al23,al24,al25,al26,al27,al28,al29,al30,al31,al32,al33,al34, this]
theorem greatFrom_small : ∀ (G : List (List Int)) (n : Nat), greatFrom G n = false → n + sumLen G ≤ 3000 ∧ ∀ r ∈ G, r.length ≤ 3000 := by
  intro G
  induction G with
  | nil => intro n h; simp [greatFrom] at h; exact ⟨by simpa [sumLen] using h, by simp⟩
  | cons r G ih =>
    intro n h
    simp only [greatFrom] at h
    by_cases hr : r.length > 3000
    · simp [hr] at h
    · simp only [hr, decide_false, cond_false] at h
      obtain ⟨h1, h2⟩ := ih _ h
      refine ⟨by simp only [sumLen]; omega, fun q hq => ?_⟩
      rcases List.mem_cons.1 hq with rfl | hq
      · omega
      · exact h2 q hq
theorem greatG_small {G : List (List Int)} (h : greatG G = false) : G.length ≤ 200 ∧ sumLen G ≤ 3000 ∧ ∀ r ∈ G, r.length ≤ 3000 := by
  simp only [greatG, Bool.or_eq_false_iff, decide_eq_false_iff_not] at h
  obtain ⟨h1, h2⟩ := greatFrom_small G 0 h.2
  exact ⟨by omega, by omega, h2⟩
end Go.Proofs.Ytmnlagcmpgilaaa
set_option maxRecDepth 100000
namespace Go.Proofs.Ytmnlagcmpgilaaa
open Go.AM
def addZ (l : List Int) (i : Int) : List Int := bif decide (i < 0) || l.contains i then l else l.takeWhile (fun x => decide (x < i)) ++ i :: l.dropWhile (fun x => decide (x < i))
theorem add_loop (call : CallF) (base : Nat) (H : Heap) (v : V) (l : List Int) (y : Int) (hv : Rd H v (l.map iV)) (hw : Wide1 v) (hn : l.length < 2 ^ 62) : ∀ (r : List Int) (k : Nat), l.drop k = r → k ≤ l.length →
    itW (evC call itW base s_gnomonref01_Add_l0) [] H.length (frOf 42 [(0, v), (1, .s (.int .i64 y)), (5, .s (.int .i64 k))]) H =
      some (.ext 0, frOf 42 [(0, v), (1, .s (.int .i64 y)), (5, .s (.int .i64 (k + (r.takeWhile fun x => decide (x < y)).length : Nat))), (26, .s (.bool false))], H) := by
  intro r
  induction r with
  | nil =>
    intro k hd hk
    obtain rfl := drop_nil hd hk
    rw [itW_step]
    simp only [a_gnomonref01_Add,s_gnomonref01_Add_l0_b, am0,am1,am2,am3,am4,am5,am6,am7,bl,i64,reduceIte,reduceCtorEq,Nat.reduceEqDiff,Nat.reduceLT,Nat.reduceLeDiff,Nat.reduceBEq,Nat.reduceAdd,fillA,splice,Nat.reduceMul,al0,al1,al2,al3,al4,al5,al6,al7,al8,al9,al10,al11,al12,al13,al14,al15,al16,al17,al18,al19,al20,al21,al22,al23,al24,al25,al26,al27,al28,al29,al30,al31,al32,al33,al34, iV_len hv, Int.lt_irrefl, trim_same rfl, List.takeWhile_nil]
  | cons x r ih =>
    intro k hd hk
    obtain ⟨hx, hlt, hd'⟩ := drop_cons hd
    obtain ⟨a, ha1, ha2⟩ := iV_at hv hw hx
    have hlt' : (k : Int) < (l.length : Int) := by omega
    have hwk := wrap_pos (n := k) (by omega)
    rw [itW_step]
    by_cases hxy : x < y
    · have h1 : (x :: r).takeWhile (fun x => decide (x < y)) = x :: r.takeWhile fun x => decide (x < y) := by rw [List.takeWhile_cons]; simp [hxy]
      have h2 : k + (r.takeWhile fun x => decide (x < y)).length + 1 = k + 1 + (r.takeWhile fun x => decide (x < y)).length := by omega
      rw [h1, List.length_cons, ← Nat.add_assoc, h2]
      simp only [a_gnomonref01_Add,s_gnomonref01_Add_l0_b, am0,am1,am2,am3,am4,am5,am6,am7,bl,i64,reduceIte,reduceCtorEq,Nat.reduceEqDiff,Nat.reduceLT,Nat.reduceLeDiff,Nat.reduceBEq,Nat.reduceAdd,fillA,splice,Nat.reduceMul,al0,al1,al2,al3,al4,al5,al6,al7,al8,al9,al10,al11,al12,al13,al14,al15,al16,al17,al18,al19,al20,al21,al22,al23,al24,al25,al26,al27,al28,al29,al30,al31,al32,al33,al34, iV_len hv, hlt', ha1, ha2, hxy, hwk, trim_same rfl]
      have := ih (k + 1) hd' (by omega)
      simpa only [am0,am1,am2,am3,am4,am5,am6,am7,bl,i64,reduceIte,reduceCtorEq,Nat.reduceEqDiff,Nat.reduceLT,Nat.reduceLeDiff,Nat.reduceBEq,Nat.reduceAdd,fillA,splice,Nat.reduceMul,al0,al1,al2,al3,al4,al5,al6,al7,al8,al9,al10,al11,al12,al13,al14,al15,al16,al17,al18,al19,al20,al21,al22,al23,al24,al25,al26,al27,al28,al29,al30,al31,al32,al33,al34] using this
    · have h1 : (x :: r).takeWhile (fun x => decide (x < y)) = [] := by rw [List.takeWhile_cons]; simp [hxy]
      rw [h1]
      simp only [a_gnomonref01_Add,s_gnomonref01_Add_l0_b, am0,am1,am2,am3,am4,am5,am6,am7,bl,i64,reduceIte,reduceCtorEq,Nat.reduceEqDiff,Nat.reduceLT,Nat.reduceLeDiff,Nat.reduceBEq,Nat.reduceAdd,fillA,splice,Nat.reduceMul,al0,al1,al2,al3,al4,al5,al6,al7,al8,al9,al10,al11,al12,al13,al14,al15,al16,al17,al18,al19,al20,al21,al22,al23,al24,al25,al26,al27,al28,al29,al30,al31,al32,al33,al34, iV_len hv, hlt', ha1, ha2, hxy, trim_same rfl]
theorem takeWhile_len (p : Int → Bool) (l : List Int) : (l.takeWhile p).length ≤ l.length ∧ l.take (l.takeWhile p).length = l.takeWhile p ∧ l.drop (l.takeWhile p).length = l.dropWhile p := by
  induction l with
  | nil => simp
  | cons x l ih =>
    rw [List.takeWhile_cons, List.dropWhile_cons]
    split
    · simp only [List.length_cons, List.take_succ_cons, List.drop_succ_cons, ih.2.1, ih.2.2, and_self, and_true]
      omega
    · simp
theorem add_fun {CT : Nat → Option CFun} (hT : CT k_gnomonref01_Add = some (.code s_gnomonref01_Add)) (hH : CT k_gnomonref01_Has = some (.code s_gnomonref01_Has)) (base : Nat) (H : Heap) (v : V) (l : List Int) (y : Int) (hv : Rd H v (l.map iV)) (hw : Wide1 v) (hb : base ≤ H.length) (hn : l.length < 2 ^ 40) :
    ∃ v' H', callW CT (.fn k_gnomonref01_Add [] []) [v, .s (.int .i64 y)] base H = some (v', H') ∧ Ext H H' ∧ ((v' = v ∧ addZ l y = l) ∨ OwnN H.length H' v' ((addZ l y).map iV)) := by
  have hhas := has_fun hH base H v l y hv hw (by omega)
  by_cases hy : y < 0
  · refine ⟨v, H, callW_fn (c := s_gnomonref01_Add) hT (by simp [s_gnomonref01_Add]) ?_, Ext.refl H, .inl ⟨rfl, by simp [addZ, hy]⟩⟩
    simp only [s_gnomonref01_Add, a_gnomonref01_Add,s_gnomonref01_Add_l0_b, am0,am1,am2,am3,am4,am5,am6,am7,bl,i64,reduceIte,reduceCtorEq,Nat.reduceEqDiff,Nat.reduceLT,Nat.reduceLeDiff,Nat.reduceBEq,Nat.reduceAdd,fillA,splice,Nat.reduceMul,al0,al1,al2,al3,al4,al5,al6,al7,al8,al9,al10,al11,al12,al13,al14,al15,al16,al17,al18,al19,al20,al21,al22,al23,al24,al25,al26,al27,al28,al29,al30,al31,al32,al33,al34, hy]
  · cases hc : l.contains y with
    | true =>
      refine ⟨v, H, callW_fn (c := s_gnomonref01_Add) hT (by simp [s_gnomonref01_Add]) ?_, Ext.refl H, .inl ⟨rfl, by simp only [addZ, hc, Bool.or_true, cond_true]⟩⟩
      rw [hc] at hhas
      simp only [s_gnomonref01_Add, a_gnomonref01_Add,s_gnomonref01_Add_l0_b, am0,am1,am2,am3,am4,am5,am6,am7,bl,i64,reduceIte,reduceCtorEq,Nat.reduceEqDiff,Nat.reduceLT,Nat.reduceLeDiff,Nat.reduceBEq,Nat.reduceAdd,fillA,splice,Nat.reduceMul,al0,al1,al2,al3,al4,al5,al6,al7,al8,al9,al10,al11,al12,al13,al14,al15,al16,al17,al18,al19,al20,al21,al22,al23,al24,al25,al26,al27,al28,al29,al30,al31,al32,al33,al34, hy, hhas]
    | false =>
      rw [hc] at hhas
      have hadd : addZ l y = l.takeWhile (fun x => decide (x < y)) ++ y :: l.dropWhile (fun x => decide (x < y)) := by simp only [addZ, hc, hy, decide_false, Bool.or_false, cond_false]
      obtain ⟨h1, h2, h3⟩ := takeWhile_len (fun x => decide (x < y)) l
      have hloop := add_loop (callW CT) base H v l y hv hw (by omega) l 0 rfl (Nat.zero_le _)
      rw [cast0, Nat.zero_add] at hloop
      rw [hadd]
      generalize hK : (l.takeWhile fun x => decide (x < y)).length = K at *
      obtain ⟨w1, e1, e2, e3⟩ := hv.slice hw (lo := none) (hi := some (.s (.int .i64 K))) (a := 0) (b := K) rfl (bndV_int _ _ _) (Nat.zero_le _) (by simpa using h1)
      rw [List.drop_zero, Nat.sub_zero, ← List.map_take, h2] at e2
      obtain ⟨w2, f1, f2, f3⟩ := hv.slice hw (lo := some (.s (.int .i64 K))) (hi := none) (a := K) (b := l.length) (bndV_int _ _ _) (by rw [bndV_none, List.length_map]) h1 (by simp)
      rw [← List.map_drop, h3, ← List.map_take, List.take_of_length_le (by rw [← h3]; simp)] at f2
      have hap := appendV_nil (base := base) (bytes := 8) e2 (ones _) (by rw [List.length_map, hK]; omega)
      rw [List.length_map, hK] at hap
      have hacc : ∃ v1 H1, appendV H base 1 8 nilS w1 = some (v1, H1) ∧ Acc H H1 v1 ((l.takeWhile fun x => decide (x < y)).map iV) := by
        rw [hap]
        split
        · rename_i h0
          have : l.takeWhile (fun x => decide (x < y)) = [] := List.eq_nil_of_length_eq_zero (by omega)
          rw [this]
          exact ⟨_, _, rfl, Acc.start H⟩
        · refine ⟨_, _, rfl, Ext.app _ _, .inr ⟨H.length, 0, by rw [List.length_map, hK], getC_new _ _ _, Nat.le_refl _⟩⟩
      obtain ⟨v1, H1, g1, g2⟩ := hacc
      obtain ⟨v2, H2, g3, g4⟩ := g2.append (base := base) (bytes := 8) hb (x := iV y) rfl (by rw [List.length_map, hK]; omega)
      rcases g4.2 with ⟨hnil, _⟩ | ⟨id, g, rfl, hc2, hid⟩
      · simp at hnil
      · obtain ⟨g', g5⟩ := append_full (bytes := 8) hc2 (by omega : base ≤ id) (f2.ext g4.1) (ones _) (by
          have : (l.dropWhile fun x => decide (x < y)).length ≤ l.length := by rw [← h3]; simp
          simp only [List.length_append, List.length_map, List.length_singleton, hK]; omega)
        refine ⟨.sl id g' 0 (((l.takeWhile fun x => decide (x < y)).map iV ++ [iV y]).length + ((l.dropWhile fun x => decide (x < y)).map iV).length) 1, H2.set id (.cells g' (((l.takeWhile fun x => decide (x < y)).map iV ++ [iV y]) ++ (l.dropWhile fun x => decide (x < y)).map iV)), callW_fn (c := s_gnomonref01_Add) hT (by simp [s_gnomonref01_Add]) ?_, g4.1.set hid _, .inr (.inr ⟨id, g', ((l.takeWhile fun x => decide (x < y)).map iV ++ [iV y]) ++ (l.dropWhile fun x => decide (x < y)).map iV, ?_, getC_set hc2 _, Nat.le_of_eq ?_, ?_, hid⟩)⟩
        · simp only [nilS, iV] at g1 g3 g5
          simp only [s_gnomonref01_Add, a_gnomonref01_Add,s_gnomonref01_Add_l0_b, am0,am1,am2,am3,am4,am5,am6,am7,bl,i64,reduceIte,reduceCtorEq,Nat.reduceEqDiff,Nat.reduceLT,Nat.reduceLeDiff,Nat.reduceBEq,Nat.reduceAdd,fillA,splice,Nat.reduceMul,al0,al1,al2,al3,al4,al5,al6,al7,al8,al9,al10,al11,al12,al13,al14,al15,al16,al17,al18,al19,al20,al21,al22,al23,al24,al25,al26,al27,al28,al29,al30,al31,al32,al33,al34, hy, hhas, hloop, e1, f1, g1, g3, g5]
          simp only [iV]
        · simp; omega
        · simp
        · rw [List.take_of_length_le (by simp)]; simp
end Go.Proofs.Ytmnlagcmpgilaaa
set_option maxRecDepth 100000
namespace Go.Proofs.Ytmnlagcmpgilaaa
open Go.AM
theorem rowsV_snoc (G : List (List Int)) (r : List Int) : rowsV (G ++ [r]) = rowsV G ++ [r.map iV] := by simp [rowsV]
theorem take_snoc {α : Type} {l : List α} {k : Nat} {x : α} (h : l[k]? = some x) : l.take (k + 1) = l.take k ++ [x] := by
  rw [List.take_succ, h]; rfl
def refR (n : Nat) (l r : List Int) : List Int := r.foldl (fun (a : List Int) (x : Int) => bif decide (x ≥ 0) && decide (x < n) then addZ a x else a) l
def refN (G : List (List Int)) : List (List Int) := G.map (refR G.length [])
theorem addZ_len (l : List Int) (y : Int) : (addZ l y).length ≤ l.length + 1 := by
  simp only [addZ]
  cases decide (y < 0) || l.contains y with
  | true => simp
  | false =>
    have := (takeWhile_len (fun x => decide (x < y)) l).2
    have h1 := congrArg List.length (List.takeWhile_append_dropWhile (p := fun x => decide (x < y)) (l := l))
    simp only [List.length_append] at h1
    simp only [cond_false, List.length_append, List.length_cons]
    omega
theorem refN_inner {CT : Nat → Option CFun} (hT : CT k_gnomonref01_Add = some (.code s_gnomonref01_Add)) (hH : CT k_gnomonref01_Has = some (.code s_gnomonref01_Has)) (base : Nat) (Hs : Heap) (v acc : V) (G : List (List Int)) (i : Nat) (r : List Int) (hv : RdRows Hs v (rowsV G)) (hi : G[i]? = some r) (hb : base ≤ Hs.length) (hr : r.length < 2 ^ 39) : ∀ (rest : List Int) (k : Nat) (H : Heap) (row : V) (l : List Int), r.drop k = rest → k ≤ r.length → Ext Hs H → OwnN Hs.length H row (l.map iV) → l.length ≤ k →
    ∃ row' H', itW (evC (callW CT) itW base s_gnomonref07_Norm_l0) [] Hs.length (frOf 56 [(0, v), (3, acc), (4, .s (.int .i64 i)), (5, row), (6, .s (.int .i64 k))]) H = some (.ext 2, frOf 56 [(0, v), (3, acc), (4, .s (.int .i64 i)), (5, row'), (6, .s (.int .i64 r.length)), (19, .s (.bool false))], H') ∧
      Ext Hs H' ∧ OwnN Hs.length H' row' ((refR G.length l rest).map iV) := by
  intro rest
  induction rest with
  | nil =>
    intro k H row l hd hk he ho hl
    obtain rfl := drop_nil hd hk
    obtain ⟨a, xv, ha1, ha2, ha3, ha4⟩ := rows_at (hv.ext he) hi
    refine ⟨row, trim Hs.length (frOf 56 [(0, v), (3, acc), (4, .s (.int .i64 i)), (5, row), (6, .s (.int .i64 r.length)), (19, .s (.bool false))]) H, ?_, he.trim (Nat.le_refl _) _, ho.trim_fr (frOf_mem (s := 5) (by omega) rfl)⟩
    rw [itW_step]
    simp only [a_gnomonref07_Norm,s_gnomonref07_Norm_l0_b,s_gnomonref07_Norm_l1_b, am0,am1,am2,am3,am4,am5,am6,am7,bl,i64,reduceIte,reduceCtorEq,Nat.reduceEqDiff,Nat.reduceLT,Nat.reduceLeDiff,Nat.reduceBEq,Nat.reduceAdd,fillA,splice,Nat.reduceMul,al0,al1,al2,al3,al4,al5,al6,al7,al8,al9,al10,al11,al12,al13,al14,al15,al16,al17,al18,al19,al20,al21,al22,al23,al24,al25,al26,al27,al28,al29,al30,al31,al32,al33,al34, ha1, ha2, iV_len ha3, Int.lt_irrefl]
  | cons x rest ih =>
    intro k H row l hd hk he ho hl
    obtain ⟨hx, hlt, hd'⟩ := drop_cons hd
    obtain ⟨a, xv, ha1, ha2, ha3, ha4⟩ := rows_at (hv.ext he) hi
    obtain ⟨b, hb1, hb2⟩ := iV_at ha3 ha4 hx
    have hlt' : (k : Int) < (r.length : Int) := by omega
    have hwk := wrap_pos (n := k) (by omega)
    have hHs := he.le
    by_cases h0 : x ≥ 0
    · by_cases hxn : x < (G.length : Int)
      · obtain ⟨row1, H1, q1, q2, q3⟩ := add_fun hT hH base H row l x ho.rd ho.wide (by omega) (by omega)
        have ho1 : OwnN Hs.length H1 row1 ((addZ l x).map iV) := by
          rcases q3 with ⟨rfl, e⟩ | q3
          · rw [e]; exact ho.ext q2
          · exact q3.mono hHs
        have hal := addZ_len l x
        obtain ⟨row', H', p1, p2, p3⟩ := ih (k + 1) (trim Hs.length (frOf 56 [(0, v), (3, acc), (4, .s (.int .i64 i)), (5, row1), (6, .s (.int .i64 ((k + 1 : Nat) : Int)))]) H1) row1 (addZ l x) hd' (by omega) ((he.trans q2).trim (Nat.le_refl _) _) (ho1.trim_fr (frOf_mem (s := 5) (by omega) rfl)) (by omega)
        refine ⟨row', H', ?_, p2, by simpa only [refR, List.foldl_cons, h0, hxn, decide_true, Bool.and_true, cond_true] using p3⟩
        rw [itW_step]
        simp only [a_gnomonref07_Norm,s_gnomonref07_Norm_l0_b,s_gnomonref07_Norm_l1_b, am0,am1,am2,am3,am4,am5,am6,am7,bl,i64,reduceIte,reduceCtorEq,Nat.reduceEqDiff,Nat.reduceLT,Nat.reduceLeDiff,Nat.reduceBEq,Nat.reduceAdd,fillA,splice,Nat.reduceMul,al0,al1,al2,al3,al4,al5,al6,al7,al8,al9,al10,al11,al12,al13,al14,al15,al16,al17,al18,al19,al20,al21,al22,al23,al24,al25,al26,al27,al28,al29,al30,al31,al32,al33,al34, ha1, ha2, iV_len ha3, hlt', hb1, hb2, ge_iff_le, ge_iff_le.1 h0, rows_len (hv.ext he), hxn, q1, hwk]
        exact p1
      · obtain ⟨row', H', p1, p2, p3⟩ := ih (k + 1) (trim Hs.length (frOf 56 [(0, v), (3, acc), (4, .s (.int .i64 i)), (5, row), (6, .s (.int .i64 ((k + 1 : Nat) : Int)))]) H) row l hd' (by omega) (he.trim (Nat.le_refl _) _) (ho.trim_fr (frOf_mem (s := 5) (by omega) rfl)) (by omega)
        refine ⟨row', H', ?_, p2, by simpa only [refR, List.foldl_cons, h0, hxn, decide_true, decide_false, Bool.and_false, cond_false] using p3⟩
        rw [itW_step]
        simp only [a_gnomonref07_Norm,s_gnomonref07_Norm_l0_b,s_gnomonref07_Norm_l1_b, am0,am1,am2,am3,am4,am5,am6,am7,bl,i64,reduceIte,reduceCtorEq,Nat.reduceEqDiff,Nat.reduceLT,Nat.reduceLeDiff,Nat.reduceBEq,Nat.reduceAdd,fillA,splice,Nat.reduceMul,al0,al1,al2,al3,al4,al5,al6,al7,al8,al9,al10,al11,al12,al13,al14,al15,al16,al17,al18,al19,al20,al21,al22,al23,al24,al25,al26,al27,al28,al29,al30,al31,al32,al33,al34, ha1, ha2, iV_len ha3, hlt', hb1, hb2, ge_iff_le, ge_iff_le.1 h0, rows_len (hv.ext he), hxn, hwk]
        exact p1
    · obtain ⟨row', H', p1, p2, p3⟩ := ih (k + 1) (trim Hs.length (frOf 56 [(0, v), (3, acc), (4, .s (.int .i64 i)), (5, row), (6, .s (.int .i64 ((k + 1 : Nat) : Int)))]) H) row l hd' (by omega) (he.trim (Nat.le_refl _) _) (ho.trim_fr (frOf_mem (s := 5) (by omega) rfl)) (by omega)
      refine ⟨row', H', ?_, p2, by simpa only [refR, List.foldl_cons, h0, decide_false, Bool.false_and, cond_false] using p3⟩
      have h0' : ¬ 0 ≤ x := h0
      rw [itW_step]
      simp only [a_gnomonref07_Norm,s_gnomonref07_Norm_l0_b,s_gnomonref07_Norm_l1_b, am0,am1,am2,am3,am4,am5,am6,am7,bl,i64,reduceIte,reduceCtorEq,Nat.reduceEqDiff,Nat.reduceLT,Nat.reduceLeDiff,Nat.reduceBEq,Nat.reduceAdd,fillA,splice,Nat.reduceMul,al0,al1,al2,al3,al4,al5,al6,al7,al8,al9,al10,al11,al12,al13,al14,al15,al16,al17,al18,al19,al20,al21,al22,al23,al24,al25,al26,al27,al28,al29,al30,al31,al32,al33,al34, ha1, ha2, iV_len ha3, hlt', hb1, hb2, ge_iff_le, h0', rows_len (hv.ext he), hwk]
      exact p1
end Go.Proofs.Ytmnlagcmpgilaaa
set_option maxRecDepth 100000
namespace Go.Proofs.Ytmnlagcmpgilaaa
open Go.AM
theorem refN_outer {CT : Nat → Option CFun} (hT : CT k_gnomonref01_Add = some (.code s_gnomonref01_Add)) (hH : CT k_gnomonref01_Has = some (.code s_gnomonref01_Has)) (base : Nat) (H0 : Heap) (v : V) (G : List (List Int)) (hv : RdRows H0 v (rowsV G)) (hb : base ≤ H0.length) (hn : G.length < 2 ^ 39) (hr : ∀ r ∈ G, r.length < 2 ^ 39) : ∀ (rest : List (List Int)) (i : Nat) (H : Heap) (acc : V), G.drop i = rest → i ≤ G.length → AccR H0 H acc (rowsV ((G.take i).map (refR G.length []))) →
    ∃ acc' H', itW (evC (callW CT) itW base s_gnomonref07_Norm_l1) [] H0.length (frOf 56 [(0, v), (3, acc), (4, .s (.int .i64 i))]) H = some (.ext 0, frOf 56 [(0, v), (3, acc'), (4, .s (.int .i64 G.length)), (10, .s (.bool false))], H') ∧ AccR H0 H' acc' (rowsV (refN G)) := by
  intro rest
  induction rest with
  | nil =>
    intro i H acc hd hk ha
    obtain rfl := drop_nil hd hk
    rw [List.take_length] at ha
    refine ⟨acc, trim H0.length (frOf 56 [(0, v), (3, acc), (4, .s (.int .i64 G.length)), (10, .s (.bool false))]) H, ?_, ha.trim (Nat.le_refl _) (frOf_mem (s := 3) (by omega) rfl)⟩
    rw [itW_step]
    simp only [a_gnomonref07_Norm,s_gnomonref07_Norm_l0_b,s_gnomonref07_Norm_l1_b, am0,am1,am2,am3,am4,am5,am6,am7,bl,i64,reduceIte,reduceCtorEq,Nat.reduceEqDiff,Nat.reduceLT,Nat.reduceLeDiff,Nat.reduceBEq,Nat.reduceAdd,fillA,splice,Nat.reduceMul,al0,al1,al2,al3,al4,al5,al6,al7,al8,al9,al10,al11,al12,al13,al14,al15,al16,al17,al18,al19,al20,al21,al22,al23,al24,al25,al26,al27,al28,al29,al30,al31,al32,al33,al34, rows_len (hv.ext ha.ext0), Int.lt_irrefl]
  | cons x rest ih =>
    intro i H acc hd hk ha
    obtain ⟨hx, hlt, hd'⟩ := drop_cons hd
    have hxl := hr x (List.mem_of_getElem? hx)
    have hlt' : (i : Int) < (G.length : Int) := by omega
    have hwk := wrap_pos (n := i) (by omega)
    have hH0 := ha.ext0.le
    obtain ⟨row, H1, q1, q2, q3⟩ := refN_inner hT hH base H v acc G i x (hv.ext ha.ext0) hx (by omega) hxl x 0 H nilS [] rfl (Nat.zero_le _) (Ext.refl H) (.inl ⟨rfl, .inl rfl⟩) (Nat.le_refl _)
    rw [cast0] at q1
    have hone := q3.one
    obtain ⟨acc1, H2, f1, f2, f3⟩ := (ha.ext q2).append hb (bytes := 24) (q3.mono hH0) (q3.apart fun id g n h => ha.lt h) (by rw [rowsV_len, List.length_map, List.length_take]; omega)
    rw [← rowsV_snoc, show (G.take i).map (refR G.length []) ++ [refR G.length [] x] = (G.take (i + 1)).map (refR G.length []) by rw [take_snoc hx]; simp] at f2
    obtain ⟨acc', H', p1, p2⟩ := ih (i + 1) (trim H0.length (frOf 56 [(0, v), (3, acc1), (4, .s (.int .i64 ((i + 1 : Nat) : Int)))]) H2) acc1 hd' (by omega) (f2.trim (Nat.le_refl _) (frOf_mem (s := 3) (by omega) rfl))
    refine ⟨acc', H', ?_, p2⟩
    rw [itW_step]
    simp only [nilS] at q1
    simp only [a_gnomonref07_Norm,s_gnomonref07_Norm_l0_b,s_gnomonref07_Norm_l1_b, am0,am1,am2,am3,am4,am5,am6,am7,bl,i64,reduceIte,reduceCtorEq,Nat.reduceEqDiff,Nat.reduceLT,Nat.reduceLeDiff,Nat.reduceBEq,Nat.reduceAdd,fillA,splice,Nat.reduceMul,al0,al1,al2,al3,al4,al5,al6,al7,al8,al9,al10,al11,al12,al13,al14,al15,al16,al17,al18,al19,al20,al21,al22,al23,al24,al25,al26,al27,al28,al29,al30,al31,al32,al33,al34, rows_len (hv.ext ha.ext0), hlt', hwk, q1, hone, cells_of_one hone, f1]
    exact p1
end Go.Proofs.Ytmnlagcmpgilaaa
set_option maxRecDepth 100000
namespace Go.Proofs.Ytmnlagcmpgilaaa
open Go.AM
def Up : List Int → Prop
  | [] => True
  | x :: r => (∀ y ∈ r, x < y) ∧ Up r
theorem up_eq : ∀ (a b : List Int), Up a → Up b → (∀ x, x ∈ a ↔ x ∈ b) → a = b := by
  intro a
  induction a with
  | nil => intro b _ _ h; cases b with
    | nil => rfl
    | cons y b => exact absurd ((h y).2 List.mem_cons_self) List.not_mem_nil
  | cons x a ih =>
    intro b ha hb h
    cases b with
    | nil => exact absurd ((h x).1 List.mem_cons_self) List.not_mem_nil
    | cons y b =>
      have hxy : x = y := by
        rcases List.mem_cons.1 ((h x).1 List.mem_cons_self) with e | e
        · exact e
        · rcases List.mem_cons.1 ((h y).2 List.mem_cons_self) with e2 | e2
          · exact e2.symm
          · have := hb.1 x e; have := ha.1 y e2; omega
      subst hxy
      rw [ih b ha.2 hb.2 fun z => ?_]
      constructor
      · intro hz
        have := ha.1 z hz
        rcases List.mem_cons.1 ((h z).1 (List.mem_cons_of_mem _ hz)) with e | e
        · omega
        · exact e
      · intro hz
        have := hb.1 z hz
        rcases List.mem_cons.1 ((h z).2 (List.mem_cons_of_mem _ hz)) with e | e
        · omega
        · exact e
theorem chg_up : ∀ (r : List Int) (p : Int), (p :: r).Pairwise (· ≤ ·) → Up (p :: chg p r) ∧ ∀ x, x ∈ (p :: chg p r) ↔ x ∈ (p :: r) := by
  intro r
  induction r with
  | nil => intro p _; exact ⟨⟨(fun y h => absurd h List.not_mem_nil), trivial⟩, fun _ => Iff.rfl⟩
  | cons y r ih =>
    intro p h
    rw [List.pairwise_cons] at h
    obtain ⟨q1, q2⟩ := ih y h.2
    simp only [chg]
    split
    · rename_i e
      have : y = p := beq_iff_eq.1 e
      subst this
      refine ⟨q1, fun x => ?_⟩
      rw [q2 x]
      simp
    · rename_i e
      have hne : y ≠ p := by intro e2; exact e (beq_iff_eq.2 e2)
      have hlt : p < y := by have := h.1 y List.mem_cons_self; omega
      refine ⟨⟨fun z hz => ?_, q1⟩, fun x => ?_⟩
      · rcases List.mem_cons.1 hz with rfl | hz
        · exact hlt
        · have := q1.1 z hz; omega
      · rw [List.mem_cons, q2 x, ← List.mem_cons]
theorem normR_up (n : Int) (r : List Int) : Up (normR n r) ∧ ∀ x, x ∈ normR n r ↔ x ∈ r ∧ outR n x = false := by
  have hs : (sortZ (r.filter fun k => !outR n k)).Pairwise (· ≤ ·) := by
    have := List.pairwise_mergeSort (le := fun x y : Int => decide (x ≤ y)) (by intro a b c; simp only [decide_eq_true_eq]; omega) (by intro a b; simp only [Bool.or_eq_true, decide_eq_true_eq]; omega) (r.filter fun k => !outR n k)
    simp only [decide_eq_true_eq] at this
    exact this
  have hm : ∀ x, x ∈ sortZ (r.filter fun k => !outR n k) ↔ x ∈ r ∧ outR n x = false := fun x => by
    rw [sortZ, List.mem_mergeSort, List.mem_filter]; simp
  simp only [normR]
  cases hz : sortZ (r.filter fun k => !outR n k) with
  | nil => rw [hz] at hm; exact ⟨trivial, hm⟩
  | cons p l =>
    rw [hz] at hm hs
    obtain ⟨q1, q2⟩ := chg_up l p hs
    exact ⟨q1, fun x => by rw [← hm x]; exact q2 x⟩
theorem up_append : ∀ (a b : List Int), Up a → Up b → (∀ x ∈ a, ∀ y ∈ b, x < y) → Up (a ++ b) := by
  intro a
  induction a with
  | nil => intro b _ hb _; exact hb
  | cons x a ih =>
    intro b ha hb h
    refine ⟨fun y hy => ?_, ih b ha.2 hb fun z hz => h z (List.mem_cons_of_mem _ hz)⟩
    rcases List.mem_append.1 hy with hy | hy
    · exact ha.1 y hy
    · exact h x List.mem_cons_self y hy
theorem up_split (y : Int) : ∀ (l : List Int), Up l → Up (l.takeWhile fun x => decide (x < y)) ∧ Up (l.dropWhile fun x => decide (x < y)) ∧ (∀ x ∈ l.takeWhile fun x => decide (x < y), x < y) ∧ (∀ x ∈ l.dropWhile fun x => decide (x < y), y ≤ x) := by
  intro l
  induction l with
  | nil => intro _; simp [Up]
  | cons x l ih =>
    intro h
    obtain ⟨i1, i2, i3, i4⟩ := ih h.2
    rw [List.takeWhile_cons, List.dropWhile_cons]
    by_cases hx : x < y
    · simp only [hx, decide_true, if_true]
      refine ⟨⟨fun z hz => h.1 z ((List.takeWhile_prefix _).subset hz), i1⟩, i2, fun z hz => ?_, i4⟩
      rcases List.mem_cons.1 hz with rfl | hz
      · exact hx
      · exact i3 z hz
    · simp only [hx, decide_false, Bool.false_eq_true, if_false]
      refine ⟨trivial, h, (fun z hz => absurd hz List.not_mem_nil), fun z hz => ?_⟩
      rcases List.mem_cons.1 hz with rfl | hz
      · omega
      · have := h.1 z hz; omega
theorem addZ_up (l : List Int) (y : Int) (h : Up l) (hy : 0 ≤ y) : Up (addZ l y) ∧ ∀ x, x ∈ addZ l y ↔ x ∈ l ∨ x = y := by
  have h0 : ¬ y < 0 := by omega
  simp only [addZ, h0, decide_false, Bool.false_or]
  cases hc : l.contains y with
  | true =>
    refine ⟨h, fun x => ⟨.inl, fun hx => ?_⟩⟩
    rcases hx with hx | rfl
    · exact hx
    · simpa using hc
  | false =>
    have hny : y ∉ l := by simpa using hc
    obtain ⟨i1, i2, i3, i4⟩ := up_split y l h
    simp only [cond_false]
    have hd : ∀ x ∈ l.dropWhile (fun x => decide (x < y)), y < x := fun x hx => by
      have h1 := i4 x hx
      have h2 : x ∈ l := (List.dropWhile_suffix _).subset hx
      have : x ≠ y := fun e => hny (e ▸ h2)
      omega
    refine ⟨up_append _ _ i1 ⟨hd, i2⟩ fun a ha b hb => ?_, fun x => ?_⟩
    · rcases List.mem_cons.1 hb with rfl | hb
      · exact i3 a ha
      · have := i3 a ha; have := hd b hb; omega
    · rw [List.mem_append, List.mem_cons]
      have hsp : x ∈ l ↔ x ∈ l.takeWhile (fun x => decide (x < y)) ∨ x ∈ l.dropWhile (fun x => decide (x < y)) := by rw [← List.mem_append, List.takeWhile_append_dropWhile]
      rw [hsp]
      constructor
      · rintro (h | rfl | h)
        · exact .inl (.inl h)
        · exact .inr rfl
        · exact .inl (.inr h)
      · rintro ((h | h) | rfl)
        · exact .inl h
        · exact .inr (.inr h)
        · exact .inr (.inl rfl)
theorem refR_up (n : Nat) : ∀ (r l : List Int), Up l → Up (refR n l r) ∧ ∀ x, x ∈ refR n l r ↔ x ∈ l ∨ (x ∈ r ∧ outR n x = false) := by
  intro r
  induction r with
  | nil => intro l h; exact ⟨h, fun x => by simp [refR]⟩
  | cons y r ih =>
    intro l h
    have ho : outR n y = !(decide (y ≥ 0) && decide (y < n)) := by
      simp only [outR, ge_iff_le, Bool.not_and]
      congr 1 <;> (rw [Bool.eq_iff_iff]; simp) <;> omega
    cases hc : decide (y ≥ 0) && decide (y < (n : Int)) with
    | true =>
      rw [hc] at ho
      have hy : 0 ≤ y := by simp at hc; exact hc.1
      obtain ⟨a1, a2⟩ := addZ_up l y h hy
      obtain ⟨q1, q2⟩ := ih (addZ l y) a1
      have he : refR n l (y :: r) = refR n (addZ l y) r := by simp only [refR, List.foldl_cons, hc, cond_true]
      rw [he]
      refine ⟨q1, fun x => ?_⟩
      rw [q2, a2, List.mem_cons]
      constructor
      · rintro ((h | rfl) | ⟨h1, h2⟩)
        · exact .inl h
        · exact .inr ⟨.inl rfl, ho⟩
        · exact .inr ⟨.inr h1, h2⟩
      · rintro (h | ⟨rfl | h1, h2⟩)
        · exact .inl (.inl h)
        · exact .inl (.inr rfl)
        · exact .inr ⟨h1, h2⟩
    | false =>
      rw [hc] at ho
      obtain ⟨q1, q2⟩ := ih l h
      have he : refR n l (y :: r) = refR n l r := by simp only [refR, List.foldl_cons, hc, cond_false]
      rw [he]
      refine ⟨q1, fun x => ?_⟩
      rw [q2, List.mem_cons]
      constructor
      · rintro (h | ⟨h1, h2⟩)
        · exact .inl h
        · exact .inr ⟨.inr h1, h2⟩
      · rintro (h | ⟨rfl | h1, h2⟩)
        · exact .inl h
        · rw [ho] at h2; cases h2
        · exact .inr ⟨h1, h2⟩
theorem norm_ref (n : Nat) (r : List Int) : normR n r = refR n [] r := by
  obtain ⟨a1, a2⟩ := normR_up n r
  obtain ⟨b1, b2⟩ := refR_up n r [] trivial
  refine up_eq _ _ a1 b1 fun x => ?_
  rw [a2, b2]; simp
theorem normG_ref (G : List (List Int)) : normG G = refN G := by
  simp only [normG, refN]
  exact List.map_congr_left fun r _ => norm_ref _ r
end Go.Proofs.Ytmnlagcmpgilaaa
set_option maxRecDepth 100000
namespace Go.Proofs.Ytmnlagcmpgilaaa
open Go.AM
def Shape (m : Nat) (H : Heap) (v : V) (lens : List Nat) : Prop := ∃ id g vs, v = .sl id g 0 lens.length 1 ∧ getC H id g = some vs ∧ m ≤ id ∧ vs.length = lens.length ∧
  ∀ (i len : Nat), lens[i]? = some len → ∃ x, vs[i]? = some x ∧ ((len = 0 ∧ (x = nilS ∨ x = .esl)) ∨ ∃ id' g' c, x = .sl id' g' 0 len 1 ∧ getC H id' g' = some c ∧ len ≤ c.length ∧ id + 1 ≤ id')
theorem OwnRows.shape {m : Nat} {H : Heap} {v : V} {G : List (List Int)} (h : OwnRows m H v (rowsV G)) : Shape m H v (G.map List.length) := by
  obtain ⟨id, g, vs, h1, h2, h3, h4, h5⟩ := h
  rw [rowsV_len] at h1 h4
  refine ⟨id, g, vs, by rw [List.length_map]; exact h1, h2, h3, by rw [List.length_map]; exact h4, fun i len hl => ?_⟩
  rw [List.getElem?_map, Option.map_eq_some_iff] at hl
  obtain ⟨r, hr, rfl⟩ := hl
  obtain ⟨x, q1, q2⟩ := h5 i _ (rowsV_get hr)
  refine ⟨x, q1, ?_⟩
  rcases q2 with ⟨a, b⟩ | ⟨id', g', c, a, b, d, _, e⟩
  · have : r = [] := by simpa using a
    exact .inl ⟨by rw [this]; rfl, b⟩
  · rw [List.length_map] at a d
    exact .inr ⟨id', g', c, a, b, d, e⟩
theorem Shape.trim {m L : Nat} {H : Heap} {v : V} {lens : List Nat} (h : Shape m H v lens) {fr : List V} (hv : v ∈ fr) : Shape m (trim L fr H) v lens := by
  obtain ⟨id, g, vs, rfl, h2, h3, h4, h5⟩ := h
  rcases trim_or L fr H with e | ⟨e, hu⟩
  · rw [e]; exact ⟨id, g, vs, rfl, h2, h3, h4, h5⟩
  · have hid := hu _ hv
    simp only [idsUnder, decide_eq_true_eq] at hid
    refine ⟨id, g, vs, rfl, trim_get h2 hid, h3, h4, fun i len hl => ?_⟩
    obtain ⟨x, q1, q2⟩ := h5 i len hl
    refine ⟨x, q1, ?_⟩
    rcases q2 with q2 | ⟨id', g', c, rfl, b, d, f⟩
    · exact .inl q2
    · refine .inr ⟨id', g', c, rfl, ?_, d, f⟩
      rcases trim_or' L fr H with e | ⟨_, _, hu⟩
      · rw [e]; exact b
      · exact trim_get b (hu _ _ _ hid h2 _ _ _ _ _ (List.mem_of_getElem? q1))
theorem Shape.row {m : Nat} {H : Heap} {v : V} {lens : List Nat} (h : Shape m H v lens) {i len : Nat} (hi : lens[i]? = some len) : ∃ a x, xIndexAddr 1 v (.s (.int .i64 i)) = some a ∧ xLoad H false 1 a = some x ∧ xLen H .s x = some (.s (.int .i64 len)) ∧
    ∀ (k base : Nat) (y : V), k < len → base ≤ m → y.one = true → ∃ b H', xIndexAddr 1 x (.s (.int .i64 k)) = some b ∧ storeV H base 1 y b = some H' ∧ Shape m H' v lens ∧ H'.length = H.length ∧ ∀ H0, H0.length ≤ m → Ext H0 H → Ext H0 H' := by
  obtain ⟨id, g, vs, rfl, h2, h3, h4, h5⟩ := h
  obtain ⟨x, q1, q2⟩ := h5 i len hi
  have hil := (List.getElem?_eq_some_iff.1 hi).1
  obtain ⟨e1, e2⟩ := at_sl h2 hil q1
  refine ⟨_, x, e1, e2, ?_, ?_⟩
  · rcases q2 with ⟨rfl, rfl | rfl⟩ | ⟨id', g', c, rfl, _⟩ <;> rfl
  · intro k base y hk hb hy
    rcases q2 with ⟨rfl, _⟩ | ⟨id', g', c, rfl, b, d, f⟩
    · omega
    · obtain ⟨f1, _⟩ := at_sl (w := c[k]'(by omega)) b hk (List.getElem?_eq_getElem (by omega))
      refine ⟨_, _, f1, storeV_at b (by omega) hy (by omega), ⟨id, g, vs, rfl, by rw [getC_other (by omega)]; exact h2, h3, h4, fun j len' hj => ?_⟩, List.length_set, fun H0 h0 he => he.set (by omega) _⟩
      obtain ⟨z, z1, z2⟩ := h5 j len' hj
      refine ⟨z, z1, ?_⟩
      rcases z2 with z2 | ⟨i2, g2, c2, rfl, b2, d2, f2⟩
      · exact .inl z2
      · by_cases hs : i2 = id'
        · subst hs
          have hg : g2 = g' := by
            unfold getC at b b2
            split at b <;> rename_i hh
            · split at b <;> rename_i h6
              · rw [hh] at b2
                simp only at b2
                split at b2 <;> rename_i h7
                · omega
                · cases b2
              · cases b
            · cases b
          subst hg
          rw [b] at b2
          cases b2
          exact .inr ⟨i2, g2, _, rfl, getC_put b, by rw [List.length_set]; exact d2, f2⟩
        · exact .inr ⟨i2, g2, c2, rfl, by rw [getC_other hs]; exact b2, d2, f2⟩
end Go.Proofs.Ytmnlagcmpgilaaa
namespace Go.AM
def bV (b : Bool) : V := .s (.bool b)
theorem OwnN.append {m base bytes : Nat} {H : Heap} {v x : V} {l : List V} (h : OwnN m H v l) (hb : base ≤ m) (hx : x.one = true) (hm : m ≤ H.length) (hs : (l.length + 1) * bytes ≤ 2 ^ 47) :
    ∃ v' H', appendV (H ++ [.cells 0 [x]]) base 1 bytes v (.sl H.length 0 0 1 1) = some (v', H') ∧ OwnN m H' v' (l ++ [x]) ∧ H.length ≤ H'.length ∧ (∀ i, i < m → H'[i]? = H[i]?) := by
  have hx' : [x].all V.one = true := by simp [hx]
  have hnew : 1 * bytes ≤ 2 ^ 47 := by
    refine Nat.le_trans (Nat.mul_le_mul_right _ ?_) hs
    omega
  have hfresh : OwnN m (H ++ [.cells 0 [x]] ++ [.cells 0 [x]]) (.sl (H.length + 1) 0 0 1 1) [x] := by
    refine .inr ⟨H.length + 1, 0, [x], rfl, ?_, Nat.le_refl _, rfl, by omega⟩
    have := getC_new (H ++ [Ob.cells 0 [x]]) 0 [x]
    simpa using this
  rcases h with ⟨rfl, rfl | rfl⟩ | ⟨id, g, c, rfl, hc, hl, ht, hid⟩
  · refine ⟨.sl (H.length + 1) 0 0 1 1, H ++ [.cells 0 [x]] ++ [.cells 0 [x]], ?_, hfresh, by simp, fun i hi => ?_⟩
    · simp only [appendV, elems_new, hx', if_true, nilS, Nat.one_ne_zero, if_false, hnew, List.length_append, List.length_cons, List.length_nil]
    · rw [List.getElem?_append_left (by simp; omega), List.getElem?_append_left (by omega)]
  · refine ⟨.sl (H.length + 1) 0 0 1 1, H ++ [.cells 0 [x]] ++ [.cells 0 [x]], ?_, hfresh, by simp, fun i hi => ?_⟩
    · simp only [appendV, elems_new, hx', if_true, Nat.one_ne_zero, if_false, hnew, List.length_append, List.length_cons, List.length_nil]
    · rw [List.getElem?_append_left (by simp; omega), List.getElem?_append_left (by omega)]
  · have hc' := getC_app hc (G := [Ob.cells 0 [x]])
    have hbi : base ≤ id := by omega
    have h2 : 0 + l.length ≤ c.length := by omega
    refine ⟨.sl id (g + 1) 0 (l.length + 1) 1, (H ++ [Ob.cells 0 [x]]).set id (.cells (g + 1) (l ++ [x])), ?_, .inr ⟨id, g + 1, l ++ [x], by simp, getC_set hc' _, Nat.le_refl _, List.take_length, hid⟩, by simp, fun i hi => ?_⟩
    · simp only [appendV, elems_new, hx', if_true, true_and, hbi, hc', h2, Nat.one_ne_zero, if_false, hs, List.drop_zero, Nat.mul_one, ht]
    · rw [List.getElem?_set_ne (by omega), List.getElem?_append_left (by omega)]
theorem OwnN.pop {m : Nat} {H : Heap} {v : V} {l : List V} (h : OwnN m H v l) {k : Nat} (hk : k ≤ l.length) : ∃ w, xSlice 1 v none (some (.s (.int .i64 k))) = some w ∧ OwnN m H w (l.take k) := by
  rcases h with ⟨rfl, hv⟩ | ⟨id, g, c, rfl, hc, hl, ht, hid⟩
  · have hk0 : k = 0 := by simpa using hk
    subst hk0
    refine ⟨v, ?_, .inl ⟨rfl, hv⟩⟩
    rcases hv with rfl | rfl
    · simp only [xslice_nil, bndV_none, bndV_int, cutNil_some, cast0, and_self, if_true]
    · simp only [xslice_esl, bndV_none, bndV_int, cutNil_some, cast0, and_self, if_true]
  · have i4 : (0 : Int) ≤ (0 : Int) ∧ (0 : Int) ≤ k ∧ (k : Int) ≤ l.length ∧ 1 = 1 := ⟨by omega, by omega, by omega, rfl⟩
    have i5 : ((k : Int) - 0).toNat = k := by omega
    refine ⟨.sl id g 0 k 1, ?_, .inr ⟨id, g, c, by rw [List.length_take, Nat.min_eq_left hk], hc, by rw [List.length_take]; omega, ?_, hid⟩⟩
    · simp only [xslice_sl, bndV_none, bndV_int, cutSl_some, cast0, i4, i5, and_self, if_true, Int.toNat_zero, Nat.zero_mul, Nat.add_zero]
    · rw [List.length_take, Nat.min_eq_left hk, ← ht, List.take_take, Nat.min_eq_left hk]
end Go.AM
set_option maxRecDepth 100000
namespace Go.Proofs.Ytmnlagcmpgilaaa
open Go.AM
def RS (h : Nat) (v : V) (n : Nat) (H0 H : Heap) (B : List Bool) (S : List Int) : Prop :=
  H0.length = h ∧ Ext H0 H ∧ getC H h 0 = some [v] ∧ getC H (h + 1) 0 = some (B.map bV) ∧ getC H (h + 2) 0 = some [.sl (h + 1) 0 0 n 1] ∧ B.length = n ∧
  ∃ nv, getC H (h + 3) 0 = some [nv] ∧ OwnN (h + 4) H nv (S.map iV)
theorem RS.trim {h L n : Nat} {v : V} {H0 H : Heap} {B : List Bool} {S : List Int} (k : RS h v n H0 H B S) (hL : h + 4 ≤ L) (fr : List V) : RS h v n H0 (trim L fr H) B S := by
  obtain ⟨a1, a2, a3, a4, a5, a6, nv, a7, a8⟩ := k
  exact ⟨a1, a2.trim (by omega) _, trim_get a3 (by omega), trim_get a4 (by omega), trim_get a5 (by omega), a6, nv, trim_get a7 (by omega), a8.trim a7 (by omega) List.mem_cons_self _⟩
def enterZ (n : Nat) (k : Int) (s : List Bool × List Int) : List Bool × List Int :=
  bif decide (k ≥ 0) && decide (k < n) && !(s.1.getD k.toNat true) then (s.1.set k.toNat true, s.2 ++ [k]) else s
theorem getC_load {H : Heap} {id g : Nat} {w : V} (h : getC H id g = some [w]) : xLoad H false 1 (.ref id g 0) = some w := by
  simp only [xo_ref, h, List.drop_zero, List.take_succ_cons, List.take_zero, List.length_singleton, if_true, shut_one]
theorem res_nil (fr : List V) (H : Heap) : resultV [] fr H = some (.tup []) := by simp [resultV]
theorem enter_fun {CT : Nat → Option CFun} (hT : CT k_graph_Reach_1 = some (.code s_graph_Reach_1)) (base h n : Nat) (v : V) (H0 H : Heap) (B : List Bool) (S : List Int) (k : Int) (hb : base ≤ h) (hv : xLen H0 .s v = some (.s (.int .i64 n))) (hlen : ∀ H, xLen H .s v = xLen H0 .s v) (hn : n < 2 ^ 40) (hS : S.length < 2 ^ 40) (hs : RS h v n H0 H B S) :
    ∃ H', callW CT (.fn k_graph_Reach_1 [] [.ref h 0 0, .ref (h + 2) 0 0, .ref (h + 3) 0 0]) [.s (.int .i64 k)] base H = some (.tup [], H') ∧ RS h v n H0 H' (enterZ n k (B, S)).1 (enterZ n k (B, S)).2 := by
  obtain ⟨a1, a2, a3, a4, a5, a6, nv, a7, a8⟩ := hs
  have l3 := getC_lt a7
  by_cases h0 : k ≥ 0
  · by_cases hkn : k < (n : Int)
    · obtain ⟨j, rfl⟩ := Int.eq_ofNat_of_zero_le h0
      have hj : j < n := by omega
      have hBj : B[j]? = some (B.getD j true) := by rw [List.getD, List.getElem?_eq_getElem (by omega)]; rfl
      obtain ⟨b1, b2⟩ := at_sl (n := n) a4 hj (w := bV (B.getD j true)) (by rw [List.getElem?_map, hBj]; rfl)
      cases hb1 : B.getD j true with
      | true =>
        have he : enterZ n (j : Int) (B, S) = (B, S) := by simp only [enterZ, Int.toNat_natCast, hb1, Bool.not_true, Bool.and_false, cond_false]
        rw [he]
        rw [hb1] at b2
        simp only [bV] at b2
        refine ⟨H, callW_fn (c := s_graph_Reach_1) hT (by simp [s_graph_Reach_1]) ?_, a1, a2, a3, a4, a5, a6, nv, a7, a8⟩
        have h0' : (0 : Int) ≤ (j : Int) := h0
        simp only [s_graph_Reach_1, a_graph_Reach_1, am0,am1,am2,am3,am4,am5,am6,am7,bl,i64,reduceIte,reduceCtorEq,Nat.reduceEqDiff,Nat.reduceLT,Nat.reduceLeDiff,Nat.reduceBEq,Nat.reduceAdd,fillA,splice,Nat.reduceMul,al0,al1,al2,al3,al4,al5,al6,al7,al8,al9,al10,al11,al12,al13,al14,al15,al16,al17,al18,al19,al20,al21,al22,al23,al24,al25,al26,al27,al28,al29,al30,al31,al32,al33,al34, ge_iff_le, h0', getC_load a3, hlen, hv, hkn, getC_load a5, b1, b2, res_nil]
      | false =>
        have he : enterZ n (j : Int) (B, S) = (B.set j true, S ++ [(j : Int)]) := by simp only [enterZ, Int.toNat_natCast, hb1, h0, hkn, decide_true, Bool.not_false, Bool.and_true, cond_true]
        rw [he]
        rw [hb1] at b2
        simp only [bV] at b2
        have hst := storeV_at (v := bV true) (base := base) a4 (by omega) rfl (off := j) (by rw [List.length_map]; omega)
        have a8' : OwnN (h + 4) (H.set (h + 1) (.cells 0 ((B.map bV).set j (bV true)))) nv (S.map iV) := a8.set (by omega) _
        have a7' : getC (H.set (h + 1) (.cells 0 ((B.map bV).set j (bV true)))) (h + 3) 0 = some [nv] := by rw [getC_other (by omega)]; exact a7
        obtain ⟨nv', H2, c1, c2, c3, c4⟩ := a8'.append (x := iV j) (base := base) (bytes := 8) (by omega) rfl (by rw [List.length_set]; omega) (by rw [List.length_map]; omega)
        have l4 := getC_lt a4
        have d4 : getC H2 (h + 1) 0 = some ((B.map bV).set j (bV true)) := by
          have : getC (H.set (h + 1) (.cells 0 ((B.map bV).set j (bV true)))) (h + 1) 0 = some ((B.map bV).set j (bV true)) := getC_put a4
          simp only [getC] at this ⊢
          rw [c4 (h + 1) (by omega)]; exact this
        have low : ∀ i g c, i < h + 4 → i ≠ h + 1 → getC H i g = some c → getC H2 i g = some c := by
          intro i g c hi hne hg
          simp only [getC] at hg ⊢
          rw [c4 i hi, List.getElem?_set_ne (Ne.symm hne)]; exact hg
        have st2 := storeV_at (v := nv') (base := base) (low (h + 3) 0 _ (by omega) (by omega) a7) (by omega) c2.one (off := 0) (by simp)
        have hj0 : ¬ (j : Int) < 0 := by omega
        have h0' : (0 : Int) ≤ (j : Int) := h0
        refine ⟨H2.set (h + 3) (.cells 0 ([nv].set 0 nv')), callW_fn (c := s_graph_Reach_1) hT (by simp [s_graph_Reach_1]) ?_, a1, ?_, ?_, ?_, ?_, by rw [List.length_set]; exact a6, nv', ?_, ?_⟩
        · simp only [bV, iV, List.length_set] at hst c1 st2 a7'
          simp only [s_graph_Reach_1, a_graph_Reach_1, am0,am1,am2,am3,am4,am5,am6,am7,bl,i64,reduceIte,reduceCtorEq,Nat.reduceEqDiff,Nat.reduceLT,Nat.reduceLeDiff,Nat.reduceBEq,Nat.reduceAdd,fillA,splice,Nat.reduceMul,al0,al1,al2,al3,al4,al5,al6,al7,al8,al9,al10,al11,al12,al13,al14,al15,al16,al17,al18,al19,al20,al21,al22,al23,al24,al25,al26,al27,al28,al29,al30,al31,al32,al33,al34, ge_iff_le, h0', getC_load a3, hlen, hv, hkn, getC_load a5, b1, b2, hst, a7', c1, st2, res_nil, bV]
        · refine (Ext.of_get ?_ fun i hi => ?_ : Ext H0 H2).set (by omega) _
          · have := a2.le; rw [List.length_set] at c3; omega
          · rw [c4 i (by omega), List.getElem?_set_ne (by omega), a2.get hi]
        · rw [getC_other (by omega)]; exact low h 0 _ (by omega) (by omega) a3
        · rw [getC_other (by omega), d4, List.map_set]
        · rw [getC_other (by omega)]; exact low (h + 2) 0 _ (by omega) (by omega) a5
        · have := getC_put (c' := [nv].set 0 nv') (low (h + 3) 0 _ (by omega) (by omega) a7)
          simpa using this
        · have := c2.set (id := h + 3) (by omega) (.cells 0 ([nv].set 0 nv'))
          rwa [List.map_append]
    · have he : enterZ n k (B, S) = (B, S) := by simp only [enterZ, hkn, decide_false, Bool.and_false, Bool.false_and, cond_false]
      rw [he]
      refine ⟨H, callW_fn (c := s_graph_Reach_1) hT (by simp [s_graph_Reach_1]) ?_, a1, a2, a3, a4, a5, a6, nv, a7, a8⟩
      simp only [s_graph_Reach_1, a_graph_Reach_1, am0,am1,am2,am3,am4,am5,am6,am7,bl,i64,reduceIte,reduceCtorEq,Nat.reduceEqDiff,Nat.reduceLT,Nat.reduceLeDiff,Nat.reduceBEq,Nat.reduceAdd,fillA,splice,Nat.reduceMul,al0,al1,al2,al3,al4,al5,al6,al7,al8,al9,al10,al11,al12,al13,al14,al15,al16,al17,al18,al19,al20,al21,al22,al23,al24,al25,al26,al27,al28,al29,al30,al31,al32,al33,al34, ge_iff_le, ge_iff_le.1 h0, getC_load a3, hlen, hv, hkn, res_nil]
  · have he : enterZ n k (B, S) = (B, S) := by simp only [enterZ, h0, decide_false, Bool.false_and, cond_false]
    rw [he]
    have h0' : ¬ 0 ≤ k := h0
    refine ⟨H, callW_fn (c := s_graph_Reach_1) hT (by simp [s_graph_Reach_1]) ?_, a1, a2, a3, a4, a5, a6, nv, a7, a8⟩
    simp only [s_graph_Reach_1, a_graph_Reach_1, am0,am1,am2,am3,am4,am5,am6,am7,bl,i64,reduceIte,reduceCtorEq,Nat.reduceEqDiff,Nat.reduceLT,Nat.reduceLeDiff,Nat.reduceBEq,Nat.reduceAdd,fillA,splice,Nat.reduceMul,al0,al1,al2,al3,al4,al5,al6,al7,al8,al9,al10,al11,al12,al13,al14,al15,al16,al17,al18,al19,al20,al21,al22,al23,al24,al25,al26,al27,al28,al29,al30,al31,al32,al33,al34, ge_iff_le, h0', res_nil]
def cntF : List Bool → Nat
  | [] => 0
  | b :: l => (if b then 0 else 1) + cntF l
theorem cntF_set : ∀ (l : List Bool) (j : Nat), l[j]? = some false → cntF (l.set j true) + 1 = cntF l := by
  intro l
  induction l with
  | nil => intro j h; simp at h
  | cons b l ih =>
    intro j h
    cases j with
    | zero => simp at h; subst h; simp [cntF]; omega
    | succ j => have := ih j (by simpa using h); simp only [List.set_cons_succ, cntF]; omega
theorem enterZ_inv (n : Nat) (k : Int) (s : List Bool × List Int) (h : s.1.length = n) : (enterZ n k s).1.length = n ∧ (enterZ n k s).2.length + cntF (enterZ n k s).1 = s.2.length + cntF s.1 := by
  simp only [enterZ]
  cases hc : decide (k ≥ 0) && decide (k < (n : Int)) && !(s.1.getD k.toNat true) with
  | false => exact ⟨h, rfl⟩
  | true =>
    simp only [Bool.and_eq_true, decide_eq_true_eq, Bool.not_eq_true'] at hc
    have hj : k.toNat < s.1.length := by omega
    have hf : s.1[k.toNat]? = some false := by
      have := hc.2
      rw [List.getD, List.getElem?_eq_getElem hj] at this
      rw [List.getElem?_eq_getElem hj]; exact congrArg some this
    have := cntF_set s.1 k.toNat hf
    refine ⟨by simp [h], ?_⟩
    simp only [cond_true, List.length_append, List.length_singleton]
    omega
def clos (h : Nat) : V := .fn k_graph_Reach_1 [] [.ref h 0 0, .ref (h + 2) 0 0, .ref (h + 3) 0 0]
def enters (n : Nat) (l : List Int) (s : List Bool × List Int) : List Bool × List Int := l.foldl (fun s k => enterZ n k s) s
theorem enters_inv (n : Nat) : ∀ (l : List Int) (s : List Bool × List Int), s.1.length = n → (enters n l s).1.length = n ∧ (enters n l s).2.length + cntF (enters n l s).1 = s.2.length + cntF s.1 := by
  intro l
  induction l with
  | nil => intro s h; exact ⟨h, rfl⟩
  | cons k l ih =>
    intro s h
    obtain ⟨a, b⟩ := enterZ_inv n k s h
    obtain ⟨c, d⟩ := ih _ a
    exact ⟨c, by rw [← b]; exact d⟩
theorem reach_l0 {CT : Nat → Option CFun} (hT : CT k_graph_Reach_1 = some (.code s_graph_Reach_1)) (base h n L : Nat) (v fv : V) (H0 : Heap) (l : List Int) (hb : base ≤ h) (hL : h + 4 ≤ L) (hv : xLen H0 .s v = some (.s (.int .i64 n))) (hlen : ∀ H, xLen H .s v = xLen H0 .s v) (hn : n < 2 ^ 40) (hf : Rd H0 fv (l.map iV)) (hfw : Wide1 fv) (hl : l.length < 2 ^ 62) :
    ∀ (rest : List Int) (k : Nat) (H : Heap) (s : List Bool × List Int), l.drop k = rest → k ≤ l.length → RS h v n H0 H s.1 s.2 → s.2.length + cntF s.1 ≤ n →
    ∃ H', itW (evC (callW CT) itW base s_graph_Reach_l0) [] L (frOf 55 [(2, .ref h 0 0), (5, .ref (h + 2) 0 0), (6, .ref (h + 3) 0 0), (7, clos h), (17, fv), (18, .s (.int .i64 l.length)), (19, .s (.int .i64 k))]) H =
      some (.ext 0, frOf 55 [(2, .ref h 0 0), (5, .ref (h + 2) 0 0), (6, .ref (h + 3) 0 0), (7, clos h), (17, fv), (18, .s (.int .i64 l.length)), (19, .s (.int .i64 l.length)), (20, .s (.bool false))], H') ∧ RS h v n H0 H' (enters n rest s).1 (enters n rest s).2 := by
  intro rest
  induction rest with
  | nil =>
    intro k H s hd hk hs hc
    obtain rfl := drop_nil hd hk
    refine ⟨trim L (frOf 55 [(2, .ref h 0 0), (5, .ref (h + 2) 0 0), (6, .ref (h + 3) 0 0), (7, clos h), (17, fv), (18, .s (.int .i64 l.length)), (19, .s (.int .i64 l.length)), (20, .s (.bool false))]) H, ?_, hs.trim hL _⟩
    rw [itW_step]
    simp only [a_graph_Reach,s_graph_Reach_l0_b,s_graph_Reach_l1_b,s_graph_Reach_l2_b, am0,am1,am2,am3,am4,am5,am6,am7,bl,i64,reduceIte,reduceCtorEq,Nat.reduceEqDiff,Nat.reduceLT,Nat.reduceLeDiff,Nat.reduceBEq,Nat.reduceAdd,fillA,splice,Nat.reduceMul,al0,al1,al2,al3,al4,al5,al6,al7,al8,al9,al10,al11,al12,al13,al14,al15,al16,al17,al18,al19,al20,al21,al22,al23,al24,al25,al26,al27,al28,al29,al30,al31,al32,al33,al34, Int.lt_irrefl]
  | cons x rest ih =>
    intro k H s hd hk hs hc
    obtain ⟨hx, hlt, hd'⟩ := drop_cons hd
    obtain ⟨a, ha1, ha2⟩ := iV_at (hf.ext hs.2.1) hfw hx
    have hlt' : (k : Int) < (l.length : Int) := by omega
    have hwk := wrap_pos (n := k) (by omega)
    obtain ⟨H1, q1, q2⟩ := enter_fun hT base h n v H0 H s.1 s.2 x hb hv hlen hn (by omega) hs
    have q1' : callW CT (clos h) [.s (.int .i64 x)] base H = some (.tup [], H1) := q1
    obtain ⟨i1, i2⟩ := enterZ_inv n x s hs.2.2.2.2.2.1
    obtain ⟨H', p1, p2⟩ := ih (k + 1) (trim L (frOf 55 [(2, .ref h 0 0), (5, .ref (h + 2) 0 0), (6, .ref (h + 3) 0 0), (7, clos h), (17, fv), (18, .s (.int .i64 l.length)), (19, .s (.int .i64 ((k + 1 : Nat) : Int)))]) H1) (enterZ n x s) hd' (by omega) (q2.trim hL _) (by omega)
    refine ⟨H', ?_, p2⟩
    rw [itW_step]
    simp only [a_graph_Reach,s_graph_Reach_l0_b,s_graph_Reach_l1_b,s_graph_Reach_l2_b, am0,am1,am2,am3,am4,am5,am6,am7,bl,i64,reduceIte,reduceCtorEq,Nat.reduceEqDiff,Nat.reduceLT,Nat.reduceLeDiff,Nat.reduceBEq,Nat.reduceAdd,fillA,splice,Nat.reduceMul,al0,al1,al2,al3,al4,al5,al6,al7,al8,al9,al10,al11,al12,al13,al14,al15,al16,al17,al18,al19,al20,al21,al22,al23,al24,al25,al26,al27,al28,al29,al30,al31,al32,al33,al34, hlt', hwk, ha1, ha2, q1']
    exact p1
theorem reach_l1 {CT : Nat → Option CFun} (hT : CT k_graph_Reach_1 = some (.code s_graph_Reach_1)) (base h n L : Nat) (v fv : V) (H0 : Heap) (l : List Int) (hb : base ≤ h) (hL : h + 4 ≤ L) (hv : xLen H0 .s v = some (.s (.int .i64 n))) (hlen : ∀ H, xLen H .s v = xLen H0 .s v) (hn : n < 2 ^ 40) (hf : Rd H0 fv (l.map iV)) (hfw : Wide1 fv) (hl : l.length < 2 ^ 62) :
    ∀ (rest : List Int) (k : Nat) (H : Heap) (s : List Bool × List Int), l.drop k = rest → k ≤ l.length → RS h v n H0 H s.1 s.2 → s.2.length + cntF s.1 ≤ n →
    ∃ H', itW (evC (callW CT) itW base s_graph_Reach_l1) [] L (frOf 55 [(2, .ref h 0 0), (5, .ref (h + 2) 0 0), (6, .ref (h + 3) 0 0), (7, clos h), (44, fv), (45, .s (.int .i64 l.length)), (46, .s (.int .i64 k))]) H =
      some (.ext 4, frOf 55 [(2, .ref h 0 0), (5, .ref (h + 2) 0 0), (6, .ref (h + 3) 0 0), (7, clos h), (44, fv), (45, .s (.int .i64 l.length)), (46, .s (.int .i64 l.length)), (47, .s (.bool false))], H') ∧ RS h v n H0 H' (enters n rest s).1 (enters n rest s).2 := by
  intro rest
  induction rest with
  | nil =>
    intro k H s hd hk hs hc
    obtain rfl := drop_nil hd hk
    refine ⟨trim L (frOf 55 [(2, .ref h 0 0), (5, .ref (h + 2) 0 0), (6, .ref (h + 3) 0 0), (7, clos h), (44, fv), (45, .s (.int .i64 l.length)), (46, .s (.int .i64 l.length)), (47, .s (.bool false))]) H, ?_, hs.trim hL _⟩
    rw [itW_step]
    simp only [a_graph_Reach,s_graph_Reach_l0_b,s_graph_Reach_l1_b,s_graph_Reach_l2_b, am0,am1,am2,am3,am4,am5,am6,am7,bl,i64,reduceIte,reduceCtorEq,Nat.reduceEqDiff,Nat.reduceLT,Nat.reduceLeDiff,Nat.reduceBEq,Nat.reduceAdd,fillA,splice,Nat.reduceMul,al0,al1,al2,al3,al4,al5,al6,al7,al8,al9,al10,al11,al12,al13,al14,al15,al16,al17,al18,al19,al20,al21,al22,al23,al24,al25,al26,al27,al28,al29,al30,al31,al32,al33,al34, Int.lt_irrefl]
  | cons x rest ih =>
    intro k H s hd hk hs hc
    obtain ⟨hx, hlt, hd'⟩ := drop_cons hd
    obtain ⟨a, ha1, ha2⟩ := iV_at (hf.ext hs.2.1) hfw hx
    have hlt' : (k : Int) < (l.length : Int) := by omega
    have hwk := wrap_pos (n := k) (by omega)
    obtain ⟨H1, q1, q2⟩ := enter_fun hT base h n v H0 H s.1 s.2 x hb hv hlen hn (by omega) hs
    have q1' : callW CT (clos h) [.s (.int .i64 x)] base H = some (.tup [], H1) := q1
    obtain ⟨i1, i2⟩ := enterZ_inv n x s hs.2.2.2.2.2.1
    obtain ⟨H', p1, p2⟩ := ih (k + 1) (trim L (frOf 55 [(2, .ref h 0 0), (5, .ref (h + 2) 0 0), (6, .ref (h + 3) 0 0), (7, clos h), (44, fv), (45, .s (.int .i64 l.length)), (46, .s (.int .i64 ((k + 1 : Nat) : Int)))]) H1) (enterZ n x s) hd' (by omega) (q2.trim hL _) (by omega)
    refine ⟨H', ?_, p2⟩
    rw [itW_step]
    simp only [a_graph_Reach,s_graph_Reach_l0_b,s_graph_Reach_l1_b,s_graph_Reach_l2_b, am0,am1,am2,am3,am4,am5,am6,am7,bl,i64,reduceIte,reduceCtorEq,Nat.reduceEqDiff,Nat.reduceLT,Nat.reduceLeDiff,Nat.reduceBEq,Nat.reduceAdd,fillA,splice,Nat.reduceMul,al0,al1,al2,al3,al4,al5,al6,al7,al8,al9,al10,al11,al12,al13,al14,al15,al16,al17,al18,al19,al20,al21,al22,al23,al24,al25,al26,al27,al28,al29,al30,al31,al32,al33,al34, hlt', hwk, ha1, ha2, q1']
    exact p1
end Go.Proofs.Ytmnlagcmpgilaaa
set_option maxRecDepth 100000
namespace Go.Proofs.Ytmnlagcmpgilaaa
open Go.AM
def Tur (c c' : List V) (n i : Nat) : Prop := c'.length = c.length ∧ ∀ x, c'[x]? = if x < n ∧ (x < i ∨ n ≤ x + i) then c[n - 1 - x]? else c[x]?
theorem tur_start (c : List V) (n : Nat) : Tur c c n 0 := ⟨rfl, fun x => by rw [if_neg]; omega⟩
theorem tur_step {c c' : List V} {n i : Nat} (h : Tur c c' n i) (hn : n ≤ c.length) (hi : i + i + 1 < n) (a b : V) (ha : c'[n - 1 - i]? = some a) (hb : c'[i]? = some b) : Tur c ((c'.set i a).set (n - 1 - i) b) n (i + 1) := by
  obtain ⟨h1, h2⟩ := h
  refine ⟨by rw [List.length_set, List.length_set, h1], fun x => ?_⟩
  have ea := h2 (n - 1 - i)
  have eb := h2 i
  rw [ha, if_neg (by omega)] at ea
  rw [hb, if_neg (by omega)] at eb
  by_cases c1 : n - 1 - i = x
  · subst c1
    rw [List.getElem?_set_self (by rw [List.length_set, h1]; omega), if_pos (by omega), eb]
    congr 1; omega
  · rw [List.getElem?_set_ne c1]
    by_cases c2 : i = x
    · subst c2
      rw [List.getElem?_set_self (by rw [h1]; omega), if_pos (by omega), ea]
    · rw [List.getElem?_set_ne c2, h2 x]
      by_cases c3 : x < n ∧ (x < i ∨ n ≤ x + i)
      · rw [if_pos c3, if_pos (by omega)]
      · rw [if_neg c3, if_neg (by omega)]
theorem tur_end {c c' : List V} {n i : Nat} (h : Tur c c' n i) (hn : n ≤ c.length) (hi : n ≤ i + i + 1) : c'.take n = (c.take n).reverse := by
  obtain ⟨h1, h2⟩ := h
  refine List.ext_getElem? fun x => ?_
  by_cases hx : x < n
  · rw [List.getElem?_take_of_lt hx, List.getElem?_reverse (by rw [List.length_take]; omega), List.length_take, Nat.min_eq_left hn, List.getElem?_take_of_lt (by omega), h2 x]
    by_cases c3 : x < i ∨ n ≤ x + i
    · rw [if_pos ⟨hx, c3⟩]
    · rw [if_neg (by omega)]
      congr 1; omega
  · rw [List.getElem?_eq_none (by rw [List.length_take]; omega), List.getElem?_eq_none (by rw [List.length_reverse, List.length_take]; omega)]
theorem rev_loop (call : CallF) (base : Nat) (id g n : Nat) (c : List V) (H : Heap) (hc : getC H id g = some c) (hn : n ≤ c.length) (hb : base ≤ id) (hone : ∀ x ∈ c, x.one = true) (hsm : n < 2 ^ 60) : ∀ (d i : Nat) (c' : List V), n ≤ d + (i + i) → i ≤ n → Tur c c' n i → (∀ x ∈ c', x.one = true) →
    ∃ c2 i2 j2, itW (evC call itW base s_slices_Reverse_int_int_l0) [] H.length (frOf 28 [(0, .sl id g 0 n 1), (2, .s (.int .i64 i)), (3, .s (.int .i64 ((n : Int) - 1 - i)))]) (H.set id (.cells g c')) = some (.ext 0, frOf 28 [(0, .sl id g 0 n 1), (2, .s (.int .i64 i2)), (3, .s (.int .i64 j2)), (9, .s (.bool false))], H.set id (.cells g c2)) ∧ c2.length = c.length ∧ c2.take n = (c.take n).reverse := by
  have tsm : ∀ fr c', trim H.length fr (H.set id (.cells g c')) = H.set id (.cells g c') := fun fr c' => trim_same (by simp)
  intro d
  induction d using Nat.strongRecOn with
  | ind d ih =>
    intro i c' hd hin ht ho
    by_cases hlt : (i : Int) < (n : Int) - 1 - i
    · have hi : i + i + 1 < n := by omega
      have hl : c'.length = c.length := ht.1
      have hk : ((n : Int) - 1 - i) = ((n - 1 - i : Nat) : Int) := by omega
      have hg : getC (H.set id (.cells g c')) id g = some c' := getC_put hc
      obtain ⟨a1, a2⟩ := at_sl (n := n) hg (j := n - 1 - i) (by omega) (List.getElem?_eq_getElem (by omega))
      obtain ⟨b1, b2⟩ := at_sl (n := n) hg (j := i) (by omega) (List.getElem?_eq_getElem (by omega))
      have st1 := storeV_at (v := c'[n - 1 - i]) (base := base) hg hb (ho _ (List.getElem_mem _)) (off := i) (by omega)
      rw [set_set'] at st1
      have hg2 : getC (H.set id (.cells g (c'.set i c'[n - 1 - i]))) id g = some (c'.set i c'[n - 1 - i]) := getC_put hc
      have st2 := storeV_at (v := c'[i]) (base := base) hg2 hb (ho _ (List.getElem_mem _)) (off := n - 1 - i) (by rw [List.length_set]; omega)
      rw [set_set'] at st2
      have w1 := wrap_pos (n := i) (by omega)
      have w2 : IntKind.i64.wrap (((n - 1 - i : Nat) : Int) - 1) = (n : Int) - 1 - ((i + 1 : Nat) : Int) := by rw [IntKind.wrap_i64]; omega
      obtain ⟨c2, i2, j2, e1, e2⟩ := ih (d - 1) (by omega) (i + 1) ((c'.set i c'[n - 1 - i]).set (n - 1 - i) c'[i]) (by omega) (by omega) (tur_step ht hn hi _ _ (List.getElem?_eq_getElem (by omega)) (List.getElem?_eq_getElem (by omega))) (fun x hx => by
        rcases List.mem_or_eq_of_mem_set hx with hx | rfl
        · rcases List.mem_or_eq_of_mem_set hx with hx | rfl
          · exact ho x hx
          · exact ho _ (List.getElem_mem _)
        · exact ho _ (List.getElem_mem _))
      refine ⟨c2, i2, j2, ?_, e2⟩
      rw [hk] at hlt ⊢
      rw [itW_step]
      simp only [a_slices_Reverse_int_int,s_slices_Reverse_int_int_l0_b, am0,am1,am2,am3,am4,am5,am6,am7,bl,i64,reduceIte,reduceCtorEq,Nat.reduceEqDiff,Nat.reduceLT,Nat.reduceLeDiff,Nat.reduceBEq,Nat.reduceAdd,fillA,splice,Nat.reduceMul,al0,al1,al2,al3,al4,al5,al6,al7,al8,al9,al10,al11,al12,al13,al14,al15,al16,al17,al18,al19,al20,al21,al22,al23,al24,al25,al26,al27,al28,al29,al30,al31,al32,al33,al34, hlt, a1, a2, b1, b2, st1, st2, w1, w2, tsm]
      exact e1
    · refine ⟨c', i, (n : Int) - 1 - i, ?_, ht.1, tur_end ht hn (by omega)⟩
      rw [itW_step]
      simp only [a_slices_Reverse_int_int,s_slices_Reverse_int_int_l0_b, am0,am1,am2,am3,am4,am5,am6,am7,bl,i64,reduceIte,reduceCtorEq,Nat.reduceEqDiff,Nat.reduceLT,Nat.reduceLeDiff,Nat.reduceBEq,Nat.reduceAdd,fillA,splice,Nat.reduceMul,al0,al1,al2,al3,al4,al5,al6,al7,al8,al9,al10,al11,al12,al13,al14,al15,al16,al17,al18,al19,al20,al21,al22,al23,al24,al25,al26,al27,al28,al29,al30,al31,al32,al33,al34, hlt, tsm]
theorem reverse_fun {CT : Nat → Option CFun} (hT : CT k_slices_Reverse_int_int = some (.code s_slices_Reverse_int_int)) (base m : Nat) (H : Heap) (v : V) (l : List Int) (hv : OwnN m H v (l.map iV)) (hone : ∀ id g n c, v = .sl id g 0 n 1 → getC H id g = some c → ∀ x ∈ c, x.one = true) (hb : base ≤ m) (hn : l.length < 2 ^ 60) :
    ∃ H', callW CT (.fn k_slices_Reverse_int_int [] []) [v] base H = some (.tup [], H') ∧ OwnN m H' v (l.reverse.map iV) ∧ H'.length = H.length ∧ ∀ i, i < m → H'[i]? = H[i]? := by
  have hw0 : IntKind.i64.wrap ((l.length : Int) - 1) = (l.length : Int) - 1 := by rw [IntKind.wrap_i64]; omega
  have hlen := iV_len hv.rd
  rcases hv with ⟨h0, hv⟩ | ⟨id, g, c, rfl, hc, hl, ht, hid⟩
  · have hl0 : l = [] := by simpa using h0
    subst hl0
    refine ⟨H, callW_fn (c := s_slices_Reverse_int_int) hT (by simp [s_slices_Reverse_int_int]) ?_, .inl ⟨rfl, hv⟩, rfl, fun _ _ => rfl⟩
    have hlt : ¬ (0 : Int) < IntKind.i64.wrap (((0 : Nat) : Int) - 1) := by rw [IntKind.wrap_i64]; omega
    simp only [List.length_nil] at hlen hw0
    simp only [s_slices_Reverse_int_int, a_slices_Reverse_int_int,s_slices_Reverse_int_int_l0_b, am0,am1,am2,am3,am4,am5,am6,am7,bl,i64,reduceIte,reduceCtorEq,Nat.reduceEqDiff,Nat.reduceLT,Nat.reduceLeDiff,Nat.reduceBEq,Nat.reduceAdd,fillA,splice,Nat.reduceMul,al0,al1,al2,al3,al4,al5,al6,al7,al8,al9,al10,al11,al12,al13,al14,al15,al16,al17,al18,al19,al20,al21,al22,al23,al24,al25,al26,al27,al28,al29,al30,al31,al32,al33,al34, hlen, hw0]
    rw [itW_step]
    simp only [a_slices_Reverse_int_int,s_slices_Reverse_int_int_l0_b, am0,am1,am2,am3,am4,am5,am6,am7,bl,i64,reduceIte,reduceCtorEq,Nat.reduceEqDiff,Nat.reduceLT,Nat.reduceLeDiff,Nat.reduceBEq,Nat.reduceAdd,fillA,splice,Nat.reduceMul,al0,al1,al2,al3,al4,al5,al6,al7,al8,al9,al10,al11,al12,al13,al14,al15,al16,al17,al18,al19,al20,al21,al22,al23,al24,al25,al26,al27,al28,al29,al30,al31,al32,al33,al34, res_nil, trim_same rfl]
    rfl
  · have hll : (l.map iV).length = l.length := List.length_map ..
    rw [hll] at hl ht hlen hone ⊢
    obtain ⟨c2, i2, j2, e1, e2, e3⟩ := rev_loop (callW CT) base id g l.length c H hc hl (by omega) (hone id g _ c rfl hc) hn l.length 0 c (by omega) (by omega) (tur_start _ _) (hone id g _ c rfl hc)
    rw [getC_same hc] at e1
    have hz : (l.length : Int) - 1 - ((0 : Nat) : Int) = (l.length : Int) - 1 := by omega
    rw [hz, cast0] at e1
    refine ⟨H.set id (.cells g c2), callW_fn (c := s_slices_Reverse_int_int) hT (by simp [s_slices_Reverse_int_int]) ?_, .inr ⟨id, g, c2, by simp, getC_put hc, by simp; omega, ?_, hid⟩, by simp, fun i hi => by rw [List.getElem?_set_ne (by omega)]⟩
    · simp only [s_slices_Reverse_int_int, a_slices_Reverse_int_int,s_slices_Reverse_int_int_l0_b, am0,am1,am2,am3,am4,am5,am6,am7,bl,i64,reduceIte,reduceCtorEq,Nat.reduceEqDiff,Nat.reduceLT,Nat.reduceLeDiff,Nat.reduceBEq,Nat.reduceAdd,fillA,splice,Nat.reduceMul,al0,al1,al2,al3,al4,al5,al6,al7,al8,al9,al10,al11,al12,al13,al14,al15,al16,al17,al18,al19,al20,al21,al22,al23,al24,al25,al26,al27,al28,al29,al30,al31,al32,al33,al34, hlen, hw0, e1, res_nil]
    · rw [List.length_map, List.length_reverse, e3, ht, List.map_reverse]
end Go.Proofs.Ytmnlagcmpgilaaa
set_option maxRecDepth 100000
namespace Go.Proofs.Ytmnlagcmpgilaaa
open Go.AM
theorem enters_cnt (n : Nat) : ∀ (l : List Int) (s : List Bool × List Int), s.1.length = n → cntF (enters n l s).1 ≤ cntF s.1 := by
  intro l
  induction l with
  | nil => intro s _; exact Nat.le_refl _
  | cons k l ih =>
    intro s h
    obtain ⟨a, b⟩ := enterZ_inv n k s h
    have h2 := ih _ a
    have h3 : cntF (enterZ n k s).1 ≤ cntF s.1 := by
      have : s.2.length ≤ (enterZ n k s).2.length := by
        simp only [enterZ]
        cases decide (k ≥ 0) && decide (k < (n : Int)) && !(s.1.getD k.toNat true) <;> simp
      omega
    exact Nat.le_trans h2 h3
theorem reach_l2 {CT : Nat → Option CFun} (hT : CT k_graph_Reach_1 = some (.code s_graph_Reach_1)) (base h L : Nat) (v : V) (H0 : Heap) (G : List (List Int)) (hb : base ≤ h) (hL : h + 4 ≤ L) (hv : RdRows H0 v (rowsV G)) (hlen : ∀ H, xLen H .s v = xLen H0 .s v) (hn : G.length < 2 ^ 40) (hr : ∀ r ∈ G, r.length < 2 ^ 62)
    (P : List Bool × List Int → Prop) (hP : ∀ (B : List Bool) (S : List Int) (i : Int), P (B, S ++ [i]) → (0 ≤ i ∧ i < G.length) ∧ P (enters G.length (G.getD i.toNat []) (B, S))) :
    ∀ (m : Nat) (H : Heap) (s : List Bool × List Int), 2 * cntF s.1 + s.2.length ≤ m → RS h v G.length H0 H s.1 s.2 → s.2.length + cntF s.1 ≤ G.length → P s →
    ∃ H' B', itW (evC (callW CT) itW base s_graph_Reach_l2) [17, 18, 19, 20, 44, 45, 46, 47] L (frOf 55 [(2, .ref h 0 0), (5, .ref (h + 2) 0 0), (6, .ref (h + 3) 0 0), (7, clos h)]) H =
      some (.ext 2, frOf 55 [(2, .ref h 0 0), (5, .ref (h + 2) 0 0), (6, .ref (h + 3) 0 0), (7, clos h), (29, .s (.bool false))], H') ∧ RS h v G.length H0 H' B' [] ∧ P (B', []) := by
  have stop : ∀ (H : Heap) (B : List Bool), RS h v G.length H0 H B [] → P (B, []) → ∃ H' B', itW (evC (callW CT) itW base s_graph_Reach_l2) [17, 18, 19, 20, 44, 45, 46, 47] L (frOf 55 [(2, .ref h 0 0), (5, .ref (h + 2) 0 0), (6, .ref (h + 3) 0 0), (7, clos h)]) H = some (.ext 2, (frOf 55 [(2, .ref h 0 0), (5, .ref (h + 2) 0 0), (6, .ref (h + 3) 0 0), (7, clos h), (29, .s (.bool false))]), H') ∧ RS h v G.length H0 H' B' [] ∧ P (B', []) := by
    intro H B hs hp
    obtain ⟨a1, a2, a3, a4, a5, a6, nv, a7, a8⟩ := hs
    have hnl := iV_len a8.rd
    rw [List.length_nil, cast0] at hnl
    refine ⟨trim L (frOf 55 [(2, .ref h 0 0), (5, .ref (h + 2) 0 0), (6, .ref (h + 3) 0 0), (7, clos h), (29, .s (.bool false))]) H, B, ?_, RS.trim ⟨a1, a2, a3, a4, a5, a6, nv, a7, a8⟩ hL _, hp⟩
    rw [itW_step]
    simp only [a_graph_Reach,s_graph_Reach_l0_b,s_graph_Reach_l1_b,s_graph_Reach_l2_b, am0,am1,am2,am3,am4,am5,am6,am7,bl,i64,reduceIte,reduceCtorEq,Nat.reduceEqDiff,Nat.reduceLT,Nat.reduceLeDiff,Nat.reduceBEq,Nat.reduceAdd,fillA,splice,Nat.reduceMul,al0,al1,al2,al3,al4,al5,al6,al7,al8,al9,al10,al11,al12,al13,al14,al15,al16,al17,al18,al19,al20,al21,al22,al23,al24,al25,al26,al27,al28,al29,al30,al31,al32,al33,al34, getC_load a7, hnl, gt_iff_lt, Int.lt_irrefl]
  intro m
  induction m with
  | zero =>
    intro H s hm hs hc hp
    obtain ⟨B, S⟩ := s
    have : S = [] := List.eq_nil_of_length_eq_zero (by simp only at hm; omega)
    subst this
    exact stop H B hs hp
  | succ m ih =>
    intro H s hm hs hc hp
    obtain ⟨B, S0⟩ := s
    rcases List.eq_nil_or_concat S0 with rfl | ⟨S, i, rfl⟩
    · exact stop H B hs hp
    · rw [List.concat_eq_append] at *
      obtain ⟨⟨hi0, hin⟩, hp'⟩ := hP B S i hp
      obtain ⟨j, rfl⟩ := Int.eq_ofNat_of_zero_le hi0
      obtain ⟨a1, a2, a3, a4, a5, a6, nv, a7, a8⟩ := hs
      simp only at a4 a6 a8 hm hc
      have hnl := iV_len a8.rd
      rw [List.length_append, List.length_singleton] at hnl hm hc
      have hj : j < G.length := by omega
      obtain ⟨r, hG⟩ : ∃ r, G[j]? = some r := ⟨G[j], List.getElem?_eq_getElem hj⟩
      have hGD : G.getD j [] = r := by rw [List.getD, hG]; rfl
      obtain ⟨a, ha1, ha2⟩ := iV_at a8.rd a8.wide (k := S.length) (x := (j : Int)) (by simp)
      obtain ⟨w, w1, w2⟩ := a8.pop (k := S.length) (by simp)
      have hst := storeV_at (v := w) (base := base) a7 (by omega) w2.one (off := 0) (by simp)
      have hwp : IntKind.i64.wrap (((S.length + 1 : Nat) : Int) - 1) = (S.length : Nat) := by rw [IntKind.wrap_i64]; omega
      have hpos : (0 : Int) < ((S.length + 1 : Nat) : Int) := by omega
      have a7' := getC_put (c' := [w]) a7
      have hs1 : RS h v G.length H0 (H.set (h + 3) (.cells 0 [w])) B S := by
        refine ⟨a1, a2.set (by omega) _, by rw [getC_other (by omega)]; exact a3, by rw [getC_other (by omega)]; exact a4, by rw [getC_other (by omega)]; exact a5, a6, w, a7', ?_⟩
        have := w2.set (id := h + 3) (by omega) (.cells 0 [w])
        rwa [← List.map_take, List.take_left'] at this
        rfl
      obtain ⟨vs, hv1, hv2, hv3, hv4⟩ := id hv
      obtain ⟨xv, hx1, hx0, hx4⟩ := hv4 j _ (rowsV_get hG)
      obtain ⟨b, hb1, hb2⟩ := (hv1.ext hs1.2.1).at' hv2 hx1
      have hx3 := hx0.ext hs1.2.1
      have hrl := hr r (List.mem_of_getElem? hG)
      obtain ⟨H1, p1, p2⟩ := reach_l1 hT base h G.length H.length v xv H0 r hb (by have := getC_lt a7; omega) (rows_len hv) hlen hn hx0 hx4 hrl r 0 _ (B, S) rfl (Nat.zero_le _) hs1 (by simp only; omega)
      rw [cast0] at p1
      rw [Int.toNat_natCast, hGD] at hp'
      obtain ⟨i1, i2⟩ := enters_inv G.length r (B, S) a6
      simp only at i2
      obtain ⟨H', B', q1, q2, q3⟩ := ih (trim L (frOf 55 [(2, .ref h 0 0), (5, .ref (h + 2) 0 0), (6, .ref (h + 3) 0 0), (7, clos h)]) H1) (enters G.length r (B, S)) (by have := enters_cnt G.length r (B, S) a6; simp only at this; omega) (p2.trim hL _) (by omega) hp'
      refine ⟨H', B', ?_, q2, q3⟩
      rw [itW_step]
      have a3' := hs1.2.2.1
      simp only [a_graph_Reach,s_graph_Reach_l0_b,s_graph_Reach_l1_b,s_graph_Reach_l2_b, am0,am1,am2,am3,am4,am5,am6,am7,bl,i64,reduceIte,reduceCtorEq,Nat.reduceEqDiff,Nat.reduceLT,Nat.reduceLeDiff,Nat.reduceBEq,Nat.reduceAdd,fillA,splice,Nat.reduceMul,al0,al1,al2,al3,al4,al5,al6,al7,al8,al9,al10,al11,al12,al13,al14,al15,al16,al17,al18,al19,al20,al21,al22,al23,al24,al25,al26,al27,al28,al29,al30,al31,al32,al33,al34, getC_load a7, hnl, gt_iff_lt, hpos, hwp, ha1, ha2, w1, hst, a3', hb1, hb2, iV_len hx3, p1]
      exact q1
end Go.Proofs.Ytmnlagcmpgilaaa
set_option maxRecDepth 100000
namespace Go.Proofs.Ytmnlagcmpgilaaa
open Go.AM
theorem reach_run {CT : Nat → Option CFun} (hR : CT k_graph_Reach = some (.code s_graph_Reach)) (hT : CT k_graph_Reach_1 = some (.code s_graph_Reach_1)) (base : Nat) (H : Heap) (v fv : V) (G : List (List Int)) (l : List Int) (hb : base ≤ H.length) (hv : RdRows H v (rowsV G)) (hf : Rd H fv (l.map iV)) (hfw : Wide1 fv) (hl : l.length < 2 ^ 62) (hn : G.length < 2 ^ 40) (hr : ∀ r ∈ G, r.length < 2 ^ 62)
    (P : List Bool × List Int → Prop) (hP : ∀ (B : List Bool) (S : List Int) (i : Int), P (B, S ++ [i]) → (0 ≤ i ∧ i < G.length) ∧ P (enters G.length (G.getD i.toNat []) (B, S))) (h0 : P (enters G.length l (List.replicate G.length false, []))) :
    ∃ v' H' B, callW CT (.fn k_graph_Reach [] []) [v, fv] base H = some (v', H') ∧ Ext H H' ∧ Rd H' v' (B.map bV) ∧ Wide1 v' ∧ B.length = G.length ∧ P (B, []) := by
  have hone : v.one = true := by obtain ⟨vs, h, _⟩ := hv; exact h.one
  have hlen : ∀ H', xLen H' .s v = xLen H .s v := by
    intro H'
    obtain ⟨vs, h, _⟩ := hv
    rcases h.cases with ⟨_, rfl | rfl⟩ | ⟨es, rfl, _⟩ | ⟨id, g, off, n, c, rfl, _⟩ <;> rfl
  have hvl := rows_len hv
  have hfl : ∀ H', xLen H' .s fv = some (.s (.int .i64 l.length)) := by
    intro H'
    rw [← iV_len hf]
    rcases hf.cases with ⟨_, rfl | rfl⟩ | ⟨es, rfl, _⟩ | ⟨id, g, off, n, c, rfl, _⟩ <;> rfl
  have hb2 : base ≤ H.length + 2 := by omega
  have hmk := make_n (H := H ++ [.cells 0 [v]]) (zero := [.s (.bool false)]) (sz := 1) (bytes := 1) (k := .i64) (k' := .i64) (n := G.length) (by omega)
  rw [flat_one] at hmk
  let H4 : Heap := H ++ [.cells 0 [v]] ++ [.cells 0 (List.replicate G.length (.s (.bool false)))] ++ [.cells 0 [.sl (H.length + 1) 0 0 G.length 1]] ++ [.cells 0 [nilS]]
  have hrs : RS H.length v G.length H H4 (List.replicate G.length false) [] := by
    refine ⟨rfl, ⟨[.cells 0 [v], .cells 0 (List.replicate G.length (.s (.bool false))), .cells 0 [.sl (H.length + 1) 0 0 G.length 1], .cells 0 [nilS]], by simp [H4]⟩, by simp [H4, getC], by simp [H4, getC, bV], by simp [H4, getC], by simp, nilS, by simp [H4, getC], .inl ⟨rfl, .inl rfl⟩⟩
  have hcnt : ∀ n, cntF (List.replicate n false) = n := by
    intro n
    induction n with
    | zero => rfl
    | succ n ih => simp only [List.replicate_succ, cntF, ih]; simp; omega
  obtain ⟨H5, p1, p2⟩ := reach_l0 hT base H.length G.length (H.length + 4) v fv H l hb (Nat.le_refl _) hvl hlen hn hf hfw hl l 0 H4 (List.replicate G.length false, []) rfl (Nat.zero_le _) hrs (by simp [hcnt])
  rw [cast0] at p1
  obtain ⟨i1, i2⟩ := enters_inv G.length l (List.replicate G.length false, []) (by simp)
  simp only [hcnt, List.length_nil, Nat.zero_add] at i2
  obtain ⟨H6, B, q1, q2, q3⟩ := reach_l2 hT base H.length H5.length v H G hb (by have := getC_lt p2.2.2.2.2.2.2.choose_spec.1; omega) hv hlen hn hr P hP _ H5 _ (Nat.le_refl _) p2 (by omega) h0
  obtain ⟨a1, a2, a3, a4, a5, a6, nv, a7, a8⟩ := q2
  refine ⟨.sl (H.length + 1) 0 0 G.length 1, H6, B, callW_fnA (c := s_graph_Reach) (k := 2) hR rfl (by decide) s_graph_Reach_first ?_, a2, ?_, trivial, a6, q3⟩
  · simp only [clos] at p1 q1
    simp only [H4, nilS] at p1
    simp only [s_graph_Reach, a_graph_Reach,s_graph_Reach_l0_b,s_graph_Reach_l1_b,s_graph_Reach_l2_b, am0,am1,am2,am3,am4,am5,am6,am7,bl,i64,reduceIte,reduceCtorEq,Nat.reduceEqDiff,Nat.reduceLT,Nat.reduceLeDiff,Nat.reduceBEq,Nat.reduceAdd,fillA,splice,Nat.reduceMul,al0,al1,al2,al3,al4,al5,al6,al7,al8,al9,al10,al11,al12,al13,al14,al15,al16,al17,al18,al19,al20,al21,al22,al23,al24,al25,al26,al27,al28,al29,al30,al31,al32,al33,al34, cells_of_one hone, hone, hlen, hvl, op_mkSl, hmk, hb2, hfl, xsub_mkFn, p1, q1, getC_load a5]
  · have := getC_sl a4
    rwa [List.length_map, a6] at this
end Go.Proofs.Ytmnlagcmpgilaaa
set_option maxRecDepth 100000
namespace Go.Proofs.Ytmnlagcmpgilaaa
open Go.AM
inductive Rch (G : List (List Int)) (l : List Int) : Nat → Prop
  | base (k : Nat) : (k : Int) ∈ l → k < G.length → Rch G l k
  | step (i k : Nat) : Rch G l i → (k : Int) ∈ G.getD i [] → k < G.length → Rch G l k
structure Ent (n : Nat) (r : List Int) (s t : List Bool × List Int) : Prop where
  len : t.1.length = n
  mono : ∀ k : Nat, s.1[k]? = some true → t.1[k]? = some true
  only : ∀ k : Nat, t.1[k]? = some true → s.1[k]? = some true ∨ ((k : Int) ∈ r ∧ k < n ∧ (k : Int) ∈ t.2)
  all : ∀ k : Nat, (k : Int) ∈ r → k < n → t.1[k]? = some true
  sub : ∀ x, x ∈ s.2 → x ∈ t.2
  new : ∀ x, x ∈ t.2 → x ∈ s.2 ∨ ∃ k : Nat, x = k ∧ k < n ∧ t.1[k]? = some true
theorem enterZ_ent (n : Nat) (x : Int) (s : List Bool × List Int) (h : s.1.length = n) : Ent n [x] s (enterZ n x s) := by
  obtain ⟨l1, _⟩ := enterZ_inv n x s h
  simp only [enterZ] at l1 ⊢
  cases hc : decide (x ≥ 0) && decide (x < (n : Int)) && !(s.1.getD x.toNat true) with
  | false =>
    simp only [cond_false]
    refine ⟨h, fun _ h => h, fun _ h => .inl h, fun k hk hkn => ?_, fun _ h => h, fun _ h => .inl h⟩
    have : x = (k : Int) := (List.mem_singleton.1 hk).symm
    subst this
    have h1 : decide ((k : Int) ≥ 0) = true := by rw [decide_eq_true_eq]; omega
    have h2 : decide ((k : Int) < (n : Int)) = true := by rw [decide_eq_true_eq]; omega
    rw [h1, h2, Bool.true_and, Bool.true_and, Bool.not_eq_false', Int.toNat_natCast, List.getD, List.getElem?_eq_getElem (by omega)] at hc
    rw [List.getElem?_eq_getElem (by omega)]
    exact congrArg some hc
  | true =>
    rw [hc] at l1
    simp only [cond_true] at l1 ⊢
    simp only [Bool.and_eq_true, decide_eq_true_eq, Bool.not_eq_true'] at hc
    obtain ⟨j, rfl⟩ := Int.eq_ofNat_of_zero_le hc.1.1
    have hj : j < n := by omega
    simp only [Int.toNat_natCast] at l1 ⊢
    have hset : (s.1.set j true)[j]? = some true := by rw [List.getElem?_set_self (by omega)]
    refine ⟨l1, fun k hk => ?_, fun k hk => ?_, fun k hk _ => ?_, fun y hy => List.mem_append_left _ hy, fun y hy => ?_⟩
    · by_cases e : j = k
      · subst e; exact hset
      · rw [List.getElem?_set_ne e]; exact hk
    · by_cases e : j = k
      · subst e; exact .inr ⟨List.mem_singleton.2 rfl, hj, List.mem_append_right _ (List.mem_singleton.2 rfl)⟩
      · rw [List.getElem?_set_ne e] at hk; exact .inl hk
    · have : k = j := by have := List.mem_singleton.1 hk; omega
      subst this; exact hset
    · rcases List.mem_append.1 hy with hy | hy
      · exact .inl hy
      · exact .inr ⟨j, List.mem_singleton.1 hy, hj, hset⟩
theorem enters_ent (n : Nat) : ∀ (r : List Int) (s : List Bool × List Int), s.1.length = n → Ent n r s (enters n r s) := by
  intro r
  induction r with
  | nil => intro s h; exact ⟨h, fun _ h => h, fun _ h => .inl h, fun _ h => absurd h List.not_mem_nil, fun _ h => h, fun _ h => .inl h⟩
  | cons x r ih =>
    intro s h
    have a := enterZ_ent n x s h
    have b := ih (enterZ n x s) a.len
    refine ⟨b.len, fun k hk => b.mono k (a.mono k hk), fun k hk => ?_, fun k hk hkn => ?_, fun y hy => b.sub y (a.sub y hy), fun y hy => ?_⟩
    · rcases b.only k hk with q | ⟨q1, q2, q3⟩
      · rcases a.only k q with q | ⟨q1, q2, q3⟩
        · exact .inl q
        · exact .inr ⟨List.mem_cons.2 (.inl (List.mem_singleton.1 q1)), q2, b.sub _ q3⟩
      · exact .inr ⟨List.mem_cons_of_mem _ q1, q2, q3⟩
    · rcases List.mem_cons.1 hk with e | e
      · exact b.mono k (a.all k (List.mem_singleton.2 e) hkn)
      · exact b.all k e hkn
    · rcases b.new y hy with q | q
      · rcases a.new y q with q | ⟨k, q1, q2, q3⟩
        · exact .inl q
        · exact .inr ⟨k, q1, q2, b.mono k q3⟩
      · exact .inr q
end Go.Proofs.Ytmnlagcmpgilaaa
set_option maxRecDepth 100000
namespace Go.Proofs.Ytmnlagcmpgilaaa
open Go.AM
structure Inv (G : List (List Int)) (l : List Int) (s : List Bool × List Int) : Prop where
  len : s.1.length = G.length
  stk : ∀ x, x ∈ s.2 → ∃ k : Nat, x = k ∧ k < G.length ∧ s.1[k]? = some true
  snd : ∀ k : Nat, s.1[k]? = some true → Rch G l k
  bas : ∀ k : Nat, (k : Int) ∈ l → k < G.length → s.1[k]? = some true
  cls : ∀ i k : Nat, s.1[i]? = some true → (i : Int) ∉ s.2 → (k : Int) ∈ G.getD i [] → k < G.length → s.1[k]? = some true
theorem inv_start (G : List (List Int)) (l : List Int) : Inv G l (enters G.length l (List.replicate G.length false, [])) := by
  have e := enters_ent G.length l (List.replicate G.length false, []) (by simp)
  have no : ∀ k : Nat, (List.replicate G.length false)[k]? ≠ some true := by
    intro k hk
    rw [List.getElem?_replicate] at hk
    split at hk <;> cases hk
  refine ⟨e.len, fun x hx => ?_, fun k hk => ?_, e.all, fun i k hi hn _ _ => ?_⟩
  · rcases e.new x hx with h | h
    · exact absurd h List.not_mem_nil
    · exact h
  · rcases e.only k hk with h | ⟨h1, h2, _⟩
    · exact absurd h (no k)
    · exact .base k h1 h2
  · rcases e.only i hi with h | ⟨_, _, h3⟩
    · exact absurd h (no i)
    · exact absurd h3 hn
theorem inv_round (G : List (List Int)) (l : List Int) (B : List Bool) (S : List Int) (x : Int) (h : Inv G l (B, S ++ [x])) : (0 ≤ x ∧ x < G.length) ∧ Inv G l (enters G.length (G.getD x.toNat []) (B, S)) := by
  obtain ⟨j, rfl, hj, hBj⟩ := h.stk x (List.mem_append_right _ (List.mem_singleton.2 rfl))
  refine ⟨⟨by omega, by omega⟩, ?_⟩
  rw [Int.toNat_natCast]
  have e := enters_ent G.length (G.getD j []) (B, S) h.len
  refine ⟨e.len, fun y hy => ?_, fun k hk => ?_, fun k hk hkn => e.mono k (h.bas k hk hkn), fun i k hi hn hk hkn => ?_⟩
  · rcases e.new y hy with q | q
    · obtain ⟨k, q1, q2, q3⟩ := h.stk y (List.mem_append_left _ q)
      exact ⟨k, q1, q2, e.mono k q3⟩
    · exact q
  · rcases e.only k hk with q | ⟨q1, q2, _⟩
    · exact h.snd k q
    · exact .step j k (h.snd j hBj) q1 q2
  · by_cases hij : i = j
    · subst hij; exact e.all k hk hkn
    · rcases e.only i hi with q | ⟨_, _, q3⟩
      · refine e.mono k (h.cls i k q (fun hm => ?_) hk hkn)
        rcases List.mem_append.1 hm with hm | hm
        · exact hn (e.sub _ hm)
        · have := List.mem_singleton.1 hm; omega
      · exact absurd q3 hn
theorem inv_end {G : List (List Int)} {l : List Int} {B : List Bool} (h : Inv G l (B, [])) (k : Nat) : B[k]? = some true ↔ Rch G l k := by
  refine ⟨h.snd k, fun hr => ?_⟩
  induction hr with
  | base k h1 h2 => exact h.bas k h1 h2
  | step i k _ h1 h2 ih => exact h.cls i k ih List.not_mem_nil h1 h2
theorem reach_f {CT : Nat → Option CFun} (hR : CT k_graph_Reach = some (.code s_graph_Reach)) (hT : CT k_graph_Reach_1 = some (.code s_graph_Reach_1)) (base : Nat) (H : Heap) (v fv : V) (G : List (List Int)) (l : List Int) (hb : base ≤ H.length) (hv : RdRows H v (rowsV G)) (hf : Rd H fv (l.map iV)) (hfw : Wide1 fv) (hl : l.length < 2 ^ 62) (hn : G.length < 2 ^ 40) (hr : ∀ r ∈ G, r.length < 2 ^ 62) :
    ∃ (v' : V) (H' : Heap) (B : List Bool), callW CT (.fn k_graph_Reach [] []) [v, fv] base H = some (v', H') ∧ Ext H H' ∧ Rd H' v' (B.map bV) ∧ Wide1 v' ∧ B.length = G.length ∧ ∀ k : Nat, B[k]? = some true ↔ Rch G l k := by
  obtain ⟨v', H', B, h1, h2, h3, h4, h5, h6⟩ := reach_run hR hT base H v fv G l hb hv hf hfw hl hn hr (Inv G l) (inv_round G l) (inv_start G l)
  exact ⟨v', H', B, h1, h2, h3, h4, h5, inv_end h6⟩
end Go.Proofs.Ytmnlagcmpgilaaa
set_option maxRecDepth 100000
namespace Go.Proofs.Ytmnlagcmpgilaaa
open Go.AM
theorem rch_lt {G : List (List Int)} {a : List Int} {k : Nat} (h : Rch G a k) : k < G.length := by cases h <;> assumption
theorem bV_at {H : Heap} {v : V} {B : List Bool} (h : Rd H v (B.map bV)) (hw : Wide1 v) {k : Nat} (hk : k < B.length) : ∃ a, xIndexAddr 1 v (.s (.int .i64 k)) = some a ∧ xLoad H false 1 a = some (.s (.bool (B.getD k false))) := by
  refine h.at' hw ?_
  rw [List.getElem?_map, List.getElem?_eq_getElem hk, List.getD, List.getElem?_eq_getElem hk]
  rfl
end Go.Proofs.Ytmnlagcmpgilaaa
set_option maxRecDepth 100000
namespace Go.Proofs.Ytmnlagcmpgilaaa
open Go.AM
theorem bools_eq {n : Nat} {A B : List Bool} (hA : A.length = n) (hB : B.length = n) (h : ∀ k : Nat, A[k]? = some true ↔ B[k]? = some true) : A = B := by
  refine List.ext_getElem (by omega) fun i h1 h2 => ?_
  have := h i
  rw [List.getElem?_eq_getElem h1, List.getElem?_eq_getElem h2, Option.some.injEq, Option.some.injEq] at this
  cases hA : A[i] <;> cases hB : B[i] <;> simp_all
end Go.Proofs.Ytmnlagcmpgilaaa
set_option maxRecDepth 100000
namespace Go.Proofs.Ytmnlagcmpgilaaa
open Go.AM
end Go.Proofs.Ytmnlagcmpgilaaa
set_option maxRecDepth 100000
namespace Go.Proofs.Ytmnlagcmpgilaaa
open Go.AM
theorem getD_mem {G : List (List Int)} {k : Nat} (hk : k < G.length) : G.getD k [] ∈ G := by
  rw [List.getD, List.getElem?_eq_getElem hk]; exact List.getElem_mem hk
theorem normG_get (G : List (List Int)) (k : Nat) (x : Int) : x ∈ (normG G).getD k [] ↔ x ∈ G.getD k [] ∧ 0 ≤ x ∧ x < G.length := by
  unfold normG
  simp only [List.getD, List.getElem?_map]
  cases G[k]? with
  | none => simp
  | some r =>
    simp only [Option.map_some, Option.getD_some]
    rw [(normR_up _ _).2 x]
    simp only [outR, Bool.or_eq_false_iff, decide_eq_false_iff_not]
    constructor
    · rintro ⟨a, b, c⟩; exact ⟨a, by omega, by omega⟩
    · rintro ⟨a, b, c⟩; exact ⟨a, by omega, by omega⟩
open Classical in
noncomputable def leadsB (G : List (List Int)) (a b : Int) : Bool := decide (∃ k : Nat, b = k ∧ Rch G [a] k)
theorem leadsB_nat (G : List (List Int)) (a : Int) (k : Nat) : leadsB G a k = true ↔ Rch G [a] k := by
  simp only [leadsB, decide_eq_true_eq]
  constructor
  · rintro ⟨j, e, h⟩
    have : k = j := by omega
    subst this; exact h
  · exact fun h => ⟨k, rfl, h⟩
end Go.Proofs.Ytmnlagcmpgilaaa
set_option maxRecDepth 100000
namespace Go.Proofs.Ytmnlagcmpgilaaa
open Go.AM
inductive Dfs (N : List (List Int)) : List Int → List Bool → List Int → List Bool → List Int → Prop
  | nil (s : List Bool) (l : List Int) : Dfs N [] s l s l
  | skip (k : Nat) (r : List Int) (s : List Bool) (l : List Int) (s' : List Bool) (l' : List Int) : s[k]? = some true → Dfs N r s l s' l' → Dfs N ((k : Int) :: r) s l s' l'
  | go (k : Nat) (r : List Int) (s : List Bool) (l : List Int) (s1 : List Bool) (l1 : List Int) (s' : List Bool) (l' : List Int) : s[k]? = some false → Dfs N (N.getD k []) (s.set k true) l s1 l1 → Dfs N r s1 ((k : Int) :: l1) s' l' → Dfs N ((k : Int) :: r) s l s' l'
structure DfsK (s : List Bool) (l : List Int) (s' : List Bool) (l' : List Int) : Prop where
  len : s'.length = s.length
  mono : ∀ k : Nat, s[k]? = some true → s'[k]? = some true
  cnt : cntF s' ≤ cntF s
  new : ∃ p : List Int, l' = p ++ l ∧ p.Nodup ∧ (∀ x ∈ p, ∃ k : Nat, x = k ∧ s[k]? = some false ∧ s'[k]? = some true) ∧ ∀ k : Nat, s'[k]? = some true → s[k]? = some true ∨ (k : Int) ∈ p
theorem set_get {s : List Bool} {k j : Nat} (hk : k < s.length) : (s.set k true)[j]? = if k = j then some true else s[j]? := by
  rw [List.getElem?_set]
  split
  · rename_i h; subst h; first | rfl | rw [if_pos hk]
  · rfl
theorem dfs_keep {N : List (List Int)} {r : List Int} {s : List Bool} {l : List Int} {s' : List Bool} {l' : List Int} (h : Dfs N r s l s' l') : DfsK s l s' l' := by
  induction h with
  | nil s l => exact ⟨rfl, fun _ h => h, Nat.le_refl _, [], rfl, List.nodup_nil, fun x hx => (List.not_mem_nil hx).elim, fun k h => .inl h⟩
  | skip k r s l s' l' h1 h2 ih => exact ih
  | go k r s l s1 l1 s' l' h1 h2 h3 ih1 ih2 =>
    obtain ⟨a1, a2, a3, p, a4, a5, a6, a7⟩ := ih1
    obtain ⟨b1, b2, b3, q, b4, b5, b6, b7⟩ := ih2
    have hk : k < s.length := (List.getElem?_eq_some_iff.1 h1).1
    have hc := cntF_set s k h1
    have hk1 : s1[k]? = some true := a2 k (by rw [set_get hk, if_pos rfl])
    have up : ∀ j : Nat, s[j]? = some true → s1[j]? = some true := fun j hj => a2 j (by rw [set_get hk]; split <;> first | rfl | exact hj)
    have down : ∀ j : Nat, j < s.length → s1[j]? = some false → s[j]? = some false := by
      intro j hj hf
      rw [List.getElem?_eq_getElem hj]
      cases hb : s[j] with
      | false => rfl
      | true =>
        have := up j (by rw [List.getElem?_eq_getElem hj, hb])
        rw [hf] at this; cases this
    refine ⟨by rw [b1, a1, List.length_set], fun j hj => b2 j (up j hj), by omega, q ++ (k : Int) :: p, by rw [b4, a4]; simp, ?_, ?_, ?_⟩
    · rw [List.nodup_append]
      refine ⟨b5, List.nodup_cons.2 ⟨?_, a5⟩, ?_⟩
      · intro hm
        obtain ⟨j, e, hf, _⟩ := a6 _ hm
        have : k = j := by omega
        subst this
        rw [set_get hk, if_pos rfl] at hf
        cases hf
      · intro x hx y hy e
        subst e
        obtain ⟨j, rfl, hf, _⟩ := b6 x hx
        rcases List.mem_cons.1 hy with e | hy
        · have : k = j := by omega
          subst this
          rw [hk1] at hf; cases hf
        · obtain ⟨j', e, _, ht⟩ := a6 _ hy
          have : j' = j := by omega
          subst this
          rw [ht] at hf; cases hf
    · intro x hx
      rcases List.mem_append.1 hx with hx | hx
      · obtain ⟨j, rfl, hf, ht⟩ := b6 x hx
        refine ⟨j, rfl, down j ?_ hf, ht⟩
        have := (List.getElem?_eq_some_iff.1 hf).1
        rw [a1, List.length_set] at this; exact this
      · rcases List.mem_cons.1 hx with rfl | hx
        · exact ⟨k, rfl, h1, b2 k hk1⟩
        · obtain ⟨j, rfl, hf, ht⟩ := a6 x hx
          refine ⟨j, rfl, ?_, b2 j ht⟩
          rw [set_get hk] at hf
          split at hf
          · cases hf
          · exact hf
    · intro j hj
      rcases b7 j hj with h | h
      · rcases a7 j h with h | h
        · rw [set_get hk] at h
          split at h
          · rename_i e; subst e; right; simp
          · exact .inl h
        · right; simp [h]
      · right; simp [h]
theorem dfs_ex (N : List (List Int)) (hN : ∀ r ∈ N, ∀ x ∈ r, 0 ≤ x ∧ x < (N.length : Int)) : ∀ (c : Nat) (r : List Int) (s : List Bool) (l : List Int), cntF s ≤ c → s.length = N.length → (∀ x ∈ r, 0 ≤ x ∧ x < (N.length : Int)) → ∃ s' l', Dfs N r s l s' l' := by
  intro c
  induction c with
  | zero =>
    intro r
    induction r with
    | nil => intro s l _ _ _; exact ⟨s, l, .nil s l⟩
    | cons x r ih =>
      intro s l hc hl hr
      obtain ⟨k, rfl⟩ := Int.eq_ofNat_of_zero_le (hr x List.mem_cons_self).1
      have hk : k < s.length := by have := (hr _ List.mem_cons_self).2; omega
      cases hb : s[k] with
      | true =>
        obtain ⟨s', l', h⟩ := ih s l hc hl fun x hx => hr x (List.mem_cons_of_mem _ hx)
        exact ⟨s', l', .skip k r s l s' l' (by rw [List.getElem?_eq_getElem hk, hb]) h⟩
      | false =>
        have := cntF_set s k (by rw [List.getElem?_eq_getElem hk, hb])
        omega
  | succ c ihc =>
    intro r
    induction r with
    | nil => intro s l _ _ _; exact ⟨s, l, .nil s l⟩
    | cons x r ih =>
      intro s l hc hl hr
      obtain ⟨k, rfl⟩ := Int.eq_ofNat_of_zero_le (hr x List.mem_cons_self).1
      have hk : k < s.length := by have := (hr _ List.mem_cons_self).2; omega
      cases hb : s[k] with
      | true =>
        obtain ⟨s', l', h⟩ := ih s l hc hl fun x hx => hr x (List.mem_cons_of_mem _ hx)
        exact ⟨s', l', .skip k r s l s' l' (by rw [List.getElem?_eq_getElem hk, hb]) h⟩
      | false =>
        have h0 : s[k]? = some false := by rw [List.getElem?_eq_getElem hk, hb]
        have hcn := cntF_set s k h0
        obtain ⟨s1, l1, h1⟩ := ihc (N.getD k []) (s.set k true) l (by omega) (by rw [List.length_set]; exact hl) (hN _ (getD_mem (by omega)))
        have kp := dfs_keep h1
        obtain ⟨s', l', h2⟩ := ih s1 ((k : Int) :: l1) (by have := kp.cnt; omega) (by rw [kp.len, List.length_set]; exact hl) fun x hx => hr x (List.mem_cons_of_mem _ hx)
        exact ⟨s', l', .go k r s l s1 l1 s' l' h0 h1 h2⟩
theorem dfs_all {N : List (List Int)} {r : List Int} {s : List Bool} {l : List Int} {s' : List Bool} {l' : List Int} (h : Dfs N r s l s' l') : ∀ k : Nat, (k : Int) ∈ r → s'[k]? = some true := by
  induction h with
  | nil s l => intro k hk; cases hk
  | skip k r s l s' l' h1 h2 ih =>
    intro j hj
    rcases List.mem_cons.1 hj with e | hj
    · have : j = k := by omega
      subst this
      exact (dfs_keep h2).mono j h1
    · exact ih j hj
  | go k r s l s1 l1 s' l' h1 h2 h3 ih1 ih2 =>
    intro j hj
    rcases List.mem_cons.1 hj with e | hj
    · have : j = k := by omega
      subst this
      exact (dfs_keep h3).mono j ((dfs_keep h2).mono j (by rw [set_get (List.getElem?_eq_some_iff.1 h1).1, if_pos rfl]))
    · exact ih2 j hj
end Go.Proofs.Ytmnlagcmpgilaaa
set_option maxRecDepth 100000
namespace Go.Proofs.Ytmnlagcmpgilaaa
open Go.AM
theorem rows_lenV {H : Heap} {v : V} {G : List (List Int)} (hv : RdRows H v (rowsV G)) : ∀ H', xLen H' .s v = some (.s (.int .i64 G.length)) := by
  intro H'
  rw [← rows_len hv]
  obtain ⟨vs, h, _⟩ := hv
  rcases h.cases with ⟨_, rfl | rfl⟩ | ⟨es, rfl, _⟩ | ⟨id, g, off, n, c, rfl, _⟩ <;> rfl
theorem one_rd (H : Heap) (x : V) : Rd (H ++ [Ob.cells 0 [x]]) (.sl H.length 0 0 1 1) [x] := ⟨fun _ h => (by cases h), elems_new⟩
theorem leads_fun {CT : Nat → Option CFun} (hL : CT k_graph_Leads = some (.code s_graph_Leads)) (hR : CT k_graph_Reach = some (.code s_graph_Reach)) (hT : CT k_graph_Reach_1 = some (.code s_graph_Reach_1)) (base : Nat) (H : Heap) (v : V) (G : List (List Int)) (a b : Int) (hb : base ≤ H.length) (hv : RdRows H v (rowsV G)) (hn : G.length < 2 ^ 40) (hr : ∀ r ∈ G, r.length < 2 ^ 62) :
    ∃ H', callW CT (.fn k_graph_Leads [] []) [v, .s (.int .i64 a), .s (.int .i64 b)] base H = some (.s (.bool (leadsB G a b)), H') ∧ Ext H H' := by
  have hlen := rows_lenV hv
  by_cases h0 : 0 ≤ b
  · by_cases h1 : b < (G.length : Int)
    · obtain ⟨k, rfl⟩ := Int.eq_ofNat_of_zero_le h0
      obtain ⟨w, H1, B, q1, q2, q3, q4, q5, q6⟩ := reach_f hR hT base (H ++ [Ob.cells 0 [iV a]]) v (.sl H.length 0 0 1 1) G [a] (by simp; omega) (hv.ext (Ext.app _ _)) (one_rd H (iV a)) trivial (by simp) hn hr
      have hB : B.getD k false = leadsB G a k := by
        rw [Bool.eq_iff_iff, leadsB_nat, ← q6 k, List.getD]
        cases B[k]? with
        | none => simp
        | some b => simp
      obtain ⟨ad, e1, e2⟩ := bV_at q3 q4 (k := k) (by omega)
      rw [hB] at e2
      simp only [iV] at q1
      refine ⟨H1, callW_fn (c := s_graph_Leads) hL (by simp [s_graph_Leads]) ?_, (Ext.app _ _).trans q2⟩
      simp only [s_graph_Leads, a_graph_Leads, am0,am1,am2,am3,am4,am5,am6,am7,bl,i64,reduceIte,reduceCtorEq,Nat.reduceEqDiff,Nat.reduceLT,Nat.reduceLeDiff,Nat.reduceBEq,Nat.reduceAdd,fillA,splice,Nat.reduceMul,al0,al1,al2,al3,al4,al5,al6,al7,al8,al9,al10,al11,al12,al13,al14,al15,al16,al17,al18,al19,al20,al21,al22,al23,al24,al25,al26,al27,al28,al29,al30,al31,al32,al33,al34, hlen, ge_iff_le, h0, h1, q1, e1, e2]
    · have hf : leadsB G a b = false := by
        rw [Bool.eq_false_iff]
        intro h
        simp only [leadsB, decide_eq_true_eq] at h
        obtain ⟨k, rfl, hk⟩ := h
        have := rch_lt hk
        omega
      rw [hf]
      refine ⟨H, callW_fn (c := s_graph_Leads) hL (by simp [s_graph_Leads]) ?_, Ext.refl H⟩
      simp only [s_graph_Leads, a_graph_Leads, am0,am1,am2,am3,am4,am5,am6,am7,bl,i64,reduceIte,reduceCtorEq,Nat.reduceEqDiff,Nat.reduceLT,Nat.reduceLeDiff,Nat.reduceBEq,Nat.reduceAdd,fillA,splice,Nat.reduceMul,al0,al1,al2,al3,al4,al5,al6,al7,al8,al9,al10,al11,al12,al13,al14,al15,al16,al17,al18,al19,al20,al21,al22,al23,al24,al25,al26,al27,al28,al29,al30,al31,al32,al33,al34, hlen, ge_iff_le, h0, h1]
  · have hf : leadsB G a b = false := by
      rw [Bool.eq_false_iff]
      intro h
      simp only [leadsB, decide_eq_true_eq] at h
      obtain ⟨k, rfl, hk⟩ := h
      omega
    rw [hf]
    refine ⟨H, callW_fn (c := s_graph_Leads) hL (by simp [s_graph_Leads]) ?_, Ext.refl H⟩
    simp only [s_graph_Leads, a_graph_Leads, am0,am1,am2,am3,am4,am5,am6,am7,bl,i64,reduceIte,reduceCtorEq,Nat.reduceEqDiff,Nat.reduceLT,Nat.reduceLeDiff,Nat.reduceBEq,Nat.reduceAdd,fillA,splice,Nat.reduceMul,al0,al1,al2,al3,al4,al5,al6,al7,al8,al9,al10,al11,al12,al13,al14,al15,al16,al17,al18,al19,al20,al21,al22,al23,al24,al25,al26,al27,al28,al29,al30,al31,al32,al33,al34, hlen, ge_iff_le, h0]
end Go.Proofs.Ytmnlagcmpgilaaa
set_option maxRecDepth 100000
namespace Go.AM
theorem own_append {m base bytes : Nat} {H : Heap} {v x : V} {l : List V} (h : OwnN m H v l) (hb : base ≤ m) (hx : x.one = true) (hm : m ≤ H.length) (hs : (l.length + 1) * bytes ≤ 2 ^ 47) (ho : ∀ id g n c, v = .sl id g 0 n 1 → getC H id g = some c → ∀ x ∈ c, x.one = true) :
    ∃ v' H', appendV (H ++ [.cells 0 [x]]) base 1 bytes v (.sl H.length 0 0 1 1) = some (v', H') ∧ OwnN m H' v' (l ++ [x]) ∧ H.length ≤ H'.length ∧ (∀ i, i < H.length → (∀ g n, v ≠ .sl i g 0 n 1) → H'[i]? = H[i]?) ∧
      (∀ id g n, v' = .sl id g 0 n 1 → (∃ g n, v = .sl id g 0 n 1) ∨ H.length ≤ id) ∧ (∀ id g n c, v' = .sl id g 0 n 1 → getC H' id g = some c → ∀ x ∈ c, x.one = true) := by
  have hx' : [x].all V.one = true := by simp [hx]
  have hnew : 1 * bytes ≤ 2 ^ 47 := by
    refine Nat.le_trans (Nat.mul_le_mul_right _ ?_) hs
    omega
  have hfr : getC (H ++ [.cells 0 [x]] ++ [.cells 0 [x]]) (H.length + 1) 0 = some [x] := by
    have := getC_new (H ++ [Ob.cells 0 [x]]) 0 [x]
    simpa using this
  have hfresh : OwnN m (H ++ [.cells 0 [x]] ++ [.cells 0 [x]]) (.sl (H.length + 1) 0 0 1 1) [x] := .inr ⟨H.length + 1, 0, [x], rfl, hfr, Nat.le_refl _, rfl, by omega⟩
  have hon : ∀ id g n c, (V.sl (H.length + 1) 0 0 1 1) = .sl id g 0 n 1 → getC (H ++ [.cells 0 [x]] ++ [.cells 0 [x]]) id g = some c → ∀ x ∈ c, x.one = true := by
    intro id g n c e hc y hy
    cases e
    rw [hfr] at hc
    cases hc
    rw [List.mem_singleton] at hy
    subst hy; exact hx
  have app : ∀ i, i < H.length → (H ++ [Ob.cells 0 [x]] ++ [Ob.cells 0 [x]])[i]? = H[i]? := fun i hi => by
    rw [List.getElem?_append_left (by simp; omega), List.getElem?_append_left (by omega)]
  rcases h with ⟨rfl, rfl | rfl⟩ | ⟨id, g, c, rfl, hc, hl, ht, hid⟩
  · refine ⟨.sl (H.length + 1) 0 0 1 1, H ++ [.cells 0 [x]] ++ [.cells 0 [x]], ?_, hfresh, by simp, fun i hi _ => app i hi, fun id g n e => (by cases e; right; omega), hon⟩
    simp only [appendV, elems_new, hx', if_true, nilS, Nat.one_ne_zero, if_false, hnew, List.length_append, List.length_cons, List.length_nil]
  · refine ⟨.sl (H.length + 1) 0 0 1 1, H ++ [.cells 0 [x]] ++ [.cells 0 [x]], ?_, hfresh, by simp, fun i hi _ => app i hi, fun id g n e => (by cases e; right; omega), hon⟩
    simp only [appendV, elems_new, hx', if_true, Nat.one_ne_zero, if_false, hnew, List.length_append, List.length_cons, List.length_nil]
  · have hc' := getC_app hc (G := [Ob.cells 0 [x]])
    have hbi : base ≤ id := by omega
    have h2 : 0 + l.length ≤ c.length := by omega
    refine ⟨.sl id (g + 1) 0 (l.length + 1) 1, (H ++ [Ob.cells 0 [x]]).set id (.cells (g + 1) (l ++ [x])), ?_, .inr ⟨id, g + 1, l ++ [x], by simp, getC_set hc' _, Nat.le_refl _, List.take_length, hid⟩, by simp, fun i hi hne => ?_, fun i g' n e => (by cases e; exact .inl ⟨_, _, rfl⟩), fun i g' n c2 e hc2 y hy => ?_⟩
    · simp only [appendV, elems_new, hx', if_true, true_and, hbi, hc', h2, Nat.one_ne_zero, if_false, hs, List.drop_zero, Nat.mul_one, ht]
    · rw [List.getElem?_set_ne (fun e => hne g l.length (by rw [e])), List.getElem?_append_left (by omega)]
    · cases e
      rw [getC_set hc' _] at hc2
      cases hc2
      rcases List.mem_append.1 hy with hy | hy
      · refine ho _ _ _ _ rfl hc y ?_
        rw [← ht] at hy
        exact List.mem_of_mem_take hy
      · rw [List.mem_singleton] at hy
        subst hy; exact hx
theorem OwnN.keep {m : Nat} {H H' : Heap} {v : V} {l : List V} (h : OwnN m H v l) (hk : ∀ i g n, v = .sl i g 0 n 1 → i < H.length → H'[i]? = H[i]?) : OwnN m H' v l := by
  rcases h with h | ⟨id, g, c, rfl, hc, h2, h3, h4⟩
  · exact .inl h
  · refine .inr ⟨id, g, c, rfl, ?_, h2, h3, h4⟩
    simp only [getC] at hc ⊢
    rw [hk id g _ rfl (getC_lt hc)]; exact hc
theorem getC_keep {H H' : Heap} {i g : Nat} (h : H'[i]? = H[i]?) : getC H' i g = getC H i g := by simp only [getC, h]
theorem OwnN.ge {m : Nat} {H : Heap} {v : V} {l : List V} (h : OwnN m H v l) : ∀ i g n, v = .sl i g 0 n 1 → m ≤ i := by
  intro i g n e
  rcases h with ⟨_, h | h⟩ | ⟨id, g, c, e2, _, _, _, h4⟩
  · rw [h] at e; cases e
  · rw [h] at e; cases e
  · rw [e2] at e; cases e; exact h4
theorem OwnN.lt {m : Nat} {H : Heap} {v : V} {l : List V} (h : OwnN m H v l) : ∀ i g n, v = .sl i g 0 n 1 → i < H.length := by
  intro i g n e
  rcases h with ⟨_, h | h⟩ | ⟨id, g, c, e2, hc, _, _, _⟩
  · rw [h] at e; cases e
  · rw [h] at e; cases e
  · rw [e2] at e; cases e; exact getC_lt hc
end Go.AM
namespace Go.Proofs.Ytmnlagcmpgilaaa
open Go.AM
structure PS (h n : Nat) (H0 H : Heap) (B : List Bool) (W Lf : List Int) (wv lv : V) : Prop where
  h0 : H0.length = h
  ext : Ext H0 H
  seen : getC H h 0 = some (B.map bV)
  box : getC H (h + 1) 0 = some [.sl h 0 0 n 1]
  len : B.length = n
  way : OwnN (h + 2) H wv (W.map iV)
  left : OwnN (h + 2) H lv (Lf.map iV)
  apart : ∀ id g k id' g' k', wv = .sl id g 0 k 1 → lv = .sl id' g' 0 k' 1 → id ≠ id'
  o1 : ∀ id g k c, wv = .sl id g 0 k 1 → getC H id g = some c → ∀ x ∈ c, x.one = true
  o2 : ∀ id g k c, lv = .sl id g 0 k 1 → getC H id g = some c → ∀ x ∈ c, x.one = true
theorem PS.trim {h n L : Nat} {H0 H : Heap} {B : List Bool} {W Lf : List Int} {wv lv : V} (k : PS h n H0 H B W Lf wv lv) (hL : h + 2 ≤ L) {fr : List V} (h1 : wv ∈ fr) (h2 : lv ∈ fr) : PS h n H0 (trim L fr H) B W Lf wv lv := by
  refine ⟨k.h0, k.ext.trim (by have := k.h0; omega) _, trim_get k.seen (by omega), trim_get k.box (by omega), k.len, k.way.trim_fr h1, k.left.trim_fr h2, k.apart, ?_, ?_⟩
  · intro id g q c e hc
    rcases trim_or L fr H with e2 | ⟨e2, _⟩
    · rw [e2] at hc; exact k.o1 id g q c e hc
    · rw [e2] at hc
      refine k.o1 id g q c e ?_
      simp only [getC] at hc ⊢
      by_cases hlt : id < L
      · rw [List.getElem?_take_of_lt hlt] at hc; exact hc
      · rw [List.getElem?_eq_none (by rw [List.length_take]; omega)] at hc; cases hc
  · intro id g q c e hc
    rcases trim_or L fr H with e2 | ⟨e2, _⟩
    · rw [e2] at hc; exact k.o2 id g q c e hc
    · rw [e2] at hc
      refine k.o2 id g q c e ?_
      simp only [getC] at hc ⊢
      by_cases hlt : id < L
      · rw [List.getElem?_take_of_lt hlt] at hc; exact hc
      · rw [List.getElem?_eq_none (by rw [List.length_take]; omega)] at hc; cases hc
theorem PS.putL {h n base : Nat} {H0 H : Heap} {B : List Bool} {W Lf : List Int} {wv lv : V} (k : PS h n H0 H B W Lf wv lv) (i : Int) (hb : base ≤ h) (hs : Lf.length < 2 ^ 40) : ∃ lv' H', appendV (H ++ [.cells 0 [iV i]]) base 1 8 lv (.sl H.length 0 0 1 1) = some (lv', H') ∧ PS h n H0 H' B W (Lf ++ [i]) wv lv' := by
  have hlt := getC_lt k.box
  obtain ⟨v', H', a1, a2, a3, a4, a5, a6⟩ := own_append (x := iV i) (base := base) (bytes := 8) k.left (by omega) rfl (by omega) (by rw [List.length_map]; omega) k.o2
  have hk : ∀ j, j < h + 2 → H'[j]? = H[j]? := fun j hj => a4 j (by omega) fun g q e => by have := k.left.ge _ _ _ e; omega
  have hw : ∀ i g q, wv = .sl i g 0 q 1 → i < H.length → H'[i]? = H[i]? := fun j g q e hj => a4 j hj fun g' q' e' => k.apart _ _ _ _ _ _ e e' rfl
  refine ⟨v', H', a1, k.h0, Ext.of_get (by have := k.ext.le; omega) fun j hj => ?_, ?_, ?_, k.len, k.way.keep hw, by simpa using a2, ?_, ?_, a6⟩
  · rw [hk j (by have := k.h0; omega)]; exact k.ext.get hj
  · rw [getC_keep (hk h (by omega))]; exact k.seen
  · rw [getC_keep (hk (h + 1) (by omega))]; exact k.box
  · intro id g q id' g' q' e e' he
    subst he
    rcases a5 _ _ _ e' with ⟨g2, n2, e2⟩ | h2
    · exact k.apart _ _ _ _ _ _ e e2 rfl
    · have := k.way.lt _ _ _ e; omega
  · intro id g q c e hc
    rw [getC_keep (hw _ _ _ e (k.way.lt _ _ _ e))] at hc
    exact k.o1 _ _ _ _ e hc
theorem PS.putW {h n base : Nat} {H0 H : Heap} {B : List Bool} {W Lf : List Int} {wv lv : V} (k : PS h n H0 H B W Lf wv lv) (i : Int) (hb : base ≤ h) (hs : W.length < 2 ^ 40) : ∃ wv' H', appendV (H ++ [.cells 0 [iV i]]) base 1 8 wv (.sl H.length 0 0 1 1) = some (wv', H') ∧ PS h n H0 H' B (W ++ [i]) Lf wv' lv := by
  have hlt := getC_lt k.box
  obtain ⟨v', H', a1, a2, a3, a4, a5, a6⟩ := own_append (x := iV i) (base := base) (bytes := 8) k.way (by omega) rfl (by omega) (by rw [List.length_map]; omega) k.o1
  have hk : ∀ j, j < h + 2 → H'[j]? = H[j]? := fun j hj => a4 j (by omega) fun g q e => by have := k.way.ge _ _ _ e; omega
  have hw : ∀ i g q, lv = .sl i g 0 q 1 → i < H.length → H'[i]? = H[i]? := fun j g q e hj => a4 j hj fun g' q' e' => k.apart _ _ _ _ _ _ e' e rfl
  refine ⟨v', H', a1, k.h0, Ext.of_get (by have := k.ext.le; omega) fun j hj => ?_, ?_, ?_, k.len, by simpa using a2, k.left.keep hw, ?_, a6, ?_⟩
  · rw [hk j (by have := k.h0; omega)]; exact k.ext.get hj
  · rw [getC_keep (hk h (by omega))]; exact k.seen
  · rw [getC_keep (hk (h + 1) (by omega))]; exact k.box
  · intro id g q id' g' q' e e' he
    subst he
    rcases a5 _ _ _ e with ⟨g2, n2, e2⟩ | h2
    · exact k.apart _ _ _ _ _ _ e2 e' rfl
    · have := k.left.lt _ _ _ e'; omega
  · intro id g q c e hc
    rw [getC_keep (hw _ _ _ e (k.left.lt _ _ _ e))] at hc
    exact k.o2 _ _ _ _ e hc
theorem PS.mark {h n : Nat} {H0 H : Heap} {B : List Bool} {W Lf : List Int} {wv lv : V} (k : PS h n H0 H B W Lf wv lv) (j : Nat) : PS h n H0 (H.set h (.cells 0 ((B.map bV).set j (bV true)))) (B.set j true) W Lf wv lv := by
  have hk : ∀ i, i ≠ h → (H.set h (.cells 0 ((B.map bV).set j (bV true))))[i]? = H[i]? := fun i hi => List.getElem?_set_ne (Ne.symm hi)
  refine ⟨k.h0, k.ext.set (by rw [k.h0]; exact Nat.le_refl _) _, ?_, ?_, by rw [List.length_set]; exact k.len, k.way.keep fun i g q e _ => hk i (by have := k.way.ge _ _ _ e; omega), k.left.keep fun i g q e _ => hk i (by have := k.left.ge _ _ _ e; omega), k.apart, ?_, ?_⟩
  · rw [getC_put k.seen, List.map_set]
  · rw [getC_keep (hk (h + 1) (by omega))]; exact k.box
  · intro id g q c e hc
    rw [getC_keep (hk id (by have := k.way.ge _ _ _ e; omega))] at hc
    exact k.o1 _ _ _ _ e hc
  · intro id g q c e hc
    rw [getC_keep (hk id (by have := k.left.ge _ _ _ e; omega))] at hc
    exact k.o2 _ _ _ _ e hc
theorem PS.pop {h n : Nat} {H0 H : Heap} {B : List Bool} {W Lf : List Int} {wv lv : V} (k : PS h n H0 H B W Lf wv lv) {q : Nat} (hq : q ≤ W.length) : ∃ wv', xSlice 1 wv none (some (.s (.int .i64 q))) = some wv' ∧ PS h n H0 H B (W.take q) Lf wv' lv := by
  have same : ∀ wv', xSlice 1 wv none (some (.s (.int .i64 q))) = some wv' → OwnN (h + 2) H wv' (W.map iV |>.take q) → (∀ id g m, wv' = .sl id g 0 m 1 → ∃ m', wv = .sl id g 0 m' 1) → PS h n H0 H B (W.take q) Lf wv' lv := by
    intro wv' _ ho hs
    refine ⟨k.h0, k.ext, k.seen, k.box, k.len, by rw [List.map_take]; exact ho, k.left, ?_, ?_, k.o2⟩
    · intro id g a id' g' a' e e'
      obtain ⟨m', e2⟩ := hs _ _ _ e
      exact k.apart _ _ _ _ _ _ e2 e'
    · intro id g a c e hc
      obtain ⟨m', e2⟩ := hs _ _ _ e
      exact k.o1 _ _ _ _ e2 hc
  rcases k.way with ⟨e, hv⟩ | ⟨id, g, c, e, hc, hl, ht, hid⟩
  · have hW : W = [] := by simpa using e
    subst hW
    have hq0 : q = 0 := by simpa using hq
    subst hq0
    have hx : xSlice 1 wv none (some (.s (.int .i64 (0 : Nat)))) = some wv := by
      rcases hv with rfl | rfl
      · simp only [xslice_nil, bndV_none, bndV_int, cutNil_some, cast0, and_self, if_true]
      · simp only [xslice_esl, bndV_none, bndV_int, cutNil_some, cast0, and_self, if_true]
    refine ⟨wv, hx, same wv hx (.inl ⟨rfl, hv⟩) fun id g m e => ⟨m, e⟩⟩
  · rw [List.length_map] at e hl ht
    have i4 : (0 : Int) ≤ (0 : Int) ∧ (0 : Int) ≤ q ∧ (q : Int) ≤ W.length ∧ 1 = 1 := ⟨by omega, by omega, by omega, rfl⟩
    have i5 : ((q : Int) - 0).toNat = q := by omega
    have hx : xSlice 1 wv none (some (.s (.int .i64 q))) = some (.sl id g 0 q 1) := by
      rw [e]
      simp only [xslice_sl, bndV_none, bndV_int, cutSl_some, cast0, i4, i5, and_self, if_true, Int.toNat_zero, Nat.zero_mul, Nat.add_zero]
    refine ⟨_, hx, same _ hx (.inr ⟨id, g, c, by simp; omega, hc, by simp; omega, ?_, hid⟩) fun id' g' m e' => ?_⟩
    · rw [List.length_take, List.length_map, Nat.min_eq_left hq, ← ht, List.take_take, Nat.min_eq_left hq]
    · cases e'; exact ⟨_, e⟩
end Go.Proofs.Ytmnlagcmpgilaaa
set_option maxRecDepth 100000
namespace Go.Proofs.Ytmnlagcmpgilaaa
open Go.AM
def pS (B : List Bool) : V → Bool
  | .s (.int _ k) => !(B.getD k.toNat true)
  | _ => false
theorem idx_hit (p : V → Bool) (x : V) (r : List V) (hx : p x = true) : ∀ (pre : List V) (i : Nat), (∀ y ∈ pre, p y = false) → idx p (pre ++ x :: r) i = some (i + pre.length) := by
  intro pre
  induction pre with
  | nil => intro i _; simp [idx, hx]
  | cons y pre ih =>
    intro i h
    simp only [List.cons_append, idx, h y List.mem_cons_self, Bool.false_eq_true, if_false]
    rw [ih (i + 1) fun z hz => h z (List.mem_cons_of_mem _ hz)]
    simp only [List.length_cons]; congr 1; omega
theorem idx_miss (p : V → Bool) : ∀ (l : List V) (i : Nat), (∀ y ∈ l, p y = false) → idx p l i = none := by
  intro l
  induction l with
  | nil => intro i _; rfl
  | cons y l ih =>
    intro i h
    simp only [idx, h y List.mem_cons_self, Bool.false_eq_true, if_false]
    exact ih (i + 1) fun z hz => h z (List.mem_cons_of_mem _ hz)
theorem dfs_cnt {N : List (List Int)} {r : List Int} {s : List Bool} {l : List Int} {s' : List Bool} {l' : List Int} (h : Dfs N r s l s' l') : l'.length + cntF s' = l.length + cntF s := by
  induction h with
  | nil => rfl
  | skip k r s l s' l' h1 h2 ih => exact ih
  | go k r s l s1 l1 s' l' h1 h2 h3 ih1 ih2 =>
    have := cntF_set s k h1
    rw [List.length_cons] at ih2
    omega
theorem post1_fun {CT : Nat → Option CFun} (hT : CT k_graph_Post_1 = some (.code s_graph_Post_1)) {base h n : Nat} {H0 H : Heap} {B : List Bool} {W Lf : List Int} {wv lv : V} (k : PS h n H0 H B W Lf wv lv) (j : Nat) (hj : j < n) :
    callW CT (.fn k_graph_Post_1 [] [.ref (h + 1) 0 0]) [.s (.int .i64 j)] base H = some (.s (.bool (!(B.getD j true))), H) := by
  have hB : B[j]? = some (B.getD j true) := by rw [List.getD, List.getElem?_eq_getElem (by have := k.len; omega)]; rfl
  obtain ⟨b1, b2⟩ := at_sl (n := n) k.seen hj (w := bV (B.getD j true)) (by rw [List.getElem?_map, hB]; rfl)
  simp only [bV] at b2
  refine callW_fn (c := s_graph_Post_1) hT (by simp [s_graph_Post_1]) ?_
  simp only [s_graph_Post_1, a_graph_Post_1, am0,am1,am2,am3,am4,am5,am6,am7,bl,i64,reduceIte,reduceCtorEq,Nat.reduceEqDiff,Nat.reduceLT,Nat.reduceLeDiff,Nat.reduceBEq,Nat.reduceAdd,fillA,splice,Nat.reduceMul,al0,al1,al2,al3,al4,al5,al6,al7,al8,al9,al10,al11,al12,al13,al14,al15,al16,al17,al18,al19,al20,al21,al22,al23,al24,al25,al26,al27,al28,al29,al30,al31,al32,al33,al34, getC_load k.box, b1, b2]
structure CP (CT : Nat → Option CFun) : Prop where
  i : CT k_slices_IndexFunc_int_int = some (.code s_slices_IndexFunc_int_int)
  p : CT k_graph_Post_1 = some (.code s_graph_Post_1)
theorem post_index {CT : Nat → Option CFun} (hC : CP CT) {base h n : Nat} {H0 H : Heap} {B : List Bool} {W Lf : List Int} {wv lv : V} (k : PS h n H0 H B W Lf wv lv) (v : V) (r : List Int) (hv : Rd H v (r.map iV)) (hw : Wide1 v) (hr : r.length < 2 ^ 62) (hin : ∀ x ∈ r, 0 ≤ x ∧ x < (n : Int)) :
    callW CT (.fn k_slices_IndexFunc_int_int [] []) [v, .fn k_graph_Post_1 [] [.ref (h + 1) 0 0]] base H = some (idxV (idx (pS B) (r.map iV) 0), H) := by
  refine index_fun hC.i base H v _ _ hv hw (by rw [List.length_map]; exact hr) (pS B) fun x hx => ?_
  obtain ⟨z, hz, rfl⟩ := List.mem_map.1 hx
  obtain ⟨h0, h1⟩ := hin z hz
  obtain ⟨j, rfl⟩ := Int.eq_ofNat_of_zero_le h0
  have := post1_fun hC.p (base := base) k j (by omega)
  simp only [iV, pS, Int.toNat_natCast]
  exact this
theorem seen_false {B : List Bool} {k : Nat} (h : B[k]? = some true) : pS B (iV k) = false := by
  simp only [pS, iV, Int.toNat_natCast, List.getD, h, Option.getD_some, Bool.not_true]
theorem seen_true {B : List Bool} {k : Nat} (h : B[k]? = some false) : pS B (iV k) = true := by
  simp only [pS, iV, Int.toNat_natCast, List.getD, h, Option.getD_some, Bool.not_false]
theorem post_pop {CT : Nat → Option CFun} (hC : CP CT) (base h L n : Nat) (H0 : Heap) (nv : V) (N : List (List Int)) (hN : N.length = n) (hin : ∀ r ∈ N, ∀ x ∈ r, 0 ≤ x ∧ x < (n : Int)) (hnv : RdRows H0 nv (rowsV N)) (hr : ∀ r ∈ N, r.length < 2 ^ 62) (hb : base ≤ h) (hL : h + 2 ≤ L)
    (W : List Int) (i : Nat) (Lf : List Int) (B : List Bool) (H : Heap) (wv lv : V) (hi : i < n) (hall : ∀ k : Nat, (k : Int) ∈ N.getD i [] → B[k]? = some true) (hs : W.length + Lf.length + 3 < 2 ^ 40) (k : PS h n H0 H B (W ++ [(i : Int)]) Lf wv lv) :
    ∃ H' wv' lv', PS h n H0 H' B W (Lf ++ [(i : Int)]) wv' lv' ∧
      itW (evC (callW CT) itW base s_graph_Post_l0) [] L (frOf 77 [(5, nv), (6, .ref (h + 1) 0 0), (7, wv), (8, lv)]) H = itW (evC (callW CT) itW base s_graph_Post_l0) [] L (frOf 77 [(5, nv), (6, .ref (h + 1) 0 0), (7, wv'), (8, lv')]) H' := by
  have hwl : xLen H .s wv = some (.s (.int .i64 ((W.length + 1 : Nat) : Int))) := by have := iV_len k.way.rd; rw [List.length_append] at this; exact this
  have hwp : IntKind.i64.wrap (((W.length + 1 : Nat) : Int) - 1) = (W.length : Int) := by rw [IntKind.wrap_i64]; omega
  have hgt : ((W.length + 1 : Nat) : Int) > 0 := by omega
  obtain ⟨a, a1, a2⟩ := iV_at k.way.rd k.way.wide (k := W.length) (x := (i : Int)) (by simp)
  have hig : N[i]? = some (N.getD i []) := by rw [List.getD, List.getElem?_eq_getElem (by omega)]; rfl
  have hmem : N.getD i [] ∈ N := getD_mem (by omega)
  obtain ⟨b, y, b1, b2, b3, b4⟩ := rows_at (hnv.ext k.ext) hig
  have hidx := post_index hC (base := base) k y _ b3 b4 (hr _ hmem) (hin _ hmem)
  rw [idx_miss (pS B) _ 0 (fun x hx => by
    obtain ⟨z, hz, rfl⟩ := List.mem_map.1 hx
    obtain ⟨j, rfl⟩ := Int.eq_ofNat_of_zero_le (hin _ hmem z hz).1
    exact seen_false (hall j hz))] at hidx
  simp only [idxV] at hidx
  obtain ⟨lv', H1, c1, c2⟩ := k.putL (base := base) i hb (by omega)
  simp only [iV] at c1
  obtain ⟨wv', d1, d2⟩ := c2.pop (q := W.length) (by simp)
  rw [List.take_left] at d2
  have hwl2 : xLen H1 .s wv = some (.s (.int .i64 ((W.length + 1 : Nat) : Int))) := by have := iV_len c2.way.rd; rw [List.length_append] at this; exact this
  refine ⟨_, wv', lv', d2.trim hL (fr := frOf 77 [(5, nv), (6, .ref (h + 1) 0 0), (7, wv'), (8, lv')]) (frOf_mem (s := 7) (by omega) rfl) (frOf_mem (s := 8) (by omega) rfl), ?_⟩
  rw [itW_step]
  have hneg : (-1 : Int) < 0 := by omega
  simp only [a_graph_Post,s_graph_Post_l0_b, am0,am1,am2,am3,am4,am5,am6,am7,bl,i64,reduceIte,reduceCtorEq,Nat.reduceEqDiff,Nat.reduceLT,Nat.reduceLeDiff,Nat.reduceBEq,Nat.reduceAdd,fillA,splice,Nat.reduceMul,al0,al1,al2,al3,al4,al5,al6,al7,al8,al9,al10,al11,al12,al13,al14,al15,al16,al17,al18,al19,al20,al21,al22,al23,al24,al25,al26,al27,al28,al29,al30,al31,al32,al33,al34, xsub_mkFn, hwl, hwp, hgt, a1, a2, b1, b2, hidx, hneg, c1, hwl2, d1]
theorem post_push {CT : Nat → Option CFun} (hC : CP CT) (base h L n : Nat) (H0 : Heap) (nv : V) (N : List (List Int)) (hN : N.length = n) (hin : ∀ r ∈ N, ∀ x ∈ r, 0 ≤ x ∧ x < (n : Int)) (hnv : RdRows H0 nv (rowsV N)) (hr : ∀ r ∈ N, r.length < 2 ^ 62) (hb : base ≤ h) (hL : h + 2 ≤ L)
    (W : List Int) (i : Nat) (pre r : List Int) (q : Nat) (Lf : List Int) (B : List Bool) (H : Heap) (wv lv : V) (hi : i < n) (he : N.getD i [] = pre ++ (q : Int) :: r) (hpre : ∀ k : Nat, (k : Int) ∈ pre → B[k]? = some true) (hq : B[q]? = some false) (hs : W.length + Lf.length + 3 < 2 ^ 40) (k : PS h n H0 H B (W ++ [(i : Int)]) Lf wv lv) :
    ∃ H' wv', PS h n H0 H' (B.set q true) (W ++ [(i : Int)] ++ [(q : Int)]) Lf wv' lv ∧
      itW (evC (callW CT) itW base s_graph_Post_l0) [] L (frOf 77 [(5, nv), (6, .ref (h + 1) 0 0), (7, wv), (8, lv)]) H = itW (evC (callW CT) itW base s_graph_Post_l0) [] L (frOf 77 [(5, nv), (6, .ref (h + 1) 0 0), (7, wv'), (8, lv)]) H' := by
  have hwl : xLen H .s wv = some (.s (.int .i64 ((W.length + 1 : Nat) : Int))) := by have := iV_len k.way.rd; rw [List.length_append] at this; exact this
  have hwp : IntKind.i64.wrap (((W.length + 1 : Nat) : Int) - 1) = (W.length : Int) := by rw [IntKind.wrap_i64]; omega
  have hgt : ((W.length + 1 : Nat) : Int) > 0 := by omega
  obtain ⟨a, a1, a2⟩ := iV_at k.way.rd k.way.wide (k := W.length) (x := (i : Int)) (by simp)
  have hig : N[i]? = some (N.getD i []) := by rw [List.getD, List.getElem?_eq_getElem (by omega)]; rfl
  have hmem : N.getD i [] ∈ N := getD_mem (by omega)
  have hqn : q < n := by have := (List.getElem?_eq_some_iff.1 hq).1; have := k.len; omega
  obtain ⟨b, y, b1, b2, b3, b4⟩ := rows_at (hnv.ext k.ext) hig
  have hidx := post_index hC (base := base) k y _ b3 b4 (hr _ hmem) (hin _ hmem)
  rw [he, List.map_append, List.map_cons, idx_hit (pS B) (iV q) _ (seen_true hq) _ 0 (fun x hx => by
    obtain ⟨z, hz, rfl⟩ := List.mem_map.1 hx
    obtain ⟨j, rfl⟩ := Int.eq_ofNat_of_zero_le (hin _ hmem z (by rw [he]; exact List.mem_append_left _ hz)).1
    exact seen_false (hpre j hz)), List.length_map, Nat.zero_add] at hidx
  simp only [idxV] at hidx
  obtain ⟨c, c1, c2⟩ := iV_at b3 b4 (k := pre.length) (x := (q : Int)) (by rw [he]; simp)
  have hBq : B[q]? = some false := hq
  obtain ⟨e1, e2⟩ := at_sl (n := n) k.seen hqn (w := bV false) (by rw [List.getElem?_map, hBq]; rfl)
  have st := storeV_at (v := bV true) (base := base) k.seen (by omega) rfl (off := q) (by rw [List.length_map, k.len]; exact hqn)
  simp only [bV] at st
  have km := k.mark q
  simp only [bV] at km
  obtain ⟨b', y', b1', b2', b3', b4'⟩ := rows_at (hnv.ext km.ext) hig
  obtain ⟨c', c1', c2'⟩ := iV_at b3' b4' (k := pre.length) (x := (q : Int)) (by rw [he]; simp)
  have hbb : b' = b := by rw [b1] at b1'; cases b1'; rfl
  subst hbb
  obtain ⟨wv', H2, d1, d2⟩ := km.putW (base := base) q hb (by simp; omega)
  simp only [iV, List.length_set] at d1
  have hneg : ¬ (pre.length : Int) < 0 := by omega
  refine ⟨_, wv', d2.trim hL (fr := frOf 77 [(5, nv), (6, .ref (h + 1) 0 0), (7, wv'), (8, lv)]) (frOf_mem (s := 7) (by omega) rfl) (frOf_mem (s := 8) (by omega) rfl), ?_⟩
  rw [itW_step]
  simp only [a_graph_Post,s_graph_Post_l0_b, am0,am1,am2,am3,am4,am5,am6,am7,bl,i64,reduceIte,reduceCtorEq,Nat.reduceEqDiff,Nat.reduceLT,Nat.reduceLeDiff,Nat.reduceBEq,Nat.reduceAdd,fillA,splice,Nat.reduceMul,al0,al1,al2,al3,al4,al5,al6,al7,al8,al9,al10,al11,al12,al13,al14,al15,al16,al17,al18,al19,al20,al21,al22,al23,al24,al25,al26,al27,al28,al29,al30,al31,al32,al33,al34, xsub_mkFn, hwl, hwp, hgt, a1, a2, b1, b2, hidx, hneg, c1, c2, getC_load k.box, e1, st, b2', c1', c2', d1]
end Go.Proofs.Ytmnlagcmpgilaaa
set_option maxRecDepth 100000
namespace Go.Proofs.Ytmnlagcmpgilaaa
open Go.AM
theorem post_dfs {CT : Nat → Option CFun} (hC : CP CT) (base h L n : Nat) (H0 : Heap) (nv : V) (N : List (List Int)) (hN : N.length = n) (hin : ∀ r ∈ N, ∀ x ∈ r, 0 ≤ x ∧ x < (n : Int)) (hnv : RdRows H0 nv (rowsV N)) (hr : ∀ r ∈ N, r.length < 2 ^ 62) (hb : base ≤ h) (hL : h + 2 ≤ L) {r : List Int} {s : List Bool} {l : List Int} {s' : List Bool} {l' : List Int} (d : Dfs N r s l s' l') :
    ∀ (W : List Int) (i : Nat) (pre Lf : List Int) (H : Heap) (wv lv : V), i < n → N.getD i [] = pre ++ r → (∀ k : Nat, (k : Int) ∈ pre → s[k]? = some true) → W.length + Lf.length + cntF s + 4 < 2 ^ 40 → PS h n H0 H s (W ++ [(i : Int)]) Lf wv lv →
    ∃ p H' wv' lv', l' = p ++ l ∧ PS h n H0 H' s' (W ++ [(i : Int)]) (Lf ++ p.reverse) wv' lv' ∧
      itW (evC (callW CT) itW base s_graph_Post_l0) [] L (frOf 77 [(5, nv), (6, .ref (h + 1) 0 0), (7, wv), (8, lv)]) H = itW (evC (callW CT) itW base s_graph_Post_l0) [] L (frOf 77 [(5, nv), (6, .ref (h + 1) 0 0), (7, wv'), (8, lv')]) H' := by
  induction d with
  | nil s l => intro W i pre Lf H wv lv hi he hp hs k; exact ⟨[], H, wv, lv, rfl, by simpa using k, rfl⟩
  | skip q r s l s' l' h1 h2 ih =>
    intro W i pre Lf H wv lv hi he hp hs k
    exact ih W i (pre ++ [(q : Int)]) Lf H wv lv hi (by rw [he]; simp) (fun j hj => by
      rcases List.mem_append.1 hj with hj | hj
      · exact hp j hj
      · have : j = q := by rw [List.mem_singleton] at hj; omega
        subst this; exact h1) hs k
  | go q r s l s1 l1 s' l' h1 h2 h3 ih1 ih2 =>
    intro W i pre Lf H wv lv hi he hp hs k
    have hc := cntF_set s q h1
    have hqs : q < s.length := (List.getElem?_eq_some_iff.1 h1).1
    have hqn : q < n := by have := k.len; omega
    obtain ⟨H1, wv1, a1, a2⟩ := post_push hC base h L n H0 nv N hN hin hnv hr hb hL W i pre r q Lf s H wv lv hi he hp h1 (by omega) k
    obtain ⟨p1, H2, wv2, lv2, b1, b2, b3⟩ := ih1 (W ++ [(i : Int)]) q [] Lf H1 wv1 lv hqn rfl (fun j hj => (List.not_mem_nil hj).elim) (by simp; omega) a1
    have hp1 : p1.length + cntF s1 + 1 = cntF s := by
      have := dfs_cnt h2
      rw [b1, List.length_append] at this
      omega
    obtain ⟨H3, wv3, lv3, c1, c2⟩ := post_pop hC base h L n H0 nv N hN hin hnv hr hb hL (W ++ [(i : Int)]) q (Lf ++ p1.reverse) s1 H2 wv2 lv2 hqn (dfs_all h2) (by simp; omega) b2
    have k1 := dfs_keep h2
    obtain ⟨p2, H4, wv4, lv4, d1, d2, d3⟩ := ih2 W i (pre ++ [(q : Int)]) (Lf ++ p1.reverse ++ [(q : Int)]) H3 wv3 lv3 hi (by rw [he]; simp) (fun j hj => by
      rcases List.mem_append.1 hj with hj | hj
      · exact k1.mono j (by rw [set_get hqs]; split <;> first | rfl | exact hp j hj)
      · have : j = q := by rw [List.mem_singleton] at hj; omega
        subst this
        exact k1.mono j (by rw [set_get hqs, if_pos rfl])) (by simp; omega) c1
    refine ⟨p2 ++ (q : Int) :: p1, H4, wv4, lv4, by rw [d1, b1]; simp, ?_, a2.trans (b3.trans (c2.trans d3))⟩
    have : Lf ++ (p2 ++ (q : Int) :: p1).reverse = Lf ++ p1.reverse ++ [(q : Int)] ++ p2.reverse := by simp
    rw [this]; exact d2
theorem cntF_rep (n : Nat) : cntF (List.replicate n false) = n := by
  induction n with
  | zero => rfl
  | succ n ih => rw [List.replicate_succ]; simp [cntF, ih]; omega
theorem post_f {CT : Nat → Option CFun} (hg : CG CT) (hF : CT k_graph_Post = some (.code s_graph_Post)) (hR : CT k_slices_Reverse_int_int = some (.code s_slices_Reverse_int_int)) (hP : CT k_graph_Post_1 = some (.code s_graph_Post_1)) (hI : CT k_slices_IndexFunc_int_int = some (.code s_slices_IndexFunc_int_int)) (base : Nat) (H : Heap) (v : V) (G : List (List Int)) (q : Nat) (hb : base ≤ H.length) (hv : RdRows H v (rowsV G)) (hn : G.length < 2 ^ 38) (hr : ∀ r ∈ G, r.length < 2 ^ 40) (hq : q < G.length) {s' : List Bool} {l' : List Int}
    (hd : Dfs (normG G) ((normG G).getD q []) ((List.replicate G.length false).set q true) [] s' l') :
    ∃ v' H', callW CT (.fn k_graph_Post [] []) [v, .s (.int .i64 q)] base H = some (v', H') ∧ Ext H H' ∧ Rd H' v' (((q : Int) :: l').map iV) ∧ Wide1 v' := by
  have hlen := rows_lenV hv
  obtain ⟨nv, H1, n1, n2, n3⟩ := norm_f hg base H v G hv hb (by omega) hr
  have l1 := n2.le
  have hN : (normG G).length = G.length := normG_len G
  have hin : ∀ r ∈ normG G, ∀ x ∈ r, 0 ≤ x ∧ x < (G.length : Int) := fun r hrr x hx => normG_in hrr hx
  have hr2 : ∀ r ∈ normG G, r.length < 2 ^ 62 := fun r hrr => by have := normG_small hr r hrr; omega
  have hmk := make_n (H := H1) (zero := [.s (.bool false)]) (sz := 1) (bytes := 1) (k := .i64) (k' := .i64) (n := G.length) (by omega)
  rw [flat_one] at hmk
  let B0 := List.replicate G.length false
  have hcnt : cntF (B0.set q true) + 1 = G.length := by
    have := cntF_set B0 q (by simp [B0, List.getElem?_replicate, hq])
    rw [this, cntF_rep]
  have hcnt' : cntF ((List.replicate G.length false).set q true) + 1 = G.length := hcnt
  have hst : PS H1.length G.length H1 ((H1 ++ [Ob.cells 0 (List.replicate G.length (.s (.bool false)))] ++ [Ob.cells 0 [.sl H1.length 0 0 G.length 1]]).set H1.length (.cells 0 ((List.replicate G.length (.s (.bool false))).set q (.s (.bool true)))) ++ [Ob.cells 0 [.s (.int .i64 q)]]) (B0.set q true) ([] ++ [(q : Int)]) [] (.sl (H1.length + 2) 0 0 1 1) nilS := by
    have gA : getC (H1 ++ [Ob.cells 0 (List.replicate G.length (.s (.bool false)))] ++ [Ob.cells 0 [.sl H1.length 0 0 G.length 1]]) H1.length 0 = some (List.replicate G.length (.s (.bool false))) := by simp [getC]
    have g0 : getC ((H1 ++ [Ob.cells 0 (List.replicate G.length (.s (.bool false)))] ++ [Ob.cells 0 [.sl H1.length 0 0 G.length 1]]).set H1.length (.cells 0 ((List.replicate G.length (.s (.bool false))).set q (.s (.bool true)))) ++ [Ob.cells 0 [.s (.int .i64 q)]]) H1.length 0 = some ((B0.map bV).set q (bV true)) := by
      have := getC_app (getC_put (c' := (List.replicate G.length (.s (.bool false))).set q (.s (.bool true))) gA) (G := [Ob.cells 0 [.s (.int .i64 q)]])
      rw [this]; simp [B0, bV]
    have g1 : getC ((H1 ++ [Ob.cells 0 (List.replicate G.length (.s (.bool false)))] ++ [Ob.cells 0 [.sl H1.length 0 0 G.length 1]]).set H1.length (.cells 0 ((List.replicate G.length (.s (.bool false))).set q (.s (.bool true)))) ++ [Ob.cells 0 [.s (.int .i64 q)]]) (H1.length + 1) 0 = some [.sl H1.length 0 0 G.length 1] := by
      refine getC_app (G := [Ob.cells 0 [.s (.int .i64 q)]]) ?_
      rw [getC_other (by omega)]
      simp [getC]
    have g2 : getC ((H1 ++ [Ob.cells 0 (List.replicate G.length (.s (.bool false)))] ++ [Ob.cells 0 [.sl H1.length 0 0 G.length 1]]).set H1.length (.cells 0 ((List.replicate G.length (.s (.bool false))).set q (.s (.bool true)))) ++ [Ob.cells 0 [.s (.int .i64 q)]]) (H1.length + 2) 0 = some [iV q] := by
      have := getC_new ((H1 ++ [Ob.cells 0 (List.replicate G.length (.s (.bool false)))] ++ [Ob.cells 0 [.sl H1.length 0 0 G.length 1]]).set H1.length (.cells 0 ((List.replicate G.length (.s (.bool false))).set q (.s (.bool true))))) 0 [V.s (.int .i64 q)]
      simpa [iV] using this
    have hx : Ext H1 ((H1 ++ [Ob.cells 0 (List.replicate G.length (.s (.bool false)))] ++ [Ob.cells 0 [.sl H1.length 0 0 G.length 1]]).set H1.length (.cells 0 ((List.replicate G.length (.s (.bool false))).set q (.s (.bool true)))) ++ [Ob.cells 0 [.s (.int .i64 q)]]) := ((((Ext.app H1 _).trans (Ext.app _ _)).set (Nat.le_refl _) _).trans (Ext.app _ _))
    refine ⟨rfl, hx, by rw [g0, List.map_set], g1, by simp [B0], .inr ⟨H1.length + 2, 0, [iV q], rfl, g2, Nat.le_refl _, rfl, Nat.le_refl _⟩, .inl ⟨rfl, .inl rfl⟩, fun _ _ _ _ _ _ _ e => (by cases e), fun id g k c e hc x hx => ?_, fun _ _ _ _ e => (by cases e)⟩
    cases e
    rw [g2] at hc
    cases hc
    rw [List.mem_singleton] at hx
    subst hx; rfl
  obtain ⟨p, H2, wv, lv, a1, a2, a3⟩ := post_dfs ⟨hI, hP⟩ base H1.length (H1.length + 3) G.length H1 nv (normG G) hN hin n3.rd hr2 (by omega) (by omega) hd [] q [] [] _ _ _ hq rfl (fun j hj => (List.not_mem_nil hj).elim) (by simp only [List.length_nil]; omega) hst
  have hpl : l' = p := by simpa using a1
  subst hpl
  have hcn := dfs_cnt hd
  simp only [List.length_nil] at hcn
  obtain ⟨H3, wv3, lv3, b1, b2⟩ := post_pop ⟨hI, hP⟩ base H1.length (H1.length + 3) G.length H1 nv (normG G) hN hin n3.rd hr2 (by omega) (by omega) [] q ([] ++ l'.reverse) s' H2 wv lv hq (dfs_all hd) (by simp; omega) a2
  have hend : xLen H3 .s wv3 = some (.s (.int .i64 0)) := iV_len b1.way.rd
  have b1' := b1.trim (L := H1.length + 3) (by omega) (fr := frOf 77 [(5, nv), (6, .ref (H1.length + 1) 0 0), (7, wv3), (8, lv3), (31, .s (.bool false))]) (frOf_mem (s := 7) (by omega) rfl) (frOf_mem (s := 8) (by omega) rfl)
  have hloop : itW (evC (callW CT) itW base s_graph_Post_l0) [] (H1.length + 3) (frOf 77 [(5, nv), (6, .ref (H1.length + 1) 0 0), (7, .sl (H1.length + 2) 0 0 1 1), (8, nilS)]) ((H1 ++ [Ob.cells 0 (List.replicate G.length (.s (.bool false)))] ++ [Ob.cells 0 [.sl H1.length 0 0 G.length 1]]).set H1.length (.cells 0 ((List.replicate G.length (.s (.bool false))).set q (.s (.bool true)))) ++ [Ob.cells 0 [.s (.int .i64 q)]]) =
      some (.ext 0, frOf 77 [(5, nv), (6, .ref (H1.length + 1) 0 0), (7, wv3), (8, lv3), (31, .s (.bool false))], trim (H1.length + 3) (frOf 77 [(5, nv), (6, .ref (H1.length + 1) 0 0), (7, wv3), (8, lv3), (31, .s (.bool false))]) H3) := by
    rw [a3, b2, itW_step]
    simp only [a_graph_Post,s_graph_Post_l0_b, am0,am1,am2,am3,am4,am5,am6,am7,bl,i64,reduceIte,reduceCtorEq,Nat.reduceEqDiff,Nat.reduceLT,Nat.reduceLeDiff,Nat.reduceBEq,Nat.reduceAdd,fillA,splice,Nat.reduceMul,al0,al1,al2,al3,al4,al5,al6,al7,al8,al9,al10,al11,al12,al13,al14,al15,al16,al17,al18,al19,al20,al21,al22,al23,al24,al25,al26,al27,al28,al29,al30,al31,al32,al33,al34, hend, gt_iff_lt, Int.lt_irrefl]
  obtain ⟨H4, r1, r2, r3, r4⟩ := reverse_fun hR base (H1.length + 2) _ lv3 ([] ++ l'.reverse ++ [(q : Int)]) b1'.left (fun id g n c e hc => b1'.o2 id g n c e hc) (by omega) (by simp; omega)
  have hfin : ([] ++ l'.reverse ++ [(q : Int)]).reverse = (q : Int) :: l' := by simp
  rw [hfin] at r2
  have e4 : Ext H1 H4 := Ext.of_get (by rw [r3]; exact b1'.ext.le) fun i hi => by rw [r4 i (by omega)]; exact b1'.ext.get hi
  have h0 : ¬ (q : Int) < 0 := by omega
  have h1 : ¬ (G.length : Int) ≤ (q : Int) := by omega
  refine ⟨lv3, H4, callW_fn (c := s_graph_Post) hF (by simp [s_graph_Post]) ?_, n2.trans e4, r2.rd, r2.wide⟩
  simp only [nilS, iV] at hloop hmk r1
  have gA : getC (H1 ++ [Ob.cells 0 (List.replicate G.length (.s (.bool false)))] ++ [Ob.cells 0 [.sl H1.length 0 0 G.length 1]]) H1.length 0 = some (List.replicate G.length (.s (.bool false))) := by simp [getC]
  have gB : getC (H1 ++ [Ob.cells 0 (List.replicate G.length (.s (.bool false)))] ++ [Ob.cells 0 [.sl H1.length 0 0 G.length 1]]) (H1.length + 1) 0 = some [.sl H1.length 0 0 G.length 1] := by simp [getC]
  have gBl := getC_load gB
  obtain ⟨e1, _⟩ := at_sl (n := G.length) gA hq (w := .s (.bool false)) (by simp [List.getElem?_replicate, hq])
  have st := storeV_at (v := .s (.bool true)) (base := base) gA (by omega) rfl (off := q) (by simpa using hq)
  have hb1 : base ≤ H1.length + 1 := by omega
  have hset : ∀ a b x : Ob, (H1 ++ [a] ++ [b]).set H1.length x = H1 ++ [x] ++ [b] := fun a b x => by simp
  rw [hset] at hloop
  simp only [s_graph_Post, a_graph_Post,s_graph_Post_l0_b, am0,am1,am2,am3,am4,am5,am6,am7,bl,i64,reduceIte,reduceCtorEq,Nat.reduceEqDiff,Nat.reduceLT,Nat.reduceLeDiff,Nat.reduceBEq,Nat.reduceAdd,fillA,splice,Nat.reduceMul,al0,al1,al2,al3,al4,al5,al6,al7,al8,al9,al10,al11,al12,al13,al14,al15,al16,al17,al18,al19,al20,al21,al22,al23,al24,al25,al26,al27,al28,al29,al30,al31,al32,al33,al34, hlen, ge_iff_le, h0, h1, n1, op_mkSl, hmk, hb1, gBl, e1, st, hloop, r1]
end Go.Proofs.Ytmnlagcmpgilaaa
set_option maxRecDepth 100000
namespace Go.Proofs.Ytmnlagcmpgilaaa
open Go.AM
end Go.Proofs.Ytmnlagcmpgilaaa
set_option maxRecDepth 100000
namespace Go.Proofs.Ytmnlagcmpgilaaa
open Go.AM
theorem post_out {CT : Nat → Option CFun} (hF : CT k_graph_Post = some (.code s_graph_Post)) (base : Nat) (H : Heap) (v : V) (G : List (List Int)) (q : Int) (hv : RdRows H v (rowsV G)) (hq : q < 0 ∨ (G.length : Int) ≤ q) :
    callW CT (.fn k_graph_Post [] []) [v, .s (.int .i64 q)] base H = some (nilS, H) := by
  have hlen := rows_lenV hv
  refine callW_fn (c := s_graph_Post) hF (by simp [s_graph_Post]) ?_
  by_cases h0 : q < 0
  · simp only [s_graph_Post, a_graph_Post,s_graph_Post_l0_b, am0,am1,am2,am3,am4,am5,am6,am7,bl,i64,reduceIte,reduceCtorEq,Nat.reduceEqDiff,Nat.reduceLT,Nat.reduceLeDiff,Nat.reduceBEq,Nat.reduceAdd,fillA,splice,Nat.reduceMul,al0,al1,al2,al3,al4,al5,al6,al7,al8,al9,al10,al11,al12,al13,al14,al15,al16,al17,al18,al19,al20,al21,al22,al23,al24,al25,al26,al27,al28,al29,al30,al31,al32,al33,al34, hlen, h0, nilS]
  · have h1 : (G.length : Int) ≤ q := by omega
    simp only [s_graph_Post, a_graph_Post,s_graph_Post_l0_b, am0,am1,am2,am3,am4,am5,am6,am7,bl,i64,reduceIte,reduceCtorEq,Nat.reduceEqDiff,Nat.reduceLT,Nat.reduceLeDiff,Nat.reduceBEq,Nat.reduceAdd,fillA,splice,Nat.reduceMul,al0,al1,al2,al3,al4,al5,al6,al7,al8,al9,al10,al11,al12,al13,al14,al15,al16,al17,al18,al19,al20,al21,al22,al23,al24,al25,al26,al27,al28,al29,al30,al31,al32,al33,al34, hlen, h0, ge_iff_le, h1, nilS]
end Go.Proofs.Ytmnlagcmpgilaaa
set_option maxRecDepth 100000
namespace Go.Proofs.Ytmnlagcmpgilaaa
open Go.AM
structure Walked (G : List (List Int)) (q : Nat) (P : List Int) : Prop where
  head : P[0]? = some (q : Int)
  nodup : P.Nodup
  rch : ∀ k : Nat, (k : Int) ∈ P ↔ Rch G [(q : Int)] k
  nat : ∀ x ∈ P, ∃ k : Nat, x = k ∧ k < G.length
  order : ∀ (i j a b : Nat), P[a]? = some (i : Int) → P[b]? = some (j : Int) → (j : Int) ∈ (normG G).getD i [] → b ≤ a → leadsB G j i = true
end Go.Proofs.Ytmnlagcmpgilaaa
set_option maxRecDepth 100000
namespace Go.Proofs.Ytmnlagcmpgilaaa
open Go.AM
theorem int_ext {H0 : Heap} {v : V} {l : List Int} (h : Rd H0 v (l.map iV)) (ob : Ob) : Rd (H0 ++ [ob]) v (l.map iV) := h.ext (Ext.app _ _)
end Go.Proofs.Ytmnlagcmpgilaaa
set_option maxRecDepth 100000
namespace Go.Proofs.Ytmnlagcmpgilaaa
open Go.AM
end Go.Proofs.Ytmnlagcmpgilaaa
set_option maxRecDepth 100000
namespace Go.AM
def callQV (call : CallF) (H : Heap) (f : Nat) (vs : List V) : Option (V × Heap) := if vs.all (isPure 12) = true then (match call (.fn f [] []) vs 0 [] with
  | some (v, H') => (match frz H' 12 v with
    | some u => some (u, H)
    | none => none)
  | none => none) else none
theorem op_callQ (call : CallF) (base : Nat) (fr : List V) (H : Heap) (f : Nat) (args : List Opd) : evOp call base fr H (.callQ f args) = callQV call H f (args.map (ev fr)) := rfl
def callPV (call : CallF) (H : Heap) (f : Nat) (vs : List V) : Option (V × Heap) := match vs.mapM (frz H 12) with
  | some us => (match call (.fn f [] []) us 0 [] with
    | some (v, H') => (match frz H' 12 v with
      | some u => if vs.all (isPure 12) || u.flat2 then some (u, H) else none
      | none => none)
    | none => none)
  | none => none
theorem op_callP (call : CallF) (base : Nat) (fr : List V) (H : Heap) (f : Nat) (args : List Opd) : evOp call base fr H (.callP f args) = callPV call H f (args.map (ev fr)) := rfl
def In1 (v : V) : Prop := v = nilS ∨ ∃ es, v = .psl es 1
theorem In1.pure {v : V} (h : In1 v) : isPure 12 v = true := by rcases h with rfl | ⟨es, rfl⟩ <;> rfl
theorem In1.frz {v : V} (h : In1 v) (H : Heap) : frz H 12 v = some v := by rcases h with rfl | ⟨es, rfl⟩ <;> rfl
theorem callP_of_Q {call : CallF} {f : Nat} {v u : V} (h : In1 v) (hq : ∀ H, callQV call H f [v] = some (u, H)) (H : Heap) : callPV call H f [v] = some (u, H) := by
  have h1 := hq H
  unfold callQV at h1
  have hall : [v].all (isPure 12) = true := by simp [h.pure]
  rw [if_pos hall] at h1
  unfold callPV
  rw [List.mapM_cons, h.frz H]
  simp only [List.mapM_nil, Option.pure_def, Option.bind_eq_bind, Option.bind_some, hall, Bool.true_or, if_true]
  exact h1
def Sc (l : List V) : Prop := ∀ x ∈ l, ∃ v, x = .s v
theorem frz_scs (H : Heap) (n : Nat) : ∀ {l : List V}, Sc l → l.mapM (frz H (n + 1)) = some l := by
  intro l
  induction l with
  | nil => intro _; rfl
  | cons x l ih =>
    intro h
    obtain ⟨v, rfl⟩ := h _ List.mem_cons_self
    rw [List.mapM_cons, ih fun y hy => h y (List.mem_cons_of_mem _ hy)]
    rfl
theorem singles (us : List V) : ((List.range us.length).map fun i => (us.drop (i * 1)).take 1) = us.map fun x => [x] := by
  refine List.ext_getElem (by simp) fun i h1 h2 => ?_
  simp only [List.getElem_map, List.getElem_range, Nat.mul_one]
  have hi : i < us.length := by simpa using h2
  rw [List.drop_eq_getElem_cons hi, List.take_succ_cons, List.take_zero]
def cutZ (len sz : Nat) : Option (List V) → Option V
  | some us => some (.psl ((List.range len).map fun i => (us.drop (i * sz)).take sz) sz)
  | none => none
theorem frz_sl {H : Heap} {id g off len sz n : Nat} {c cs : List V} (hc : getC H id g = some c) (h1 : (c.drop off).take (len * sz) = cs) (h2 : cs.length = len * sz) : frz H (n + 1) (.sl id g off len sz) = cutZ len sz (cs.mapM (frz H n)) := by
  show (match getC H id g with | some c => _ | none => none) = _
  rw [hc]
  simp only [h1]
  rw [if_pos h2]
  cases cs.mapM (frz H n) <;> rfl
theorem frz_rd {H : Heap} {v : V} {l : List V} (h : Rd H v l) (hw : Wide1 v) (hs : Sc l) (n : Nat) : ∃ u, frz H (n + 2) v = some u ∧ (∀ H2, Rd H2 u l) ∧ Wide1 u ∧ u.one = true := by
  rcases h.cases with ⟨rfl, rfl | rfl⟩ | ⟨es, rfl, e1, e2⟩ | ⟨id, g, off, k, c, rfl, hc, e1, e2⟩
  · exact ⟨nilS, rfl, fun H2 => Rd.nil H2, trivial, rfl⟩
  · exact ⟨.esl, rfl, fun H2 => Rd.esl H2, trivial, rfl⟩
  · refine ⟨_, rfl, fun H2 => ⟨h.1, ?_⟩, hw, rfl⟩
    simp only [elems, if_true, e1, e2]
  · refine ⟨.psl (l.map fun x => [x]) 1, ?_, fun H2 => Rd.psl H2 l, fun e he => ?_, rfl⟩
    · rw [frz_sl (cs := l) hc (by rw [Nat.mul_one]; exact e1) (by rw [Nat.mul_one]; exact e2.symm), frz_scs H n hs]
      simp only [cutZ, e2]
      rw [singles l]
    · obtain ⟨x, _, rfl⟩ := List.mem_map.1 he
      rfl
theorem frz_each {H : Heap} (n : Nat) : ∀ (R : List (List V)) (vs : List V), (∀ r ∈ R, Sc r) → vs.length = R.length → (∀ (i : Nat) (r : List V), R[i]? = some r → ∃ x, vs[i]? = some x ∧ Rd H x r ∧ Wide1 x) → ∃ us, vs.mapM (frz H (n + 2)) = some us ∧ us.length = R.length ∧ ∀ (i : Nat) (r : List V), R[i]? = some r → ∃ x, us[i]? = some x ∧ (∀ H2, Rd H2 x r) ∧ Wide1 x := by
  intro R
  induction R with
  | nil => intro vs _ hl _; rw [List.eq_nil_of_length_eq_zero hl]; exact ⟨[], rfl, rfl, fun i r h => by simp at h⟩
  | cons r R ih =>
    intro vs hs hl h
    cases vs with
    | nil => cases hl
    | cons v vs =>
      obtain ⟨x, h1, h2, h3⟩ := h 0 r rfl
      cases h1
      obtain ⟨u, a1, a2, a3, _⟩ := frz_rd h2 h3 (hs r List.mem_cons_self) n
      obtain ⟨us, b1, b2, b3⟩ := ih vs (fun r hr => hs r (List.mem_cons_of_mem _ hr)) (by simpa using hl) fun i q hq => h (i + 1) q (by simpa using hq)
      refine ⟨u :: us, by rw [List.mapM_cons, a1, b1]; rfl, by simp [b2], fun i q hq => ?_⟩
      cases i with
      | zero => cases hq; exact ⟨u, rfl, a2, a3⟩
      | succ i => exact b3 i q (by simpa using hq)
theorem frz_rows {H : Heap} {v : V} {R : List (List V)} (h : RdRows H v R) (hs : ∀ r ∈ R, Sc r) (n : Nat) (hv : ∀ es, v ≠ .psl es 1) : ∃ u, frz H (n + 3) v = some u ∧ ∀ H2, RdRows H2 u R := by
  obtain ⟨vs, h1, h2, h3, h4⟩ := h
  obtain ⟨us, a1, a2, a3⟩ := frz_each n R vs hs h3 h4
  rcases h1.cases with ⟨rfl, rfl | rfl⟩ | ⟨es, rfl, e1, e2⟩ | ⟨id, g, off, k, c, rfl, hc, e1, e2⟩
  · refine ⟨nilS, rfl, fun H2 => ⟨[], Rd.nil H2, trivial, h3, fun i r hr => ?_⟩⟩
    obtain ⟨x, q, _⟩ := h4 i r hr
    simp at q
  · refine ⟨.esl, rfl, fun H2 => ⟨[], Rd.esl H2, trivial, h3, fun i r hr => ?_⟩⟩
    obtain ⟨x, q, _⟩ := h4 i r hr
    simp at q
  · exact absurd rfl (hv es)
  · refine ⟨.psl (us.map fun x => [x]) 1, ?_, fun H2 => ⟨us, Rd.psl H2 us, fun e he => ?_, a2, fun i r hr => ?_⟩⟩
    · have e3 : us.length = k := by rw [a2, ← h3, e2]
      rw [frz_sl (cs := vs) hc (by rw [Nat.mul_one]; exact e1) (by rw [Nat.mul_one]; exact e2.symm), a1]
      simp only [cutZ, ← e3]
      rw [singles us]
    · obtain ⟨x, _, rfl⟩ := List.mem_map.1 he
      rfl
    · obtain ⟨x, q1, q2, q3⟩ := a3 i r hr
      exact ⟨x, q1, q2 H2, q3⟩
end Go.AM
set_option maxRecDepth 100000
namespace Go.Proofs.Ytmnlagcmpgilaaa
open Go.AM
theorem sc_ints (l : List Int) : Sc (l.map iV) := fun x hx => by obtain ⟨z, _, rfl⟩ := List.mem_map.1 hx; exact ⟨_, rfl⟩
theorem refN_pure {CT : Nat → Option CFun} (hT : CT k_gnomonref01_Add = some (.code s_gnomonref01_Add)) (hH : CT k_gnomonref01_Has = some (.code s_gnomonref01_Has)) (hN : CT k_gnomonref07_Norm = some (.code s_gnomonref07_Norm)) (v : V) (G : List (List Int)) (hv : RdRows [] v (rowsV G)) (hp : isPure 12 v = true) (hn : G.length < 2 ^ 39) (hr : ∀ r ∈ G, r.length < 2 ^ 39) :
    ∃ u, (∀ H, callQV (callW CT) H 15 [v] = some (u, H)) ∧ ∀ H, RdRows H u (rowsV (normG G)) := by
  obtain ⟨acc, H', p1, p2⟩ := refN_outer hT hH 0 [] v G hv (Nat.le_refl _) hn hr G 0 [] nilS rfl (Nat.zero_le _) (AccR.start [])
  rw [cast0] at p1
  have hc : callW CT (.fn k_gnomonref07_Norm [] []) [v] 0 [] = some (acc, H') := by
    refine callW_fn (c := s_gnomonref07_Norm) hN (by simp [s_gnomonref07_Norm]) ?_
    simp only [nilS, List.length_nil] at p1
    simp only [s_gnomonref07_Norm, a_gnomonref07_Norm,s_gnomonref07_Norm_l0_b,s_gnomonref07_Norm_l1_b, am0,am1,am2,am3,am4,am5,am6,am7,bl,i64,reduceIte,reduceCtorEq,Nat.reduceEqDiff,Nat.reduceLT,Nat.reduceLeDiff,Nat.reduceBEq,Nat.reduceAdd,fillA,splice,Nat.reduceMul,al0,al1,al2,al3,al4,al5,al6,al7,al8,al9,al10,al11,al12,al13,al14,al15,al16,al17,al18,al19,al20,al21,al22,al23,al24,al25,al26,al27,al28,al29,al30,al31,al32,al33,al34, p1]
  obtain ⟨u, u1, u2⟩ := frz_rows (n := 9) p2.rows (fun r hrr => by
    unfold rowsV at hrr
    obtain ⟨q, _, rfl⟩ := List.mem_map.1 hrr
    exact sc_ints q) (fun es e => by
    obtain ⟨vs, h1, _⟩ := p2
    rcases h1.2 with ⟨_, e2⟩ | ⟨id, g, e2, _⟩ <;> rw [e2] at e <;> cases e)
  refine ⟨u, fun H => ?_, fun H => by rw [normG_ref]; exact u2 H⟩
  have hall : [v].all (isPure 12) = true := by simp [hp]
  have hc' : callW CT (.fn 15 [] []) [v] 0 [] = some (acc, H') := hc
  unfold callQV
  rw [if_pos hall]
  simp only [hc', u1]
structure WS (A n : Nat) (H : Heap) (B : List Bool) (l : List Int) (lv : V) : Prop where
  seen : getC H A 0 = some (B.map bV)
  len : B.length = n
  left : OwnN (A + 1) H lv (l.map iV)
  one : ∀ id g k c, lv = .sl id g 0 k 1 → getC H id g = some c → ∀ x ∈ c, x.one = true
theorem WS.trim {A n L : Nat} {H : Heap} {B : List Bool} {l : List Int} {lv : V} (k : WS A n H B l lv) (hL : A + 1 ≤ L) {fr : List V} (h : lv ∈ fr) : WS A n (trim L fr H) B l lv := by
  refine ⟨trim_get k.seen (by omega), k.len, k.left.trim_fr h, ?_⟩
  intro id g q c e hc
  rcases trim_or L fr H with e2 | ⟨e2, _⟩
  · rw [e2] at hc; exact k.one id g q c e hc
  · rw [e2] at hc
    refine k.one id g q c e ?_
    simp only [getC] at hc ⊢
    by_cases hlt : id < L
    · rw [List.getElem?_take_of_lt hlt] at hc; exact hc
    · rw [List.getElem?_eq_none (by rw [List.length_take]; omega)] at hc; cases hc
theorem WS.mark {A n : Nat} {H : Heap} {B : List Bool} {l : List Int} {lv : V} (k : WS A n H B l lv) (j : Nat) : WS A n (H.set A (.cells 0 ((B.map bV).set j (bV true)))) (B.set j true) l lv := by
  refine ⟨by rw [getC_put k.seen, List.map_set], by rw [List.length_set]; exact k.len, k.left.set (by omega) _, ?_⟩
  intro id g q c e hc
  rw [getC_other (by have := k.left.ge _ _ _ e; omega)] at hc
  exact k.one _ _ _ _ e hc
def Low (A : Nat) (H H' : Heap) : Prop := H.length ≤ H'.length ∧ ∀ i, i < A → H'[i]? = H[i]?
theorem Low.refl (A : Nat) (H : Heap) : Low A H H := ⟨Nat.le_refl _, fun _ _ => rfl⟩
theorem walk_dfs {CT : Nat → Option CFun} (hW : CT k_gnomonref07_walk = some (.code s_gnomonref07_walk)) (base A n : Nat) (gv : V) (N : List (List Int)) (hN : N.length = n) (hin : ∀ r ∈ N, ∀ x ∈ r, 0 ≤ x ∧ x < (n : Int)) (hg : ∀ H, RdRows H gv (rowsV N)) (hr : ∀ r ∈ N, r.length < 2 ^ 40) (hb : base ≤ A) {r : List Int} {s : List Bool} {l : List Int} {s' : List Bool} {l' : List Int} (d : Dfs N r s l s' l') :
    ∀ (i : Nat) (pre : List Int) (L : Nat) (H : Heap) (lv : V), i < n → N.getD i [] = pre ++ r → l.length + cntF s + 4 < 2 ^ 40 → A + 1 ≤ L → L ≤ H.length → WS A n H s l lv →
    ∃ H' lv', WS A n H' s' l' lv' ∧ L ≤ H'.length ∧ (∀ i, i < A → H'[i]? = H[i]?) ∧
      itW (evC (callW CT) itW base s_gnomonref07_walk_l0) [] L (frOf 48 [(0, gv), (1, .s (.int .i64 i)), (2, .sl A 0 0 n 1), (3, lv), (9, .s (.int .i64 pre.length))]) H =
        some (.ext 0, frOf 48 [(0, gv), (1, .s (.int .i64 i)), (2, .sl A 0 0 n 1), (3, lv'), (9, .s (.int .i64 (N.getD i []).length)), (19, .s (.bool false))], H') := by
  have tl : ∀ (L : Nat) (fr : List V) (H : Heap), L ≤ H.length → L ≤ (trim L fr H).length := fun L fr H h => trim_le h
  have tg : ∀ (L : Nat) (fr : List V) (H : Heap) (i : Nat), i < L → (trim L fr H)[i]? = H[i]? := by
    intro L fr H i hi
    rcases trim_or L fr H with e | ⟨e, _⟩ <;> rw [e]
    exact List.getElem?_take_of_lt hi
  induction d with
  | nil s l =>
    intro i pre L H lv hi he hs hL hLH k
    have hig : N[i]? = some (N.getD i []) := by rw [List.getD, List.getElem?_eq_getElem (by omega)]; rfl
    obtain ⟨b, y, b1, b2, b3, b4⟩ := rows_at (hg H) hig
    have hyl := iV_len b3
    have hpe : (N.getD i []).length = pre.length := by rw [he, List.append_nil]
    rw [hpe] at hyl ⊢
    refine ⟨_, lv, k.trim hL (fr := frOf 48 [(0, gv), (1, .s (.int .i64 i)), (2, .sl A 0 0 n 1), (3, lv), (9, .s (.int .i64 pre.length)), (19, .s (.bool false))]) (frOf_mem (s := 3) (by omega) rfl), tl _ _ _ hLH, fun j hj => tg _ _ _ j (by omega), ?_⟩
    rw [itW_step]
    simp only [a_gnomonref07_walk,s_gnomonref07_walk_l0_b, am0,am1,am2,am3,am4,am5,am6,am7,bl,i64,reduceIte,reduceCtorEq,Nat.reduceEqDiff,Nat.reduceLT,Nat.reduceLeDiff,Nat.reduceBEq,Nat.reduceAdd,fillA,splice,Nat.reduceMul,al0,al1,al2,al3,al4,al5,al6,al7,al8,al9,al10,al11,al12,al13,al14,al15,al16,al17,al18,al19,al20,al21,al22,al23,al24,al25,al26,al27,al28,al29,al30,al31,al32,al33,al34, b1, b2, hyl, Int.lt_irrefl]
  | skip q r s l s' l' h1 h2 ih =>
    intro i pre L H lv hi he hs hL hLH k
    have hig : N[i]? = some (N.getD i []) := by rw [List.getD, List.getElem?_eq_getElem (by omega)]; rfl
    obtain ⟨b, y, b1, b2, b3, b4⟩ := rows_at (hg H) hig
    have hyl := iV_len b3
    have hrl := hr _ (getD_mem (G := N) (k := i) (by omega))
    have hll : pre.length < (N.getD i []).length := by rw [he]; simp
    have hlt' : (pre.length : Int) < ((N.getD i []).length : Int) := by omega
    have hwk := wrap_pos (n := pre.length) (by omega)
    obtain ⟨c, c1, c2⟩ := iV_at b3 b4 (k := pre.length) (x := (q : Int)) (by rw [he]; simp)
    have hqn : q < n := by have := (List.getElem?_eq_some_iff.1 h1).1; have := k.len; omega
    obtain ⟨e1, e2⟩ := at_sl (n := n) k.seen hqn (w := bV true) (by rw [List.getElem?_map, h1]; rfl)
    simp only [bV] at e2
    obtain ⟨H', lv', p1, p2, p3, p4⟩ := ih i (pre ++ [(q : Int)]) L (trim L (frOf 48 [(0, gv), (1, .s (.int .i64 i)), (2, .sl A 0 0 n 1), (3, lv), (9, .s (.int .i64 ((pre.length + 1 : Nat) : Int)))]) H) lv hi (by rw [he]; simp) hs hL (tl _ _ _ hLH) (k.trim hL (frOf_mem (s := 3) (by omega) rfl))
    rw [List.length_append, List.length_singleton] at p4
    refine ⟨H', lv', p1, p2, fun j hj => by rw [p3 j hj]; exact tg _ _ _ j (by omega), ?_⟩
    rw [itW_step]
    simp only [a_gnomonref07_walk,s_gnomonref07_walk_l0_b, am0,am1,am2,am3,am4,am5,am6,am7,bl,i64,reduceIte,reduceCtorEq,Nat.reduceEqDiff,Nat.reduceLT,Nat.reduceLeDiff,Nat.reduceBEq,Nat.reduceAdd,fillA,splice,Nat.reduceMul,al0,al1,al2,al3,al4,al5,al6,al7,al8,al9,al10,al11,al12,al13,al14,al15,al16,al17,al18,al19,al20,al21,al22,al23,al24,al25,al26,al27,al28,al29,al30,al31,al32,al33,al34, b1, b2, hyl, hlt', c1, c2, e1, e2, hwk]
    exact p4
  | go q r s l s1 l1 s' l' h1 h2 h3 ih1 ih2 =>
    intro i pre L H lv hi he hs hL hLH k
    have hig : N[i]? = some (N.getD i []) := by rw [List.getD, List.getElem?_eq_getElem (by omega)]; rfl
    obtain ⟨b, y, b1, b2, b3, b4⟩ := rows_at (hg H) hig
    have hyl := iV_len b3
    have hrl := hr _ (getD_mem (G := N) (k := i) (by omega))
    have hll : pre.length < (N.getD i []).length := by rw [he]; simp
    have hlt' : (pre.length : Int) < ((N.getD i []).length : Int) := by omega
    have hwk := wrap_pos (n := pre.length) (by omega)
    obtain ⟨c, c1, c2⟩ := iV_at b3 b4 (k := pre.length) (x := (q : Int)) (by rw [he]; simp)
    have hqs : q < s.length := (List.getElem?_eq_some_iff.1 h1).1
    have hqn : q < n := by have := k.len; omega
    obtain ⟨e1, e2⟩ := at_sl (n := n) k.seen hqn (w := bV false) (by rw [List.getElem?_map, h1]; rfl)
    simp only [bV] at e2
    have hcs := cntF_set s q h1
    have st := storeV_at (v := bV true) (base := base) k.seen hb rfl (off := q) (by rw [List.length_map, k.len]; exact hqn)
    have km := k.mark q
    have hlow1 : ∀ j, j < A → (H.set A (.cells 0 ((s.map bV).set q (bV true))))[j]? = H[j]? := fun j hj => List.getElem?_set_ne (by omega)
    obtain ⟨H1, lv1, m1, m2, m3, m4⟩ := ih1 q [] (H.set A (.cells 0 ((s.map bV).set q (bV true)))).length (H.set A (.cells 0 ((s.map bV).set q (bV true)))) lv hqn rfl (by omega) (by rw [List.length_set]; omega) (Nat.le_refl _) km
    rw [List.length_nil, cast0] at m4
    rw [List.length_set] at m2
    have hcd := dfs_cnt h2
    have hll1 := iV_len m1.left.rd
    have g1 : getC (H1 ++ [Ob.cells 0 [iV q]]) H1.length 0 = some [iV q] := getC_new _ _ _
    have hap := append_full (base := base) (bytes := 8) g1 (by omega) ((m1.left.ext (Ext.app H1 [Ob.cells 0 [iV q]])).rd) (ones l1) (by simp; omega)
    obtain ⟨g', hap⟩ := hap
    rw [List.length_map, List.length_singleton, List.singleton_append, set_snoc] at hap
    have hcall : callW CT (.fn k_gnomonref07_walk [] []) [gv, .s (.int .i64 q), .sl A 0 0 n 1, lv] base H = some (.sl H1.length g' 0 (1 + l1.length) 1, H1 ++ [Ob.cells g' (iV q :: l1.map iV)]) := by
      refine callW_fn (c := s_gnomonref07_walk) hW (by simp [s_gnomonref07_walk]) ?_
      simp only [bV, List.length_set] at st m4
      simp only [iV] at hap ⊢
      simp only [s_gnomonref07_walk, a_gnomonref07_walk,s_gnomonref07_walk_l0_b, am0,am1,am2,am3,am4,am5,am6,am7,bl,i64,reduceIte,reduceCtorEq,Nat.reduceEqDiff,Nat.reduceLT,Nat.reduceLeDiff,Nat.reduceBEq,Nat.reduceAdd,fillA,splice,Nat.reduceMul,al0,al1,al2,al3,al4,al5,al6,al7,al8,al9,al10,al11,al12,al13,al14,al15,al16,al17,al18,al19,al20,al21,al22,al23,al24,al25,al26,al27,al28,al29,al30,al31,al32,al33,al34, e1, st, m4, hap]
    have hwl : WS A n (H1 ++ [Ob.cells g' (iV q :: l1.map iV)]) s1 ((q : Int) :: l1) (.sl H1.length g' 0 (1 + l1.length) 1) := by
      have gn := getC_new H1 g' (iV q :: l1.map iV)
      refine ⟨getC_app m1.seen, m1.len, .inr ⟨H1.length, g', _, ?_, gn, by simp, List.take_of_length_le (by simp), ?_⟩, ?_⟩
      · simp; omega
      · have := getC_lt m1.seen; omega
      · intro id g k c e hc x hx
        cases e
        rw [gn] at hc
        cases hc
        rcases List.mem_cons.1 hx with rfl | hx
        · rfl
        · obtain ⟨z, _, rfl⟩ := List.mem_map.1 hx; rfl
    obtain ⟨H', lv', p1, p2, p3, p4⟩ := ih2 i (pre ++ [(q : Int)]) L (trim L (frOf 48 [(0, gv), (1, .s (.int .i64 i)), (2, .sl A 0 0 n 1), (3, .sl H1.length g' 0 (1 + l1.length) 1), (9, .s (.int .i64 ((pre.length + 1 : Nat) : Int)))]) (H1 ++ [Ob.cells g' (iV q :: l1.map iV)])) (.sl H1.length g' 0 (1 + l1.length) 1) hi (by rw [he]; simp) (by rw [List.length_cons]; omega) hL (tl _ _ _ (by rw [List.length_append]; omega)) (hwl.trim hL (frOf_mem (s := 3) (by omega) rfl))
    rw [List.length_append, List.length_singleton] at p4
    refine ⟨H', lv', p1, p2, fun j hj => ?_, ?_⟩
    · rw [p3 j hj, tg _ _ _ j (by omega), List.getElem?_append_left (by have := getC_lt m1.seen; omega), m3 j hj, hlow1 j hj]
    rw [itW_step]
    simp only [a_gnomonref07_walk,s_gnomonref07_walk_l0_b, am0,am1,am2,am3,am4,am5,am6,am7,bl,i64,reduceIte,reduceCtorEq,Nat.reduceEqDiff,Nat.reduceLT,Nat.reduceLeDiff,Nat.reduceBEq,Nat.reduceAdd,fillA,splice,Nat.reduceMul,al0,al1,al2,al3,al4,al5,al6,al7,al8,al9,al10,al11,al12,al13,al14,al15,al16,al17,al18,al19,al20,al21,al22,al23,al24,al25,al26,al27,al28,al29,al30,al31,al32,al33,al34, b1, b2, hyl, hlt', c1, c2, e1, e2, hwk, hcall]
    exact p4
end Go.Proofs.Ytmnlagcmpgilaaa
set_option maxRecDepth 100000
namespace Go.Proofs.Ytmnlagcmpgilaaa
open Go.AM
def stepE (i : Nat) (s : List Bool × Bool) (w : Int) : List Bool × Bool := bif s.1.getD i false && !(s.1.getD w.toNat true) then (s.1.set w.toNat true, true) else s
def rowE (i : Nat) (r : List Int) (s : List Bool × Bool) : List Bool × Bool := r.foldl (stepE i) s
def passE : Nat → List (List Int) → List Bool × Bool → List Bool × Bool
  | _, [], s => s
  | i, r :: N, s => passE (i + 1) N (rowE i r s)
structure PassK (G : List (List Int)) (l : List Int) (E : Nat → Int → Prop) (s s' : List Bool × Bool) : Prop where
  len : s'.1.length = s.1.length
  mono : ∀ k : Nat, s.1[k]? = some true → s'.1[k]? = some true
  sound : (∀ k : Nat, s.1[k]? = some true → Rch G l k) → ∀ k : Nat, s'.1[k]? = some true → Rch G l k
  quiet : s'.2 = false → s.2 = false ∧ s'.1 = s.1 ∧ ∀ i w, E i w → s.1[i]? = some true → s.1[w.toNat]? = some true
  cnt : cntF s'.1 ≤ cntF s.1 ∧ (s.2 = false → s'.2 = true → cntF s'.1 < cntF s.1)
theorem PassK.trans {G : List (List Int)} {l : List Int} {E F : Nat → Int → Prop} {s t u : List Bool × Bool} (h : PassK G l E s t) (k : PassK G l F t u) : PassK G l (fun i w => E i w ∨ F i w) s u := by
  refine ⟨k.len.trans h.len, fun j hj => k.mono j (h.mono j hj), fun hs => k.sound (h.sound hs), fun hq => ?_, ?_, fun h1 h2 => ?_⟩
  · obtain ⟨a1, a2, a3⟩ := k.quiet hq
    obtain ⟨b1, b2, b3⟩ := h.quiet a1
    refine ⟨b1, a2.trans b2, fun i w hE hi => ?_⟩
    rcases hE with hE | hE
    · exact b3 i w hE hi
    · rw [b2] at a3; exact a3 i w hE hi
  · have := h.cnt.1; have := k.cnt.1; omega
  · cases ht : t.2 with
    | true => have := h.cnt.2 h1 ht; have := k.cnt.1; omega
    | false => have := h.cnt.1; have := k.cnt.2 ht h2; omega
theorem PassK.mono' {G : List (List Int)} {l : List Int} {E F : Nat → Int → Prop} {s t : List Bool × Bool} (h : PassK G l E s t) (hF : ∀ i w, F i w → E i w) : PassK G l F s t :=
  ⟨h.len, h.mono, h.sound, fun hq => ⟨(h.quiet hq).1, (h.quiet hq).2.1, fun i w hw => (h.quiet hq).2.2 i w (hF i w hw)⟩, h.cnt⟩
theorem PassK.refl (G : List (List Int)) (l : List Int) (s : List Bool × Bool) : PassK G l (fun _ _ => False) s s :=
  ⟨rfl, fun _ h => h, fun h => h, fun h => ⟨h, rfl, fun _ _ h => h.elim⟩, Nat.le_refl _, fun h1 h2 => by rw [h1] at h2; cases h2⟩
theorem stepE_k (G : List (List Int)) (l : List Int) (i : Nat) (w : Int) (s : List Bool × Bool) (hs : s.1.length = G.length) (hw : 0 ≤ w ∧ w < G.length) (he : w ∈ G.getD i []) : PassK G l (fun a b => a = i ∧ b = w) s (stepE i s w) := by
  have hwl : w.toNat < s.1.length := by omega
  unfold stepE
  cases hc : s.1.getD i false && !(s.1.getD w.toNat true) with
  | false =>
    rw [cond_false]
    refine ⟨rfl, fun _ h => h, fun h => h, fun h => ⟨h, rfl, ?_⟩, Nat.le_refl _, fun h1 h2 => by rw [h1] at h2; cases h2⟩
    rintro a b ⟨rfl, rfl⟩ hi
    rw [List.getD, hi] at hc
    rw [List.getD, List.getElem?_eq_getElem hwl] at hc
    rw [List.getElem?_eq_getElem hwl]
    simpa using hc
  | true =>
    rw [cond_true]
    rw [Bool.and_eq_true, Bool.not_eq_true'] at hc
    obtain ⟨h1, h2⟩ := hc
    have hi : s.1[i]? = some true := by
      rw [List.getD] at h1
      cases hx : s.1[i]? with
      | none => rw [hx] at h1; cases h1
      | some b => rw [hx] at h1; simp at h1; rw [h1]
    have hwf : s.1[w.toNat]? = some false := by
      rw [List.getD, List.getElem?_eq_getElem hwl] at h2
      rw [List.getElem?_eq_getElem hwl]
      simpa using h2
    have hcn := cntF_set s.1 w.toNat hwf
    refine ⟨by rw [List.length_set], fun k hk => ?_, fun hS k hk => ?_, fun h => (by cases h), (by show cntF (s.1.set w.toNat true) ≤ _; omega), fun _ _ => (by show cntF (s.1.set w.toNat true) < _; omega)⟩
    · show (s.1.set w.toNat true)[k]? = some true
      rw [set_get hwl]; split <;> first | rfl | exact hk
    · have hk : (s.1.set w.toNat true)[k]? = some true := hk
      rw [set_get hwl] at hk
      split at hk
      · rename_i e
        subst e
        refine .step i w.toNat (hS i hi) ?_ (by omega)
        rw [Int.toNat_of_nonneg hw.1]; exact he
      · exact hS k hk
theorem rowE_k (G : List (List Int)) (l : List Int) (i : Nat) : ∀ (r : List Int) (s : List Bool × Bool), s.1.length = G.length → (∀ w ∈ r, (0 ≤ w ∧ w < (G.length : Int)) ∧ w ∈ G.getD i []) → PassK G l (fun a b => a = i ∧ b ∈ r) s (rowE i r s) := by
  intro r
  induction r with
  | nil => intro s _ _; exact (PassK.refl G l s).mono' fun _ _ h => (List.not_mem_nil h.2).elim
  | cons w r ih =>
    intro s hs hr
    have h1 := stepE_k G l i w s hs (hr w List.mem_cons_self).1 (hr w List.mem_cons_self).2
    refine (h1.trans (ih (stepE i s w) (by rw [h1.len, hs]) fun x hx => hr x (List.mem_cons_of_mem _ hx))).mono' ?_
    rintro a b ⟨rfl, hb⟩
    rcases List.mem_cons.1 hb with rfl | hb
    · exact .inl ⟨rfl, rfl⟩
    · exact .inr ⟨rfl, hb⟩
theorem passE_k (G : List (List Int)) (l : List Int) : ∀ (N : List (List Int)) (i : Nat) (s : List Bool × Bool), s.1.length = G.length → (∀ (j : Nat) (r : List Int), N[j]? = some r → ∀ w ∈ r, (0 ≤ w ∧ w < (G.length : Int)) ∧ w ∈ G.getD (i + j) []) → PassK G l (fun a b => ∃ j r, a = i + j ∧ N[j]? = some r ∧ b ∈ r) s (passE i N s) := by
  intro N
  induction N with
  | nil => intro i s _ _; exact (PassK.refl G l s).mono' fun _ _ ⟨j, r, _, h, _⟩ => by simp at h
  | cons r N ih =>
    intro i s hs hN
    have h1 := rowE_k G l i r s hs (fun w hw => hN 0 r rfl w hw)
    refine (h1.trans (ih (i + 1) (rowE i r s) (by rw [h1.len, hs]) fun j q hq w hw => by
      have := hN (j + 1) q (by simpa using hq) w hw
      rw [show i + (j + 1) = i + 1 + j by omega] at this
      exact this)).mono' ?_
    rintro a b ⟨j, q, rfl, hq, hb⟩
    cases j with
    | zero =>
      simp only [List.getElem?_cons_zero, Option.some.injEq] at hq
      subst hq
      exact .inl ⟨rfl, hb⟩
    | succ j => exact .inr ⟨j, q, by omega, by simpa using hq, hb⟩
theorem rowE_len (i : Nat) : ∀ (r : List Int) (s : List Bool × Bool), (rowE i r s).1.length = s.1.length := by
  intro r
  induction r with
  | nil => intro s; rfl
  | cons w r ih =>
    intro s
    show (rowE i r (stepE i s w)).1.length = _
    rw [ih]
    unfold stepE
    cases s.1.getD i false && !(s.1.getD w.toNat true) with
    | true => rw [cond_true]; simp only [List.length_set]
    | false => rw [cond_false]
theorem rr_l1 (call : CallF) (base : Nat) (H1 : Heap) (u : V) (N : List (List Int)) (n i : Nat) (hb : base ≤ H1.length) (hu : ∀ H, RdRows H u (rowsV N)) (hN : N.length = n) (hin : ∀ r ∈ N, ∀ x ∈ r, 0 ≤ x ∧ x < (n : Int)) (hr : ∀ r ∈ N, r.length < 2 ^ 40) (hi : i < n) : ∀ (r : List Int) (k : Nat) (B : List Bool) (m : Bool), (N.getD i []).drop k = r → k ≤ (N.getD i []).length → B.length = n →
    itW (evC call itW base s_wref07_Reach_l1) [] (H1.length + 1) (frOf 84 [(0, u), (5, .sl H1.length 0 0 n 1), (7, .s (.bool m)), (8, .s (.int .i64 i)), (9, .s (.int .i64 k))]) (H1 ++ [.cells 0 (B.map bV)]) =
      some (.ext 6, frOf 84 [(0, u), (5, .sl H1.length 0 0 n 1), (7, .s (.bool (rowE i r (B, m)).2)), (8, .s (.int .i64 i)), (9, .s (.int .i64 (N.getD i []).length)), (54, .s (.bool false))], H1 ++ [.cells 0 ((rowE i r (B, m)).1.map bV)]) := by
  have ts : ∀ (fr : List V) (ob : Ob), trim (H1.length + 1) fr (H1 ++ [ob]) = H1 ++ [ob] := fun fr ob => trim_same (by simp)
  have hig : N[i]? = some (N.getD i []) := by rw [List.getD, List.getElem?_eq_getElem (by omega)]; rfl
  have hrl := hr _ (getD_mem (G := N) (k := i) (by omega))
  intro r
  induction r with
  | nil =>
    intro k B m hd hk hB
    have hkl := drop_nil hd hk
    obtain ⟨b, y, b1, b2, b3, b4⟩ := rows_at (hu (H1 ++ [.cells 0 (B.map bV)])) hig
    have hyl := iV_len b3
    rw [itW_step, hkl]
    simp only [a_wref07_Reach,s_wref07_Reach_l0_b,s_wref07_Reach_l1_b,s_wref07_Reach_l2_b,s_wref07_Reach_l3_b, am0,am1,am2,am3,am4,am5,am6,am7,bl,i64,reduceIte,reduceCtorEq,Nat.reduceEqDiff,Nat.reduceLT,Nat.reduceLeDiff,Nat.reduceBEq,Nat.reduceAdd,fillA,splice,Nat.reduceMul,al0,al1,al2,al3,al4,al5,al6,al7,al8,al9,al10,al11,al12,al13,al14,al15,al16,al17,al18,al19,al20,al21,al22,al23,al24,al25,al26,al27,al28,al29,al30,al31,al32,al33,al34, b1, b2, hyl, Int.lt_irrefl, ts, rowE, List.foldl_nil]
  | cons w r ih =>
    intro k B m hd hk hB
    obtain ⟨hkw, hkl, hd'⟩ := drop_cons hd
    obtain ⟨b, y, b1, b2, b3, b4⟩ := rows_at (hu (H1 ++ [.cells 0 (B.map bV)])) hig
    have hyl := iV_len b3
    have hlt' : (k : Int) < ((N.getD i []).length : Int) := by omega
    have hwk := wrap_pos (n := k) (by omega)
    obtain ⟨c, c1, c2⟩ := iV_at b3 b4 hkw
    obtain ⟨h0, h1⟩ := hin _ (getD_mem (G := N) (k := i) (by omega)) w (List.mem_of_getElem? hkw)
    obtain ⟨q, rfl⟩ := Int.eq_ofNat_of_zero_le h0
    have hg : getC (H1 ++ [Ob.cells 0 (B.map bV)]) H1.length 0 = some (B.map bV) := getC_new _ _ _
    have hBi : B[i]? = some (B.getD i false) := by rw [List.getD, List.getElem?_eq_getElem (by omega)]; rfl
    have hBq : B[q]? = some (B.getD q true) := by rw [List.getD, List.getElem?_eq_getElem (by omega)]; rfl
    obtain ⟨d1, d2⟩ := at_sl (n := n) hg hi (w := bV (B.getD i false)) (by rw [List.getElem?_map, hBi]; rfl)
    obtain ⟨e1, e2⟩ := at_sl (n := n) hg (show q < n by omega) (w := bV (B.getD q true)) (by rw [List.getElem?_map, hBq]; rfl)
    have st := storeV_at (v := bV true) (base := base) hg hb rfl (off := q) (by rw [List.length_map]; omega)
    rw [set_snoc, ← List.map_set] at st
    simp only [bV] at d2 e2 st
    have hrow : rowE i ((q : Int) :: r) (B, m) = rowE i r (stepE i (B, m) (q : Int)) := rfl
    rw [hrow, itW_step]
    unfold stepE
    simp only [Int.toNat_natCast]
    cases hx : B.getD i false with
    | false =>
      rw [hx] at d2
      have hi2 := ih (k + 1) B m hd' (by omega) hB
      simp only [Bool.false_and, cond_false]
      simp only [a_wref07_Reach,s_wref07_Reach_l0_b,s_wref07_Reach_l1_b,s_wref07_Reach_l2_b,s_wref07_Reach_l3_b, am0,am1,am2,am3,am4,am5,am6,am7,bl,i64,reduceIte,reduceCtorEq,Nat.reduceEqDiff,Nat.reduceLT,Nat.reduceLeDiff,Nat.reduceBEq,Nat.reduceAdd,fillA,splice,Nat.reduceMul,al0,al1,al2,al3,al4,al5,al6,al7,al8,al9,al10,al11,al12,al13,al14,al15,al16,al17,al18,al19,al20,al21,al22,al23,al24,al25,al26,al27,al28,al29,al30,al31,al32,al33,al34, b1, b2, hyl, hlt', d1, d2, hwk, ts]
      exact hi2
    | true =>
      rw [hx] at d2
      cases hy : B.getD q true with
      | true =>
        rw [hy] at e2
        have hi2 := ih (k + 1) B m hd' (by omega) hB
        simp only [Bool.not_true, Bool.and_false, cond_false]
        simp only [a_wref07_Reach,s_wref07_Reach_l0_b,s_wref07_Reach_l1_b,s_wref07_Reach_l2_b,s_wref07_Reach_l3_b, am0,am1,am2,am3,am4,am5,am6,am7,bl,i64,reduceIte,reduceCtorEq,Nat.reduceEqDiff,Nat.reduceLT,Nat.reduceLeDiff,Nat.reduceBEq,Nat.reduceAdd,fillA,splice,Nat.reduceMul,al0,al1,al2,al3,al4,al5,al6,al7,al8,al9,al10,al11,al12,al13,al14,al15,al16,al17,al18,al19,al20,al21,al22,al23,al24,al25,al26,al27,al28,al29,al30,al31,al32,al33,al34, b1, b2, hyl, hlt', d1, d2, c1, c2, e1, e2, hwk, ts]
        exact hi2
      | false =>
        rw [hy] at e2
        have hi2 := ih (k + 1) (B.set q true) true hd' (by omega) (by rw [List.length_set]; exact hB)
        simp only [Bool.not_false, Bool.and_true, cond_true]
        simp only [a_wref07_Reach,s_wref07_Reach_l0_b,s_wref07_Reach_l1_b,s_wref07_Reach_l2_b,s_wref07_Reach_l3_b, am0,am1,am2,am3,am4,am5,am6,am7,bl,i64,reduceIte,reduceCtorEq,Nat.reduceEqDiff,Nat.reduceLT,Nat.reduceLeDiff,Nat.reduceBEq,Nat.reduceAdd,fillA,splice,Nat.reduceMul,al0,al1,al2,al3,al4,al5,al6,al7,al8,al9,al10,al11,al12,al13,al14,al15,al16,al17,al18,al19,al20,al21,al22,al23,al24,al25,al26,al27,al28,al29,al30,al31,al32,al33,al34, b1, b2, hyl, hlt', d1, d2, c1, c2, e1, e2, st, hwk, ts]
        exact hi2
theorem rr_l2 (call : CallF) (base : Nat) (H1 : Heap) (u : V) (N : List (List Int)) (n : Nat) (hb : base ≤ H1.length) (hu : ∀ H, RdRows H u (rowsV N)) (hN : N.length = n) (hin : ∀ r ∈ N, ∀ x ∈ r, 0 ≤ x ∧ x < (n : Int)) (hr : ∀ r ∈ N, r.length < 2 ^ 40) (hn : n < 2 ^ 40) : ∀ (M : List (List Int)) (i : Nat) (B : List Bool) (m : Bool), N.drop i = M → i ≤ n → B.length = n →
    itW (evC call itW base s_wref07_Reach_l2) [] (H1.length + 1) (frOf 84 [(0, u), (5, .sl H1.length 0 0 n 1), (7, .s (.bool m)), (8, .s (.int .i64 i))]) (H1 ++ [.cells 0 (B.map bV)]) =
      some (.ext 4, frOf 84 [(0, u), (5, .sl H1.length 0 0 n 1), (7, .s (.bool (passE i M (B, m)).2)), (8, .s (.int .i64 n)), (45, .s (.bool false))], H1 ++ [.cells 0 ((passE i M (B, m)).1.map bV)]) := by
  have ts : ∀ (fr : List V) (ob : Ob), trim (H1.length + 1) fr (H1 ++ [ob]) = H1 ++ [ob] := fun fr ob => trim_same (by simp)
  have hul := fun H => rows_len (hu H)
  rw [hN] at hul
  intro M
  induction M with
  | nil =>
    intro i B m hd hi hB
    have hil : i = n := by rw [← hN]; exact drop_nil hd (by omega)
    rw [itW_step, hil]
    simp only [a_wref07_Reach,s_wref07_Reach_l0_b,s_wref07_Reach_l1_b,s_wref07_Reach_l2_b,s_wref07_Reach_l3_b, am0,am1,am2,am3,am4,am5,am6,am7,bl,i64,reduceIte,reduceCtorEq,Nat.reduceEqDiff,Nat.reduceLT,Nat.reduceLeDiff,Nat.reduceBEq,Nat.reduceAdd,fillA,splice,Nat.reduceMul,al0,al1,al2,al3,al4,al5,al6,al7,al8,al9,al10,al11,al12,al13,al14,al15,al16,al17,al18,al19,al20,al21,al22,al23,al24,al25,al26,al27,al28,al29,al30,al31,al32,al33,al34, hul, Int.lt_irrefl, ts, passE]
  | cons r M ih =>
    intro i B m hd hi hB
    obtain ⟨hir, hil, hd'⟩ := drop_cons hd
    have hlt' : (i : Int) < (n : Int) := by omega
    have hwk := wrap_pos (n := i) (by omega)
    have hgr : N.getD i [] = r := by rw [List.getD, hir]; rfl
    have hin2 := rr_l1 call base H1 u N n i hb hu hN hin hr (by omega) r 0 B m (by rw [hgr]; rfl) (Nat.zero_le _) hB
    have hi2 := ih (i + 1) (rowE i r (B, m)).1 (rowE i r (B, m)).2 hd' (by omega) (by rw [rowE_len]; exact hB)
    rw [cast0] at hin2
    have hlen1 : (H1 ++ [Ob.cells 0 (B.map bV)]).length = H1.length + 1 := by simp
    rw [itW_step]
    simp only [a_wref07_Reach,s_wref07_Reach_l0_b,s_wref07_Reach_l1_b,s_wref07_Reach_l2_b,s_wref07_Reach_l3_b, am0,am1,am2,am3,am4,am5,am6,am7,bl,i64,reduceIte,reduceCtorEq,Nat.reduceEqDiff,Nat.reduceLT,Nat.reduceLeDiff,Nat.reduceBEq,Nat.reduceAdd,fillA,splice,Nat.reduceMul,al0,al1,al2,al3,al4,al5,al6,al7,al8,al9,al10,al11,al12,al13,al14,al15,al16,al17,al18,al19,al20,al21,al22,al23,al24,al25,al26,al27,al28,al29,al30,al31,al32,al33,al34, hul, hlt', hlen1, hin2, hwk, ts, passE]
    exact hi2
end Go.Proofs.Ytmnlagcmpgilaaa
set_option maxRecDepth 100000
namespace Go.Proofs.Ytmnlagcmpgilaaa
open Go.AM
theorem rr_l3 (call : CallF) (base : Nat) (H1 : Heap) (u : V) (G : List (List Int)) (l : List Int) (hb : base ≤ H1.length) (hu : ∀ H, RdRows H u (rowsV (normG G))) (hr : ∀ r ∈ normG G, r.length < 2 ^ 40) (hn : G.length < 2 ^ 40) : ∀ (c : Nat) (B : List Bool), cntF B ≤ c → B.length = G.length → (∀ k : Nat, B[k]? = some true → Rch G l k) →
    ∃ B' : List Bool, itW (evC call itW base s_wref07_Reach_l3) [8, 45] (H1.length + 1) (frOf 84 [(0, u), (5, .sl H1.length 0 0 G.length 1), (7, .s (.bool true))]) (H1 ++ [.cells 0 (B.map bV)]) =
      some (.ext 2, frOf 84 [(0, u), (5, .sl H1.length 0 0 G.length 1), (41, .s (.bool false))], H1 ++ [.cells 0 (B'.map bV)]) ∧ B'.length = G.length ∧ (∀ k : Nat, B[k]? = some true → B'[k]? = some true) ∧ (∀ k : Nat, B'[k]? = some true → Rch G l k) ∧
      ∀ i w : Nat, (w : Int) ∈ (normG G).getD i [] → B'[i]? = some true → B'[w]? = some true := by
  have ts : ∀ (fr : List V) (ob : Ob), trim (H1.length + 1) fr (H1 ++ [ob]) = H1 ++ [ob] := fun fr ob => trim_same (by simp)
  have hin : ∀ r ∈ normG G, ∀ x ∈ r, 0 ≤ x ∧ x < (G.length : Int) := fun r hrr x hx => normG_in hrr hx
  intro c
  induction c with
  | zero =>
    intro B hc hB hS
    have hk := passE_k G l (normG G) 0 (B, false) hB (fun j r hj w hw => ⟨hin r (List.mem_of_getElem? hj) w hw, by
      rw [Nat.zero_add]
      have : (normG G).getD j [] = r := by rw [List.getD, hj]; rfl
      rw [← this] at hw
      exact ((normG_get G j w).1 hw).1⟩)
    have hp := rr_l2 call base H1 u (normG G) G.length hb hu (normG_len G) hin hr hn (normG G) 0 B false rfl (Nat.zero_le _) hB
    rw [cast0] at hp
    have hq : (passE 0 (normG G) (B, false)).2 = false := by
      cases h : (passE 0 (normG G) (B, false)).2 with
      | false => rfl
      | true =>
        have h3 := hk.cnt.2 rfl h
        have h4 : cntF (passE 0 (normG G) (B, false)).1 < cntF B := h3
        omega
    obtain ⟨_, q2, q3⟩ := hk.quiet hq
    have q2 : (passE 0 (normG G) (B, false)).1 = B := q2
    rw [hq, q2] at hp
    have hlen1 : (H1 ++ [Ob.cells 0 (B.map bV)]).length = H1.length + 1 := by simp
    refine ⟨B, ?_, hB, fun _ h => h, hS, fun i w hw hi => ?_⟩
    · rw [itW_step]
      simp only [a_wref07_Reach,s_wref07_Reach_l0_b,s_wref07_Reach_l1_b,s_wref07_Reach_l2_b,s_wref07_Reach_l3_b, am0,am1,am2,am3,am4,am5,am6,am7,bl,i64,reduceIte,reduceCtorEq,Nat.reduceEqDiff,Nat.reduceLT,Nat.reduceLeDiff,Nat.reduceBEq,Nat.reduceAdd,fillA,splice,Nat.reduceMul,al0,al1,al2,al3,al4,al5,al6,al7,al8,al9,al10,al11,al12,al13,al14,al15,al16,al17,al18,al19,al20,al21,al22,al23,al24,al25,al26,al27,al28,al29,al30,al31,al32,al33,al34, hlen1, hp, ts]
      rw [itW_step]
      simp only [a_wref07_Reach,s_wref07_Reach_l0_b,s_wref07_Reach_l1_b,s_wref07_Reach_l2_b,s_wref07_Reach_l3_b, am0,am1,am2,am3,am4,am5,am6,am7,bl,i64,reduceIte,reduceCtorEq,Nat.reduceEqDiff,Nat.reduceLT,Nat.reduceLeDiff,Nat.reduceBEq,Nat.reduceAdd,fillA,splice,Nat.reduceMul,al0,al1,al2,al3,al4,al5,al6,al7,al8,al9,al10,al11,al12,al13,al14,al15,al16,al17,al18,al19,al20,al21,al22,al23,al24,al25,al26,al27,al28,al29,al30,al31,al32,al33,al34, ts]
    · have hil : (normG G)[i]? = some ((normG G).getD i []) := by
        have : i < (normG G).length := by
          have := (List.getElem?_eq_some_iff.1 hi).1
          rw [normG_len]; omega
        rw [List.getD, List.getElem?_eq_getElem this]; rfl
      have := q3 i w ⟨i, _, by omega, hil, hw⟩ hi
      simpa using this
  | succ c ih =>
    intro B hc hB hS
    have hk := passE_k G l (normG G) 0 (B, false) hB (fun j r hj w hw => ⟨hin r (List.mem_of_getElem? hj) w hw, by
      rw [Nat.zero_add]
      have : (normG G).getD j [] = r := by rw [List.getD, hj]; rfl
      rw [← this] at hw
      exact ((normG_get G j w).1 hw).1⟩)
    have hp := rr_l2 call base H1 u (normG G) G.length hb hu (normG_len G) hin hr hn (normG G) 0 B false rfl (Nat.zero_le _) hB
    rw [cast0] at hp
    have hlen1 : (H1 ++ [Ob.cells 0 (B.map bV)]).length = H1.length + 1 := by simp
    cases hq : (passE 0 (normG G) (B, false)).2 with
    | false =>
      obtain ⟨_, q2, q3⟩ := hk.quiet hq
      have q2 : (passE 0 (normG G) (B, false)).1 = B := q2
      rw [hq, q2] at hp
      refine ⟨B, ?_, hB, fun _ h => h, hS, fun i w hw hi => ?_⟩
      · rw [itW_step]
        simp only [a_wref07_Reach,s_wref07_Reach_l0_b,s_wref07_Reach_l1_b,s_wref07_Reach_l2_b,s_wref07_Reach_l3_b, am0,am1,am2,am3,am4,am5,am6,am7,bl,i64,reduceIte,reduceCtorEq,Nat.reduceEqDiff,Nat.reduceLT,Nat.reduceLeDiff,Nat.reduceBEq,Nat.reduceAdd,fillA,splice,Nat.reduceMul,al0,al1,al2,al3,al4,al5,al6,al7,al8,al9,al10,al11,al12,al13,al14,al15,al16,al17,al18,al19,al20,al21,al22,al23,al24,al25,al26,al27,al28,al29,al30,al31,al32,al33,al34, hlen1, hp, ts]
        rw [itW_step]
        simp only [a_wref07_Reach,s_wref07_Reach_l0_b,s_wref07_Reach_l1_b,s_wref07_Reach_l2_b,s_wref07_Reach_l3_b, am0,am1,am2,am3,am4,am5,am6,am7,bl,i64,reduceIte,reduceCtorEq,Nat.reduceEqDiff,Nat.reduceLT,Nat.reduceLeDiff,Nat.reduceBEq,Nat.reduceAdd,fillA,splice,Nat.reduceMul,al0,al1,al2,al3,al4,al5,al6,al7,al8,al9,al10,al11,al12,al13,al14,al15,al16,al17,al18,al19,al20,al21,al22,al23,al24,al25,al26,al27,al28,al29,al30,al31,al32,al33,al34, ts]
      · have hil : (normG G)[i]? = some ((normG G).getD i []) := by
          have : i < (normG G).length := by
            have := (List.getElem?_eq_some_iff.1 hi).1
            rw [normG_len]; omega
          rw [List.getD, List.getElem?_eq_getElem this]; rfl
        have := q3 i w ⟨i, _, by omega, hil, hw⟩ hi
        simpa using this
    | true =>
      have h4 : cntF (passE 0 (normG G) (B, false)).1 < cntF B := hk.cnt.2 rfl hq
      rw [hq] at hp
      have hl2 : (passE 0 (normG G) (B, false)).1.length = G.length := hk.len.trans hB
      obtain ⟨B', e1, e2, e3, e4, e5⟩ := ih _ (by omega) hl2 (hk.sound hS)
      refine ⟨B', ?_, e2, fun k hk2 => e3 k (hk.mono k hk2), e4, e5⟩
      rw [itW_step]
      simp only [a_wref07_Reach,s_wref07_Reach_l0_b,s_wref07_Reach_l1_b,s_wref07_Reach_l2_b,s_wref07_Reach_l3_b, am0,am1,am2,am3,am4,am5,am6,am7,bl,i64,reduceIte,reduceCtorEq,Nat.reduceEqDiff,Nat.reduceLT,Nat.reduceLeDiff,Nat.reduceBEq,Nat.reduceAdd,fillA,splice,Nat.reduceMul,al0,al1,al2,al3,al4,al5,al6,al7,al8,al9,al10,al11,al12,al13,al14,al15,al16,al17,al18,al19,al20,al21,al22,al23,al24,al25,al26,al27,al28,al29,al30,al31,al32,al33,al34, hlen1, hp, ts]
      exact e1
def markZ (n : Nat) (B : List Bool) (k : Int) : List Bool := bif decide (k ≥ 0) && decide (k < (n : Int)) then B.set k.toNat true else B
theorem markZ_len (n : Nat) : ∀ (l : List Int) (B : List Bool), (l.foldl (markZ n) B).length = B.length := by
  intro l
  induction l with
  | nil => intro B; rfl
  | cons x l ih =>
    intro B
    rw [List.foldl_cons, ih]
    unfold markZ
    cases decide (x ≥ 0) && decide (x < (n : Int)) with
    | true => rw [cond_true, List.length_set]
    | false => rw [cond_false]
theorem markZ_get (n : Nat) : ∀ (l : List Int) (B : List Bool), B.length = n → ∀ k : Nat, (l.foldl (markZ n) B)[k]? = some true ↔ B[k]? = some true ∨ ((k : Int) ∈ l ∧ k < n) := by
  intro l
  induction l with
  | nil => intro B _ k; simp
  | cons x l ih =>
    intro B hB k
    have hl : (markZ n B x).length = n := by
      have := markZ_len n [x] B
      rw [hB] at this; exact this
    rw [List.foldl_cons, ih (markZ n B x) hl k]
    have key : (markZ n B x)[k]? = some true ↔ B[k]? = some true ∨ (x = k ∧ k < n) := by
      unfold markZ
      by_cases hx : x ≥ 0 ∧ x < (n : Int)
      · have hd : (decide (x ≥ 0) && decide (x < (n : Int))) = true := by simp [hx.1, hx.2]
        have hxl : x.toNat < B.length := by omega
        rw [hd, cond_true, set_get hxl]
        by_cases e : x.toNat = k
        · rw [if_pos e]
          constructor
          · intro _; right; omega
          · intro _; rfl
        · rw [if_neg e]
          constructor
          · exact .inl
          · rintro (h | h)
            · exact h
            · omega
      · have hd : (decide (x ≥ 0) && decide (x < (n : Int))) = false := by
          rw [Bool.and_eq_false_iff, decide_eq_false_iff_not, decide_eq_false_iff_not]
          by_cases h0 : x ≥ 0
          · exact .inr fun h => hx ⟨h0, h⟩
          · exact .inl h0
        rw [hd, cond_false]
        constructor
        · exact .inl
        · rintro (h | h)
          · exact h
          · omega
    rw [key, List.mem_cons]
    constructor
    · rintro ((h | h) | h)
      · exact .inl h
      · exact .inr ⟨.inl h.1.symm, h.2⟩
      · exact .inr ⟨.inr h.1, h.2⟩
    · rintro (h | ⟨h | h, h2⟩)
      · exact .inl (.inl h)
      · exact .inl (.inr ⟨h.symm, h2⟩)
      · exact .inr ⟨h, h2⟩
theorem rr_l0 (call : CallF) (base : Nat) (H1 : Heap) (u fv : V) (n : Nat) (l : List Int) (hb : base ≤ H1.length) (hul : ∀ H, xLen H .s u = some (.s (.int .i64 n))) (hf : Rd H1 fv (l.map iV)) (hfw : Wide1 fv) (hl : l.length < 2 ^ 62) : ∀ (r : List Int) (k : Nat) (B : List Bool), l.drop k = r → k ≤ l.length → B.length = n →
    itW (evC call itW base s_wref07_Reach_l0) [] (H1.length + 1) (frOf 84 [(0, u), (1, fv), (5, .sl H1.length 0 0 n 1), (6, .s (.int .i64 k))]) (H1 ++ [.cells 0 (B.map bV)]) =
      some (.ext 0, frOf 84 [(0, u), (1, fv), (5, .sl H1.length 0 0 n 1), (6, .s (.int .i64 l.length)), (18, .s (.bool false))], H1 ++ [.cells 0 ((r.foldl (markZ n) B).map bV)]) := by
  have ts : ∀ (fr : List V) (ob : Ob), trim (H1.length + 1) fr (H1 ++ [ob]) = H1 ++ [ob] := fun fr ob => trim_same (by simp)
  have hfl := fun ob => iV_len (int_ext hf ob)
  intro r
  induction r with
  | nil =>
    intro k B hd hk hB
    have hkl := drop_nil hd hk
    rw [itW_step, hkl]
    simp only [a_wref07_Reach,s_wref07_Reach_l0_b,s_wref07_Reach_l1_b,s_wref07_Reach_l2_b,s_wref07_Reach_l3_b, am0,am1,am2,am3,am4,am5,am6,am7,bl,i64,reduceIte,reduceCtorEq,Nat.reduceEqDiff,Nat.reduceLT,Nat.reduceLeDiff,Nat.reduceBEq,Nat.reduceAdd,fillA,splice,Nat.reduceMul,al0,al1,al2,al3,al4,al5,al6,al7,al8,al9,al10,al11,al12,al13,al14,al15,al16,al17,al18,al19,al20,al21,al22,al23,al24,al25,al26,al27,al28,al29,al30,al31,al32,al33,al34, hfl, Int.lt_irrefl, ts, List.foldl_nil]
  | cons w r ih =>
    intro k B hd hk hB
    obtain ⟨hkw, hkl, hd'⟩ := drop_cons hd
    have hlt' : (k : Int) < (l.length : Int) := by omega
    have hwk := wrap_pos (n := k) (by omega)
    obtain ⟨c, c1, c2⟩ := iV_at (int_ext hf (.cells 0 (B.map bV))) hfw hkw
    rw [itW_step, List.foldl_cons]
    unfold markZ
    by_cases h0 : 0 ≤ w
    · by_cases h1 : w < (n : Int)
      · obtain ⟨q, rfl⟩ := Int.eq_ofNat_of_zero_le h0
        have hg : getC (H1 ++ [Ob.cells 0 (B.map bV)]) H1.length 0 = some (B.map bV) := getC_new _ _ _
        have hBq : B[q]? = some (B.getD q true) := by rw [List.getD, List.getElem?_eq_getElem (by omega)]; rfl
        obtain ⟨e1, _⟩ := at_sl (n := n) hg (show q < n by omega) (w := bV (B.getD q true)) (by rw [List.getElem?_map, hBq]; rfl)
        have st := storeV_at (v := bV true) (base := base) hg hb rfl (off := q) (by rw [List.length_map]; omega)
        rw [set_snoc, ← List.map_set] at st
        have hi2 := ih (k + 1) (B.set q true) hd' (by omega) (by rw [List.length_set]; exact hB)
        simp only [bV] at st
        simp only [ge_iff_le, h0, h1, decide_true, Bool.and_true, cond_true, Int.toNat_natCast]
        simp only [a_wref07_Reach,s_wref07_Reach_l0_b,s_wref07_Reach_l1_b,s_wref07_Reach_l2_b,s_wref07_Reach_l3_b, am0,am1,am2,am3,am4,am5,am6,am7,bl,i64,reduceIte,reduceCtorEq,Nat.reduceEqDiff,Nat.reduceLT,Nat.reduceLeDiff,Nat.reduceBEq,Nat.reduceAdd,fillA,splice,Nat.reduceMul,al0,al1,al2,al3,al4,al5,al6,al7,al8,al9,al10,al11,al12,al13,al14,al15,al16,al17,al18,al19,al20,al21,al22,al23,al24,al25,al26,al27,al28,al29,al30,al31,al32,al33,al34, hfl, hul, hlt', c1, c2, ge_iff_le, h0, h1, e1, st, hwk, ts]
        exact hi2
      · have hi2 := ih (k + 1) B hd' (by omega) hB
        simp only [ge_iff_le, h0, h1, decide_true, decide_false, Bool.and_false, cond_false]
        simp only [a_wref07_Reach,s_wref07_Reach_l0_b,s_wref07_Reach_l1_b,s_wref07_Reach_l2_b,s_wref07_Reach_l3_b, am0,am1,am2,am3,am4,am5,am6,am7,bl,i64,reduceIte,reduceCtorEq,Nat.reduceEqDiff,Nat.reduceLT,Nat.reduceLeDiff,Nat.reduceBEq,Nat.reduceAdd,fillA,splice,Nat.reduceMul,al0,al1,al2,al3,al4,al5,al6,al7,al8,al9,al10,al11,al12,al13,al14,al15,al16,al17,al18,al19,al20,al21,al22,al23,al24,al25,al26,al27,al28,al29,al30,al31,al32,al33,al34, hfl, hul, hlt', c1, c2, ge_iff_le, h0, h1, hwk, ts]
        exact hi2
    · have hi2 := ih (k + 1) B hd' (by omega) hB
      simp only [ge_iff_le, h0, decide_false, Bool.false_and, cond_false]
      simp only [a_wref07_Reach,s_wref07_Reach_l0_b,s_wref07_Reach_l1_b,s_wref07_Reach_l2_b,s_wref07_Reach_l3_b, am0,am1,am2,am3,am4,am5,am6,am7,bl,i64,reduceIte,reduceCtorEq,Nat.reduceEqDiff,Nat.reduceLT,Nat.reduceLeDiff,Nat.reduceBEq,Nat.reduceAdd,fillA,splice,Nat.reduceMul,al0,al1,al2,al3,al4,al5,al6,al7,al8,al9,al10,al11,al12,al13,al14,al15,al16,al17,al18,al19,al20,al21,al22,al23,al24,al25,al26,al27,al28,al29,al30,al31,al32,al33,al34, hfl, hul, hlt', c1, c2, ge_iff_le, h0, hwk, ts]
      exact hi2
theorem rreach_f {CT : Nat → Option CFun} (hF : CT k_wref07_Reach = some (.code s_wref07_Reach)) (base : Nat) (H : Heap) (v fv u : V) (G : List (List Int)) (l : List Int) (hb : base ≤ H.length) (hvi : In1 v) (hq : ∀ H, callQV (callW CT) H 15 [v] = some (u, H)) (hu : ∀ H, RdRows H u (rowsV (normG G))) (hf : Rd H fv (l.map iV)) (hfw : Wide1 fv) (hl : l.length < 2 ^ 62) (hn : G.length < 2 ^ 40) (hr : ∀ r ∈ G, r.length < 2 ^ 40) :
    ∃ (v' : V) (H' : Heap) (B : List Bool), callW CT (.fn k_wref07_Reach [] []) [v, fv] base H = some (v', H') ∧ Ext H H' ∧ Rd H' v' (B.map bV) ∧ Wide1 v' ∧ B.length = G.length ∧ ∀ k : Nat, B[k]? = some true ↔ Rch G l k := by
  have hul := fun H => rows_len (hu H)
  rw [normG_len] at hul
  have hmk := make_n (H := H) (zero := [.s (.bool false)]) (sz := 1) (bytes := 1) (k := .i64) (k' := .i64) (n := G.length) (by omega)
  rw [flat_one] at hmk
  have p0 := rr_l0 (callW CT) base H u fv G.length l hb hul hf hfw hl l 0 (List.replicate G.length false) rfl (Nat.zero_le _) (by simp)
  rw [cast0] at p0
  have hrep : (List.replicate G.length false).map bV = List.replicate G.length (.s (.bool false)) := by simp [bV]
  rw [hrep] at p0
  have hg := markZ_get G.length l (List.replicate G.length false) (by simp)
  have hrf : ∀ k : Nat, ¬ (List.replicate G.length false)[k]? = some true := by
    intro k h
    rw [List.getElem?_replicate] at h
    split at h <;> cases h
  obtain ⟨B, e1, e2, e3, e4, e5⟩ := rr_l3 (callW CT) base H u G l hb hu (normG_small hr) hn _ (l.foldl (markZ G.length) (List.replicate G.length false)) (Nat.le_refl _) (by rw [markZ_len]; simp) (fun k hk => by
    rcases (hg k).1 hk with h | ⟨h1, h2⟩
    · exact absurd h (hrf k)
    · exact .base k h1 h2)
  have hlen1 : ∀ ob, (H ++ [ob]).length = H.length + 1 := fun ob => by simp
  refine ⟨.sl H.length 0 0 G.length 1, H ++ [.cells 0 (B.map bV)], B, callW_fn (c := s_wref07_Reach) hF (by simp [s_wref07_Reach]) ?_, Ext.app _ _, ?_, trivial, e2, fun k => ⟨e4 k, fun h => ?_⟩⟩
  · simp only [s_wref07_Reach, a_wref07_Reach,s_wref07_Reach_l0_b,s_wref07_Reach_l1_b,s_wref07_Reach_l2_b,s_wref07_Reach_l3_b, am0,am1,am2,am3,am4,am5,am6,am7,bl,i64,reduceIte,reduceCtorEq,Nat.reduceEqDiff,Nat.reduceLT,Nat.reduceLeDiff,Nat.reduceBEq,Nat.reduceAdd,fillA,splice,Nat.reduceMul,al0,al1,al2,al3,al4,al5,al6,al7,al8,al9,al10,al11,al12,al13,al14,al15,al16,al17,al18,al19,al20,al21,al22,al23,al24,al25,al26,al27,al28,al29,al30,al31,al32,al33,al34, op_callP, callP_of_Q hvi hq, hul, op_mkSl, hmk, hlen1, p0, e1]
  · have := getC_sl (getC_new H 0 (B.map bV))
    rwa [List.length_map, e2] at this
  · induction h with
    | base k a b => exact e3 k ((hg k).2 (.inr ⟨a, b⟩))
    | step i k _ h3 h4 ih => exact e5 i k ((normG_get G i k).2 ⟨h3, by omega, by omega⟩) ih
end Go.Proofs.Ytmnlagcmpgilaaa
set_option maxRecDepth 100000
namespace Go.Proofs.Ytmnlagcmpgilaaa
open Go.AM
theorem rleads_fun {CT : Nat → Option CFun} (hL : CT k_gnomonref07_Leads = some (.code s_gnomonref07_Leads)) (hF : CT k_wref07_Reach = some (.code s_wref07_Reach)) (base : Nat) (H : Heap) (v u : V) (G : List (List Int)) (a b : Int) (hb : base ≤ H.length) (hv : RdRows H v (rowsV G)) (hvi : In1 v) (hq : ∀ H, callQV (callW CT) H 15 [v] = some (u, H)) (hu : ∀ H, RdRows H u (rowsV (normG G))) (hn : G.length < 2 ^ 40) (hr : ∀ r ∈ G, r.length < 2 ^ 40) :
    ∃ H', callW CT (.fn k_gnomonref07_Leads [] []) [v, .s (.int .i64 a), .s (.int .i64 b)] base H = some (.s (.bool (leadsB G a b)), H') ∧ Ext H H' := by
  have hlen := rows_lenV hv
  by_cases h0 : 0 ≤ b
  · by_cases h1 : b < (G.length : Int)
    · obtain ⟨k, rfl⟩ := Int.eq_ofNat_of_zero_le h0
      obtain ⟨w, H1, B, q1, q2, q3, q4, q5, q6⟩ := rreach_f hF base (H ++ [Ob.cells 0 [iV a]]) v (.sl H.length 0 0 1 1) u G [a] (by simp; omega) hvi hq hu (one_rd H (iV a)) trivial (by simp) hn hr
      have hB : B.getD k false = leadsB G a k := by
        rw [Bool.eq_iff_iff, leadsB_nat, ← q6 k, List.getD]
        cases B[k]? with
        | none => simp
        | some b => simp
      obtain ⟨ad, e1, e2⟩ := bV_at q3 q4 (k := k) (by omega)
      rw [hB] at e2
      simp only [iV] at q1
      refine ⟨H1, callW_fn (c := s_gnomonref07_Leads) hL (by simp [s_gnomonref07_Leads]) ?_, (Ext.app _ _).trans q2⟩
      simp only [s_gnomonref07_Leads, a_gnomonref07_Leads, am0,am1,am2,am3,am4,am5,am6,am7,bl,i64,reduceIte,reduceCtorEq,Nat.reduceEqDiff,Nat.reduceLT,Nat.reduceLeDiff,Nat.reduceBEq,Nat.reduceAdd,fillA,splice,Nat.reduceMul,al0,al1,al2,al3,al4,al5,al6,al7,al8,al9,al10,al11,al12,al13,al14,al15,al16,al17,al18,al19,al20,al21,al22,al23,al24,al25,al26,al27,al28,al29,al30,al31,al32,al33,al34, hlen, ge_iff_le, h0, h1, q1, e1, e2]
    · have hf : leadsB G a b = false := by
        rw [Bool.eq_false_iff]
        intro h
        simp only [leadsB, decide_eq_true_eq] at h
        obtain ⟨k, rfl, hk⟩ := h
        have := rch_lt hk
        omega
      rw [hf]
      refine ⟨H, callW_fn (c := s_gnomonref07_Leads) hL (by simp [s_gnomonref07_Leads]) ?_, Ext.refl H⟩
      simp only [s_gnomonref07_Leads, a_gnomonref07_Leads, am0,am1,am2,am3,am4,am5,am6,am7,bl,i64,reduceIte,reduceCtorEq,Nat.reduceEqDiff,Nat.reduceLT,Nat.reduceLeDiff,Nat.reduceBEq,Nat.reduceAdd,fillA,splice,Nat.reduceMul,al0,al1,al2,al3,al4,al5,al6,al7,al8,al9,al10,al11,al12,al13,al14,al15,al16,al17,al18,al19,al20,al21,al22,al23,al24,al25,al26,al27,al28,al29,al30,al31,al32,al33,al34, hlen, ge_iff_le, h0, h1]
  · have hf : leadsB G a b = false := by
      rw [Bool.eq_false_iff]
      intro h
      simp only [leadsB, decide_eq_true_eq] at h
      obtain ⟨k, rfl, hk⟩ := h
      omega
    rw [hf]
    refine ⟨H, callW_fn (c := s_gnomonref07_Leads) hL (by simp [s_gnomonref07_Leads]) ?_, Ext.refl H⟩
    simp only [s_gnomonref07_Leads, a_gnomonref07_Leads, am0,am1,am2,am3,am4,am5,am6,am7,bl,i64,reduceIte,reduceCtorEq,Nat.reduceEqDiff,Nat.reduceLT,Nat.reduceLeDiff,Nat.reduceBEq,Nat.reduceAdd,fillA,splice,Nat.reduceMul,al0,al1,al2,al3,al4,al5,al6,al7,al8,al9,al10,al11,al12,al13,al14,al15,al16,al17,al18,al19,al20,al21,al22,al23,al24,al25,al26,al27,al28,al29,al30,al31,al32,al33,al34, hlen, ge_iff_le, h0]
theorem bools_l0 (call : CallF) (base : Nat) (H : Heap) (x w : V) (n : Nat) (X : List Bool) (hx : Rd H x (X.map bV)) (hxw : Wide1 x) (hy : Rd H w (X.map bV)) (hyw : Wide1 w) (hX : X.length = n) (hn : n < 2 ^ 40) : ∀ (d i : Nat), i + d = n →
    itW (evC call itW base s_gnomonref07_Bools_l0) [] H.length (frOf 26 [(0, x), (1, w), (5, .s (.int .i64 i))]) H = some (.ext 0, frOf 26 [(0, x), (1, w), (5, .s (.int .i64 n)), (14, .s (.bool false))], H) := by
  have hxl : xLen H .s x = some (.s (.int .i64 n)) := by have := hx.len; rwa [List.length_map, hX] at this
  intro d
  induction d with
  | zero =>
    intro i hi
    obtain rfl : i = n := by omega
    rw [itW_step]
    simp only [a_gnomonref07_Bools,s_gnomonref07_Bools_l0_b, am0,am1,am2,am3,am4,am5,am6,am7,bl,i64,reduceIte,reduceCtorEq,Nat.reduceEqDiff,Nat.reduceLT,Nat.reduceLeDiff,Nat.reduceBEq,Nat.reduceAdd,fillA,splice,Nat.reduceMul,al0,al1,al2,al3,al4,al5,al6,al7,al8,al9,al10,al11,al12,al13,al14,al15,al16,al17,al18,al19,al20,al21,al22,al23,al24,al25,al26,al27,al28,al29,al30,al31,al32,al33,al34, hxl, Int.lt_irrefl, trim_same rfl]
  | succ d ih =>
    intro i hi
    have hlt' : (i : Int) < (n : Int) := by omega
    have hwk := wrap_pos (n := i) (by omega)
    obtain ⟨a, ha1, ha2⟩ := bV_at hx hxw (k := i) (by omega)
    obtain ⟨b, hb1, hb2⟩ := bV_at hy hyw (k := i) (by omega)
    rw [itW_step]
    have hi2 := ih (i + 1) (by omega)
    cases hXi : X.getD i false with
    | true =>
      rw [hXi] at ha2 hb2
      simp only [a_gnomonref07_Bools,s_gnomonref07_Bools_l0_b, am0,am1,am2,am3,am4,am5,am6,am7,bl,i64,reduceIte,reduceCtorEq,Nat.reduceEqDiff,Nat.reduceLT,Nat.reduceLeDiff,Nat.reduceBEq,Nat.reduceAdd,fillA,splice,Nat.reduceMul,al0,al1,al2,al3,al4,al5,al6,al7,al8,al9,al10,al11,al12,al13,al14,al15,al16,al17,al18,al19,al20,al21,al22,al23,al24,al25,al26,al27,al28,al29,al30,al31,al32,al33,al34, hxl, hlt', hwk, ha1, ha2, hb1, hb2, trim_same rfl]
      exact hi2
    | false =>
      rw [hXi] at ha2 hb2
      simp only [a_gnomonref07_Bools,s_gnomonref07_Bools_l0_b, am0,am1,am2,am3,am4,am5,am6,am7,bl,i64,reduceIte,reduceCtorEq,Nat.reduceEqDiff,Nat.reduceLT,Nat.reduceLeDiff,Nat.reduceBEq,Nat.reduceAdd,fillA,splice,Nat.reduceMul,al0,al1,al2,al3,al4,al5,al6,al7,al8,al9,al10,al11,al12,al13,al14,al15,al16,al17,al18,al19,al20,al21,al22,al23,al24,al25,al26,al27,al28,al29,al30,al31,al32,al33,al34, hxl, hlt', hwk, ha1, ha2, hb1, hb2, trim_same rfl]
      exact hi2
theorem bools_fun {CT : Nat → Option CFun} (hB : CT k_gnomonref07_Bools = some (.code s_gnomonref07_Bools)) (base : Nat) (H : Heap) (x w : V) (n : Nat) (X : List Bool) (hx : Rd H x (X.map bV)) (hxw : Wide1 x) (hy : Rd H w (X.map bV)) (hyw : Wide1 w) (hX : X.length = n) (hn : n < 2 ^ 40) :
    callW CT (.fn k_gnomonref07_Bools [] []) [x, w] base H = some (.s (.bool true), H) := by
  have hxl : xLen H .s x = some (.s (.int .i64 n)) := by have := hx.len; rwa [List.length_map, hX] at this
  have hyl : xLen H .s w = some (.s (.int .i64 n)) := by have := hy.len; rwa [List.length_map, hX] at this
  have p := bools_l0 (callW CT) base H x w n X hx hxw hy hyw hX hn n 0 (by omega)
  rw [cast0] at p
  refine callW_fn (c := s_gnomonref07_Bools) hB (by simp [s_gnomonref07_Bools]) ?_
  simp only [s_gnomonref07_Bools, a_gnomonref07_Bools,s_gnomonref07_Bools_l0_b, am0,am1,am2,am3,am4,am5,am6,am7,bl,i64,reduceIte,reduceCtorEq,Nat.reduceEqDiff,Nat.reduceLT,Nat.reduceLeDiff,Nat.reduceBEq,Nat.reduceAdd,fillA,splice,Nat.reduceMul,al0,al1,al2,al3,al4,al5,al6,al7,al8,al9,al10,al11,al12,al13,al14,al15,al16,al17,al18,al19,al20,al21,al22,al23,al24,al25,al26,al27,al28,al29,al30,al31,al32,al33,al34, hxl, hyl, p]
theorem rpost_out {CT : Nat → Option CFun} (hF : CT k_wref07_Post = some (.code s_wref07_Post)) (base : Nat) (H : Heap) (v : V) (G : List (List Int)) (q : Int) (hv : RdRows H v (rowsV G)) (hq : q < 0 ∨ (G.length : Int) ≤ q) :
    callW CT (.fn k_wref07_Post [] []) [v, .s (.int .i64 q)] base H = some (nilS, H) := by
  have hlen := rows_lenV hv
  refine callW_fn (c := s_wref07_Post) hF (by simp [s_wref07_Post]) ?_
  by_cases h0 : q < 0
  · simp only [s_wref07_Post, a_wref07_Post, am0,am1,am2,am3,am4,am5,am6,am7,bl,i64,reduceIte,reduceCtorEq,Nat.reduceEqDiff,Nat.reduceLT,Nat.reduceLeDiff,Nat.reduceBEq,Nat.reduceAdd,fillA,splice,Nat.reduceMul,al0,al1,al2,al3,al4,al5,al6,al7,al8,al9,al10,al11,al12,al13,al14,al15,al16,al17,al18,al19,al20,al21,al22,al23,al24,al25,al26,al27,al28,al29,al30,al31,al32,al33,al34, hlen, h0, nilS]
  · have h1 : (G.length : Int) ≤ q := by omega
    simp only [s_wref07_Post, a_wref07_Post, am0,am1,am2,am3,am4,am5,am6,am7,bl,i64,reduceIte,reduceCtorEq,Nat.reduceEqDiff,Nat.reduceLT,Nat.reduceLeDiff,Nat.reduceBEq,Nat.reduceAdd,fillA,splice,Nat.reduceMul,al0,al1,al2,al3,al4,al5,al6,al7,al8,al9,al10,al11,al12,al13,al14,al15,al16,al17,al18,al19,al20,al21,al22,al23,al24,al25,al26,al27,al28,al29,al30,al31,al32,al33,al34, hlen, h0, ge_iff_le, h1, nilS]
theorem rpost_f {CT : Nat → Option CFun} (hF : CT k_wref07_Post = some (.code s_wref07_Post)) (hW : CT k_gnomonref07_walk = some (.code s_gnomonref07_walk)) (base : Nat) (H : Heap) (v u : V) (G : List (List Int)) (q : Nat) (hb : base ≤ H.length) (hv : RdRows H v (rowsV G)) (hqv : ∀ H, callQV (callW CT) H 15 [v] = some (u, H)) (hu : ∀ H, RdRows H u (rowsV (normG G))) (hn : G.length < 2 ^ 38) (hr : ∀ r ∈ G, r.length < 2 ^ 40) (hq : q < G.length) {s' : List Bool} {l' : List Int}
    (hd : Dfs (normG G) ((normG G).getD q []) ((List.replicate G.length false).set q true) [] s' l') :
    ∃ v' H', callW CT (.fn k_wref07_Post [] []) [v, .s (.int .i64 q)] base H = some (v', H') ∧ Ext H H' ∧ Rd H' v' (((q : Int) :: l').map iV) ∧ Wide1 v' := by
  have hlen := rows_lenV hv
  have hN : (normG G).length = G.length := normG_len G
  have hin : ∀ r ∈ normG G, ∀ x ∈ r, 0 ≤ x ∧ x < (G.length : Int) := fun r hrr x hx => normG_in hrr hx
  have hmk := make_n (H := H) (zero := [.s (.bool false)]) (sz := 1) (bytes := 1) (k := .i64) (k' := .i64) (n := G.length) (by omega)
  rw [flat_one] at hmk
  have hcn := cntF_set (List.replicate G.length false) q (by simp [List.getElem?_replicate, hq])
  rw [cntF_rep] at hcn
  have g0 : getC (H ++ [Ob.cells 0 (List.replicate G.length (.s (.bool false)))]) H.length 0 = some (List.replicate G.length (.s (.bool false))) := getC_new _ _ _
  obtain ⟨e1, _⟩ := at_sl (n := G.length) g0 hq (w := .s (.bool false)) (by simp [List.getElem?_replicate, hq])
  have st := storeV_at (v := .s (.bool true)) (base := base) g0 hb rfl (off := q) (by simpa using hq)
  rw [set_snoc] at st
  have hws : WS H.length G.length (H ++ [Ob.cells 0 ((List.replicate G.length (.s (.bool false))).set q (.s (.bool true)))]) ((List.replicate G.length false).set q true) [] nilS := by
    refine ⟨?_, by simp, .inl ⟨rfl, .inl rfl⟩, fun _ _ _ _ e => (by cases e)⟩
    rw [getC_new]; simp [bV]
  obtain ⟨H1, lv1, m1, m2, m3, m4⟩ := walk_dfs hW base H.length G.length u (normG G) hN hin hu (normG_small hr) hb hd q [] (H.length + 1) (H ++ [Ob.cells 0 ((List.replicate G.length (.s (.bool false))).set q (.s (.bool true)))]) nilS hq rfl (by simp only [List.length_nil]; omega) (Nat.le_refl _) (by simp) hws
  rw [List.length_nil, cast0] at m4
  have hcd := dfs_cnt hd
  simp only [List.length_nil] at hcd
  have hlt := getC_lt m1.seen
  have g1 : getC (H1 ++ [Ob.cells 0 [iV q]]) H1.length 0 = some [iV q] := getC_new _ _ _
  have hap := append_full (base := base) (bytes := 8) g1 (by omega) ((m1.left.ext (Ext.app H1 [Ob.cells 0 [iV q]])).rd) (ones l') (by simp; omega)
  obtain ⟨g', hap⟩ := hap
  rw [List.length_map, List.length_singleton, List.singleton_append, set_snoc] at hap
  have hcall : callW CT (.fn k_gnomonref07_walk [] []) [u, .s (.int .i64 q), .sl H.length 0 0 G.length 1, nilS] base (H ++ [Ob.cells 0 (List.replicate G.length (.s (.bool false)))]) = some (.sl H1.length g' 0 (1 + l'.length) 1, H1 ++ [Ob.cells g' (iV q :: l'.map iV)]) := by
    refine callW_fn (c := s_gnomonref07_walk) hW (by simp [s_gnomonref07_walk]) ?_
    have hlen1 : ∀ ob, (H ++ [ob]).length = H.length + 1 := fun ob => by simp
    simp only [iV] at hap ⊢
    simp only [nilS] at m4 ⊢
    simp only [s_gnomonref07_walk, a_gnomonref07_walk,s_gnomonref07_walk_l0_b, am0,am1,am2,am3,am4,am5,am6,am7,bl,i64,reduceIte,reduceCtorEq,Nat.reduceEqDiff,Nat.reduceLT,Nat.reduceLeDiff,Nat.reduceBEq,Nat.reduceAdd,fillA,splice,Nat.reduceMul,al0,al1,al2,al3,al4,al5,al6,al7,al8,al9,al10,al11,al12,al13,al14,al15,al16,al17,al18,al19,al20,al21,al22,al23,al24,al25,al26,al27,al28,al29,al30,al31,al32,al33,al34, e1, st, hlen1, m4, hap]
  have h0 : ¬ (q : Int) < 0 := by omega
  have h1 : ¬ (G.length : Int) ≤ (q : Int) := by omega
  have gn := getC_new H1 g' (iV q :: l'.map iV)
  refine ⟨.sl H1.length g' 0 (1 + l'.length) 1, H1 ++ [Ob.cells g' (iV q :: l'.map iV)], callW_fn (c := s_wref07_Post) hF (by simp [s_wref07_Post]) ?_, ?_, ?_, trivial⟩
  · simp only [nilS] at hcall
    simp only [s_wref07_Post, a_wref07_Post, am0,am1,am2,am3,am4,am5,am6,am7,bl,i64,reduceIte,reduceCtorEq,Nat.reduceEqDiff,Nat.reduceLT,Nat.reduceLeDiff,Nat.reduceBEq,Nat.reduceAdd,fillA,splice,Nat.reduceMul,al0,al1,al2,al3,al4,al5,al6,al7,al8,al9,al10,al11,al12,al13,al14,al15,al16,al17,al18,al19,al20,al21,al22,al23,al24,al25,al26,al27,al28,al29,al30,al31,al32,al33,al34, hlen, ge_iff_le, h0, h1, op_callQ, hqv, op_mkSl, hmk, hcall]
  · refine Ext.of_get (by rw [List.length_append]; omega) fun i hi => ?_
    rw [List.getElem?_append_left (by omega), m3 i hi, List.getElem?_append_left hi]
  · have := getC_sl gn
    rw [List.length_cons, List.length_map, Nat.add_comm] at this
    exact this
theorem ways_law {CT : Nat → Option CFun} (h : CG CT) (hL : CT k_gnomonlaw07_GraphWays = some (.code s_gnomonlaw07_GraphWays)) (hg : CT k_gnomonlaw07_great = some (.code s_gnomonlaw07_great)) (hS : CT k_gnomonref01_Same = some (.code s_gnomonref01_Same)) (hLd : CT k_graph_Leads = some (.code s_graph_Leads)) (hR : CT k_graph_Reach = some (.code s_graph_Reach)) (hT : CT k_graph_Reach_1 = some (.code s_graph_Reach_1)) (hF : CT k_graph_Post = some (.code s_graph_Post)) (hRv : CT k_slices_Reverse_int_int = some (.code s_slices_Reverse_int_int)) (hP : CT k_graph_Post_1 = some (.code s_graph_Post_1)) (hI : CT k_slices_IndexFunc_int_int = some (.code s_slices_IndexFunc_int_int))
    (hA : CT k_gnomonref01_Add = some (.code s_gnomonref01_Add)) (hHs : CT k_gnomonref01_Has = some (.code s_gnomonref01_Has)) (hN : CT k_gnomonref07_Norm = some (.code s_gnomonref07_Norm)) (hBo : CT k_gnomonref07_Bools = some (.code s_gnomonref07_Bools)) (hRL : CT k_gnomonref07_Leads = some (.code s_gnomonref07_Leads)) (hRR : CT k_wref07_Reach = some (.code s_wref07_Reach)) (hRP : CT k_wref07_Post = some (.code s_wref07_Post)) (hRW : CT k_gnomonref07_walk = some (.code s_gnomonref07_walk)) (hW : ∀ base H, callW CT (.fn k_gnomonlaw07_wakes [] []) [] base H = some (bl true, H))
    (base : Nat) (H : Heap) (hb : base ≤ H.length) (v fv : V) (G : List (List Int)) (l : List Int) (a b : Int) (hv : ∀ H, RdRows H v (rowsV G)) (hvi : In1 v) (hf : ∀ H, Rd H fv (l.map iV)) (hfw : Wide1 fv) : ∃ H', callW CT (.fn k_gnomonlaw07_GraphWays [] []) [v, fv, .s (.int .i64 a), .s (.int .i64 b)] base H = some (bl true, H') := by
  have hgr := great_fun hg base H v G (hv H)
  have hlen := rows_lenV (hv H)
  have hfl := fun H => iV_len (hf H)
  cases hG : greatG G with
  | true =>
    rw [hG] at hgr
    refine ⟨H, callW_fn (c := s_gnomonlaw07_GraphWays) hL (by simp [s_gnomonlaw07_GraphWays]) ?_⟩
    simp only [s_gnomonlaw07_GraphWays, a_gnomonlaw07_GraphWays, am0,am1,am2,am3,am4,am5,am6,am7,bl,i64,reduceIte,reduceCtorEq,Nat.reduceEqDiff,Nat.reduceLT,Nat.reduceLeDiff,Nat.reduceBEq,Nat.reduceAdd,fillA,splice,Nat.reduceMul,al0,al1,al2,al3,al4,al5,al6,al7,al8,al9,al10,al11,al12,al13,al14,al15,al16,al17,al18,al19,al20,al21,al22,al23,al24,al25,al26,al27,al28,al29,al30,al31,al32,al33,al34, hgr, hW, bl]
  | false =>
  rw [hG] at hgr
  obtain ⟨hn, hsum, hr⟩ := greatG_small hG
  by_cases h2 : (l.length : Int) > 200
  · refine ⟨H, callW_fn (c := s_gnomonlaw07_GraphWays) hL (by simp [s_gnomonlaw07_GraphWays]) ?_⟩
    simp only [s_gnomonlaw07_GraphWays, a_gnomonlaw07_GraphWays, am0,am1,am2,am3,am4,am5,am6,am7,bl,i64,reduceIte,reduceCtorEq,Nat.reduceEqDiff,Nat.reduceLT,Nat.reduceLeDiff,Nat.reduceBEq,Nat.reduceAdd,fillA,splice,Nat.reduceMul,al0,al1,al2,al3,al4,al5,al6,al7,al8,al9,al10,al11,al12,al13,al14,al15,al16,al17,al18,al19,al20,al21,al22,al23,al24,al25,al26,al27,al28,al29,al30,al31,al32,al33,al34, hgr, hfl, h2, hW, bl]
  have hr2 : ∀ r ∈ G, r.length < 2 ^ 40 := fun r hrr => by have := hr r hrr; omega
  have hr3 : ∀ r ∈ G, r.length < 2 ^ 62 := fun r hrr => by have := hr r hrr; omega
  obtain ⟨u, hq, hu⟩ := refN_pure hA hHs hN v G (hv []) hvi.pure (by omega) (fun r hrr => by have := hr r hrr; omega)
  obtain ⟨x, H1, X, x1, x2, x3, x4, x5, x6⟩ := reach_f hR hT base H v fv G l hb (hv H) (hf H) hfw (by omega) (by omega) hr3
  have l1 := x2.le
  obtain ⟨y, H2, Y, y1, y2, y3, y4, y5, y6⟩ := rreach_f hRR base H1 v fv u G l (by omega) hvi hq hu (hf H1) hfw (by omega) (by omega) hr2
  have l2 := y2.le
  have hXY : Y = X := bools_eq y5 x5 fun k => by rw [y6, x6]
  subst hXY
  have z1 := bools_fun hBo base H2 x y G.length Y (x3.ext y2) x4 y3 y4 x5 (by omega)
  obtain ⟨H3, a1, a2⟩ := leads_fun hLd hR hT base H2 v G a b (by omega) (hv H2) (by omega) hr3
  have l3 := a2.le
  obtain ⟨H4, b1, b2⟩ := rleads_fun hRL hRR base H3 v u G a b (by omega) (hv H3) hvi hq hu (by omega) hr2
  have l4 := b2.le
  have hposts : ∃ p w H5 H6 H7 t, callW CT (.fn k_graph_Post [] []) [v, .s (.int .i64 a)] base H4 = some (p, H5) ∧ callW CT (.fn k_wref07_Post [] []) [v, .s (.int .i64 a)] base H5 = some (w, H6) ∧ callW CT (.fn k_gnomonref01_Same [] []) [p, w] base H6 = some (.s (.bool t), H7) ∧ t = true := by
    by_cases hq0 : a < 0 ∨ (G.length : Int) ≤ a
    · have e1 := post_out hF base H4 v G a (hv H4) hq0
      have e2 := rpost_out hRP base H4 v G a (hv H4) hq0
      have e3 := same_fun hS base H4 nilS nilS [] [] (Rd.nil H4) trivial (Rd.nil H4) trivial (by simp)
      exact ⟨_, _, _, _, _, _, e1, e2, e3, rfl⟩
    · obtain ⟨k, rfl⟩ := Int.eq_ofNat_of_zero_le (show 0 ≤ a by omega)
      have hk : k < G.length := by omega
      have hcn := cntF_set (List.replicate G.length false) k (by simp [List.getElem?_replicate, hk])
      rw [cntF_rep] at hcn
      obtain ⟨s', p, hd⟩ := dfs_ex (normG G) (fun r hrr x hx => by rw [normG_len]; exact normG_in hrr hx) G.length ((normG G).getD k []) ((List.replicate G.length false).set k true) [] (by omega) (by simp [normG_len]) (fun x hx => by rw [normG_len]; exact normG_in (getD_mem (by rw [normG_len]; exact hk)) hx)
      have hpc := dfs_cnt hd
      simp only [List.length_nil] at hpc
      obtain ⟨lv, H5, e1, e2, e3, e4⟩ := post_f h hF hRv hP hI base H4 v G k (by omega) (hv H4) (by omega) hr2 hk hd
      have l5 := e2.le
      obtain ⟨wv, H6, f1, f2, f3, f4⟩ := rpost_f hRP hRW base H5 v u G k (by omega) (hv H5) hq hu (by omega) hr2 hk hd
      have e5 := same_fun hS base H6 lv wv _ _ (e3.ext f2) e4 f3 f4 (by rw [List.length_cons]; omega)
      exact ⟨_, _, _, _, _, _, e1, f1, e5, BEq.rfl⟩
  obtain ⟨p, w, H5, H6, H7, t, c1, c2, c3, rfl⟩ := hposts
  have k15 : k_wref07_Reach = k_gnomonref07_Reach := rfl
  have k24 : (24 : Nat) = k_wref07_Post := rfl
  refine ⟨H7, callW_fn (c := s_gnomonlaw07_GraphWays) hL (by simp [s_gnomonlaw07_GraphWays]) ?_⟩
  simp only [s_gnomonlaw07_GraphWays, a_gnomonlaw07_GraphWays, am0,am1,am2,am3,am4,am5,am6,am7,bl,i64,reduceIte,reduceCtorEq,Nat.reduceEqDiff,Nat.reduceLT,Nat.reduceLeDiff,Nat.reduceBEq,Nat.reduceAdd,fillA,splice,Nat.reduceMul,al0,al1,al2,al3,al4,al5,al6,al7,al8,al9,al10,al11,al12,al13,al14,al15,al16,al17,al18,al19,al20,al21,al22,al23,al24,al25,al26,al27,al28,al29,al30,al31,al32,al33,al34, hgr, hfl, h2, x1, y1, z1, a1, b1, c1, c2, c3, hW, bl, beq_self_eq_true]
end Go.Proofs.Ytmnlagcmpgilaaa
