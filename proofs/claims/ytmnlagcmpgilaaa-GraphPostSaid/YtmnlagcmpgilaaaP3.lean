/- Texts of the proof: AmN, GraphF6, GraphF7, GraphF8, GraphF9, GraphF10, GraphF11, GraphF12, GraphF13, GraphF14, GraphS2, AmO, GraphF15, GraphS3, GraphR, GraphF16, GraphF17, GraphF18, GraphF19, GraphF20, GraphF21, GraphF22, GraphP1, GraphP2. -/
import Derived.Test.YtmnlagcmpgilaaaP0
import Derived.Test.YtmnlagcmpgilaaaP1
import Derived.Test.YtmnlagcmpgilaaaP2
set_option linter.all false
namespace Go.AM
def Bag (m : Nat) (H : Heap) (vs : List V) (R : List (List V)) : Prop :=
  vs.length = R.length ∧ (∀ (j : Nat) (r : List V), R[j]? = some r → ∃ x, vs[j]? = some x ∧ ((r = [] ∧ x = nilS) ∨ ∃ id g, x = .sl id g 0 r.length 1 ∧ getC H id g = some r ∧ m ≤ id)) ∧
  ∀ (j k id g n id' g' n' : Nat), j ≠ k → vs[j]? = some (.sl id g 0 n 1) → vs[k]? = some (.sl id' g' 0 n' 1) → id ≠ id'
theorem Bag.start (m : Nat) (H : Heap) (n : Nat) : Bag m H (List.replicate n nilS) (List.replicate n []) := by
  refine ⟨by simp, fun j r hr => ?_, fun j k id g n id' g' n' _ h => ?_⟩
  · rw [List.getElem?_replicate] at hr
    split at hr
    · rename_i hj
      cases hr
      exact ⟨nilS, by rw [List.getElem?_replicate, if_pos hj], .inl ⟨rfl, rfl⟩⟩
    · cases hr
  · rw [List.getElem?_replicate] at h
    split at h
    · cases h
    · cases h
theorem Bag.get {m : Nat} {H : Heap} {vs : List V} {R : List (List V)} (h : Bag m H vs R) {j : Nat} {r : List V} (hr : R[j]? = some r) : ∃ x, vs[j]? = some x ∧ Rd H x r ∧ Wide1 x := by
  obtain ⟨x, h1, h2⟩ := h.2.1 j r hr
  refine ⟨x, h1, ?_⟩
  rcases h2 with ⟨rfl, rfl⟩ | ⟨id, g, rfl, hc, _⟩
  · exact ⟨Rd.nil H, trivial⟩
  · exact ⟨getC_sl hc, trivial⟩
theorem Bag.rows {m : Nat} {H : Heap} {vs : List V} {R : List (List V)} (h : Bag m H vs R) {o g : Nat} (hc : getC H o g = some vs) : RdRows H (.sl o g 0 R.length 1) R := by
  refine ⟨vs, by rw [← h.1]; exact getC_sl hc, trivial, h.1, fun i r hr => h.get hr⟩
theorem Bag.keep {m : Nat} {H H' : Heap} {vs : List V} {R : List (List V)} (h : Bag m H vs R) (hk : ∀ id g n c, V.sl id g 0 n 1 ∈ vs → m ≤ id → getC H id g = some c → getC H' id g = some c) : Bag m H' vs R := by
  refine ⟨h.1, fun j r hr => ?_, h.2.2⟩
  obtain ⟨x, h1, h2⟩ := h.2.1 j r hr
  refine ⟨x, h1, ?_⟩
  rcases h2 with h2 | ⟨id, g, rfl, hc, hm⟩
  · exact .inl h2
  · exact .inr ⟨id, g, rfl, hk id g _ _ (List.mem_of_getElem? h1) hm hc, hm⟩
theorem Bag.trim {m L o : Nat} {H : Heap} {vs : List V} {R : List (List V)} (h : Bag m H vs R) (hc : getC H o 0 = some vs) (ho : o < L) (fr : List V) : Bag m (trim L fr H) vs R := by
  refine h.keep fun id g n c hv hm hg => ?_
  rcases trim_or' L fr H with e | ⟨_, _, hu⟩
  · rw [e]; exact hg
  · exact trim_get hg (hu _ _ _ ho hc _ _ _ _ _ hv)
theorem Bag.ext {m : Nat} {H H' : Heap} {vs : List V} {R : List (List V)} (h : Bag m H vs R) (k : Ext H H') : Bag m H' vs R := h.keep fun _ _ _ _ _ _ hg => getC_ext hg k
theorem Bag.append {m o base bytes k : Nat} {H : Heap} {vs : List V} {R : List (List V)} {r : List V} {x : V} (h : Bag m H vs R) (hc : getC H o 0 = some vs) (ho : o < m) (hb : base ≤ m) (hm : m ≤ H.length) (hr : R[k]? = some r) (hx : x.one = true) (hs : (r.length + 1) * bytes ≤ 2 ^ 47) :
    ∃ w v' H', vs[k]? = some w ∧ appendV (H ++ [.cells 0 [x]]) base 1 bytes w (.sl H.length 0 0 1 1) = some (v', H') ∧ v'.one = true ∧ getC H' o 0 = some vs ∧ H.length ≤ H'.length ∧
      Bag m (H'.set o (.cells 0 (vs.set k v'))) (vs.set k v') (R.set k (r ++ [x])) ∧ ∀ H0, H0.length ≤ m → Ext H0 H → Ext H0 H' := by
  obtain ⟨w, hw, hwr⟩ := h.2.1 k r hr
  have hkl : k < vs.length := (List.getElem?_eq_some_iff.1 hw).1
  have hx' : [x].all V.one = true := by simp [hx]
  have hol := getC_lt hc
  have fin : ∀ (id g : Nat) (H' : Heap), (∀ j g' n, j ≠ k → vs[j]? ≠ some (.sl id g' 0 n 1)) → m ≤ id → getC H' id g = some (r ++ [x]) → (∀ i, i ≠ id → i < H.length → H'[i]? = H[i]?) →
      Bag m (H'.set o (.cells 0 (vs.set k (.sl id g 0 (r.length + 1) 1)))) (vs.set k (.sl id g 0 (r.length + 1) 1)) (R.set k (r ++ [x])) := by
    intro id g H' hne hid hg hsame
    refine ⟨by rw [List.length_set, List.length_set]; exact h.1, fun j r' hr' => ?_, fun i j a b c a' b' c' hij hi hj => ?_⟩
    · by_cases hjk : k = j
      · subst hjk
        rw [List.getElem?_set_self (by rw [← h.1]; exact hkl)] at hr'
        cases hr'
        refine ⟨_, List.getElem?_set_self hkl, .inr ⟨id, g, by simp, ?_, hid⟩⟩
        rw [getC_other (by omega)]; exact hg
      · rw [List.getElem?_set_ne hjk] at hr'
        obtain ⟨y, h1, h2⟩ := h.2.1 j r' hr'
        refine ⟨y, by rw [List.getElem?_set_ne hjk]; exact h1, ?_⟩
        rcases h2 with h2 | ⟨id2, g2, rfl, hc2, hm2⟩
        · exact .inl h2
        · refine .inr ⟨id2, g2, rfl, ?_, hm2⟩
          have hd : id2 ≠ id := by
            intro e
            subst e
            exact hne j _ _ (Ne.symm hjk) h1
          rw [getC_other (by omega)]
          have := getC_lt hc2
          rw [← hc2]
          simp only [getC, hsame id2 hd this]
    · by_cases hik : k = i
      · subst hik
        rw [List.getElem?_set_self hkl] at hi
        rw [List.getElem?_set_ne hij] at hj
        cases hi
        intro e
        subst e
        exact hne j _ _ (Ne.symm hij) hj
      · rw [List.getElem?_set_ne hik] at hi
        by_cases hjk : k = j
        · subst hjk
          rw [List.getElem?_set_self hkl] at hj
          cases hj
          intro e
          subst e
          exact hne i _ _ hij hi
        · rw [List.getElem?_set_ne hjk] at hj
          exact h.2.2 i j a b c a' b' c' hij hi hj
  rcases hwr with ⟨rfl, rfl⟩ | ⟨id, g, rfl, hg, hid⟩
  · have hs' : 1 * bytes ≤ 2 ^ 47 := by simpa using hs
    refine ⟨nilS, .sl (H.length + 1) 0 0 1 1, H ++ [.cells 0 [x]] ++ [.cells 0 [x]], hw, ?_, rfl, getC_app (getC_app hc), by simp, ?_, fun H0 _ he => he.trans ⟨[.cells 0 [x], .cells 0 [x]], by simp⟩⟩
    · simp only [appendV, elems_new, hx', if_true, nilS, Nat.one_ne_zero, if_false, hs', List.length_append, List.length_cons, List.length_nil]
    · refine fin (H.length + 1) 0 _ (fun j g' n hj e => ?_) (by omega) ?_ (fun i _ hi => by simp [List.getElem?_append_left hi])
      · cases hR : R[j]? with
        | none =>
          have h1 := (List.getElem?_eq_some_iff.1 e).1
          have h2 := List.getElem?_eq_none_iff.1 hR
          rw [h.1] at h1
          omega
        | some r' =>
          obtain ⟨y, h1, h2⟩ := h.2.1 j r' hR
          rw [e] at h1
          cases h1
          rcases h2 with ⟨_, h2⟩ | ⟨id2, g2, h2, hc2, _⟩
          · cases h2
          · cases h2
            have := getC_lt hc2
            omega
      · have := getC_new (H ++ [Ob.cells 0 [x]]) 0 [x]
        simpa using this
  · have hlt := getC_lt hg
    have hg' := getC_app hg (G := [Ob.cells 0 [x]])
    have hbi : base ≤ id := by omega
    have hne : id ≠ o := by omega
    refine ⟨_, .sl id (g + 1) 0 (r.length + 1) 1, (H ++ [Ob.cells 0 [x]]).set id (.cells (g + 1) (r ++ [x])), hw, ?_, rfl, ?_, by simp, ?_, fun H0 h0 he => (he.trans (Ext.app _ _)).set (by omega) _⟩
    · have h2 : 0 + r.length ≤ r.length := by omega
      simp only [appendV, elems_new, hx', if_true, true_and, hbi, hg', h2, Nat.one_ne_zero, if_false, hs, List.drop_zero, Nat.mul_one, List.take_length]
    · rw [getC_other (Ne.symm hne)]; exact getC_app hc
    · refine fin id (g + 1) _ (fun j g' n hj e => ?_) hid (getC_set hg' _) (fun i hi hl => by rw [List.getElem?_set_ne (Ne.symm hi), List.getElem?_append_left hl])
      exact h.2.2 j k _ _ _ _ _ _ hj e hw rfl
theorem OwnRows.set {m : Nat} {H : Heap} {v : V} {R : List (List V)} (h : OwnRows m H v R) {o : Nat} (ho : o < m) (ob : Ob) : OwnRows m (H.set o ob) v R := by
  obtain ⟨id, g, vs, h1, h2, h3, h4, h5⟩ := h
  refine ⟨id, g, vs, h1, by rw [getC_other (by omega)]; exact h2, h3, h4, fun i r hr => ?_⟩
  obtain ⟨x, q1, q2⟩ := h5 i r hr
  exact ⟨x, q1, q2.set (by omega) _⟩
theorem Rd.slice {H : Heap} {v : V} {l : List V} (h : Rd H v l) (hw : Wide1 v) {lo hi : Option V} {a b : Nat} (hlo : bndV 0 lo = some (a : Int)) (hhi : bndV l.length hi = some (b : Int)) (hab : a ≤ b) (hb : b ≤ l.length) :
    ∃ w, xSlice 1 v lo hi = some w ∧ Rd H w ((l.drop a).take (b - a)) ∧ Wide1 w := by
  have i1 : (0 : Int) ≤ a := by omega
  have i2 : (a : Int) ≤ b := by omega
  have i3 : ((b : Int) - (a : Int)).toNat = b - a := by omega
  rcases h.cases with ⟨rfl, hv⟩ | ⟨es, rfl, rfl, he⟩ | ⟨id, g, off, n, c, rfl, hc, rfl, hn⟩
  · have ha : a = 0 := by simp at hb; omega
    have hb0 : b = 0 := by simpa using hb
    subst ha hb0
    rcases hv with rfl | rfl
    · refine ⟨nilS, ?_, Rd.nil H, trivial⟩
      simp only [List.length_nil] at hhi
      simp only [xslice_nil, hlo, hhi, cutNil_some, cast0, and_self, if_true]
    · refine ⟨.esl, ?_, Rd.esl H, trivial⟩
      simp only [List.length_nil] at hhi
      simp only [xslice_esl, hlo, hhi, cutNil_some, cast0, and_self, if_true]
  · have h1 : ∀ e ∈ es, e.length = 1 := hw
    have hmap : ∀ es : List (List V), (∀ e ∈ es, e.length = 1) → es = es.flatten.map fun x => [x] := by
      intro es
      induction es with
      | nil => intro _; rfl
      | cons e es ih =>
        intro h
        have he := h e List.mem_cons_self
        match e, he with
        | [y], _ =>
          show [y] :: es = (y :: es.flatten).map _
          rw [List.map_cons, ← ih fun e he => h e (List.mem_cons_of_mem _ he)]
    have hm := hmap es h1
    refine ⟨.psl ((es.drop a).take (b - a)) 1, ?_, ?_, fun e he => h1 e (List.mem_of_mem_drop (List.mem_of_mem_take he))⟩
    · rw [← he] at hhi
      have i4 : (b : Int) ≤ es.length := by omega
      simp only [xslice_psl, hlo, hhi, cutPsl_some, i1, i2, i3, i4, and_self, if_true, Int.toNat_natCast]
    · have := Rd.psl H ((es.flatten.drop a).take (b - a))
      rw [List.map_take, List.map_drop, ← hm] at this
      exact this
  · refine ⟨.sl id g (off + a) (b - a) 1, ?_, ?_, trivial⟩
    · rw [← hn] at hhi
      have i4 : (b : Int) ≤ n := by omega
      simp only [xslice_sl, hlo, hhi, cutSl_some, i1, i2, i3, i4, and_self, if_true, Int.toNat_natCast, Nat.mul_one]
    · by_cases hn0 : n = 0
      · subst hn0
        have hb0 : b = 0 := by simpa using hb
        have ha0 : a = 0 := by omega
        subst hb0 ha0
        simpa using h
      have hl : off + b ≤ c.length := by
        simp at hb hn
        omega
      have := Rd.sl hc (off := off + a) (n := b - a) (by omega)
      rw [List.drop_take, List.take_take, List.drop_drop, Nat.min_eq_left (by omega)]
      exact this
def AccR (H0 H : Heap) (v : V) (R : List (List V)) : Prop := ∃ vs, Acc H0 H v vs ∧ vs.length = R.length ∧ ∀ (j : Nat) (r : List V), R[j]? = some r → ∃ x, vs[j]? = some x ∧ OwnN H0.length H x r ∧ ∀ id g n id' g' n', v = .sl id g 0 n 1 → x = .sl id' g' 0 n' 1 → id ≠ id'
theorem AccR.start (H : Heap) : AccR H H nilS [] := ⟨[], Acc.start H, rfl, fun j r h => by simp at h⟩
theorem AccR.rows {H0 H : Heap} {v : V} {R : List (List V)} (h : AccR H0 H v R) : RdRows H v R := by
  obtain ⟨vs, h1, h2, h3⟩ := h
  refine ⟨vs, h1.rd, h1.wide, h2, fun j r hr => ?_⟩
  obtain ⟨x, q1, q2, _⟩ := h3 j r hr
  exact ⟨x, q1, q2.rd, q2.wide⟩
theorem AccR.ext {H0 H H' : Heap} {v : V} {R : List (List V)} (h : AccR H0 H v R) (k : Ext H H') : AccR H0 H' v R := by
  obtain ⟨vs, h1, h2, h3⟩ := h
  refine ⟨vs, ⟨h1.1.trans k, ?_⟩, h2, fun j r hr => ?_⟩
  · rcases h1.2 with h | ⟨id, g, a, b, c⟩
    · exact .inl h
    · exact .inr ⟨id, g, a, getC_ext b k, c⟩
  · obtain ⟨x, q1, q2, q3⟩ := h3 j r hr
    exact ⟨x, q1, q2.ext k, q3⟩
theorem AccR.trim {H0 H : Heap} {v : V} {R : List (List V)} (h : AccR H0 H v R) {m : Nat} (hm : H0.length ≤ m) {fr : List V} (hv : v ∈ fr) : AccR H0 (trim m fr H) v R := by
  obtain ⟨vs, h1, h2, h3⟩ := h
  refine ⟨vs, h1.trim hm hv, h2, fun j r hr => ?_⟩
  obtain ⟨x, q1, q2, q3⟩ := h3 j r hr
  refine ⟨x, q1, ?_, q3⟩
  rcases h1.2 with ⟨rfl, _⟩ | ⟨id, g, rfl, hc, hid⟩
  · simp at q1
  · rcases trim_or m fr H with e | ⟨e, hu⟩
    · rw [e]; exact q2
    · have := hu _ hv
      simp only [idsUnder, decide_eq_true_eq] at this
      exact q2.trim hc this (List.mem_of_getElem? q1) fr
theorem AccR.append {H0 H : Heap} {v : V} {R : List (List V)} (h : AccR H0 H v R) {base bytes : Nat} (hb : base ≤ H0.length) {x : V} {r : List V} (hx : OwnN H0.length H x r) (hxv : ∀ id g n id' g' n', v = .sl id g 0 n 1 → x = .sl id' g' 0 n' 1 → id ≠ id') (hs : (R.length + 1) * bytes ≤ 2 ^ 47) :
    ∃ v' H', appendV (H ++ [.cells 0 [x]]) base 1 bytes v (.sl H.length 0 0 1 1) = some (v', H') ∧ AccR H0 H' v' (R ++ [r]) ∧ v'.one = true := by
  obtain ⟨vs, h1, h2, h3⟩ := h
  have hx1 := hx.one
  have hx' : [x].all V.one = true := by simp [hx1]
  have rows : ∀ (v' : V) (H' : Heap), (∀ y q, (y = x ∨ y ∈ vs) → OwnN H0.length H y q → (∀ id g n id' g' n', v = .sl id g 0 n 1 → y = .sl id' g' 0 n' 1 → id ≠ id') → OwnN H0.length H' y q ∧ ∀ id g n id' g' n', v' = .sl id g 0 n 1 → y = .sl id' g' 0 n' 1 → id ≠ id') →
      ∀ (j : Nat) (q : List V), (R ++ [r])[j]? = some q → ∃ y, (vs ++ [x])[j]? = some y ∧ OwnN H0.length H' y q ∧ ∀ id g n id' g' n', v' = .sl id g 0 n 1 → y = .sl id' g' 0 n' 1 → id ≠ id' := by
    intro v' H' hk j q hq
    by_cases hj : j < R.length
    · rw [List.getElem?_append_left hj] at hq
      obtain ⟨y, q1, q2, q3⟩ := h3 j q hq
      exact ⟨y, by rw [List.getElem?_append_left (by omega)]; exact q1, hk y q (.inr (List.mem_of_getElem? q1)) q2 q3⟩
    · rw [List.getElem?_append_right (by omega)] at hq
      have hj0 : j - R.length = 0 := by
        have := (List.getElem?_eq_some_iff.1 hq).1
        simp at this
        omega
      rw [hj0] at hq
      cases hq
      refine ⟨x, by rw [List.getElem?_append_right (by omega), h2, hj0]; rfl, hk x _ (.inl rfl) hx hxv⟩
  rcases h1.2 with ⟨rfl, rfl⟩ | ⟨id, g, rfl, hc, hid⟩
  · have hR : R.length = 0 := by rw [← h2]; rfl
    have hs' : 1 * bytes ≤ 2 ^ 47 := by rw [hR] at hs; simpa using hs
    refine ⟨.sl (H.length + 1) 0 0 1 1, H ++ [.cells 0 [x]] ++ [.cells 0 [x]], ?_, ⟨[x], ⟨h1.1.trans ⟨[.cells 0 [x], .cells 0 [x]], by simp⟩, .inr ⟨H.length + 1, 0, rfl, ?_, ?_⟩⟩, by simp [hR], rows _ _ fun y q hy hyo hyv => ⟨hyo.ext ⟨[.cells 0 [x], .cells 0 [x]], by simp⟩, ?_⟩⟩, rfl⟩
    · simp only [appendV, elems_new, hx', if_true, nilS, Nat.one_ne_zero, if_false, hs', List.length_append, List.length_cons, List.length_nil]
    · have := getC_new (H ++ [.cells 0 [x]]) 0 [x]
      simpa using this
    · have := h1.1.le; omega
    · intro a b c a' b' c' e1 e2
      cases e1
      rcases hyo with ⟨_, rfl | rfl⟩ | ⟨i, g, cc, rfl, hcc, _⟩
      · cases e2
      · cases e2
      · cases e2
        have := getC_lt hcc
        omega
  · have hlt := getC_lt hc
    have hc' := getC_app hc (G := [Ob.cells 0 [x]])
    have hbi : base ≤ id := by omega
    refine ⟨.sl id (g + 1) 0 (vs.length + 1) 1, (H ++ [Ob.cells 0 [x]]).set id (.cells (g + 1) (vs ++ [x])), ?_, ⟨vs ++ [x], ⟨(h1.1.trans (Ext.app _ _)).set hid _, .inr ⟨id, g + 1, by simp, getC_set hc' _, hid⟩⟩, by simp [h2], rows _ _ fun y q hy hyo hyv => ⟨?_, ?_⟩⟩, rfl⟩
    · have e2 : 0 + vs.length ≤ vs.length := by omega
      rw [← h2] at hs
      simp only [appendV, elems_new, hx', if_true, true_and, hbi, hc', e2, Nat.one_ne_zero, if_false, hs, List.drop_zero, Nat.mul_one, List.take_length]
    · rcases hyo with hyo | ⟨i, g', cc, rfl, hcc, p1, p2, p3⟩
      · exact .inl hyo
      · refine .inr ⟨i, g', cc, rfl, ?_, p1, p2, p3⟩
        have : id ≠ i := hyv _ _ _ _ _ _ rfl rfl
        rw [getC_other (Ne.symm this)]
        exact getC_app hcc
    · intro a b c a' b' c' e1 e2
      cases e1
      exact hyv _ _ _ _ _ _ rfl e2
theorem AccR.lt {H0 H : Heap} {v : V} {R : List (List V)} (h : AccR H0 H v R) {id g n : Nat} (hv : v = .sl id g 0 n 1) : id < H.length := by
  obtain ⟨vs, h1, _⟩ := h
  rcases h1.2 with ⟨_, e⟩ | ⟨i, g', e, hc, _⟩
  · rw [hv] at e; cases e
  · rw [hv] at e; cases e; exact getC_lt hc
theorem OwnN.apart {m : Nat} {H : Heap} {v x : V} {l : List V} (h : OwnN m H x l) (hv : ∀ id g n, v = .sl id g 0 n 1 → id < m) : ∀ id g n id' g' n', v = .sl id g 0 n 1 → x = .sl id' g' 0 n' 1 → id ≠ id' := by
  intro id g n id' g' n' e1 e2
  have h1 := hv id g n e1
  rcases h with ⟨_, e | e⟩ | ⟨i, gg, c, e, _, _, _, hi⟩
  · rw [e] at e2; cases e2
  · rw [e] at e2; cases e2
  · rw [e] at e2; cases e2; omega
theorem OwnN.trim_fr {m L : Nat} {H : Heap} {x : V} {l : List V} (h : OwnN m H x l) {fr : List V} (hx : x ∈ fr) : OwnN m (Go.AM.trim L fr H) x l := by
  rcases h with h | ⟨i, g, c, rfl, h2, h3, h4, h5⟩
  · exact .inl h
  · refine .inr ⟨i, g, c, rfl, ?_, h3, h4, h5⟩
    rcases trim_or L fr H with e | ⟨e, hu⟩
    · rw [e]; exact h2
    · have := hu _ hx
      simp only [idsUnder, decide_eq_true_eq] at this
      exact trim_get h2 this
def apartO : Option (Option Nat) → Option (Option Nat) → Bool
  | some (some i), some (some j) => i != j
  | some _, some _ => true
  | _, _ => false
theorem Rd.look {A H : Heap} {v : V} {l : List V} (h : Rd A v l) (k : Ext A H) (hw : Wide1 v) {i : Nat} {x : V} (hx : l[i]? = some x) : ∃ a, xIndexAddr 1 v (.s (.int .i64 i)) = some a ∧ xLoad H false 1 a = some x ∧ ∀ w, (∀ id g n, w = .sl id g 0 n 1 → A.length ≤ id) → (w = nilS ∨ ∃ id g n, w = .sl id g 0 n 1) → apartO (V.obj? a) (V.appObj w) = true := by
  obtain ⟨a, h1, h2⟩ := (h.ext k).at' hw hx
  refine ⟨a, h1, h2, fun w hw1 hw2 => ?_⟩
  have hi := (List.getElem?_eq_some_iff.1 hx).1
  rcases h.cases with ⟨rfl, _⟩ | ⟨es, rfl, _⟩ | ⟨id, g, off, n, c, rfl, hc, _⟩
  · simp at hi
  · simp only [xi_psl] at h1
    split at h1
    · rw [Option.map_eq_some_iff] at h1
      obtain ⟨q, _, rfl⟩ := h1
      rcases hw2 with rfl | ⟨id, g, n, rfl⟩ <;> rfl
    · cases h1
  · simp only [xi_sl] at h1
    split at h1
    · cases h1
      have hlt := getC_lt hc
      rcases hw2 with rfl | ⟨id', g', n', rfl⟩
      · rfl
      · have := hw1 _ _ _ rfl
        simp only [V.obj?, V.appObj, apartO, bne_iff_ne]
        omega
    · cases h1
theorem Bag.own {m : Nat} {H : Heap} {vs : List V} {R : List (List V)} (h : Bag m H vs R) {j : Nat} {w : V} (hw : vs[j]? = some w) : (∀ id g n, w = .sl id g 0 n 1 → m ≤ id) ∧ (w = nilS ∨ ∃ id g n, w = .sl id g 0 n 1) := by
  have hj := (List.getElem?_eq_some_iff.1 hw).1
  have hR : j < R.length := by rw [← h.1]; exact hj
  obtain ⟨x, h1, h2⟩ := h.2.1 j R[j] (List.getElem?_eq_getElem hR)
  rw [hw] at h1
  cases h1
  rcases h2 with ⟨_, rfl⟩ | ⟨id, g, rfl, _, hm⟩
  · exact ⟨fun _ _ _ e => (by cases e), .inl rfl⟩
  · exact ⟨fun _ _ _ e => (by cases e; exact hm), .inr ⟨_, _, _, rfl⟩⟩
end Go.AM
set_option maxRecDepth 100000
namespace Go.Proofs.Ytmnlagcmpgilaaa
open Go.AM
def sumLen : List (List Int) → Nat
  | [] => 0
  | r :: N => r.length + sumLen N
end Go.Proofs.Ytmnlagcmpgilaaa
set_option maxRecDepth 100000
namespace Go.Proofs.Ytmnlagcmpgilaaa
open Go.AM
structure CG (CT : Nat → Option CFun) : Prop where
  norm : CT k_graph_Norm = some (.code s_graph_Norm)
  norm1 : CT k_graph_Norm_1 = some (.code s_graph_Norm_1)
  clone : CT k_slices_Clone_int_int = some (.code s_slices_Clone_int_int)
  del : CT k_slices_DeleteFunc_int_int = some (.code s_slices_DeleteFunc_int_int)
  idx : CT k_slices_IndexFunc_int_int = some (.code s_slices_IndexFunc_int_int)
  sort : CT k_slices_Sort_int_int = some (.prim sortG)
  comp : CT k_slices_Compact_int_int = some (.code s_slices_Compact_int_int)
  back : CT k_graph_Back = some (.code s_graph_Back)
theorem chg_mem : ∀ (r : List Int) (p x : Int), x ∈ chg p r → x ∈ r := by
  intro r
  induction r with
  | nil => intro p x h; exact h
  | cons y r ih =>
    intro p x h
    simp only [chg] at h
    split at h
    · exact List.mem_cons_of_mem _ (ih _ _ h)
    · rcases List.mem_cons.1 h with rfl | h
      · exact List.mem_cons_self
      · exact List.mem_cons_of_mem _ (ih _ _ h)
theorem compactZ_mem {r : List Int} {x : Int} (h : x ∈ compactZ r) : x ∈ r := by
  cases r with
  | nil => exact h
  | cons y r =>
    rcases List.mem_cons.1 h with rfl | h
    · exact List.mem_cons_self
    · exact List.mem_cons_of_mem _ (chg_mem _ _ _ h)
theorem compactZ_len (r : List Int) : (compactZ r).length ≤ r.length := by
  cases r with
  | nil => exact Nat.le_refl _
  | cons y r => have := chg_len r y; simp only [compactZ, List.length_cons]; omega
theorem normR_in {n : Nat} {r : List Int} {x : Int} (h : x ∈ normR n r) : 0 ≤ x ∧ x < n := by
  have := compactZ_mem h
  rw [sortZ, List.mem_mergeSort, List.mem_filter] at this
  have := this.2
  simp only [outR, ge_iff_le, Bool.not_or, Bool.and_eq_true, Bool.not_eq_true', decide_eq_false_iff_not, Int.not_lt, Int.not_le] at this
  exact this
theorem normR_len (n : Int) (r : List Int) : (normR n r).length ≤ r.length := by
  refine Nat.le_trans (compactZ_len _) ?_
  rw [sortZ, List.length_mergeSort]
  exact List.length_filter_le _ _
theorem normG_len (G : List (List Int)) : (normG G).length = G.length := by simp [normG]
theorem normG_in {G : List (List Int)} {r : List Int} (h : r ∈ normG G) {x : Int} (hx : x ∈ r) : 0 ≤ x ∧ x < G.length := by
  obtain ⟨g, _, rfl⟩ := List.mem_map.1 h
  exact normR_in hx
theorem normG_small {G : List (List Int)} {b : Nat} (hG : ∀ r ∈ G, r.length < b) : ∀ r ∈ normG G, r.length < b := by
  intro r hr
  obtain ⟨g, hg, rfl⟩ := List.mem_map.1 hr
  exact Nat.lt_of_le_of_lt (normR_len _ _) (hG g hg)
theorem norm_f {CT : Nat → Option CFun} (h : CG CT) (base : Nat) (H : Heap) (v : V) (G : List (List Int)) (hv : RdRows H v (rowsV G)) (hb : base ≤ H.length) (hn : G.length < 2 ^ 40) (hr : ∀ r ∈ G, r.length < 2 ^ 40) :
    ∃ v' H', callW CT (.fn k_graph_Norm [] []) [v] base H = some (v', H') ∧ Ext H H' ∧ OwnRows H.length H' v' (rowsV (normG G)) := norm_fun h.norm h.clone h.del h.idx h.sort h.comp h.norm1 base H v G hv hb hn hr
end Go.Proofs.Ytmnlagcmpgilaaa
set_option maxRecDepth 100000
namespace Go.Proofs.Ytmnlagcmpgilaaa
open Go.AM
theorem drop_cons {α : Type} {l r : List α} {x : α} {k : Nat} (h : l.drop k = x :: r) : l[k]? = some x ∧ k < l.length ∧ l.drop (k + 1) = r := by
  have hx : l[k]? = some x := by have := congrArg (·[0]?) h; simp only [List.getElem?_drop] at this; exact this
  exact ⟨hx, (List.getElem?_eq_some_iff.1 hx).1, by rw [← List.drop_drop, h]; rfl⟩
theorem drop_nil {α : Type} {l : List α} {k : Nat} (h : l.drop k = []) (hk : k ≤ l.length) : k = l.length := by
  have := congrArg List.length h
  simp at this
  omega
theorem iV_at {H : Heap} {v : V} {l : List Int} (h : Rd H v (l.map iV)) (hw : Wide1 v) {k : Nat} {x : Int} (hx : l[k]? = some x) : ∃ a, xIndexAddr 1 v (.s (.int .i64 k)) = some a ∧ xLoad H false 1 a = some (.s (.int .i64 x)) := h.at' hw (by rw [List.getElem?_map, hx]; rfl)
theorem iV_len {H : Heap} {v : V} {l : List Int} (h : Rd H v (l.map iV)) : xLen H .s v = some (.s (.int .i64 l.length)) := by have := h.len; rwa [List.length_map] at this
end Go.Proofs.Ytmnlagcmpgilaaa
set_option maxRecDepth 100000
namespace Go.Proofs.Ytmnlagcmpgilaaa
open Go.AM
theorem rows_at {H : Heap} {v : V} {G : List (List Int)} (h : RdRows H v (rowsV G)) {k : Nat} {r : List Int} (hr : G[k]? = some r) : ∃ a x, xIndexAddr 1 v (.s (.int .i64 k)) = some a ∧ xLoad H false 1 a = some x ∧ Rd H x (r.map iV) ∧ Wide1 x := h.at (rowsV_get hr)
theorem rows_len {H : Heap} {v : V} {G : List (List Int)} (h : RdRows H v (rowsV G)) : xLen H .s v = some (.s (.int .i64 G.length)) := by have := h.len; rwa [rowsV_len] at this
def greatFrom : List (List Int) → Nat → Bool
  | [], n => decide (n > 3000)
  | r :: G, n => bif decide (r.length > 3000) then true else greatFrom G (n + r.length)
def greatG (G : List (List Int)) : Bool := decide (G.length > 200) || greatFrom G 0
theorem great_loop (call : CallF) (base : Nat) (H : Heap) (v : V) (G : List (List Int)) (hv : RdRows H v (rowsV G)) (hn : G.length ≤ 200) : ∀ (r : List (List Int)) (k n : Nat), G.drop k = r → k ≤ G.length → n ≤ 3000 * k →
    ∃ n' : Nat, itW (evC call itW base s_gnomonlaw07_great_l0) [] H.length (frOf 29 [(0, v), (3, .s (.int .i64 n)), (4, .s (.int .i64 k))]) H =
      some (if n' ≤ 3000000 then (.ext 0, frOf 29 [(0, v), (3, .s (.int .i64 n')), (4, .s (.int .i64 G.length)), (11, .s (.bool false))], H) else (.ret, frOf 29 [(2, .s (.bool true))], H)) ∧ greatFrom r n = decide (n' > 3000) := by
  intro r
  induction r with
  | nil =>
    intro k n hd hk hb
    obtain rfl := drop_nil hd hk
    refine ⟨n, ?_, rfl⟩
    rw [itW_step, if_pos (by omega)]
    simp only [a_gnomonlaw07_great,s_gnomonlaw07_great_l0_b, am0,am1,am2,am3,am4,am5,am6,am7,bl,i64,reduceIte,reduceCtorEq,Nat.reduceEqDiff,Nat.reduceLT,Nat.reduceLeDiff,Nat.reduceBEq,Nat.reduceAdd,fillA,splice,Nat.reduceMul,al0,al1,al2,al3,al4,al5,al6,al7,al8,al9,al10,al11,al12,al13,al14,al15,al16,al17,al18,al19,al20,al21,al22,al23,al24,al25,al26,al27,al28,al29,al30,al31,al32,al33,al34, rows_len hv, Int.lt_irrefl, trim_same rfl]
  | cons x r ih =>
    intro k n hd hk hb
    obtain ⟨hx, hlt, hd'⟩ := drop_cons hd
    obtain ⟨a, xv, ha1, ha2, ha3, ha4⟩ := rows_at hv hx
    have hlt' : (k : Int) < (G.length : Int) := by omega
    have hwk := wrap_pos (n := k) (by omega)
    by_cases hg : x.length > 3000
    · refine ⟨3000001, ?_, by simp only [greatFrom, hg, decide_true, cond_true]; decide⟩
      have hg' : ((x.length : Nat) : Int) > 3000 := by omega
      rw [itW_step, if_neg (by omega)]
      simp only [a_gnomonlaw07_great,s_gnomonlaw07_great_l0_b, am0,am1,am2,am3,am4,am5,am6,am7,bl,i64,reduceIte,reduceCtorEq,Nat.reduceEqDiff,Nat.reduceLT,Nat.reduceLeDiff,Nat.reduceBEq,Nat.reduceAdd,fillA,splice,Nat.reduceMul,al0,al1,al2,al3,al4,al5,al6,al7,al8,al9,al10,al11,al12,al13,al14,al15,al16,al17,al18,al19,al20,al21,al22,al23,al24,al25,al26,al27,al28,al29,al30,al31,al32,al33,al34, rows_len hv, hlt', ha1, ha2, iV_len ha3, hg', gt_iff_lt.1 hg', trim_same rfl]
    · obtain ⟨n', q1, q2⟩ := ih (k + 1) (n + x.length) hd' (by omega) (by omega)
      refine ⟨n', ?_, by simp only [greatFrom, hg, decide_false, cond_false]; exact q2⟩
      have hg' : ¬ (3000 : Int) < (x.length : Nat) := by omega
      have hwn : IntKind.i64.wrap ((n : Int) + (x.length : Nat)) = ((n + x.length : Nat) : Int) := by rw [IntKind.wrap_i64]; omega
      rw [itW_step]
      simp only [a_gnomonlaw07_great,s_gnomonlaw07_great_l0_b, am0,am1,am2,am3,am4,am5,am6,am7,bl,i64,reduceIte,reduceCtorEq,Nat.reduceEqDiff,Nat.reduceLT,Nat.reduceLeDiff,Nat.reduceBEq,Nat.reduceAdd,fillA,splice,Nat.reduceMul,al0,al1,al2,al3,al4,al5,al6,al7,al8,al9,al10,al11,al12,al13,al14,al15,al16,al17,al18,al19,al20,al21,al22,al23,al24,al25,al26,al27,al28,al29,al30,al31,al32,al33,al34, rows_len hv, hlt', ha1, ha2, iV_len ha3, hg', gt_iff_lt, hwn, hwk, trim_same rfl]
      exact q1
theorem great_fun {CT : Nat → Option CFun} (hT : CT k_gnomonlaw07_great = some (.code s_gnomonlaw07_great)) (base : Nat) (H : Heap) (v : V) (G : List (List Int)) (hv : RdRows H v (rowsV G)) :
    callW CT (.fn k_gnomonlaw07_great [] []) [v] base H = some (.s (.bool (greatG G)), H) := by
  refine callW_fn (c := s_gnomonlaw07_great) hT (by simp [s_gnomonlaw07_great]) ?_
  by_cases hg : G.length > 200
  · have hg' : (200 : Int) < (G.length : Nat) := by omega
    simp only [s_gnomonlaw07_great, a_gnomonlaw07_great,s_gnomonlaw07_great_l0_b, am0,am1,am2,am3,am4,am5,am6,am7,bl,i64,reduceIte,reduceCtorEq,Nat.reduceEqDiff,Nat.reduceLT,Nat.reduceLeDiff,Nat.reduceBEq,Nat.reduceAdd,fillA,splice,Nat.reduceMul,al0,al1,al2,al3,al4,al5,al6,al7,al8,al9,al10,al11,al12,al13,al14,al15,al16,al17,al18,al19,al20,al21,al22,al23,al24,al25,al26,al27,al28,al29,al30,al31,al32,al33,al34, rows_len hv, gt_iff_lt, hg', greatG, hg, decide_true, Bool.true_or]
  · have hg' : ¬ (200 : Int) < (G.length : Nat) := by omega
    obtain ⟨n, q1, q2⟩ := great_loop (callW CT) base H v G hv (by omega) G 0 0 rfl (Nat.zero_le _) (Nat.zero_le _)
    rw [cast0] at q1
    have hgG : greatG G = decide (n > 3000) := by rw [greatG, q2]; simp [hg]
    simp only [s_gnomonlaw07_great, a_gnomonlaw07_great,s_gnomonlaw07_great_l0_b, am0,am1,am2,am3,am4,am5,am6,am7,bl,i64,reduceIte,reduceCtorEq,Nat.reduceEqDiff,Nat.reduceLT,Nat.reduceLeDiff,Nat.reduceBEq,Nat.reduceAdd,fillA,splice,Nat.reduceMul,al0,al1,al2,al3,al4,al5,al6,al7,al8,al9,al10,al11,al12,al13,al14,al15,al16,al17,al18,al19,al20,al21,al22,al23,al24,al25,al26,al27,al28,al29,al30,al31,al32,al33,al34, rows_len hv, gt_iff_lt, hg', q1, hgG]
    split
    · have : decide ((3000 : Int) < (n : Int)) = decide (3000 < n) := by rw [decide_eq_decide]; omega
      simp only [a_gnomonlaw07_great,s_gnomonlaw07_great_l0_b, am0,am1,am2,am3,am4,am5,am6,am7,bl,i64,reduceIte,reduceCtorEq,Nat.reduceEqDiff,Nat.reduceLT,Nat.reduceLeDiff,Nat.reduceBEq,Nat.reduceAdd,fillA,splice,Nat.reduceMul,al0,al1,al2,al3,al4,al5,al6,al7,al8,al9,al10,al11,al12,al13,al14,al15,al16,al17,al18,al19,al20,al21,al22,al23,al24,al25,al26,al27,al28,al29,al30,al31,al32,al33,al34, gt_iff_lt, this]
    · have : decide (3000 < n) = true := by rw [decide_eq_true_eq]; omega
      simp only [a_gnomonlaw07_great,s_gnomonlaw07_great_l0_b, am0,am1,am2,am3,am4,am5,am6,am7,bl,i64,reduceIte,reduceCtorEq,Nat.reduceEqDiff,Nat.reduceLT,Nat.reduceLeDiff,Nat.reduceBEq,Nat.reduceAdd,fillA,splice,Nat.reduceMul,al0,al1,al2,al3,al4,al5,al6,al7,al8,al9,al10,al11,al12,al13,al14,al15,al16,al17,al18,al19,al20,al21,al22,al23,al24,al25,al26,al27,al28,al29,al30,al31,al32,al33,al34, this]
theorem greatFrom_small : ∀ (G : List (List Int)) (n : Nat), greatFrom G n = false → n + sumLen G ≤ 3000 ∧ ∀ r ∈ G, r.length ≤ 3000 := by
  intro G
  induction G with
  | nil => intro n h; simp [greatFrom] at h; exact ⟨by simpa [sumLen] using h, by simp⟩
  | cons r G ih =>
    intro n h
    simp only [greatFrom] at h
    by_cases hr : r.length > 3000
    · simp [hr] at h
    · simp only [hr, decide_false, cond_false] at h
      obtain ⟨h1, h2⟩ := ih _ h
      refine ⟨by simp only [sumLen]; omega, fun q hq => ?_⟩
      rcases List.mem_cons.1 hq with rfl | hq
      · omega
      · exact h2 q hq
theorem greatG_small {G : List (List Int)} (h : greatG G = false) : G.length ≤ 200 ∧ sumLen G ≤ 3000 ∧ ∀ r ∈ G, r.length ≤ 3000 := by
  simp only [greatG, Bool.or_eq_false_iff, decide_eq_false_iff_not] at h
  obtain ⟨h1, h2⟩ := greatFrom_small G 0 h.2
  exact ⟨by omega, by omega, h2⟩
end Go.Proofs.Ytmnlagcmpgilaaa
set_option maxRecDepth 100000
namespace Go.Proofs.Ytmnlagcmpgilaaa
open Go.AM
end Go.Proofs.Ytmnlagcmpgilaaa
set_option maxRecDepth 100000
namespace Go.Proofs.Ytmnlagcmpgilaaa
open Go.AM
theorem take_snoc {α : Type} {l : List α} {k : Nat} {x : α} (h : l[k]? = some x) : l.take (k + 1) = l.take k ++ [x] := by
  rw [List.take_succ, h]; rfl
end Go.Proofs.Ytmnlagcmpgilaaa
set_option maxRecDepth 100000
namespace Go.Proofs.Ytmnlagcmpgilaaa
open Go.AM
end Go.Proofs.Ytmnlagcmpgilaaa
set_option maxRecDepth 100000
namespace Go.Proofs.Ytmnlagcmpgilaaa
open Go.AM
def Up : List Int → Prop
  | [] => True
  | x :: r => (∀ y ∈ r, x < y) ∧ Up r
theorem chg_up : ∀ (r : List Int) (p : Int), (p :: r).Pairwise (· ≤ ·) → Up (p :: chg p r) ∧ ∀ x, x ∈ (p :: chg p r) ↔ x ∈ (p :: r) := by
  intro r
  induction r with
  | nil => intro p _; exact ⟨⟨(fun y h => absurd h List.not_mem_nil), trivial⟩, fun _ => Iff.rfl⟩
  | cons y r ih =>
    intro p h
    rw [List.pairwise_cons] at h
    obtain ⟨q1, q2⟩ := ih y h.2
    simp only [chg]
    split
    · rename_i e
      have : y = p := beq_iff_eq.1 e
      subst this
      refine ⟨q1, fun x => ?_⟩
      rw [q2 x]
      simp
    · rename_i e
      have hne : y ≠ p := by intro e2; exact e (beq_iff_eq.2 e2)
      have hlt : p < y := by have := h.1 y List.mem_cons_self; omega
      refine ⟨⟨fun z hz => ?_, q1⟩, fun x => ?_⟩
      · rcases List.mem_cons.1 hz with rfl | hz
        · exact hlt
        · have := q1.1 z hz; omega
      · rw [List.mem_cons, q2 x, ← List.mem_cons]
theorem normR_up (n : Int) (r : List Int) : Up (normR n r) ∧ ∀ x, x ∈ normR n r ↔ x ∈ r ∧ outR n x = false := by
  have hs : (sortZ (r.filter fun k => !outR n k)).Pairwise (· ≤ ·) := by
    have := List.pairwise_mergeSort (le := fun x y : Int => decide (x ≤ y)) (by intro a b c; simp only [decide_eq_true_eq]; omega) (by intro a b; simp only [Bool.or_eq_true, decide_eq_true_eq]; omega) (r.filter fun k => !outR n k)
    simp only [decide_eq_true_eq] at this
    exact this
  have hm : ∀ x, x ∈ sortZ (r.filter fun k => !outR n k) ↔ x ∈ r ∧ outR n x = false := fun x => by
    rw [sortZ, List.mem_mergeSort, List.mem_filter]; simp
  simp only [normR]
  cases hz : sortZ (r.filter fun k => !outR n k) with
  | nil => rw [hz] at hm; exact ⟨trivial, hm⟩
  | cons p l =>
    rw [hz] at hm hs
    obtain ⟨q1, q2⟩ := chg_up l p hs
    exact ⟨q1, fun x => by rw [← hm x]; exact q2 x⟩
end Go.Proofs.Ytmnlagcmpgilaaa
set_option maxRecDepth 100000
namespace Go.Proofs.Ytmnlagcmpgilaaa
open Go.AM
def Shape (m : Nat) (H : Heap) (v : V) (lens : List Nat) : Prop := ∃ id g vs, v = .sl id g 0 lens.length 1 ∧ getC H id g = some vs ∧ m ≤ id ∧ vs.length = lens.length ∧
  ∀ (i len : Nat), lens[i]? = some len → ∃ x, vs[i]? = some x ∧ ((len = 0 ∧ (x = nilS ∨ x = .esl)) ∨ ∃ id' g' c, x = .sl id' g' 0 len 1 ∧ getC H id' g' = some c ∧ len ≤ c.length ∧ id + 1 ≤ id')
theorem OwnRows.shape {m : Nat} {H : Heap} {v : V} {G : List (List Int)} (h : OwnRows m H v (rowsV G)) : Shape m H v (G.map List.length) := by
  obtain ⟨id, g, vs, h1, h2, h3, h4, h5⟩ := h
  rw [rowsV_len] at h1 h4
  refine ⟨id, g, vs, by rw [List.length_map]; exact h1, h2, h3, by rw [List.length_map]; exact h4, fun i len hl => ?_⟩
  rw [List.getElem?_map, Option.map_eq_some_iff] at hl
  obtain ⟨r, hr, rfl⟩ := hl
  obtain ⟨x, q1, q2⟩ := h5 i _ (rowsV_get hr)
  refine ⟨x, q1, ?_⟩
  rcases q2 with ⟨a, b⟩ | ⟨id', g', c, a, b, d, _, e⟩
  · have : r = [] := by simpa using a
    exact .inl ⟨by rw [this]; rfl, b⟩
  · rw [List.length_map] at a d
    exact .inr ⟨id', g', c, a, b, d, e⟩
theorem Shape.trim {m L : Nat} {H : Heap} {v : V} {lens : List Nat} (h : Shape m H v lens) {fr : List V} (hv : v ∈ fr) : Shape m (trim L fr H) v lens := by
  obtain ⟨id, g, vs, rfl, h2, h3, h4, h5⟩ := h
  rcases trim_or L fr H with e | ⟨e, hu⟩
  · rw [e]; exact ⟨id, g, vs, rfl, h2, h3, h4, h5⟩
  · have hid := hu _ hv
    simp only [idsUnder, decide_eq_true_eq] at hid
    refine ⟨id, g, vs, rfl, trim_get h2 hid, h3, h4, fun i len hl => ?_⟩
    obtain ⟨x, q1, q2⟩ := h5 i len hl
    refine ⟨x, q1, ?_⟩
    rcases q2 with q2 | ⟨id', g', c, rfl, b, d, f⟩
    · exact .inl q2
    · refine .inr ⟨id', g', c, rfl, ?_, d, f⟩
      rcases trim_or' L fr H with e | ⟨_, _, hu⟩
      · rw [e]; exact b
      · exact trim_get b (hu _ _ _ hid h2 _ _ _ _ _ (List.mem_of_getElem? q1))
theorem Shape.row {m : Nat} {H : Heap} {v : V} {lens : List Nat} (h : Shape m H v lens) {i len : Nat} (hi : lens[i]? = some len) : ∃ a x, xIndexAddr 1 v (.s (.int .i64 i)) = some a ∧ xLoad H false 1 a = some x ∧ xLen H .s x = some (.s (.int .i64 len)) ∧
    ∀ (k base : Nat) (y : V), k < len → base ≤ m → y.one = true → ∃ b H', xIndexAddr 1 x (.s (.int .i64 k)) = some b ∧ storeV H base 1 y b = some H' ∧ Shape m H' v lens ∧ H'.length = H.length ∧ ∀ H0, H0.length ≤ m → Ext H0 H → Ext H0 H' := by
  obtain ⟨id, g, vs, rfl, h2, h3, h4, h5⟩ := h
  obtain ⟨x, q1, q2⟩ := h5 i len hi
  have hil := (List.getElem?_eq_some_iff.1 hi).1
  obtain ⟨e1, e2⟩ := at_sl h2 hil q1
  refine ⟨_, x, e1, e2, ?_, ?_⟩
  · rcases q2 with ⟨rfl, rfl | rfl⟩ | ⟨id', g', c, rfl, _⟩ <;> rfl
  · intro k base y hk hb hy
    rcases q2 with ⟨rfl, _⟩ | ⟨id', g', c, rfl, b, d, f⟩
    · omega
    · obtain ⟨f1, _⟩ := at_sl (w := c[k]'(by omega)) b hk (List.getElem?_eq_getElem (by omega))
      refine ⟨_, _, f1, storeV_at b (by omega) hy (by omega), ⟨id, g, vs, rfl, by rw [getC_other (by omega)]; exact h2, h3, h4, fun j len' hj => ?_⟩, List.length_set, fun H0 h0 he => he.set (by omega) _⟩
      obtain ⟨z, z1, z2⟩ := h5 j len' hj
      refine ⟨z, z1, ?_⟩
      rcases z2 with z2 | ⟨i2, g2, c2, rfl, b2, d2, f2⟩
      · exact .inl z2
      · by_cases hs : i2 = id'
        · subst hs
          have hg : g2 = g' := by
            unfold getC at b b2
            split at b <;> rename_i hh
            · split at b <;> rename_i h6
              · rw [hh] at b2
                simp only at b2
                split at b2 <;> rename_i h7
                · omega
                · cases b2
              · cases b
            · cases b
          subst hg
          rw [b] at b2
          cases b2
          exact .inr ⟨i2, g2, _, rfl, getC_put b, by rw [List.length_set]; exact d2, f2⟩
        · exact .inr ⟨i2, g2, c2, rfl, by rw [getC_other hs]; exact b2, d2, f2⟩
end Go.Proofs.Ytmnlagcmpgilaaa
set_option maxRecDepth 100000
namespace Go.Proofs.Ytmnlagcmpgilaaa
open Go.AM
abbrev k_graph_Reach : Nat := 18
def s_graph_Reach_r0_k : List Nat := [0, 3, 4, 5, 6, 7, 8, 9, 10, 11, 12, 13, 14, 15, 16, 17, 18, 19, 20, 21, 22, 23, 24, 25, 26, 27, 28, 29, 30, 31, 32, 33, 34, 35, 36, 37, 38, 39, 40, 41, 42, 43, 44, 45, 46, 47, 48, 49, 50, 51, 52, 53, 54]
theorem s_graph_Reach_r0_k_kA0 : s_graph_Reach_r0_k.contains 0 = true := by kernel_rfl
theorem s_graph_Reach_r0_k_kA1 : s_graph_Reach_r0_k.contains 1 = false := by kernel_rfl
theorem s_graph_Reach_r0_k_kA2 : s_graph_Reach_r0_k.contains 2 = false := by kernel_rfl
theorem s_graph_Reach_r0_k_kA4 : s_graph_Reach_r0_k.contains 4 = true := by kernel_rfl
def s_graph_Reach_r0t1 : List AOper := [⟨some 4, (.move (.c (.s (.slice none 0 0)))), none⟩]
def s_graph_Reach_r0p0 : List AOper := [⟨some 2, (.box (.t 0)), none⟩]
def s_graph_Reach_r0 : List AOper := s_graph_Reach_r0p0 ++ s_graph_Reach_r0t1
def s_graph_Reach_r0p0_k : List Nat := [0, 3, 4, 5, 6, 7, 8, 9, 10, 11, 12, 13, 14, 15, 16, 17, 18, 19, 20, 21, 22, 23, 24, 25, 26, 27, 28, 29, 30, 31, 32, 33, 34, 35, 36, 37, 38, 39, 40, 41, 42, 43, 44, 45, 46, 47, 48, 49, 50, 51, 52, 53, 54]
theorem s_graph_Reach_r0p0_k_kA0 : s_graph_Reach_r0p0_k.contains 0 = true := by kernel_rfl
theorem s_graph_Reach_r0p0_k_kA1 : s_graph_Reach_r0p0_k.contains 1 = false := by kernel_rfl
theorem s_graph_Reach_r0p0_k_kA2 : s_graph_Reach_r0p0_k.contains 2 = false := by kernel_rfl
theorem s_graph_Reach_r0p0_k_kA4 : s_graph_Reach_r0p0_k.contains 4 = true := by kernel_rfl
theorem s_graph_Reach_r0_x (call : CallF) (it : IterF) (base : Nat) (f : List V) (H : Heap) : evC call it base (.region s_graph_Reach_r0 [] s_graph_Reach_r0_k) f H = thenC call it base (.region s_graph_Reach_r0t1 [] s_graph_Reach_r0_k) (opsC [] s_graph_Reach_r0p0 s_graph_Reach_r0p0_k (evOps call base [⟨some 2, (.box (.t 0)), none⟩] f H)) := (row_op call it base s_graph_Reach_r0p0 s_graph_Reach_r0t1 (kc := s_graph_Reach_r0p0_k) (by kernel_rfl) f H).trans (by rw [row_ops]; rfl)
theorem s_graph_Reach_r0t1_tale (fr : List V) (H : Heap) : evTale (symAll s_graph_Reach_r0t1 s_graph_Reach_r0_k []) s_graph_Reach_r0_k fr H = evTale (some (5, [], [])) s_graph_Reach_r0_k fr H := tale_row (items := [.cc (.s (.slice none 0 0))]) (by kernel_rfl) fr H
theorem s_graph_Reach_r0t1_x (call : CallF) (it : IterF) (base : Nat) (f : List V) (H : Heap) : evC call it base (.region s_graph_Reach_r0t1 [] s_graph_Reach_r0_k) f H = segL H (evTale (symAll s_graph_Reach_r0t1 s_graph_Reach_r0_k []) s_graph_Reach_r0_k f H) (origRow call it base s_graph_Reach_r0t1 s_graph_Reach_r0_k f H) := row_last call it base _ f H
def s_graph_Reach_r1t3 : List AOper := [⟨none, (.store 1 (.t 5) (.t 15)), none⟩]
def s_graph_Reach_r1p2 : List AOper := [⟨some 5, (.alloc [(.s (.slice none 0 0))]), none⟩]
def s_graph_Reach_r1t2 : List AOper := s_graph_Reach_r1p2 ++ s_graph_Reach_r1t3
def s_graph_Reach_r1p1 : List AOper := [⟨some 15, (.mkSl [(.s (.bool false))] 1 1 (.t 14) (.t 14)), none⟩]
def s_graph_Reach_r1t1 : List AOper := s_graph_Reach_r1p1 ++ s_graph_Reach_r1t2
def s_graph_Reach_r1p0 : List AOper := [⟨some 13, (.load false 1 (.t 2)), none⟩, ⟨some 14, (.lenS .s (.t 13)), none⟩]
def s_graph_Reach_r1 : List AOper := s_graph_Reach_r1p0 ++ s_graph_Reach_r1t1
theorem s_graph_Reach_r1p0_tale (fr : List V) (H : Heap) : evTale (symAll s_graph_Reach_r1p0 [13] [14]) [13] fr H = evTale (some (15, [], [(14, (.op (.lenS .s (.t 0)) [(.op (.load false 1 (.t 0)) [(.t 2)])]))])) [13] fr H := tale_row (items := [.sub 0 [0] [], .sub 0 [] []]) (by kernel_rfl) fr H
theorem s_graph_Reach_r1_x (call : CallF) (it : IterF) (base : Nat) (f : List V) (H : Heap) : evC call it base (.region s_graph_Reach_r1 [] [13, 14, 15]) f H = segC call it base s_graph_Reach_r1t1 [13, 14, 15] H (evTale (symAll s_graph_Reach_r1p0 [13] [14]) [13] f H) (origRow call it base s_graph_Reach_r1 [13, 14, 15] f H) := row_seg call it base s_graph_Reach_r1p0 s_graph_Reach_r1t1 (by kernel_rfl) f H
theorem s_graph_Reach_r1t1_x (call : CallF) (it : IterF) (base : Nat) (f : List V) (H : Heap) : evC call it base (.region s_graph_Reach_r1t1 [] [13, 14, 15]) f H = thenC call it base (.region s_graph_Reach_r1t2 [] [13, 14, 15]) (opsC [] s_graph_Reach_r1p1 [14] (evOps call base [⟨some 15, (.mkSl [(.s (.bool false))] 1 1 (.t 14) (.t 14)), none⟩] f H)) := (row_op call it base s_graph_Reach_r1p1 s_graph_Reach_r1t2 (kc := [14]) (by kernel_rfl) f H).trans (by rw [row_ops]; rfl)
theorem s_graph_Reach_r1t2_x (call : CallF) (it : IterF) (base : Nat) (f : List V) (H : Heap) : evC call it base (.region s_graph_Reach_r1t2 [] [13, 14, 15]) f H = thenC call it base (.region s_graph_Reach_r1t3 [] [13, 14, 15]) (opsC [] s_graph_Reach_r1p2 [] (evOps call base [⟨some 5, (.alloc [(.s (.slice none 0 0))]), none⟩] f H)) := (row_op call it base s_graph_Reach_r1p2 s_graph_Reach_r1t3 (kc := []) (by kernel_rfl) f H).trans (by rw [row_ops]; rfl)
theorem s_graph_Reach_r1t3_x (call : CallF) (it : IterF) (base : Nat) (f : List V) (H : Heap) : evC call it base (.region s_graph_Reach_r1t3 [] [13, 14, 15]) f H = opsC [] s_graph_Reach_r1t3 [13, 14, 15] (evOps call base [⟨none, (.store 1 (.t 5) (.t 15)), none⟩] f H) := row_ops call it base _ _ _ f H
def s_graph_Reach_r2 : List AOper := [⟨some 6, (.alloc [(.s (.slice none 0 0))]), none⟩]
theorem s_graph_Reach_r2_x (call : CallF) (it : IterF) (base : Nat) (f : List V) (H : Heap) : evC call it base (.region s_graph_Reach_r2 [] []) f H = opsC [] s_graph_Reach_r2 [] (evOps call base [⟨some 6, (.alloc [(.s (.slice none 0 0))]), none⟩] f H) := row_ops call it base _ _ _ f H
def s_graph_Reach_r3 : List AOper := [
  ⟨some 16, (.mkFn 32 [] [(.t 2), (.t 5), (.t 6)]), none⟩,
  ⟨some 7, (.move (.t 16)), none⟩]
theorem s_graph_Reach_r3_tale (fr : List V) (H : Heap) : evTale (symAll s_graph_Reach_r3 [16] [7]) [16] fr H = evTale (some (17, [], [(7, (.op (.mkFn 32 [] [(.t 0), (.t 1), (.t 2)]) [(.t 2), (.t 5), (.t 6)]))])) [16] fr H := tale_row (items := [.sub 0 [] [], .sub 0 [] []]) (by kernel_rfl) fr H
def s_graph_Reach_r4 : List AOper := [
  ⟨some 17, (.move (.t 1)), none⟩,
  ⟨some 18, (.lenS .s (.t 17)), none⟩,
  ⟨some 19, (.move (.c (.s (.int .i64 0)))), none⟩]
theorem s_graph_Reach_r4_tale (fr : List V) (H : Heap) : evTale (symAll s_graph_Reach_r4 [1] [17, 18, 19]) [1] fr H = evTale (some (20, [], [(17, (.t 1)), (18, (.op (.lenS .s (.t 0)) [(.t 1)])), (19, (.c (.s (.int .i64 0))))])) [1] fr H := tale_row (items := [.tt 1, .sub 1 [] [], .cc (.s (.int .i64 0))]) (by kernel_rfl) fr H
def s_graph_Reach_r5 : List AOper := [
  ⟨some 20, (.bin .lss (.t 19) (.t 18)), none⟩]
theorem s_graph_Reach_r5_tale (fr : List V) (H : Heap) : evTale (symAll s_graph_Reach_r5 [] [20]) [] fr H = evTale (some (21, [], [(20, (.op (.bin .lss (.t 0) (.t 1)) [(.t 19), (.t 18)]))])) [] fr H := tale_row (items := [.sub 0 [] []]) (by kernel_rfl) fr H
def s_graph_Reach_r6 : List AOper := [
  ⟨some 21, (.indexAddr 1 (.t 17) (.t 19)), none⟩,
  ⟨some 22, (.load false 1 (.t 21)), none⟩,
  ⟨some 9, (.move (.t 22)), none⟩]
theorem s_graph_Reach_r6_tale (fr : List V) (H : Heap) : evTale (symAll s_graph_Reach_r6 [20, 21, 22] [9]) [20, 21, 22] fr H = evTale (some (23, [], [(9, (.op (.load false 1 (.t 0)) [(.op (.indexAddr 1 (.t 0) (.t 1)) [(.t 17), (.t 19)])]))])) [20, 21, 22] fr H := tale_row (items := [.sub 0 [0] [], .sub 0 [] [], .sub 0 [] []]) (by kernel_rfl) fr H
def s_graph_Reach_r7t1 : List AOper := [⟨some 25, (.call (.t 23) [(.t 24)]), none⟩]
def s_graph_Reach_r7p0 : List AOper := [⟨some 23, (.move (.t 7)), none⟩, ⟨some 24, (.move (.t 9)), none⟩]
def s_graph_Reach_r7 : List AOper := s_graph_Reach_r7p0 ++ s_graph_Reach_r7t1
theorem s_graph_Reach_r7p0_tale (fr : List V) (H : Heap) : evTale (symAll s_graph_Reach_r7p0 [9] [23, 24]) [9] fr H = evTale (some (25, [], [(23, (.t 7)), (24, (.t 9))])) [9] fr H := tale_row (items := [.tt 7, .tt 9]) (by kernel_rfl) fr H
theorem s_graph_Reach_r7_x (call : CallF) (it : IterF) (base : Nat) (f : List V) (H : Heap) : evC call it base (.region s_graph_Reach_r7 [] [9, 23, 24, 25]) f H = segC call it base s_graph_Reach_r7t1 [9, 23, 24, 25] H (evTale (symAll s_graph_Reach_r7p0 [9] [23, 24]) [9] f H) (origRow call it base s_graph_Reach_r7 [9, 23, 24, 25] f H) := row_seg call it base s_graph_Reach_r7p0 s_graph_Reach_r7t1 (by kernel_rfl) f H
theorem s_graph_Reach_r7t1_x (call : CallF) (it : IterF) (base : Nat) (f : List V) (H : Heap) : evC call it base (.region s_graph_Reach_r7t1 [] [9, 23, 24, 25]) f H = opsC [] s_graph_Reach_r7t1 [9, 23, 24, 25] (evOps call base [⟨some 25, (.call (.t 23) [(.t 24)]), none⟩] f H) := row_ops call it base _ _ _ f H
def s_graph_Reach_r8 : List AOper := [
  ⟨some 26, (.bin .add (.t 19) (.c (.s (.int .i64 1)))), none⟩,
  ⟨some 19, (.move (.t 26)), none⟩]
theorem s_graph_Reach_r8_tale (fr : List V) (H : Heap) : evTale (symAll s_graph_Reach_r8 [26] [19]) [26] fr H = evTale (some (27, [], [(19, (.op (.bin .add (.t 0) (.c (.s (.int .i64 1)))) [(.t 19), (.c (.s (.int .i64 1)))]))])) [26] fr H := tale_row (items := [.sub 0 [] [], .sub 0 [] []]) (by kernel_rfl) fr H
def s_graph_Reach_l0_b : ACode :=
  (.seq (.regionE s_graph_Reach_r5 [] [20])
  (.seq (.cond (.t 20)
  .skip
  (.exit 0))
  (.seq (.block 1
  (.seq (.regionE s_graph_Reach_r6 [20, 21, 22] [9])
  (.region s_graph_Reach_r7 [] [9, 23, 24, 25])))
  (.regionE s_graph_Reach_r8 [26] [19]))))
def s_graph_Reach_l0 : ACode := s_graph_Reach_l0_b
theorem s_graph_Reach_l0_ev (call : CallF) (it : IterF) (base : Nat) (fr : List V) (H : Heap) : evC call it base s_graph_Reach_l0 fr H = evC call it base s_graph_Reach_l0_b fr H := rfl
def s_graph_Reach_r9 : List AOper := [
  ⟨some 27, (.load false 1 (.t 6)), none⟩,
  ⟨some 28, (.lenS .s (.t 27)), none⟩,
  ⟨some 29, (.bin .gtr (.t 28) (.c (.s (.int .i64 0)))), none⟩]
theorem s_graph_Reach_r9_tale (fr : List V) (H : Heap) : evTale (symAll s_graph_Reach_r9 [27, 28] [29]) [27, 28] fr H = evTale (some (30, [], [(29, (.op (.bin .gtr (.t 0) (.c (.s (.int .i64 0)))) [(.op (.lenS .s (.t 0)) [(.op (.load false 1 (.t 0)) [(.t 6)])]), (.c (.s (.int .i64 0)))]))])) [27, 28] fr H := tale_row (items := [.sub 0 [0, 0] [], .sub 0 [0] [], .sub 0 [] []]) (by kernel_rfl) fr H
def s_graph_Reach_r10 : List AOper := [
  ⟨some 30, (.load false 1 (.t 6)), none⟩,
  ⟨some 31, (.load false 1 (.t 6)), none⟩,
  ⟨some 32, (.lenS .s (.t 31)), none⟩,
  ⟨some 33, (.bin .sub (.t 32) (.c (.s (.int .i64 1)))), none⟩,
  ⟨some 34, (.indexAddr 1 (.t 30) (.t 33)), none⟩,
  ⟨some 35, (.load false 1 (.t 34)), none⟩,
  ⟨some 10, (.move (.t 35)), none⟩]
theorem s_graph_Reach_r10_tale (fr : List V) (H : Heap) : evTale (symAll s_graph_Reach_r10 [29, 30, 31, 32, 33, 34, 35] [10]) [29, 30, 31, 32, 33, 34, 35] fr H = evTale (some (36, [], [(10, (.op (.load false 1 (.t 0)) [(.op (.indexAddr 1 (.t 0) (.t 1)) [(.op (.load false 1 (.t 0)) [(.t 6)]), (.op (.bin .sub (.t 0) (.c (.s (.int .i64 1)))) [(.op (.lenS .s (.t 0)) [(.op (.load false 1 (.t 0)) [(.t 6)])]), (.c (.s (.int .i64 1)))])])]))])) [29, 30, 31, 32, 33, 34, 35] fr H := tale_row (items := [.sub 0 [0, 0] [], .sub 0 [0, 0] [], .sub 0 [0, 1, 0] [], .sub 0 [0, 1] [], .sub 0 [0] [], .sub 0 [] [], .sub 0 [] []]) (by kernel_rfl) fr H
def s_graph_Reach_r11t1 : List AOper := [⟨none, (.store 1 (.t 6) (.t 40)), none⟩]
def s_graph_Reach_r11p0 : List AOper := [⟨some 36, (.load false 1 (.t 6)), none⟩, ⟨some 37, (.load false 1 (.t 6)), none⟩, ⟨some 38, (.lenS .s (.t 37)), none⟩, ⟨some 39, (.bin .sub (.t 38) (.c (.s (.int .i64 1)))), none⟩, ⟨some 40, (.subSl 1 (.t 36) none (some (.t 39)) none), none⟩]
def s_graph_Reach_r11 : List AOper := s_graph_Reach_r11p0 ++ s_graph_Reach_r11t1
theorem s_graph_Reach_r11p0_tale (fr : List V) (H : Heap) : evTale (symAll s_graph_Reach_r11p0 [36, 37, 38, 39] [40]) [36, 37, 38, 39] fr H = evTale (some (41, [], [(40, (.op (.subSl 1 (.t 0) none (some (.t 1)) none) [(.op (.load false 1 (.t 0)) [(.t 6)]), (.op (.bin .sub (.t 0) (.c (.s (.int .i64 1)))) [(.op (.lenS .s (.t 0)) [(.op (.load false 1 (.t 0)) [(.t 6)])]), (.c (.s (.int .i64 1)))])]))])) [36, 37, 38, 39] fr H := tale_row (items := [.sub 0 [0] [], .sub 0 [0] [], .sub 0 [1, 0] [], .sub 0 [1] [], .sub 0 [] []]) (by kernel_rfl) fr H
theorem s_graph_Reach_r11_x (call : CallF) (it : IterF) (base : Nat) (f : List V) (H : Heap) : evC call it base (.region s_graph_Reach_r11 [] [36, 37, 38, 39, 40]) f H = segC call it base s_graph_Reach_r11t1 [36, 37, 38, 39, 40] H (evTale (symAll s_graph_Reach_r11p0 [36, 37, 38, 39] [40]) [36, 37, 38, 39] f H) (origRow call it base s_graph_Reach_r11 [36, 37, 38, 39, 40] f H) := row_seg call it base s_graph_Reach_r11p0 s_graph_Reach_r11t1 (by kernel_rfl) f H
theorem s_graph_Reach_r11t1_x (call : CallF) (it : IterF) (base : Nat) (f : List V) (H : Heap) : evC call it base (.region s_graph_Reach_r11t1 [] [36, 37, 38, 39, 40]) f H = opsC [] s_graph_Reach_r11t1 [36, 37, 38, 39, 40] (evOps call base [⟨none, (.store 1 (.t 6) (.t 40)), none⟩] f H) := row_ops call it base _ _ _ f H
def s_graph_Reach_r12 : List AOper := [
  ⟨some 41, (.load false 1 (.t 2)), none⟩,
  ⟨some 42, (.move (.t 10)), none⟩,
  ⟨some 43, (.indexAddr 1 (.t 41) (.t 42)), none⟩,
  ⟨some 44, (.load false 1 (.t 43)), none⟩,
  ⟨some 45, (.lenS .s (.t 44)), none⟩,
  ⟨some 46, (.move (.c (.s (.int .i64 0)))), none⟩]
theorem s_graph_Reach_r12_tale (fr : List V) (H : Heap) : evTale (symAll s_graph_Reach_r12 [10, 41, 42, 43] [44, 45, 46]) [10, 41, 42, 43] fr H = evTale (some (47, [], [(44, (.op (.load false 1 (.t 0)) [(.op (.indexAddr 1 (.t 0) (.t 1)) [(.op (.load false 1 (.t 0)) [(.t 2)]), (.t 10)])])), (45, (.op (.lenS .s (.t 0)) [(.op (.load false 1 (.t 0)) [(.op (.indexAddr 1 (.t 0) (.t 1)) [(.op (.load false 1 (.t 0)) [(.t 2)]), (.t 10)])])])), (46, (.c (.s (.int .i64 0))))])) [10, 41, 42, 43] fr H := tale_row (items := [.sub 0 [0, 0] [], .tt 10, .sub 0 [0] [], .sub 0 [] [], .sub 1 [] [], .cc (.s (.int .i64 0))]) (by kernel_rfl) fr H
def s_graph_Reach_r13 : List AOper := [
  ⟨some 47, (.bin .lss (.t 46) (.t 45)), none⟩]
theorem s_graph_Reach_r13_tale (fr : List V) (H : Heap) : evTale (symAll s_graph_Reach_r13 [] [47]) [] fr H = evTale (some (48, [], [(47, (.op (.bin .lss (.t 0) (.t 1)) [(.t 46), (.t 45)]))])) [] fr H := tale_row (items := [.sub 0 [] []]) (by kernel_rfl) fr H
def s_graph_Reach_r14 : List AOper := [
  ⟨some 48, (.indexAddr 1 (.t 44) (.t 46)), none⟩,
  ⟨some 49, (.load false 1 (.t 48)), none⟩,
  ⟨some 12, (.move (.t 49)), none⟩]
theorem s_graph_Reach_r14_tale (fr : List V) (H : Heap) : evTale (symAll s_graph_Reach_r14 [47, 48, 49] [12]) [47, 48, 49] fr H = evTale (some (50, [], [(12, (.op (.load false 1 (.t 0)) [(.op (.indexAddr 1 (.t 0) (.t 1)) [(.t 44), (.t 46)])]))])) [47, 48, 49] fr H := tale_row (items := [.sub 0 [0] [], .sub 0 [] [], .sub 0 [] []]) (by kernel_rfl) fr H
def s_graph_Reach_r15t1 : List AOper := [⟨some 52, (.call (.t 50) [(.t 51)]), none⟩]
def s_graph_Reach_r15p0 : List AOper := [⟨some 50, (.move (.t 7)), none⟩, ⟨some 51, (.move (.t 12)), none⟩]
def s_graph_Reach_r15 : List AOper := s_graph_Reach_r15p0 ++ s_graph_Reach_r15t1
theorem s_graph_Reach_r15p0_tale (fr : List V) (H : Heap) : evTale (symAll s_graph_Reach_r15p0 [12] [50, 51]) [12] fr H = evTale (some (52, [], [(50, (.t 7)), (51, (.t 12))])) [12] fr H := tale_row (items := [.tt 7, .tt 12]) (by kernel_rfl) fr H
theorem s_graph_Reach_r15_x (call : CallF) (it : IterF) (base : Nat) (f : List V) (H : Heap) : evC call it base (.region s_graph_Reach_r15 [] [12, 50, 51, 52]) f H = segC call it base s_graph_Reach_r15t1 [12, 50, 51, 52] H (evTale (symAll s_graph_Reach_r15p0 [12] [50, 51]) [12] f H) (origRow call it base s_graph_Reach_r15 [12, 50, 51, 52] f H) := row_seg call it base s_graph_Reach_r15p0 s_graph_Reach_r15t1 (by kernel_rfl) f H
theorem s_graph_Reach_r15t1_x (call : CallF) (it : IterF) (base : Nat) (f : List V) (H : Heap) : evC call it base (.region s_graph_Reach_r15t1 [] [12, 50, 51, 52]) f H = opsC [] s_graph_Reach_r15t1 [12, 50, 51, 52] (evOps call base [⟨some 52, (.call (.t 50) [(.t 51)]), none⟩] f H) := row_ops call it base _ _ _ f H
def s_graph_Reach_r16 : List AOper := [
  ⟨some 53, (.bin .add (.t 46) (.c (.s (.int .i64 1)))), none⟩,
  ⟨some 46, (.move (.t 53)), none⟩]
theorem s_graph_Reach_r16_tale (fr : List V) (H : Heap) : evTale (symAll s_graph_Reach_r16 [53] [46]) [53] fr H = evTale (some (54, [], [(46, (.op (.bin .add (.t 0) (.c (.s (.int .i64 1)))) [(.t 46), (.c (.s (.int .i64 1)))]))])) [53] fr H := tale_row (items := [.sub 0 [] [], .sub 0 [] []]) (by kernel_rfl) fr H
def s_graph_Reach_l1_b : ACode :=
  (.seq (.regionE s_graph_Reach_r13 [] [47])
  (.seq (.cond (.t 47)
  .skip
  (.exit 4))
  (.seq (.block 5
  (.seq (.regionE s_graph_Reach_r14 [47, 48, 49] [12])
  (.region s_graph_Reach_r15 [] [12, 50, 51, 52])))
  (.regionE s_graph_Reach_r16 [53] [46]))))
def s_graph_Reach_l1 : ACode := s_graph_Reach_l1_b
theorem s_graph_Reach_l1_ev (call : CallF) (it : IterF) (base : Nat) (fr : List V) (H : Heap) : evC call it base s_graph_Reach_l1 fr H = evC call it base s_graph_Reach_l1_b fr H := rfl
def s_graph_Reach_l2_b : ACode :=
  (.seq (.seq (.regionE s_graph_Reach_r9 [27, 28] [29])
  (.cond (.t 29)
  .skip
  (.exit 2)))
  (.block 3
  (.seq (.regionE s_graph_Reach_r10 [29, 30, 31, 32, 33, 34, 35] [10])
  (.seq (.region s_graph_Reach_r11 [] [36, 37, 38, 39, 40])
  (.seq (.regionE s_graph_Reach_r12 [10, 41, 42, 43] [44, 45, 46])
  (.block 4
  (.loop [] s_graph_Reach_l1)))))))
def s_graph_Reach_l2 : ACode := s_graph_Reach_l2_b
theorem s_graph_Reach_l2_ev (call : CallF) (it : IterF) (base : Nat) (fr : List V) (H : Heap) : evC call it base s_graph_Reach_l2 fr H = evC call it base s_graph_Reach_l2_b fr H := rfl
def s_graph_Reach_r17 : List AOper := [
  ⟨some 54, (.load false 1 (.t 5)), none⟩,
  ⟨some 4, (.move (.t 54)), none⟩]
theorem s_graph_Reach_r17_tale (fr : List V) (H : Heap) : evTale (symAll s_graph_Reach_r17 [2, 5, 6, 7, 29, 54] [4]) [2, 5, 6, 7, 29, 54] fr H = evTale (some (55, [], [(4, (.op (.load false 1 (.t 0)) [(.t 5)]))])) [2, 5, 6, 7, 29, 54] fr H := tale_row (items := [.sub 0 [] [], .sub 0 [] []]) (by kernel_rfl) fr H
def s_graph_Reach : ACFun := { ntmps := 55, results := [(.tmp 4)], body :=
  (.seq (.region s_graph_Reach_r0 [] s_graph_Reach_r0_k)
  (.seq (.region s_graph_Reach_r1 [] [13, 14, 15])
  (.seq (.region s_graph_Reach_r2 [] [])
  (.seq (.regionE s_graph_Reach_r3 [16] [7])
  (.seq (.seq (.regionE s_graph_Reach_r4 [1] [17, 18, 19])
  (.block 0
  (.loop [] s_graph_Reach_l0)))
  (.seq (.block 2
  (.loop [17, 18, 19, 20, 44, 45, 46, 47] s_graph_Reach_l2))
  (.seq (.regionE s_graph_Reach_r17 [2, 5, 6, 7, 29, 54] [4])
  .ret))))))) }
theorem s_graph_Reach_first : firstOk (List.range' 2 (s_graph_Reach.ntmps - 2)) s_graph_Reach.body = true := by kernel_rfl
abbrev k_graph_Leads : Nat := 20
def s_graph_Leads_r0_k : List Nat := [3, 4, 5, 6, 7, 8, 9, 10, 11, 12, 13, 14, 15, 16, 17, 18, 19, 20, 21, 22, 23]
theorem s_graph_Leads_r0_kT : killV s_graph_Leads_r0_k (startV 24 [] 3) = [] := by kernel_rfl
theorem s_graph_Leads_r0_kA0 : s_graph_Leads_r0_k.contains 0 = false := by kernel_rfl
theorem s_graph_Leads_r0_kA1 : s_graph_Leads_r0_k.contains 1 = false := by kernel_rfl
theorem s_graph_Leads_r0_kA2 : s_graph_Leads_r0_k.contains 2 = false := by kernel_rfl
def s_graph_Leads_r0 : List AOper := [
  ⟨some 6, (.move (.c (.s (.bool false)))), none⟩]
theorem s_graph_Leads_r0_tale (fr : List V) (H : Heap) : evTale (symAll s_graph_Leads_r0 s_graph_Leads_r0_k []) s_graph_Leads_r0_k fr H = evTale (some (7, [], [])) s_graph_Leads_r0_k fr H := tale_row (items := [.cc (.s (.bool false))]) (by kernel_rfl) fr H
def s_graph_Leads_r1t5 : List AOper := [⟨some 20, (.move (.t 2)), some (15, true)⟩, ⟨some 21, (.indexAddr 1 (.t 19) (.t 20)), some (15, true)⟩, ⟨some 22, (.load false 1 (.t 21)), some (15, true)⟩, ⟨some 23, (.pick (.t 15) (.t 22) (.c (.s (.bool false)))), none⟩, ⟨some 6, (.move (.t 23)), none⟩]
def s_graph_Leads_r1p4 : List AOper := [⟨some 19, (.call (.c (.fn 18 [] [])) [(.t 16), (.t 18)]), some (15, true)⟩]
def s_graph_Leads_r1t4 : List AOper := s_graph_Leads_r1p4 ++ s_graph_Leads_r1t5
def s_graph_Leads_r1p3 : List AOper := [⟨some 18, (.buildSl 1 1 [(.s (.int .i64 0))] [(0, (.t 17))]), some (15, true)⟩]
def s_graph_Leads_r1t3 : List AOper := s_graph_Leads_r1p3 ++ s_graph_Leads_r1t4
def s_graph_Leads_r1p2 : List AOper := [⟨some 17, (.move (.t 1)), some (15, true)⟩]
def s_graph_Leads_r1t2 : List AOper := s_graph_Leads_r1p2 ++ s_graph_Leads_r1t3
def s_graph_Leads_r1p1 : List AOper := [⟨some 16, (.move (.t 0)), some (15, true)⟩]
def s_graph_Leads_r1t1 : List AOper := s_graph_Leads_r1p1 ++ s_graph_Leads_r1t2
def s_graph_Leads_r1p0 : List AOper := [⟨some 7, (.move (.t 2)), none⟩, ⟨some 8, (.bin .geq (.t 7) (.c (.s (.int .i64 0)))), none⟩, ⟨some 9, (.move (.t 8)), none⟩, ⟨some 10, (.move (.t 2)), some (9, true)⟩, ⟨some 11, (.move (.t 0)), some (9, true)⟩, ⟨some 12, (.lenS .s (.t 11)), some (9, true)⟩, ⟨some 13, (.bin .lss (.t 10) (.t 12)), some (9, true)⟩, ⟨some 14, (.pick (.t 9) (.t 13) (.c (.s (.bool false)))), none⟩, ⟨some 15, (.move (.t 14)), none⟩]
def s_graph_Leads_r1 : List AOper := s_graph_Leads_r1p0 ++ s_graph_Leads_r1t1
theorem s_graph_Leads_r1p0_tale (fr : List V) (H : Heap) : evTale (symAll s_graph_Leads_r1p0 [7, 8, 9, 10, 11, 12, 13, 14] [15]) [7, 8, 9, 10, 11, 12, 13, 14] fr H = evTale (some (16, [], [(15, (.pick (.op (.bin .geq (.t 0) (.c (.s (.int .i64 0)))) [(.t 2), (.c (.s (.int .i64 0)))]) (.op (.bin .lss (.t 0) (.t 1)) [(.t 2), (.op (.lenS .s (.t 0)) [(.t 0)])]) (.c (.s (.bool false)))))])) [7, 8, 9, 10, 11, 12, 13, 14] fr H := tale_row (items := [.tt 2, .sub 0 [0] [], .sub 0 [0] [], .sub 0 [1, 0] [9], .sub 0 [1, 1, 0] [9], .sub 0 [1, 1] [9], .sub 0 [1] [9], .sub 0 [] [], .sub 0 [] []]) (by kernel_rfl) fr H
theorem s_graph_Leads_r1_x (call : CallF) (it : IterF) (base : Nat) (f : List V) (H : Heap) : evC call it base (.region s_graph_Leads_r1 [] [0, 1, 2, 7, 8, 9, 10, 11, 12, 13, 14, 15, 16, 17, 18, 19, 20, 21, 22, 23]) f H = segC call it base s_graph_Leads_r1t1 [0, 1, 2, 7, 8, 9, 10, 11, 12, 13, 14, 15, 16, 17, 18, 19, 20, 21, 22, 23] H (evTale (symAll s_graph_Leads_r1p0 [7, 8, 9, 10, 11, 12, 13, 14] [15]) [7, 8, 9, 10, 11, 12, 13, 14] f H) (origRow call it base s_graph_Leads_r1 [0, 1, 2, 7, 8, 9, 10, 11, 12, 13, 14, 15, 16, 17, 18, 19, 20, 21, 22, 23] f H) := row_seg call it base s_graph_Leads_r1p0 s_graph_Leads_r1t1 (by kernel_rfl) f H
theorem s_graph_Leads_r1t1_x (call : CallF) (it : IterF) (base : Nat) (f : List V) (H : Heap) : evC call it base (.region s_graph_Leads_r1t1 [] [0, 1, 2, 7, 8, 9, 10, 11, 12, 13, 14, 15, 16, 17, 18, 19, 20, 21, 22, 23]) f H = thenC call it base (.region s_graph_Leads_r1t2 [] [0, 1, 2, 7, 8, 9, 10, 11, 12, 13, 14, 15, 16, 17, 18, 19, 20, 21, 22, 23]) (opsC [] s_graph_Leads_r1p1 [0] (evOps call base [⟨some 16, (.move (.t 0)), some (15, true)⟩] f H)) := (row_op call it base s_graph_Leads_r1p1 s_graph_Leads_r1t2 (kc := [0]) (by kernel_rfl) f H).trans (by rw [row_ops]; rfl)
theorem s_graph_Leads_r1t2_x (call : CallF) (it : IterF) (base : Nat) (f : List V) (H : Heap) : evC call it base (.region s_graph_Leads_r1t2 [] [0, 1, 2, 7, 8, 9, 10, 11, 12, 13, 14, 15, 16, 17, 18, 19, 20, 21, 22, 23]) f H = thenC call it base (.region s_graph_Leads_r1t3 [] [0, 1, 2, 7, 8, 9, 10, 11, 12, 13, 14, 15, 16, 17, 18, 19, 20, 21, 22, 23]) (opsC [] s_graph_Leads_r1p2 [1] (evOps call base [⟨some 17, (.move (.t 1)), some (15, true)⟩] f H)) := (row_op call it base s_graph_Leads_r1p2 s_graph_Leads_r1t3 (kc := [1]) (by kernel_rfl) f H).trans (by rw [row_ops]; rfl)
theorem s_graph_Leads_r1t3_x (call : CallF) (it : IterF) (base : Nat) (f : List V) (H : Heap) : evC call it base (.region s_graph_Leads_r1t3 [] [0, 1, 2, 7, 8, 9, 10, 11, 12, 13, 14, 15, 16, 17, 18, 19, 20, 21, 22, 23]) f H = thenC call it base (.region s_graph_Leads_r1t4 [] [0, 1, 2, 7, 8, 9, 10, 11, 12, 13, 14, 15, 16, 17, 18, 19, 20, 21, 22, 23]) (opsC [] s_graph_Leads_r1p3 [17] (evOps call base [⟨some 18, (.buildSl 1 1 [(.s (.int .i64 0))] [(0, (.t 17))]), some (15, true)⟩] f H)) := (row_op call it base s_graph_Leads_r1p3 s_graph_Leads_r1t4 (kc := [17]) (by kernel_rfl) f H).trans (by rw [row_ops]; rfl)
theorem s_graph_Leads_r1t4_x (call : CallF) (it : IterF) (base : Nat) (f : List V) (H : Heap) : evC call it base (.region s_graph_Leads_r1t4 [] [0, 1, 2, 7, 8, 9, 10, 11, 12, 13, 14, 15, 16, 17, 18, 19, 20, 21, 22, 23]) f H = thenC call it base (.region s_graph_Leads_r1t5 [] [0, 1, 2, 7, 8, 9, 10, 11, 12, 13, 14, 15, 16, 17, 18, 19, 20, 21, 22, 23]) (opsC [] s_graph_Leads_r1p4 [16, 18] (evOps call base [⟨some 19, (.call (.c (.fn 18 [] [])) [(.t 16), (.t 18)]), some (15, true)⟩] f H)) := (row_op call it base s_graph_Leads_r1p4 s_graph_Leads_r1t5 (kc := [16, 18]) (by kernel_rfl) f H).trans (by rw [row_ops]; rfl)
theorem s_graph_Leads_r1t5_tale (fr : List V) (H : Heap) : evTale (symAll s_graph_Leads_r1t5 [0, 1, 2, 7, 8, 9, 10, 11, 12, 13, 14, 15, 16, 17, 18, 19, 20, 21, 22, 23] [6]) [0, 1, 2, 7, 8, 9, 10, 11, 12, 13, 14, 15, 16, 17, 18, 19, 20, 21, 22, 23] fr H = evTale (some (24, [], [(6, (.pick (.t 15) (.op (.load false 1 (.t 0)) [(.op (.indexAddr 1 (.t 0) (.t 1)) [(.t 19), (.t 2)])]) (.c (.s (.bool false)))))])) [0, 1, 2, 7, 8, 9, 10, 11, 12, 13, 14, 15, 16, 17, 18, 19, 20, 21, 22, 23] fr H := tale_row (items := [.sub 0 [1, 0, 1] [15], .sub 0 [1, 0] [15], .sub 0 [1] [15], .sub 0 [] [], .sub 0 [] []]) (by kernel_rfl) fr H
theorem s_graph_Leads_r1t5_x (call : CallF) (it : IterF) (base : Nat) (f : List V) (H : Heap) : evC call it base (.region s_graph_Leads_r1t5 [] [0, 1, 2, 7, 8, 9, 10, 11, 12, 13, 14, 15, 16, 17, 18, 19, 20, 21, 22, 23]) f H = segL H (evTale (symAll s_graph_Leads_r1t5 [0, 1, 2, 7, 8, 9, 10, 11, 12, 13, 14, 15, 16, 17, 18, 19, 20, 21, 22, 23] [6]) [0, 1, 2, 7, 8, 9, 10, 11, 12, 13, 14, 15, 16, 17, 18, 19, 20, 21, 22, 23] f H) (origRow call it base s_graph_Leads_r1t5 [0, 1, 2, 7, 8, 9, 10, 11, 12, 13, 14, 15, 16, 17, 18, 19, 20, 21, 22, 23] f H) := row_last call it base _ f H
def s_graph_Leads : ACFun := { ntmps := 24, results := [(.tmp 6)], body :=
  (.seq (.regionE s_graph_Leads_r0 s_graph_Leads_r0_k [])
  (.seq (.region s_graph_Leads_r1 [] [0, 1, 2, 7, 8, 9, 10, 11, 12, 13, 14, 15, 16, 17, 18, 19, 20, 21, 22, 23])
  .ret)) }
abbrev k_graph_Reach_1 : Nat := 32
def s_graph_Reach_1_r0_k : List Nat := [1, 4, 5, 6, 7, 8, 9, 10, 11, 12, 13, 14, 15, 16, 17, 18, 20, 21, 22, 23, 24, 25, 26]
theorem s_graph_Reach_1_r0_kT : killV s_graph_Reach_1_r0_k (startV 27 [] 4) = [(19, und)] := by kernel_rfl
theorem s_graph_Reach_1_r0_kA0 : s_graph_Reach_1_r0_k.contains 0 = false := by kernel_rfl
theorem s_graph_Reach_1_r0_kA1 : s_graph_Reach_1_r0_k.contains 1 = true := by kernel_rfl
theorem s_graph_Reach_1_r0_kA2 : s_graph_Reach_1_r0_k.contains 2 = false := by kernel_rfl
theorem s_graph_Reach_1_r0_kA3 : s_graph_Reach_1_r0_k.contains 3 = false := by kernel_rfl
def s_graph_Reach_1_r0 : List AOper := [
  ⟨some 5, (.move (.t 0)), none⟩,
  ⟨some 6, (.bin .geq (.t 5) (.c (.s (.int .i64 0)))), none⟩,
  ⟨some 7, (.move (.t 6)), none⟩,
  ⟨some 8, (.move (.t 0)), some (7, true)⟩,
  ⟨some 9, (.load false 1 (.t 1)), some (7, true)⟩,
  ⟨some 10, (.lenS .s (.t 9)), some (7, true)⟩,
  ⟨some 11, (.bin .lss (.t 8) (.t 10)), some (7, true)⟩,
  ⟨some 12, (.pick (.t 7) (.t 11) (.c (.s (.bool false)))), none⟩,
  ⟨some 13, (.move (.t 12)), none⟩,
  ⟨some 14, (.load false 1 (.t 2)), some (13, true)⟩,
  ⟨some 15, (.move (.t 0)), some (13, true)⟩,
  ⟨some 16, (.indexAddr 1 (.t 14) (.t 15)), some (13, true)⟩,
  ⟨some 17, (.load false 1 (.t 16)), some (13, true)⟩,
  ⟨some 18, (.un .not (.t 17)), some (13, true)⟩,
  ⟨some 19, (.pick (.t 13) (.t 18) (.c (.s (.bool false)))), none⟩]
theorem s_graph_Reach_1_r0_tale (fr : List V) (H : Heap) : evTale (symAll s_graph_Reach_1_r0 s_graph_Reach_1_r0_k [19]) s_graph_Reach_1_r0_k fr H = evTale (some (20, [], [(19, (.pick (.pick (.op (.bin .geq (.t 0) (.c (.s (.int .i64 0)))) [(.t 0), (.c (.s (.int .i64 0)))]) (.op (.bin .lss (.t 0) (.t 1)) [(.t 0), (.op (.lenS .s (.t 0)) [(.op (.load false 1 (.t 0)) [(.t 1)])])]) (.c (.s (.bool false)))) (.op (.un .not (.t 0)) [(.op (.load false 1 (.t 0)) [(.op (.indexAddr 1 (.t 0) (.t 1)) [(.op (.load false 1 (.t 0)) [(.t 2)]), (.t 0)])])]) (.c (.s (.bool false)))))])) s_graph_Reach_1_r0_k fr H := tale_row (items := [.tt 0, .sub 0 [0, 0] [], .sub 0 [0, 0] [], .sub 0 [0, 1, 0] [7], .sub 0 [0, 1, 1, 0] [7], .sub 0 [0, 1, 1] [7], .sub 0 [0, 1] [7], .sub 0 [0] [], .sub 0 [0] [], .sub 0 [1, 0, 0, 0] [13], .sub 0 [1, 0, 0, 1] [13], .sub 0 [1, 0, 0] [13], .sub 0 [1, 0] [13], .sub 0 [1] [13], .sub 0 [] []]) (by kernel_rfl) fr H
def s_graph_Reach_1_r1t1 : List AOper := [⟨none, (.store 1 (.t 22) (.c (.s (.bool true)))), none⟩]
def s_graph_Reach_1_r1p0 : List AOper := [⟨some 20, (.load false 1 (.t 2)), none⟩, ⟨some 21, (.move (.t 0)), none⟩, ⟨some 22, (.indexAddr 1 (.t 20) (.t 21)), none⟩]
def s_graph_Reach_1_r1 : List AOper := s_graph_Reach_1_r1p0 ++ s_graph_Reach_1_r1t1
theorem s_graph_Reach_1_r1p0_tale (fr : List V) (H : Heap) : evTale (symAll s_graph_Reach_1_r1p0 [2, 19, 20, 21] [22]) [2, 19, 20, 21] fr H = evTale (some (23, [], [(22, (.op (.indexAddr 1 (.t 0) (.t 1)) [(.op (.load false 1 (.t 0)) [(.t 2)]), (.t 0)]))])) [2, 19, 20, 21] fr H := tale_row (items := [.sub 0 [0] [], .tt 0, .sub 0 [] []]) (by kernel_rfl) fr H
theorem s_graph_Reach_1_r1_x (call : CallF) (it : IterF) (base : Nat) (f : List V) (H : Heap) : evC call it base (.region s_graph_Reach_1_r1 [] [2, 19, 20, 21, 22]) f H = segC call it base s_graph_Reach_1_r1t1 [2, 19, 20, 21, 22] H (evTale (symAll s_graph_Reach_1_r1p0 [2, 19, 20, 21] [22]) [2, 19, 20, 21] f H) (origRow call it base s_graph_Reach_1_r1 [2, 19, 20, 21, 22] f H) := row_seg call it base s_graph_Reach_1_r1p0 s_graph_Reach_1_r1t1 (by kernel_rfl) f H
theorem s_graph_Reach_1_r1t1_x (call : CallF) (it : IterF) (base : Nat) (f : List V) (H : Heap) : evC call it base (.region s_graph_Reach_1_r1t1 [] [2, 19, 20, 21, 22]) f H = opsC [] s_graph_Reach_1_r1t1 [2, 19, 20, 21, 22] (evOps call base [⟨none, (.store 1 (.t 22) (.c (.s (.bool true)))), none⟩] f H) := row_ops call it base _ _ _ f H
def s_graph_Reach_1_r2t3 : List AOper := [⟨none, (.store 1 (.t 3) (.t 26)), none⟩]
def s_graph_Reach_1_r2p2 : List AOper := [⟨some 26, (.append 1 8 (.t 23) (.t 25)), none⟩]
def s_graph_Reach_1_r2t2 : List AOper := s_graph_Reach_1_r2p2 ++ s_graph_Reach_1_r2t3
def s_graph_Reach_1_r2p1 : List AOper := [⟨some 25, (.buildSl 1 1 [(.s (.int .i64 0))] [(0, (.t 24))]), none⟩]
def s_graph_Reach_1_r2t1 : List AOper := s_graph_Reach_1_r2p1 ++ s_graph_Reach_1_r2t2
def s_graph_Reach_1_r2p0 : List AOper := [⟨some 23, (.load false 1 (.t 3)), none⟩, ⟨some 24, (.move (.t 0)), none⟩]
def s_graph_Reach_1_r2 : List AOper := s_graph_Reach_1_r2p0 ++ s_graph_Reach_1_r2t1
theorem s_graph_Reach_1_r2p0_tale (fr : List V) (H : Heap) : evTale (symAll s_graph_Reach_1_r2p0 [0] [23, 24]) [0] fr H = evTale (some (25, [], [(23, (.op (.load false 1 (.t 0)) [(.t 3)])), (24, (.t 0))])) [0] fr H := tale_row (items := [.sub 0 [] [], .tt 0]) (by kernel_rfl) fr H
theorem s_graph_Reach_1_r2_x (call : CallF) (it : IterF) (base : Nat) (f : List V) (H : Heap) : evC call it base (.region s_graph_Reach_1_r2 [] [0, 3, 23, 24, 25, 26]) f H = segC call it base s_graph_Reach_1_r2t1 [0, 3, 23, 24, 25, 26] H (evTale (symAll s_graph_Reach_1_r2p0 [0] [23, 24]) [0] f H) (origRow call it base s_graph_Reach_1_r2 [0, 3, 23, 24, 25, 26] f H) := row_seg call it base s_graph_Reach_1_r2p0 s_graph_Reach_1_r2t1 (by kernel_rfl) f H
theorem s_graph_Reach_1_r2t1_x (call : CallF) (it : IterF) (base : Nat) (f : List V) (H : Heap) : evC call it base (.region s_graph_Reach_1_r2t1 [] [0, 3, 23, 24, 25, 26]) f H = thenC call it base (.region s_graph_Reach_1_r2t2 [] [0, 3, 23, 24, 25, 26]) (opsC [] s_graph_Reach_1_r2p1 [24] (evOps call base [⟨some 25, (.buildSl 1 1 [(.s (.int .i64 0))] [(0, (.t 24))]), none⟩] f H)) := (row_op call it base s_graph_Reach_1_r2p1 s_graph_Reach_1_r2t2 (kc := [24]) (by kernel_rfl) f H).trans (by rw [row_ops]; rfl)
theorem s_graph_Reach_1_r2t2_x (call : CallF) (it : IterF) (base : Nat) (f : List V) (H : Heap) : evC call it base (.region s_graph_Reach_1_r2t2 [] [0, 3, 23, 24, 25, 26]) f H = thenC call it base (.region s_graph_Reach_1_r2t3 [] [0, 3, 23, 24, 25, 26]) (opsC [] s_graph_Reach_1_r2p2 [23, 25] (evOps call base [⟨some 26, (.append 1 8 (.t 23) (.t 25)), none⟩] f H)) := (row_op call it base s_graph_Reach_1_r2p2 s_graph_Reach_1_r2t3 (kc := [23, 25]) (by kernel_rfl) f H).trans (by rw [row_ops]; rfl)
theorem s_graph_Reach_1_r2t3_x (call : CallF) (it : IterF) (base : Nat) (f : List V) (H : Heap) : evC call it base (.region s_graph_Reach_1_r2t3 [] [0, 3, 23, 24, 25, 26]) f H = opsC [] s_graph_Reach_1_r2t3 [0, 3, 23, 24, 25, 26] (evOps call base [⟨none, (.store 1 (.t 3) (.t 26)), none⟩] f H) := row_ops call it base _ _ _ f H
def s_graph_Reach_1 : ACFun := { ntmps := 27, results := [], body :=
  (.seq (.regionE s_graph_Reach_1_r0 s_graph_Reach_1_r0_k [19])
  (.cond (.t 19)
  (.seq (.region s_graph_Reach_1_r1 [] [2, 19, 20, 21, 22])
  (.region s_graph_Reach_1_r2 [] [0, 3, 23, 24, 25, 26]))
  .skip)) }
def a_graph_Reach := And.intro @s_graph_Reach_r0p0_k_kA0 (And.intro @s_graph_Reach_r0p0_k_kA1 (And.intro @s_graph_Reach_r0p0_k_kA2 (And.intro @s_graph_Reach_r0p0_k_kA4 (And.intro @s_graph_Reach_r0_x (And.intro @s_graph_Reach_r0t1_tale (And.intro @s_graph_Reach_r0t1_x (And.intro @s_graph_Reach_r0_k_kA0 (And.intro @s_graph_Reach_r0_k_kA1 (And.intro @s_graph_Reach_r0_k_kA2 (And.intro @s_graph_Reach_r0_k_kA4 (And.intro @s_graph_Reach_r1p0_tale (And.intro @s_graph_Reach_r1_x (And.intro @s_graph_Reach_r1t1_x (And.intro @s_graph_Reach_r1t2_x (And.intro @s_graph_Reach_r1t3_x (And.intro @s_graph_Reach_r2_x (And.intro @s_graph_Reach_r3_tale (And.intro @s_graph_Reach_r4_tale (And.intro @s_graph_Reach_r5_tale (And.intro @s_graph_Reach_r6_tale (And.intro @s_graph_Reach_r7p0_tale (And.intro @s_graph_Reach_r7_x (And.intro @s_graph_Reach_r7t1_x (And.intro @s_graph_Reach_r8_tale (And.intro @s_graph_Reach_l0_ev (And.intro @s_graph_Reach_r9_tale (And.intro @s_graph_Reach_r10_tale (And.intro @s_graph_Reach_r11p0_tale (And.intro @s_graph_Reach_r11_x (And.intro @s_graph_Reach_r11t1_x (And.intro @s_graph_Reach_r12_tale (And.intro @s_graph_Reach_r13_tale (And.intro @s_graph_Reach_r14_tale (And.intro @s_graph_Reach_r15p0_tale (And.intro @s_graph_Reach_r15_x (And.intro @s_graph_Reach_r15t1_x (And.intro @s_graph_Reach_r16_tale (And.intro @s_graph_Reach_l1_ev (And.intro @s_graph_Reach_l2_ev (@s_graph_Reach_r17_tale))))))))))))))))))))))))))))))))))))))))
def a_graph_Leads := And.intro @s_graph_Leads_r0_tale (And.intro @s_graph_Leads_r0_kT (And.intro @s_graph_Leads_r0_kA0 (And.intro @s_graph_Leads_r0_kA1 (And.intro @s_graph_Leads_r0_kA2 (And.intro @s_graph_Leads_r1p0_tale (And.intro @s_graph_Leads_r1_x (And.intro @s_graph_Leads_r1t1_x (And.intro @s_graph_Leads_r1t2_x (And.intro @s_graph_Leads_r1t3_x (And.intro @s_graph_Leads_r1t4_x (And.intro @s_graph_Leads_r1t5_tale (@s_graph_Leads_r1t5_x))))))))))))
def a_graph_Reach_1 := And.intro @s_graph_Reach_1_r0_tale (And.intro @s_graph_Reach_1_r0_kT (And.intro @s_graph_Reach_1_r0_kA0 (And.intro @s_graph_Reach_1_r0_kA1 (And.intro @s_graph_Reach_1_r0_kA2 (And.intro @s_graph_Reach_1_r0_kA3 (And.intro @s_graph_Reach_1_r1p0_tale (And.intro @s_graph_Reach_1_r1_x (And.intro @s_graph_Reach_1_r1t1_x (And.intro @s_graph_Reach_1_r2p0_tale (And.intro @s_graph_Reach_1_r2_x (And.intro @s_graph_Reach_1_r2t1_x (And.intro @s_graph_Reach_1_r2t2_x (@s_graph_Reach_1_r2t3_x)))))))))))))
theorem CS1_18 : compK Try.prog (fun _ => false) 18 = some (false, s_graph_Reach.ntmps, s_graph_Reach.results, s_graph_Reach.body.bare) := by kernel_rfl
theorem CS1_20 : compK Try.prog (fun _ => false) 20 = some (false, s_graph_Leads.ntmps, s_graph_Leads.results, s_graph_Leads.body.bare) := by kernel_rfl
theorem CS1_32 : compK Try.prog (fun _ => false) 32 = some (false, s_graph_Reach_1.ntmps, s_graph_Reach_1.results, s_graph_Reach_1.body.bare) := by kernel_rfl
end Go.Proofs.Ytmnlagcmpgilaaa
namespace Go.AM
def bV (b : Bool) : V := .s (.bool b)
theorem OwnN.append {m base bytes : Nat} {H : Heap} {v x : V} {l : List V} (h : OwnN m H v l) (hb : base ≤ m) (hx : x.one = true) (hm : m ≤ H.length) (hs : (l.length + 1) * bytes ≤ 2 ^ 47) :
    ∃ v' H', appendV (H ++ [.cells 0 [x]]) base 1 bytes v (.sl H.length 0 0 1 1) = some (v', H') ∧ OwnN m H' v' (l ++ [x]) ∧ H.length ≤ H'.length ∧ (∀ i, i < m → H'[i]? = H[i]?) := by
  have hx' : [x].all V.one = true := by simp [hx]
  have hnew : 1 * bytes ≤ 2 ^ 47 := by
    refine Nat.le_trans (Nat.mul_le_mul_right _ ?_) hs
    omega
  have hfresh : OwnN m (H ++ [.cells 0 [x]] ++ [.cells 0 [x]]) (.sl (H.length + 1) 0 0 1 1) [x] := by
    refine .inr ⟨H.length + 1, 0, [x], rfl, ?_, Nat.le_refl _, rfl, by omega⟩
    have := getC_new (H ++ [Ob.cells 0 [x]]) 0 [x]
    simpa using this
  rcases h with ⟨rfl, rfl | rfl⟩ | ⟨id, g, c, rfl, hc, hl, ht, hid⟩
  · refine ⟨.sl (H.length + 1) 0 0 1 1, H ++ [.cells 0 [x]] ++ [.cells 0 [x]], ?_, hfresh, by simp, fun i hi => ?_⟩
    · simp only [appendV, elems_new, hx', if_true, nilS, Nat.one_ne_zero, if_false, hnew, List.length_append, List.length_cons, List.length_nil]
    · rw [List.getElem?_append_left (by simp; omega), List.getElem?_append_left (by omega)]
  · refine ⟨.sl (H.length + 1) 0 0 1 1, H ++ [.cells 0 [x]] ++ [.cells 0 [x]], ?_, hfresh, by simp, fun i hi => ?_⟩
    · simp only [appendV, elems_new, hx', if_true, Nat.one_ne_zero, if_false, hnew, List.length_append, List.length_cons, List.length_nil]
    · rw [List.getElem?_append_left (by simp; omega), List.getElem?_append_left (by omega)]
  · have hc' := getC_app hc (G := [Ob.cells 0 [x]])
    have hbi : base ≤ id := by omega
    have h2 : 0 + l.length ≤ c.length := by omega
    refine ⟨.sl id (g + 1) 0 (l.length + 1) 1, (H ++ [Ob.cells 0 [x]]).set id (.cells (g + 1) (l ++ [x])), ?_, .inr ⟨id, g + 1, l ++ [x], by simp, getC_set hc' _, Nat.le_refl _, List.take_length, hid⟩, by simp, fun i hi => ?_⟩
    · simp only [appendV, elems_new, hx', if_true, true_and, hbi, hc', h2, Nat.one_ne_zero, if_false, hs, List.drop_zero, Nat.mul_one, ht]
    · rw [List.getElem?_set_ne (by omega), List.getElem?_append_left (by omega)]
theorem OwnN.pop {m : Nat} {H : Heap} {v : V} {l : List V} (h : OwnN m H v l) {k : Nat} (hk : k ≤ l.length) : ∃ w, xSlice 1 v none (some (.s (.int .i64 k))) = some w ∧ OwnN m H w (l.take k) := by
  rcases h with ⟨rfl, hv⟩ | ⟨id, g, c, rfl, hc, hl, ht, hid⟩
  · have hk0 : k = 0 := by simpa using hk
    subst hk0
    refine ⟨v, ?_, .inl ⟨rfl, hv⟩⟩
    rcases hv with rfl | rfl
    · simp only [xslice_nil, bndV_none, bndV_int, cutNil_some, cast0, and_self, if_true]
    · simp only [xslice_esl, bndV_none, bndV_int, cutNil_some, cast0, and_self, if_true]
  · have i4 : (0 : Int) ≤ (0 : Int) ∧ (0 : Int) ≤ k ∧ (k : Int) ≤ l.length ∧ 1 = 1 := ⟨by omega, by omega, by omega, rfl⟩
    have i5 : ((k : Int) - 0).toNat = k := by omega
    refine ⟨.sl id g 0 k 1, ?_, .inr ⟨id, g, c, by rw [List.length_take, Nat.min_eq_left hk], hc, by rw [List.length_take]; omega, ?_, hid⟩⟩
    · simp only [xslice_sl, bndV_none, bndV_int, cutSl_some, cast0, i4, i5, and_self, if_true, Int.toNat_zero, Nat.zero_mul, Nat.add_zero]
    · rw [List.length_take, Nat.min_eq_left hk, ← ht, List.take_take, Nat.min_eq_left hk]
end Go.AM
set_option maxRecDepth 100000
namespace Go.Proofs.Ytmnlagcmpgilaaa
open Go.AM
def RS (h : Nat) (v : V) (n : Nat) (H0 H : Heap) (B : List Bool) (S : List Int) : Prop :=
  H0.length = h ∧ Ext H0 H ∧ getC H h 0 = some [v] ∧ getC H (h + 1) 0 = some (B.map bV) ∧ getC H (h + 2) 0 = some [.sl (h + 1) 0 0 n 1] ∧ B.length = n ∧
  ∃ nv, getC H (h + 3) 0 = some [nv] ∧ OwnN (h + 4) H nv (S.map iV)
theorem RS.trim {h L n : Nat} {v : V} {H0 H : Heap} {B : List Bool} {S : List Int} (k : RS h v n H0 H B S) (hL : h + 4 ≤ L) (fr : List V) : RS h v n H0 (trim L fr H) B S := by
  obtain ⟨a1, a2, a3, a4, a5, a6, nv, a7, a8⟩ := k
  exact ⟨a1, a2.trim (by omega) _, trim_get a3 (by omega), trim_get a4 (by omega), trim_get a5 (by omega), a6, nv, trim_get a7 (by omega), a8.trim a7 (by omega) List.mem_cons_self _⟩
def enterZ (n : Nat) (k : Int) (s : List Bool × List Int) : List Bool × List Int :=
  bif decide (k ≥ 0) && decide (k < n) && !(s.1.getD k.toNat true) then (s.1.set k.toNat true, s.2 ++ [k]) else s
theorem getC_load {H : Heap} {id g : Nat} {w : V} (h : getC H id g = some [w]) : xLoad H false 1 (.ref id g 0) = some w := by
  simp only [xo_ref, h, List.drop_zero, List.take_succ_cons, List.take_zero, List.length_singleton, if_true, shut_one]
theorem res_nil (fr : List V) (H : Heap) : resultV [] fr H = some (.tup []) := by simp [resultV]
theorem enter_fun {CT : Nat → Option CFun} (hT : CT k_graph_Reach_1 = some (.code s_graph_Reach_1)) (base h n : Nat) (v : V) (H0 H : Heap) (B : List Bool) (S : List Int) (k : Int) (hb : base ≤ h) (hv : xLen H0 .s v = some (.s (.int .i64 n))) (hlen : ∀ H, xLen H .s v = xLen H0 .s v) (hn : n < 2 ^ 40) (hS : S.length < 2 ^ 40) (hs : RS h v n H0 H B S) :
    ∃ H', callW CT (.fn k_graph_Reach_1 [] [.ref h 0 0, .ref (h + 2) 0 0, .ref (h + 3) 0 0]) [.s (.int .i64 k)] base H = some (.tup [], H') ∧ RS h v n H0 H' (enterZ n k (B, S)).1 (enterZ n k (B, S)).2 := by
  obtain ⟨a1, a2, a3, a4, a5, a6, nv, a7, a8⟩ := hs
  have l3 := getC_lt a7
  by_cases h0 : k ≥ 0
  · by_cases hkn : k < (n : Int)
    · obtain ⟨j, rfl⟩ := Int.eq_ofNat_of_zero_le h0
      have hj : j < n := by omega
      have hBj : B[j]? = some (B.getD j true) := by rw [List.getD, List.getElem?_eq_getElem (by omega)]; rfl
      obtain ⟨b1, b2⟩ := at_sl (n := n) a4 hj (w := bV (B.getD j true)) (by rw [List.getElem?_map, hBj]; rfl)
      cases hb1 : B.getD j true with
      | true =>
        have he : enterZ n (j : Int) (B, S) = (B, S) := by simp only [enterZ, Int.toNat_natCast, hb1, Bool.not_true, Bool.and_false, cond_false]
        rw [he]
        rw [hb1] at b2
        simp only [bV] at b2
        refine ⟨H, callW_fn (c := s_graph_Reach_1) hT (by simp [s_graph_Reach_1]) ?_, a1, a2, a3, a4, a5, a6, nv, a7, a8⟩
        have h0' : (0 : Int) ≤ (j : Int) := h0
        simp only [s_graph_Reach_1, a_graph_Reach_1, am0,am1,am2,am3,am4,am5,am6,am7,bl,i64,reduceIte,reduceCtorEq,Nat.reduceEqDiff,Nat.reduceLT,Nat.reduceLeDiff,Nat.reduceBEq,Nat.reduceAdd,fillA,splice,Nat.reduceMul,al0,al1,al2,al3,al4,al5,al6,al7,al8,al9,al10,al11,al12,al13,al14,al15,al16,al17,al18,al19,al20,al21,al22,al23,al24,al25,al26,al27,al28,al29,al30,al31,al32,al33,al34, ge_iff_le, h0', getC_load a3, hlen, hv, hkn, getC_load a5, b1, b2, res_nil]
      | false =>
        have he : enterZ n (j : Int) (B, S) = (B.set j true, S ++ [(j : Int)]) := by simp only [enterZ, Int.toNat_natCast, hb1, h0, hkn, decide_true, Bool.not_false, Bool.and_true, cond_true]
        rw [he]
        rw [hb1] at b2
        simp only [bV] at b2
        have hst := storeV_at (v := bV true) (base := base) a4 (by omega) rfl (off := j) (by rw [List.length_map]; omega)
        have a8' : OwnN (h + 4) (H.set (h + 1) (.cells 0 ((B.map bV).set j (bV true)))) nv (S.map iV) := a8.set (by omega) _
        have a7' : getC (H.set (h + 1) (.cells 0 ((B.map bV).set j (bV true)))) (h + 3) 0 = some [nv] := by rw [getC_other (by omega)]; exact a7
        obtain ⟨nv', H2, c1, c2, c3, c4⟩ := a8'.append (x := iV j) (base := base) (bytes := 8) (by omega) rfl (by rw [List.length_set]; omega) (by rw [List.length_map]; omega)
        have l4 := getC_lt a4
        have d4 : getC H2 (h + 1) 0 = some ((B.map bV).set j (bV true)) := by
          have : getC (H.set (h + 1) (.cells 0 ((B.map bV).set j (bV true)))) (h + 1) 0 = some ((B.map bV).set j (bV true)) := getC_put a4
          simp only [getC] at this ⊢
          rw [c4 (h + 1) (by omega)]; exact this
        have low : ∀ i g c, i < h + 4 → i ≠ h + 1 → getC H i g = some c → getC H2 i g = some c := by
          intro i g c hi hne hg
          simp only [getC] at hg ⊢
          rw [c4 i hi, List.getElem?_set_ne (Ne.symm hne)]; exact hg
        have st2 := storeV_at (v := nv') (base := base) (low (h + 3) 0 _ (by omega) (by omega) a7) (by omega) c2.one (off := 0) (by simp)
        have hj0 : ¬ (j : Int) < 0 := by omega
        have h0' : (0 : Int) ≤ (j : Int) := h0
        refine ⟨H2.set (h + 3) (.cells 0 ([nv].set 0 nv')), callW_fn (c := s_graph_Reach_1) hT (by simp [s_graph_Reach_1]) ?_, a1, ?_, ?_, ?_, ?_, by rw [List.length_set]; exact a6, nv', ?_, ?_⟩
        · simp only [bV, iV, List.length_set] at hst c1 st2 a7'
          simp only [s_graph_Reach_1, a_graph_Reach_1, am0,am1,am2,am3,am4,am5,am6,am7,bl,i64,reduceIte,reduceCtorEq,Nat.reduceEqDiff,Nat.reduceLT,Nat.reduceLeDiff,Nat.reduceBEq,Nat.reduceAdd,fillA,splice,Nat.reduceMul,al0,al1,al2,al3,al4,al5,al6,al7,al8,al9,al10,al11,al12,al13,al14,al15,al16,al17,al18,al19,al20,al21,al22,al23,al24,al25,al26,al27,al28,al29,al30,al31,al32,al33,al34, ge_iff_le, h0', getC_load a3, hlen, hv, hkn, getC_load a5, b1, b2, hst, a7', c1, st2, res_nil, bV]
        · refine (Ext.of_get ?_ fun i hi => ?_ : Ext H0 H2).set (by omega) _
          · have := a2.le; rw [List.length_set] at c3; omega
          · rw [c4 i (by omega), List.getElem?_set_ne (by omega), a2.get hi]
        · rw [getC_other (by omega)]; exact low h 0 _ (by omega) (by omega) a3
        · rw [getC_other (by omega), d4, List.map_set]
        · rw [getC_other (by omega)]; exact low (h + 2) 0 _ (by omega) (by omega) a5
        · have := getC_put (c' := [nv].set 0 nv') (low (h + 3) 0 _ (by omega) (by omega) a7)
          simpa using this
        · have := c2.set (id := h + 3) (by omega) (.cells 0 ([nv].set 0 nv'))
          rwa [List.map_append]
    · have he : enterZ n k (B, S) = (B, S) := by simp only [enterZ, hkn, decide_false, Bool.and_false, Bool.false_and, cond_false]
      rw [he]
      refine ⟨H, callW_fn (c := s_graph_Reach_1) hT (by simp [s_graph_Reach_1]) ?_, a1, a2, a3, a4, a5, a6, nv, a7, a8⟩
      simp only [s_graph_Reach_1, a_graph_Reach_1, am0,am1,am2,am3,am4,am5,am6,am7,bl,i64,reduceIte,reduceCtorEq,Nat.reduceEqDiff,Nat.reduceLT,Nat.reduceLeDiff,Nat.reduceBEq,Nat.reduceAdd,fillA,splice,Nat.reduceMul,al0,al1,al2,al3,al4,al5,al6,al7,al8,al9,al10,al11,al12,al13,al14,al15,al16,al17,al18,al19,al20,al21,al22,al23,al24,al25,al26,al27,al28,al29,al30,al31,al32,al33,al34, ge_iff_le, ge_iff_le.1 h0, getC_load a3, hlen, hv, hkn, res_nil]
  · have he : enterZ n k (B, S) = (B, S) := by simp only [enterZ, h0, decide_false, Bool.false_and, cond_false]
    rw [he]
    have h0' : ¬ 0 ≤ k := h0
    refine ⟨H, callW_fn (c := s_graph_Reach_1) hT (by simp [s_graph_Reach_1]) ?_, a1, a2, a3, a4, a5, a6, nv, a7, a8⟩
    simp only [s_graph_Reach_1, a_graph_Reach_1, am0,am1,am2,am3,am4,am5,am6,am7,bl,i64,reduceIte,reduceCtorEq,Nat.reduceEqDiff,Nat.reduceLT,Nat.reduceLeDiff,Nat.reduceBEq,Nat.reduceAdd,fillA,splice,Nat.reduceMul,al0,al1,al2,al3,al4,al5,al6,al7,al8,al9,al10,al11,al12,al13,al14,al15,al16,al17,al18,al19,al20,al21,al22,al23,al24,al25,al26,al27,al28,al29,al30,al31,al32,al33,al34, ge_iff_le, h0', res_nil]
def cntF : List Bool → Nat
  | [] => 0
  | b :: l => (if b then 0 else 1) + cntF l
theorem cntF_set : ∀ (l : List Bool) (j : Nat), l[j]? = some false → cntF (l.set j true) + 1 = cntF l := by
  intro l
  induction l with
  | nil => intro j h; simp at h
  | cons b l ih =>
    intro j h
    cases j with
    | zero => simp at h; subst h; simp [cntF]; omega
    | succ j => have := ih j (by simpa using h); simp only [List.set_cons_succ, cntF]; omega
theorem enterZ_inv (n : Nat) (k : Int) (s : List Bool × List Int) (h : s.1.length = n) : (enterZ n k s).1.length = n ∧ (enterZ n k s).2.length + cntF (enterZ n k s).1 = s.2.length + cntF s.1 := by
  simp only [enterZ]
  cases hc : decide (k ≥ 0) && decide (k < (n : Int)) && !(s.1.getD k.toNat true) with
  | false => exact ⟨h, rfl⟩
  | true =>
    simp only [Bool.and_eq_true, decide_eq_true_eq, Bool.not_eq_true'] at hc
    have hj : k.toNat < s.1.length := by omega
    have hf : s.1[k.toNat]? = some false := by
      have := hc.2
      rw [List.getD, List.getElem?_eq_getElem hj] at this
      rw [List.getElem?_eq_getElem hj]; exact congrArg some this
    have := cntF_set s.1 k.toNat hf
    refine ⟨by simp [h], ?_⟩
    simp only [cond_true, List.length_append, List.length_singleton]
    omega
def clos (h : Nat) : V := .fn k_graph_Reach_1 [] [.ref h 0 0, .ref (h + 2) 0 0, .ref (h + 3) 0 0]
def enters (n : Nat) (l : List Int) (s : List Bool × List Int) : List Bool × List Int := l.foldl (fun s k => enterZ n k s) s
theorem enters_inv (n : Nat) : ∀ (l : List Int) (s : List Bool × List Int), s.1.length = n → (enters n l s).1.length = n ∧ (enters n l s).2.length + cntF (enters n l s).1 = s.2.length + cntF s.1 := by
  intro l
  induction l with
  | nil => intro s h; exact ⟨h, rfl⟩
  | cons k l ih =>
    intro s h
    obtain ⟨a, b⟩ := enterZ_inv n k s h
    obtain ⟨c, d⟩ := ih _ a
    exact ⟨c, by rw [← b]; exact d⟩
theorem reach_l0 {CT : Nat → Option CFun} (hT : CT k_graph_Reach_1 = some (.code s_graph_Reach_1)) (base h n L : Nat) (v fv : V) (H0 : Heap) (l : List Int) (hb : base ≤ h) (hL : h + 4 ≤ L) (hv : xLen H0 .s v = some (.s (.int .i64 n))) (hlen : ∀ H, xLen H .s v = xLen H0 .s v) (hn : n < 2 ^ 40) (hf : Rd H0 fv (l.map iV)) (hfw : Wide1 fv) (hl : l.length < 2 ^ 62) :
    ∀ (rest : List Int) (k : Nat) (H : Heap) (s : List Bool × List Int), l.drop k = rest → k ≤ l.length → RS h v n H0 H s.1 s.2 → s.2.length + cntF s.1 ≤ n →
    ∃ H', itW (evC (callW CT) itW base s_graph_Reach_l0) [] L (frOf 55 [(2, .ref h 0 0), (5, .ref (h + 2) 0 0), (6, .ref (h + 3) 0 0), (7, clos h), (17, fv), (18, .s (.int .i64 l.length)), (19, .s (.int .i64 k))]) H =
      some (.ext 0, frOf 55 [(2, .ref h 0 0), (5, .ref (h + 2) 0 0), (6, .ref (h + 3) 0 0), (7, clos h), (17, fv), (18, .s (.int .i64 l.length)), (19, .s (.int .i64 l.length)), (20, .s (.bool false))], H') ∧ RS h v n H0 H' (enters n rest s).1 (enters n rest s).2 := by
  intro rest
  induction rest with
  | nil =>
    intro k H s hd hk hs hc
    obtain rfl := drop_nil hd hk
    refine ⟨trim L (frOf 55 [(2, .ref h 0 0), (5, .ref (h + 2) 0 0), (6, .ref (h + 3) 0 0), (7, clos h), (17, fv), (18, .s (.int .i64 l.length)), (19, .s (.int .i64 l.length)), (20, .s (.bool false))]) H, ?_, hs.trim hL _⟩
    rw [itW_step]
    simp only [a_graph_Reach,s_graph_Reach_l0_b,s_graph_Reach_l1_b,s_graph_Reach_l2_b, am0,am1,am2,am3,am4,am5,am6,am7,bl,i64,reduceIte,reduceCtorEq,Nat.reduceEqDiff,Nat.reduceLT,Nat.reduceLeDiff,Nat.reduceBEq,Nat.reduceAdd,fillA,splice,Nat.reduceMul,al0,al1,al2,al3,al4,al5,al6,al7,al8,al9,al10,al11,al12,al13,al14,al15,al16,al17,al18,al19,al20,al21,al22,al23,al24,al25,al26,al27,al28,al29,al30,al31,al32,al33,al34, Int.lt_irrefl]
  | cons x rest ih =>
    intro k H s hd hk hs hc
    obtain ⟨hx, hlt, hd'⟩ := drop_cons hd
    obtain ⟨a, ha1, ha2⟩ := iV_at (hf.ext hs.2.1) hfw hx
    have hlt' : (k : Int) < (l.length : Int) := by omega
    have hwk := wrap_pos (n := k) (by omega)
    obtain ⟨H1, q1, q2⟩ := enter_fun hT base h n v H0 H s.1 s.2 x hb hv hlen hn (by omega) hs
    have q1' : callW CT (clos h) [.s (.int .i64 x)] base H = some (.tup [], H1) := q1
    obtain ⟨i1, i2⟩ := enterZ_inv n x s hs.2.2.2.2.2.1
    obtain ⟨H', p1, p2⟩ := ih (k + 1) (trim L (frOf 55 [(2, .ref h 0 0), (5, .ref (h + 2) 0 0), (6, .ref (h + 3) 0 0), (7, clos h), (17, fv), (18, .s (.int .i64 l.length)), (19, .s (.int .i64 ((k + 1 : Nat) : Int)))]) H1) (enterZ n x s) hd' (by omega) (q2.trim hL _) (by omega)
    refine ⟨H', ?_, p2⟩
    rw [itW_step]
    simp only [a_graph_Reach,s_graph_Reach_l0_b,s_graph_Reach_l1_b,s_graph_Reach_l2_b, am0,am1,am2,am3,am4,am5,am6,am7,bl,i64,reduceIte,reduceCtorEq,Nat.reduceEqDiff,Nat.reduceLT,Nat.reduceLeDiff,Nat.reduceBEq,Nat.reduceAdd,fillA,splice,Nat.reduceMul,al0,al1,al2,al3,al4,al5,al6,al7,al8,al9,al10,al11,al12,al13,al14,al15,al16,al17,al18,al19,al20,al21,al22,al23,al24,al25,al26,al27,al28,al29,al30,al31,al32,al33,al34, hlt', hwk, ha1, ha2, q1']
    exact p1
theorem reach_l1 {CT : Nat → Option CFun} (hT : CT k_graph_Reach_1 = some (.code s_graph_Reach_1)) (base h n L : Nat) (v fv : V) (H0 : Heap) (l : List Int) (hb : base ≤ h) (hL : h + 4 ≤ L) (hv : xLen H0 .s v = some (.s (.int .i64 n))) (hlen : ∀ H, xLen H .s v = xLen H0 .s v) (hn : n < 2 ^ 40) (hf : Rd H0 fv (l.map iV)) (hfw : Wide1 fv) (hl : l.length < 2 ^ 62) :
    ∀ (rest : List Int) (k : Nat) (H : Heap) (s : List Bool × List Int), l.drop k = rest → k ≤ l.length → RS h v n H0 H s.1 s.2 → s.2.length + cntF s.1 ≤ n →
    ∃ H', itW (evC (callW CT) itW base s_graph_Reach_l1) [] L (frOf 55 [(2, .ref h 0 0), (5, .ref (h + 2) 0 0), (6, .ref (h + 3) 0 0), (7, clos h), (44, fv), (45, .s (.int .i64 l.length)), (46, .s (.int .i64 k))]) H =
      some (.ext 4, frOf 55 [(2, .ref h 0 0), (5, .ref (h + 2) 0 0), (6, .ref (h + 3) 0 0), (7, clos h), (44, fv), (45, .s (.int .i64 l.length)), (46, .s (.int .i64 l.length)), (47, .s (.bool false))], H') ∧ RS h v n H0 H' (enters n rest s).1 (enters n rest s).2 := by
  intro rest
  induction rest with
  | nil =>
    intro k H s hd hk hs hc
    obtain rfl := drop_nil hd hk
    refine ⟨trim L (frOf 55 [(2, .ref h 0 0), (5, .ref (h + 2) 0 0), (6, .ref (h + 3) 0 0), (7, clos h), (44, fv), (45, .s (.int .i64 l.length)), (46, .s (.int .i64 l.length)), (47, .s (.bool false))]) H, ?_, hs.trim hL _⟩
    rw [itW_step]
    simp only [a_graph_Reach,s_graph_Reach_l0_b,s_graph_Reach_l1_b,s_graph_Reach_l2_b, am0,am1,am2,am3,am4,am5,am6,am7,bl,i64,reduceIte,reduceCtorEq,Nat.reduceEqDiff,Nat.reduceLT,Nat.reduceLeDiff,Nat.reduceBEq,Nat.reduceAdd,fillA,splice,Nat.reduceMul,al0,al1,al2,al3,al4,al5,al6,al7,al8,al9,al10,al11,al12,al13,al14,al15,al16,al17,al18,al19,al20,al21,al22,al23,al24,al25,al26,al27,al28,al29,al30,al31,al32,al33,al34, Int.lt_irrefl]
  | cons x rest ih =>
    intro k H s hd hk hs hc
    obtain ⟨hx, hlt, hd'⟩ := drop_cons hd
    obtain ⟨a, ha1, ha2⟩ := iV_at (hf.ext hs.2.1) hfw hx
    have hlt' : (k : Int) < (l.length : Int) := by omega
    have hwk := wrap_pos (n := k) (by omega)
    obtain ⟨H1, q1, q2⟩ := enter_fun hT base h n v H0 H s.1 s.2 x hb hv hlen hn (by omega) hs
    have q1' : callW CT (clos h) [.s (.int .i64 x)] base H = some (.tup [], H1) := q1
    obtain ⟨i1, i2⟩ := enterZ_inv n x s hs.2.2.2.2.2.1
    obtain ⟨H', p1, p2⟩ := ih (k + 1) (trim L (frOf 55 [(2, .ref h 0 0), (5, .ref (h + 2) 0 0), (6, .ref (h + 3) 0 0), (7, clos h), (44, fv), (45, .s (.int .i64 l.length)), (46, .s (.int .i64 ((k + 1 : Nat) : Int)))]) H1) (enterZ n x s) hd' (by omega) (q2.trim hL _) (by omega)
    refine ⟨H', ?_, p2⟩
    rw [itW_step]
    simp only [a_graph_Reach,s_graph_Reach_l0_b,s_graph_Reach_l1_b,s_graph_Reach_l2_b, am0,am1,am2,am3,am4,am5,am6,am7,bl,i64,reduceIte,reduceCtorEq,Nat.reduceEqDiff,Nat.reduceLT,Nat.reduceLeDiff,Nat.reduceBEq,Nat.reduceAdd,fillA,splice,Nat.reduceMul,al0,al1,al2,al3,al4,al5,al6,al7,al8,al9,al10,al11,al12,al13,al14,al15,al16,al17,al18,al19,al20,al21,al22,al23,al24,al25,al26,al27,al28,al29,al30,al31,al32,al33,al34, hlt', hwk, ha1, ha2, q1']
    exact p1
end Go.Proofs.Ytmnlagcmpgilaaa
set_option maxRecDepth 100000
namespace Go.Proofs.Ytmnlagcmpgilaaa
open Go.AM
abbrev k_gnomonlaw07_GraphPost : Nat := 6
def s_gnomonlaw07_GraphPost_r0_k : List Nat := [2, 3, 4, 5, 6, 7, 8, 9, 10, 11, 12, 13, 14, 15, 16, 17, 18, 19, 20, 21, 22, 23, 24, 25, 26, 27, 28, 29, 30, 31, 32, 33, 34, 35, 36, 37, 38, 39, 40, 41, 42, 43, 44, 45, 46, 47, 48, 49, 50, 51, 52, 53, 54, 55, 56, 57, 58, 59, 60, 61, 62, 63, 64, 65, 66, 67, 68, 69, 70, 71, 72, 73, 74, 75, 76, 77, 78, 79, 80, 81, 82, 83, 84, 85, 86, 87, 88, 89, 90, 91, 92, 93, 94, 95, 96, 97, 98, 99, 100, 101, 102, 103, 104, 105, 106, 107, 108, 109, 110, 111, 112, 113, 114, 115, 116, 117, 118, 119, 120, 121, 122, 123, 124, 125, 126, 127, 128, 129, 130, 131, 132, 133, 134, 135, 136, 137, 138, 139, 140, 141, 142, 143, 144, 145, 146, 147, 148, 149, 150, 151, 152, 153, 154, 155, 156, 157, 158, 159, 160]
theorem s_gnomonlaw07_GraphPost_r0_kT : killV s_gnomonlaw07_GraphPost_r0_k (startV 161 [] 2) = [] := by kernel_rfl
theorem s_gnomonlaw07_GraphPost_r0_kA0 : s_gnomonlaw07_GraphPost_r0_k.contains 0 = false := by kernel_rfl
theorem s_gnomonlaw07_GraphPost_r0_kA1 : s_gnomonlaw07_GraphPost_r0_k.contains 1 = false := by kernel_rfl
def s_gnomonlaw07_GraphPost_r0 : List AOper := [
  ⟨some 4, (.move (.c (.s (.bool false)))), none⟩]
theorem s_gnomonlaw07_GraphPost_r0_tale (fr : List V) (H : Heap) : evTale (symAll s_gnomonlaw07_GraphPost_r0 s_gnomonlaw07_GraphPost_r0_k []) s_gnomonlaw07_GraphPost_r0_k fr H = evTale (some (5, [], [])) s_gnomonlaw07_GraphPost_r0_k fr H := tale_row (items := [.cc (.s (.bool false))]) (by kernel_rfl) fr H
def s_gnomonlaw07_GraphPost_r1t2 : List AOper := [⟨some 15, (.move (.t 14)), none⟩, ⟨some 16, (.move (.t 0)), some (15, false)⟩, ⟨some 17, (.lenS .s (.t 16)), some (15, false)⟩, ⟨some 18, (.bin .gtr (.t 17) (.c (.s (.int .i64 100)))), some (15, false)⟩, ⟨some 19, (.pick (.t 15) (.c (.s (.bool true))) (.t 18)), none⟩]
def s_gnomonlaw07_GraphPost_r1p1 : List AOper := [⟨some 14, (.call (.c (.fn 9 [] [])) [(.t 13)]), none⟩]
def s_gnomonlaw07_GraphPost_r1t1 : List AOper := s_gnomonlaw07_GraphPost_r1p1 ++ s_gnomonlaw07_GraphPost_r1t2
def s_gnomonlaw07_GraphPost_r1p0 : List AOper := [⟨some 13, (.move (.t 0)), none⟩]
def s_gnomonlaw07_GraphPost_r1 : List AOper := s_gnomonlaw07_GraphPost_r1p0 ++ s_gnomonlaw07_GraphPost_r1t1
theorem s_gnomonlaw07_GraphPost_r1p0_tale (fr : List V) (H : Heap) : evTale (symAll s_gnomonlaw07_GraphPost_r1p0 [] [13]) [] fr H = evTale (some (14, [], [(13, (.t 0))])) [] fr H := tale_row (items := [.tt 0]) (by kernel_rfl) fr H
theorem s_gnomonlaw07_GraphPost_r1_x (call : CallF) (it : IterF) (base : Nat) (f : List V) (H : Heap) : evC call it base (.region s_gnomonlaw07_GraphPost_r1 [] [13, 14, 15, 16, 17, 18]) f H = segC call it base s_gnomonlaw07_GraphPost_r1t1 [13, 14, 15, 16, 17, 18] H (evTale (symAll s_gnomonlaw07_GraphPost_r1p0 [] [13]) [] f H) (origRow call it base s_gnomonlaw07_GraphPost_r1 [13, 14, 15, 16, 17, 18] f H) := row_seg call it base s_gnomonlaw07_GraphPost_r1p0 s_gnomonlaw07_GraphPost_r1t1 (by kernel_rfl) f H
theorem s_gnomonlaw07_GraphPost_r1t1_x (call : CallF) (it : IterF) (base : Nat) (f : List V) (H : Heap) : evC call it base (.region s_gnomonlaw07_GraphPost_r1t1 [] [13, 14, 15, 16, 17, 18]) f H = thenC call it base (.region s_gnomonlaw07_GraphPost_r1t2 [] [13, 14, 15, 16, 17, 18]) (opsC [] s_gnomonlaw07_GraphPost_r1p1 [13] (evOps call base [⟨some 14, (.call (.c (.fn 9 [] [])) [(.t 13)]), none⟩] f H)) := (row_op call it base s_gnomonlaw07_GraphPost_r1p1 s_gnomonlaw07_GraphPost_r1t2 (kc := [13]) (by kernel_rfl) f H).trans (by rw [row_ops]; rfl)
theorem s_gnomonlaw07_GraphPost_r1t2_tale (fr : List V) (H : Heap) : evTale (symAll s_gnomonlaw07_GraphPost_r1t2 [13, 14, 15, 16, 17, 18] [19]) [13, 14, 15, 16, 17, 18] fr H = evTale (some (20, [], [(19, (.pick (.t 14) (.c (.s (.bool true))) (.op (.bin .gtr (.t 0) (.c (.s (.int .i64 100)))) [(.op (.lenS .s (.t 0)) [(.t 0)]), (.c (.s (.int .i64 100)))])))])) [13, 14, 15, 16, 17, 18] fr H := tale_row (items := [.tt 14, .sub 0 [2, 0, 0] [15], .sub 0 [2, 0] [15], .sub 0 [2] [15], .sub 0 [] []]) (by kernel_rfl) fr H
theorem s_gnomonlaw07_GraphPost_r1t2_x (call : CallF) (it : IterF) (base : Nat) (f : List V) (H : Heap) : evC call it base (.region s_gnomonlaw07_GraphPost_r1t2 [] [13, 14, 15, 16, 17, 18]) f H = segL H (evTale (symAll s_gnomonlaw07_GraphPost_r1t2 [13, 14, 15, 16, 17, 18] [19]) [13, 14, 15, 16, 17, 18] f H) (origRow call it base s_gnomonlaw07_GraphPost_r1t2 [13, 14, 15, 16, 17, 18] f H) := row_last call it base _ f H
def s_gnomonlaw07_GraphPost_r2t1 : List AOper := [⟨some 4, (.move (.t 20)), none⟩]
def s_gnomonlaw07_GraphPost_r2p0 : List AOper := [⟨some 20, (.call (.c (.fn 10 [] [])) []), none⟩]
def s_gnomonlaw07_GraphPost_r2 : List AOper := s_gnomonlaw07_GraphPost_r2p0 ++ s_gnomonlaw07_GraphPost_r2t1
theorem s_gnomonlaw07_GraphPost_r2_x (call : CallF) (it : IterF) (base : Nat) (f : List V) (H : Heap) : evC call it base (.region s_gnomonlaw07_GraphPost_r2 [] [0, 1, 19, 20]) f H = thenC call it base (.region s_gnomonlaw07_GraphPost_r2t1 [] [0, 1, 19, 20]) (opsC [] s_gnomonlaw07_GraphPost_r2p0 [0, 1, 19] (evOps call base [⟨some 20, (.call (.c (.fn 10 [] [])) []), none⟩] f H)) := (row_op call it base s_gnomonlaw07_GraphPost_r2p0 s_gnomonlaw07_GraphPost_r2t1 (kc := [0, 1, 19]) (by kernel_rfl) f H).trans (by rw [row_ops]; rfl)
theorem s_gnomonlaw07_GraphPost_r2t1_tale (fr : List V) (H : Heap) : evTale (symAll s_gnomonlaw07_GraphPost_r2t1 [0, 1, 19, 20] [4]) [0, 1, 19, 20] fr H = evTale (some (5, [], [(4, (.t 20))])) [0, 1, 19, 20] fr H := tale_row (items := [.tt 20]) (by kernel_rfl) fr H
theorem s_gnomonlaw07_GraphPost_r2t1_x (call : CallF) (it : IterF) (base : Nat) (f : List V) (H : Heap) : evC call it base (.region s_gnomonlaw07_GraphPost_r2t1 [] [0, 1, 19, 20]) f H = segL H (evTale (symAll s_gnomonlaw07_GraphPost_r2t1 [0, 1, 19, 20] [4]) [0, 1, 19, 20] f H) (origRow call it base s_gnomonlaw07_GraphPost_r2t1 [0, 1, 19, 20] f H) := row_last call it base _ f H
def s_gnomonlaw07_GraphPost_r3t2 : List AOper := [⟨some 5, (.move (.t 23)), none⟩]
def s_gnomonlaw07_GraphPost_r3p1 : List AOper := [⟨some 23, (.call (.c (.fn 23 [] [])) [(.t 21), (.t 22)]), none⟩]
def s_gnomonlaw07_GraphPost_r3t1 : List AOper := s_gnomonlaw07_GraphPost_r3p1 ++ s_gnomonlaw07_GraphPost_r3t2
def s_gnomonlaw07_GraphPost_r3p0 : List AOper := [⟨some 21, (.move (.t 0)), none⟩, ⟨some 22, (.move (.t 1)), none⟩]
def s_gnomonlaw07_GraphPost_r3 : List AOper := s_gnomonlaw07_GraphPost_r3p0 ++ s_gnomonlaw07_GraphPost_r3t1
theorem s_gnomonlaw07_GraphPost_r3p0_tale (fr : List V) (H : Heap) : evTale (symAll s_gnomonlaw07_GraphPost_r3p0 [19] [21, 22]) [19] fr H = evTale (some (23, [], [(21, (.t 0)), (22, (.t 1))])) [19] fr H := tale_row (items := [.tt 0, .tt 1]) (by kernel_rfl) fr H
theorem s_gnomonlaw07_GraphPost_r3_x (call : CallF) (it : IterF) (base : Nat) (f : List V) (H : Heap) : evC call it base (.region s_gnomonlaw07_GraphPost_r3 [] [19, 21, 22, 23]) f H = segC call it base s_gnomonlaw07_GraphPost_r3t1 [19, 21, 22, 23] H (evTale (symAll s_gnomonlaw07_GraphPost_r3p0 [19] [21, 22]) [19] f H) (origRow call it base s_gnomonlaw07_GraphPost_r3 [19, 21, 22, 23] f H) := row_seg call it base s_gnomonlaw07_GraphPost_r3p0 s_gnomonlaw07_GraphPost_r3t1 (by kernel_rfl) f H
theorem s_gnomonlaw07_GraphPost_r3t1_x (call : CallF) (it : IterF) (base : Nat) (f : List V) (H : Heap) : evC call it base (.region s_gnomonlaw07_GraphPost_r3t1 [] [19, 21, 22, 23]) f H = thenC call it base (.region s_gnomonlaw07_GraphPost_r3t2 [] [19, 21, 22, 23]) (opsC [] s_gnomonlaw07_GraphPost_r3p1 [21, 22] (evOps call base [⟨some 23, (.call (.c (.fn 23 [] [])) [(.t 21), (.t 22)]), none⟩] f H)) := (row_op call it base s_gnomonlaw07_GraphPost_r3p1 s_gnomonlaw07_GraphPost_r3t2 (kc := [21, 22]) (by kernel_rfl) f H).trans (by rw [row_ops]; rfl)
theorem s_gnomonlaw07_GraphPost_r3t2_tale (fr : List V) (H : Heap) : evTale (symAll s_gnomonlaw07_GraphPost_r3t2 [19, 21, 22, 23] [5]) [19, 21, 22, 23] fr H = evTale (some (6, [], [(5, (.t 23))])) [19, 21, 22, 23] fr H := tale_row (items := [.tt 23]) (by kernel_rfl) fr H
theorem s_gnomonlaw07_GraphPost_r3t2_x (call : CallF) (it : IterF) (base : Nat) (f : List V) (H : Heap) : evC call it base (.region s_gnomonlaw07_GraphPost_r3t2 [] [19, 21, 22, 23]) f H = segL H (evTale (symAll s_gnomonlaw07_GraphPost_r3t2 [19, 21, 22, 23] [5]) [19, 21, 22, 23] f H) (origRow call it base s_gnomonlaw07_GraphPost_r3t2 [19, 21, 22, 23] f H) := row_last call it base _ f H
def s_gnomonlaw07_GraphPost_r4 : List AOper := [
  ⟨some 24, (.move (.t 1)), none⟩,
  ⟨some 25, (.bin .lss (.t 24) (.c (.s (.int .i64 0)))), none⟩,
  ⟨some 26, (.move (.t 25)), none⟩,
  ⟨some 27, (.move (.t 1)), some (26, false)⟩,
  ⟨some 28, (.move (.t 0)), some (26, false)⟩,
  ⟨some 29, (.lenS .s (.t 28)), some (26, false)⟩,
  ⟨some 30, (.bin .geq (.t 27) (.t 29)), some (26, false)⟩,
  ⟨some 31, (.pick (.t 26) (.c (.s (.bool true))) (.t 30)), none⟩]
theorem s_gnomonlaw07_GraphPost_r4_tale (fr : List V) (H : Heap) : evTale (symAll s_gnomonlaw07_GraphPost_r4 [24, 25, 26, 27, 28, 29, 30] [31]) [24, 25, 26, 27, 28, 29, 30] fr H = evTale (some (32, [], [(31, (.pick (.op (.bin .lss (.t 0) (.c (.s (.int .i64 0)))) [(.t 1), (.c (.s (.int .i64 0)))]) (.c (.s (.bool true))) (.op (.bin .geq (.t 0) (.t 1)) [(.t 1), (.op (.lenS .s (.t 0)) [(.t 0)])])))])) [24, 25, 26, 27, 28, 29, 30] fr H := tale_row (items := [.tt 1, .sub 0 [0] [], .sub 0 [0] [], .sub 0 [2, 0] [26], .sub 0 [2, 1, 0] [26], .sub 0 [2, 1] [26], .sub 0 [2] [26], .sub 0 [] []]) (by kernel_rfl) fr H
def s_gnomonlaw07_GraphPost_r5t2 : List AOper := [⟨some 37, (.pick (.t 35) (.t 36) (.c (.s (.bool false)))), none⟩, ⟨some 4, (.move (.t 37)), none⟩]
def s_gnomonlaw07_GraphPost_r5p1 : List AOper := [⟨some 36, (.call (.c (.fn 10 [] [])) []), some (35, true)⟩]
def s_gnomonlaw07_GraphPost_r5t1 : List AOper := s_gnomonlaw07_GraphPost_r5p1 ++ s_gnomonlaw07_GraphPost_r5t2
def s_gnomonlaw07_GraphPost_r5p0 : List AOper := [⟨some 32, (.move (.t 5)), none⟩, ⟨some 33, (.lenS .s (.t 32)), none⟩, ⟨some 34, (.bin .eql (.t 33) (.c (.s (.int .i64 0)))), none⟩, ⟨some 35, (.move (.t 34)), none⟩]
def s_gnomonlaw07_GraphPost_r5 : List AOper := s_gnomonlaw07_GraphPost_r5p0 ++ s_gnomonlaw07_GraphPost_r5t1
theorem s_gnomonlaw07_GraphPost_r5p0_tale (fr : List V) (H : Heap) : evTale (symAll s_gnomonlaw07_GraphPost_r5p0 [0, 1, 5, 31, 32, 33, 34] [35]) [0, 1, 5, 31, 32, 33, 34] fr H = evTale (some (36, [], [(35, (.op (.bin .eql (.t 0) (.c (.s (.int .i64 0)))) [(.op (.lenS .s (.t 0)) [(.t 5)]), (.c (.s (.int .i64 0)))]))])) [0, 1, 5, 31, 32, 33, 34] fr H := tale_row (items := [.tt 5, .sub 0 [0] [], .sub 0 [] [], .sub 0 [] []]) (by kernel_rfl) fr H
theorem s_gnomonlaw07_GraphPost_r5_x (call : CallF) (it : IterF) (base : Nat) (f : List V) (H : Heap) : evC call it base (.region s_gnomonlaw07_GraphPost_r5 [] [0, 1, 5, 31, 32, 33, 34, 35, 36, 37]) f H = segC call it base s_gnomonlaw07_GraphPost_r5t1 [0, 1, 5, 31, 32, 33, 34, 35, 36, 37] H (evTale (symAll s_gnomonlaw07_GraphPost_r5p0 [0, 1, 5, 31, 32, 33, 34] [35]) [0, 1, 5, 31, 32, 33, 34] f H) (origRow call it base s_gnomonlaw07_GraphPost_r5 [0, 1, 5, 31, 32, 33, 34, 35, 36, 37] f H) := row_seg call it base s_gnomonlaw07_GraphPost_r5p0 s_gnomonlaw07_GraphPost_r5t1 (by kernel_rfl) f H
theorem s_gnomonlaw07_GraphPost_r5t1_x (call : CallF) (it : IterF) (base : Nat) (f : List V) (H : Heap) : evC call it base (.region s_gnomonlaw07_GraphPost_r5t1 [] [0, 1, 5, 31, 32, 33, 34, 35, 36, 37]) f H = thenC call it base (.region s_gnomonlaw07_GraphPost_r5t2 [] [0, 1, 5, 31, 32, 33, 34, 35, 36, 37]) (opsC [] s_gnomonlaw07_GraphPost_r5p1 [] (evOps call base [⟨some 36, (.call (.c (.fn 10 [] [])) []), some (35, true)⟩] f H)) := (row_op call it base s_gnomonlaw07_GraphPost_r5p1 s_gnomonlaw07_GraphPost_r5t2 (kc := []) (by kernel_rfl) f H).trans (by rw [row_ops]; rfl)
theorem s_gnomonlaw07_GraphPost_r5t2_tale (fr : List V) (H : Heap) : evTale (symAll s_gnomonlaw07_GraphPost_r5t2 [0, 1, 5, 31, 32, 33, 34, 35, 36, 37] [4]) [0, 1, 5, 31, 32, 33, 34, 35, 36, 37] fr H = evTale (some (38, [], [(4, (.pick (.t 35) (.t 36) (.c (.s (.bool false)))))])) [0, 1, 5, 31, 32, 33, 34, 35, 36, 37] fr H := tale_row (items := [.sub 0 [] [], .sub 0 [] []]) (by kernel_rfl) fr H
theorem s_gnomonlaw07_GraphPost_r5t2_x (call : CallF) (it : IterF) (base : Nat) (f : List V) (H : Heap) : evC call it base (.region s_gnomonlaw07_GraphPost_r5t2 [] [0, 1, 5, 31, 32, 33, 34, 35, 36, 37]) f H = segL H (evTale (symAll s_gnomonlaw07_GraphPost_r5t2 [0, 1, 5, 31, 32, 33, 34, 35, 36, 37] [4]) [0, 1, 5, 31, 32, 33, 34, 35, 36, 37] f H) (origRow call it base s_gnomonlaw07_GraphPost_r5t2 [0, 1, 5, 31, 32, 33, 34, 35, 36, 37] f H) := row_last call it base _ f H
def s_gnomonlaw07_GraphPost_r6t2 : List AOper := [⟨some 6, (.move (.t 40)), none⟩]
def s_gnomonlaw07_GraphPost_r6p1 : List AOper := [⟨some 40, (.mkSl [(.s (.int .i64 0))] 1 8 (.t 39) (.t 39)), none⟩]
def s_gnomonlaw07_GraphPost_r6t1 : List AOper := s_gnomonlaw07_GraphPost_r6p1 ++ s_gnomonlaw07_GraphPost_r6t2
def s_gnomonlaw07_GraphPost_r6p0 : List AOper := [⟨some 38, (.move (.t 0)), none⟩, ⟨some 39, (.lenS .s (.t 38)), none⟩]
def s_gnomonlaw07_GraphPost_r6 : List AOper := s_gnomonlaw07_GraphPost_r6p0 ++ s_gnomonlaw07_GraphPost_r6t1
theorem s_gnomonlaw07_GraphPost_r6p0_tale (fr : List V) (H : Heap) : evTale (symAll s_gnomonlaw07_GraphPost_r6p0 [31, 38] [39]) [31, 38] fr H = evTale (some (40, [], [(39, (.op (.lenS .s (.t 0)) [(.t 0)]))])) [31, 38] fr H := tale_row (items := [.tt 0, .sub 0 [] []]) (by kernel_rfl) fr H
theorem s_gnomonlaw07_GraphPost_r6_x (call : CallF) (it : IterF) (base : Nat) (f : List V) (H : Heap) : evC call it base (.region s_gnomonlaw07_GraphPost_r6 [] [31, 38, 39, 40]) f H = segC call it base s_gnomonlaw07_GraphPost_r6t1 [31, 38, 39, 40] H (evTale (symAll s_gnomonlaw07_GraphPost_r6p0 [31, 38] [39]) [31, 38] f H) (origRow call it base s_gnomonlaw07_GraphPost_r6 [31, 38, 39, 40] f H) := row_seg call it base s_gnomonlaw07_GraphPost_r6p0 s_gnomonlaw07_GraphPost_r6t1 (by kernel_rfl) f H
theorem s_gnomonlaw07_GraphPost_r6t1_x (call : CallF) (it : IterF) (base : Nat) (f : List V) (H : Heap) : evC call it base (.region s_gnomonlaw07_GraphPost_r6t1 [] [31, 38, 39, 40]) f H = thenC call it base (.region s_gnomonlaw07_GraphPost_r6t2 [] [31, 38, 39, 40]) (opsC [] s_gnomonlaw07_GraphPost_r6p1 [39] (evOps call base [⟨some 40, (.mkSl [(.s (.int .i64 0))] 1 8 (.t 39) (.t 39)), none⟩] f H)) := (row_op call it base s_gnomonlaw07_GraphPost_r6p1 s_gnomonlaw07_GraphPost_r6t2 (kc := [39]) (by kernel_rfl) f H).trans (by rw [row_ops]; rfl)
theorem s_gnomonlaw07_GraphPost_r6t2_tale (fr : List V) (H : Heap) : evTale (symAll s_gnomonlaw07_GraphPost_r6t2 [31, 38, 39, 40] [6]) [31, 38, 39, 40] fr H = evTale (some (7, [], [(6, (.t 40))])) [31, 38, 39, 40] fr H := tale_row (items := [.tt 40]) (by kernel_rfl) fr H
theorem s_gnomonlaw07_GraphPost_r6t2_x (call : CallF) (it : IterF) (base : Nat) (f : List V) (H : Heap) : evC call it base (.region s_gnomonlaw07_GraphPost_r6t2 [] [31, 38, 39, 40]) f H = segL H (evTale (symAll s_gnomonlaw07_GraphPost_r6t2 [31, 38, 39, 40] [6]) [31, 38, 39, 40] f H) (origRow call it base s_gnomonlaw07_GraphPost_r6t2 [31, 38, 39, 40] f H) := row_last call it base _ f H
def s_gnomonlaw07_GraphPost_r7 : List AOper := [
  ⟨some 7, (.move (.c (.s (.int .i64 0)))), none⟩]
theorem s_gnomonlaw07_GraphPost_r7_tale (fr : List V) (H : Heap) : evTale (symAll s_gnomonlaw07_GraphPost_r7 [] [7]) [] fr H = evTale (some (8, [], [(7, (.c (.s (.int .i64 0))))])) [] fr H := tale_row (items := [.cc (.s (.int .i64 0))]) (by kernel_rfl) fr H
def s_gnomonlaw07_GraphPost_r8 : List AOper := [
  ⟨some 41, (.move (.t 7)), none⟩,
  ⟨some 42, (.move (.t 5)), none⟩,
  ⟨some 43, (.lenS .s (.t 42)), none⟩,
  ⟨some 44, (.bin .lss (.t 41) (.t 43)), none⟩]
theorem s_gnomonlaw07_GraphPost_r8_tale (fr : List V) (H : Heap) : evTale (symAll s_gnomonlaw07_GraphPost_r8 [41, 42, 43] [44]) [41, 42, 43] fr H = evTale (some (45, [], [(44, (.op (.bin .lss (.t 0) (.t 1)) [(.t 7), (.op (.lenS .s (.t 0)) [(.t 5)])]))])) [41, 42, 43] fr H := tale_row (items := [.tt 7, .tt 5, .sub 0 [1] [], .sub 0 [] []]) (by kernel_rfl) fr H
def s_gnomonlaw07_GraphPost_r9 : List AOper := [
  ⟨some 47, (.move (.t 5)), none⟩,
  ⟨some 48, (.move (.t 7)), none⟩,
  ⟨some 49, (.indexAddr 1 (.t 47) (.t 48)), none⟩,
  ⟨some 50, (.load false 1 (.t 49)), none⟩,
  ⟨some 51, (.bin .lss (.t 50) (.c (.s (.int .i64 0)))), none⟩,
  ⟨some 52, (.move (.t 51)), none⟩,
  ⟨some 53, (.move (.t 5)), some (52, false)⟩,
  ⟨some 54, (.move (.t 7)), some (52, false)⟩,
  ⟨some 55, (.indexAddr 1 (.t 53) (.t 54)), some (52, false)⟩,
  ⟨some 56, (.load false 1 (.t 55)), some (52, false)⟩,
  ⟨some 57, (.move (.t 0)), some (52, false)⟩,
  ⟨some 58, (.lenS .s (.t 57)), some (52, false)⟩,
  ⟨some 59, (.bin .geq (.t 56) (.t 58)), some (52, false)⟩,
  ⟨some 60, (.pick (.t 52) (.c (.s (.bool true))) (.t 59)), none⟩,
  ⟨some 61, (.move (.t 60)), none⟩,
  ⟨some 62, (.move (.t 6)), some (61, false)⟩,
  ⟨some 63, (.move (.t 5)), some (61, false)⟩,
  ⟨some 64, (.move (.t 7)), some (61, false)⟩,
  ⟨some 65, (.indexAddr 1 (.t 63) (.t 64)), some (61, false)⟩,
  ⟨some 66, (.load false 1 (.t 65)), some (61, false)⟩,
  ⟨some 67, (.indexAddr 1 (.t 62) (.t 66)), some (61, false)⟩,
  ⟨some 68, (.load false 1 (.t 67)), some (61, false)⟩,
  ⟨some 69, (.bin .neq (.t 68) (.c (.s (.int .i64 0)))), some (61, false)⟩,
  ⟨some 70, (.pick (.t 61) (.c (.s (.bool true))) (.t 69)), none⟩]
theorem s_gnomonlaw07_GraphPost_r9_tale (fr : List V) (H : Heap) : evTale (symAll s_gnomonlaw07_GraphPost_r9 [44, 47, 48, 49, 50, 51, 52, 53, 54, 55, 56, 57, 58, 59, 60, 61, 62, 63, 64, 65, 66, 67, 68, 69] [70]) [44, 47, 48, 49, 50, 51, 52, 53, 54, 55, 56, 57, 58, 59, 60, 61, 62, 63, 64, 65, 66, 67, 68, 69] fr H = evTale (some (71, [], [(70, (.pick (.pick (.op (.bin .lss (.t 0) (.c (.s (.int .i64 0)))) [(.op (.load false 1 (.t 0)) [(.op (.indexAddr 1 (.t 0) (.t 1)) [(.t 5), (.t 7)])]), (.c (.s (.int .i64 0)))]) (.c (.s (.bool true))) (.op (.bin .geq (.t 0) (.t 1)) [(.op (.load false 1 (.t 0)) [(.op (.indexAddr 1 (.t 0) (.t 1)) [(.t 5), (.t 7)])]), (.op (.lenS .s (.t 0)) [(.t 0)])])) (.c (.s (.bool true))) (.op (.bin .neq (.t 0) (.c (.s (.int .i64 0)))) [(.op (.load false 1 (.t 0)) [(.op (.indexAddr 1 (.t 0) (.t 1)) [(.t 6), (.op (.load false 1 (.t 0)) [(.op (.indexAddr 1 (.t 0) (.t 1)) [(.t 5), (.t 7)])])])]), (.c (.s (.int .i64 0)))])))])) [44, 47, 48, 49, 50, 51, 52, 53, 54, 55, 56, 57, 58, 59, 60, 61, 62, 63, 64, 65, 66, 67, 68, 69] fr H := tale_row (items := [.tt 5, .tt 7, .sub 0 [0, 0, 0, 0] [], .sub 0 [0, 0, 0] [], .sub 0 [0, 0] [], .sub 0 [0, 0] [], .sub 0 [0, 2, 0, 0, 0] [52], .sub 0 [0, 2, 0, 0, 1] [52], .sub 0 [0, 2, 0, 0] [52], .sub 0 [0, 2, 0] [52], .sub 0 [0, 2, 1, 0] [52], .sub 0 [0, 2, 1] [52], .sub 0 [0, 2] [52], .sub 0 [0] [], .sub 0 [0] [], .sub 0 [2, 0, 0, 0] [61], .sub 0 [2, 0, 0, 1, 0, 0] [61], .sub 0 [2, 0, 0, 1, 0, 1] [61], .sub 0 [2, 0, 0, 1, 0] [61], .sub 0 [2, 0, 0, 1] [61], .sub 0 [2, 0, 0] [61], .sub 0 [2, 0] [61], .sub 0 [2] [61], .sub 0 [] []]) (by kernel_rfl) fr H
def s_gnomonlaw07_GraphPost_r10 : List AOper := [
  ⟨some 4, (.move (.c (.s (.bool false)))), none⟩]
theorem s_gnomonlaw07_GraphPost_r10_tale (fr : List V) (H : Heap) : evTale (symAll s_gnomonlaw07_GraphPost_r10 [0, 1, 5, 6, 7, 70] [4]) [0, 1, 5, 6, 7, 70] fr H = evTale (some (5, [], [(4, (.c (.s (.bool false))))])) [0, 1, 5, 6, 7, 70] fr H := tale_row (items := [.cc (.s (.bool false))]) (by kernel_rfl) fr H
def s_gnomonlaw07_GraphPost_r11t1 : List AOper := [⟨none, (.store 1 (.t 78) (.t 77)), none⟩]
def s_gnomonlaw07_GraphPost_r11p0 : List AOper := [⟨some 71, (.move (.t 6)), none⟩, ⟨some 72, (.move (.t 5)), none⟩, ⟨some 73, (.move (.t 7)), none⟩, ⟨some 74, (.indexAddr 1 (.t 72) (.t 73)), none⟩, ⟨some 75, (.load false 1 (.t 74)), none⟩, ⟨some 76, (.move (.t 7)), none⟩, ⟨some 77, (.bin .add (.t 76) (.c (.s (.int .i64 1)))), none⟩, ⟨some 78, (.indexAddr 1 (.t 71) (.t 75)), none⟩]
def s_gnomonlaw07_GraphPost_r11 : List AOper := s_gnomonlaw07_GraphPost_r11p0 ++ s_gnomonlaw07_GraphPost_r11t1
theorem s_gnomonlaw07_GraphPost_r11p0_tale (fr : List V) (H : Heap) : evTale (symAll s_gnomonlaw07_GraphPost_r11p0 [70, 71, 72, 73, 74, 75, 76] [77, 78]) [70, 71, 72, 73, 74, 75, 76] fr H = evTale (some (79, [], [(77, (.op (.bin .add (.t 0) (.c (.s (.int .i64 1)))) [(.t 7), (.c (.s (.int .i64 1)))])), (78, (.op (.indexAddr 1 (.t 0) (.t 1)) [(.t 6), (.op (.load false 1 (.t 0)) [(.op (.indexAddr 1 (.t 0) (.t 1)) [(.t 5), (.t 7)])])]))])) [70, 71, 72, 73, 74, 75, 76] fr H := tale_row (items := [.tt 6, .tt 5, .tt 7, .sub 1 [1, 0] [], .sub 1 [1] [], .tt 7, .sub 0 [] [], .sub 1 [] []]) (by kernel_rfl) fr H
theorem s_gnomonlaw07_GraphPost_r11_x (call : CallF) (it : IterF) (base : Nat) (f : List V) (H : Heap) : evC call it base (.region s_gnomonlaw07_GraphPost_r11 [] [70, 71, 72, 73, 74, 75, 76, 77, 78]) f H = segC call it base s_gnomonlaw07_GraphPost_r11t1 [70, 71, 72, 73, 74, 75, 76, 77, 78] H (evTale (symAll s_gnomonlaw07_GraphPost_r11p0 [70, 71, 72, 73, 74, 75, 76] [77, 78]) [70, 71, 72, 73, 74, 75, 76] f H) (origRow call it base s_gnomonlaw07_GraphPost_r11 [70, 71, 72, 73, 74, 75, 76, 77, 78] f H) := row_seg call it base s_gnomonlaw07_GraphPost_r11p0 s_gnomonlaw07_GraphPost_r11t1 (by kernel_rfl) f H
theorem s_gnomonlaw07_GraphPost_r11t1_x (call : CallF) (it : IterF) (base : Nat) (f : List V) (H : Heap) : evC call it base (.region s_gnomonlaw07_GraphPost_r11t1 [] [70, 71, 72, 73, 74, 75, 76, 77, 78]) f H = opsC [] s_gnomonlaw07_GraphPost_r11t1 [70, 71, 72, 73, 74, 75, 76, 77, 78] (evOps call base [⟨none, (.store 1 (.t 78) (.t 77)), none⟩] f H) := row_ops call it base _ _ _ f H
def s_gnomonlaw07_GraphPost_r12 : List AOper := [
  ⟨some 45, (.move (.t 7)), none⟩,
  ⟨some 46, (.bin .add (.t 45) (.c (.s (.int .i64 1)))), none⟩,
  ⟨some 7, (.move (.t 46)), none⟩]
theorem s_gnomonlaw07_GraphPost_r12_tale (fr : List V) (H : Heap) : evTale (symAll s_gnomonlaw07_GraphPost_r12 [45, 46] [7]) [45, 46] fr H = evTale (some (47, [], [(7, (.op (.bin .add (.t 0) (.c (.s (.int .i64 1)))) [(.t 7), (.c (.s (.int .i64 1)))]))])) [45, 46] fr H := tale_row (items := [.tt 7, .sub 0 [] [], .sub 0 [] []]) (by kernel_rfl) fr H
def s_gnomonlaw07_GraphPost_l0_b : ACode :=
  (.seq (.seq (.regionE s_gnomonlaw07_GraphPost_r8 [41, 42, 43] [44])
  (.cond (.t 44)
  .skip
  (.exit 0)))
  (.seq (.block 1
  (.seq (.seq (.regionE s_gnomonlaw07_GraphPost_r9 [44, 47, 48, 49, 50, 51, 52, 53, 54, 55, 56, 57, 58, 59, 60, 61, 62, 63, 64, 65, 66, 67, 68, 69] [70])
  (.cond (.t 70)
  (.seq (.regionE s_gnomonlaw07_GraphPost_r10 [0, 1, 5, 6, 7, 70] [4])
  .ret)
  .skip))
  (.region s_gnomonlaw07_GraphPost_r11 [] [70, 71, 72, 73, 74, 75, 76, 77, 78])))
  (.regionE s_gnomonlaw07_GraphPost_r12 [45, 46] [7])))
def s_gnomonlaw07_GraphPost_l0 : ACode := s_gnomonlaw07_GraphPost_l0_b
theorem s_gnomonlaw07_GraphPost_l0_ev (call : CallF) (it : IterF) (base : Nat) (fr : List V) (H : Heap) : evC call it base s_gnomonlaw07_GraphPost_l0 fr H = evC call it base s_gnomonlaw07_GraphPost_l0_b fr H := rfl
def s_gnomonlaw07_GraphPost_r13 : List AOper := [
  ⟨some 79, (.move (.t 5)), none⟩,
  ⟨some 80, (.lenS .s (.t 79)), none⟩,
  ⟨some 81, (.bin .eql (.t 80) (.c (.s (.int .i64 0)))), none⟩,
  ⟨some 82, (.move (.t 81)), none⟩,
  ⟨some 83, (.move (.t 5)), some (82, false)⟩,
  ⟨some 84, (.indexAddr 1 (.t 83) (.c (.s (.int .i64 0)))), some (82, false)⟩,
  ⟨some 85, (.load false 1 (.t 84)), some (82, false)⟩,
  ⟨some 86, (.move (.t 1)), some (82, false)⟩,
  ⟨some 87, (.bin .neq (.t 85) (.t 86)), some (82, false)⟩,
  ⟨some 88, (.pick (.t 82) (.c (.s (.bool true))) (.t 87)), none⟩]
theorem s_gnomonlaw07_GraphPost_r13_tale (fr : List V) (H : Heap) : evTale (symAll s_gnomonlaw07_GraphPost_r13 [5, 7, 44, 79, 80, 81, 82, 83, 84, 85, 86, 87] [88]) [5, 7, 44, 79, 80, 81, 82, 83, 84, 85, 86, 87] fr H = evTale (some (89, [], [(88, (.pick (.op (.bin .eql (.t 0) (.c (.s (.int .i64 0)))) [(.op (.lenS .s (.t 0)) [(.t 5)]), (.c (.s (.int .i64 0)))]) (.c (.s (.bool true))) (.op (.bin .neq (.t 0) (.t 1)) [(.op (.load false 1 (.t 0)) [(.op (.indexAddr 1 (.t 0) (.c (.s (.int .i64 0)))) [(.t 5), (.c (.s (.int .i64 0)))])]), (.t 1)])))])) [5, 7, 44, 79, 80, 81, 82, 83, 84, 85, 86, 87] fr H := tale_row (items := [.tt 5, .sub 0 [0, 0] [], .sub 0 [0] [], .sub 0 [0] [], .sub 0 [2, 0, 0, 0] [82], .sub 0 [2, 0, 0] [82], .sub 0 [2, 0] [82], .sub 0 [2, 1] [82], .sub 0 [2] [82], .sub 0 [] []]) (by kernel_rfl) fr H
def s_gnomonlaw07_GraphPost_r14 : List AOper := [
  ⟨some 4, (.move (.c (.s (.bool false)))), none⟩]
theorem s_gnomonlaw07_GraphPost_r14_tale (fr : List V) (H : Heap) : evTale (symAll s_gnomonlaw07_GraphPost_r14 [0, 1, 6, 88] [4]) [0, 1, 6, 88] fr H = evTale (some (5, [], [(4, (.c (.s (.bool false))))])) [0, 1, 6, 88] fr H := tale_row (items := [.cc (.s (.bool false))]) (by kernel_rfl) fr H
def s_gnomonlaw07_GraphPost_r15t3 : List AOper := [⟨some 8, (.move (.t 92)), none⟩]
def s_gnomonlaw07_GraphPost_r15p2 : List AOper := [⟨some 92, (.call (.c (.fn 18 [] [])) [(.t 89), (.t 91)]), none⟩]
def s_gnomonlaw07_GraphPost_r15t2 : List AOper := s_gnomonlaw07_GraphPost_r15p2 ++ s_gnomonlaw07_GraphPost_r15t3
def s_gnomonlaw07_GraphPost_r15p1 : List AOper := [⟨some 91, (.buildSl 1 1 [(.s (.int .i64 0))] [(0, (.t 90))]), none⟩]
def s_gnomonlaw07_GraphPost_r15t1 : List AOper := s_gnomonlaw07_GraphPost_r15p1 ++ s_gnomonlaw07_GraphPost_r15t2
def s_gnomonlaw07_GraphPost_r15p0 : List AOper := [⟨some 89, (.move (.t 0)), none⟩, ⟨some 90, (.move (.t 1)), none⟩]
def s_gnomonlaw07_GraphPost_r15 : List AOper := s_gnomonlaw07_GraphPost_r15p0 ++ s_gnomonlaw07_GraphPost_r15t1
theorem s_gnomonlaw07_GraphPost_r15p0_tale (fr : List V) (H : Heap) : evTale (symAll s_gnomonlaw07_GraphPost_r15p0 [1, 88] [89, 90]) [1, 88] fr H = evTale (some (91, [], [(89, (.t 0)), (90, (.t 1))])) [1, 88] fr H := tale_row (items := [.tt 0, .tt 1]) (by kernel_rfl) fr H
theorem s_gnomonlaw07_GraphPost_r15_x (call : CallF) (it : IterF) (base : Nat) (f : List V) (H : Heap) : evC call it base (.region s_gnomonlaw07_GraphPost_r15 [] [1, 88, 89, 90, 91, 92]) f H = segC call it base s_gnomonlaw07_GraphPost_r15t1 [1, 88, 89, 90, 91, 92] H (evTale (symAll s_gnomonlaw07_GraphPost_r15p0 [1, 88] [89, 90]) [1, 88] f H) (origRow call it base s_gnomonlaw07_GraphPost_r15 [1, 88, 89, 90, 91, 92] f H) := row_seg call it base s_gnomonlaw07_GraphPost_r15p0 s_gnomonlaw07_GraphPost_r15t1 (by kernel_rfl) f H
theorem s_gnomonlaw07_GraphPost_r15t1_x (call : CallF) (it : IterF) (base : Nat) (f : List V) (H : Heap) : evC call it base (.region s_gnomonlaw07_GraphPost_r15t1 [] [1, 88, 89, 90, 91, 92]) f H = thenC call it base (.region s_gnomonlaw07_GraphPost_r15t2 [] [1, 88, 89, 90, 91, 92]) (opsC [] s_gnomonlaw07_GraphPost_r15p1 [90] (evOps call base [⟨some 91, (.buildSl 1 1 [(.s (.int .i64 0))] [(0, (.t 90))]), none⟩] f H)) := (row_op call it base s_gnomonlaw07_GraphPost_r15p1 s_gnomonlaw07_GraphPost_r15t2 (kc := [90]) (by kernel_rfl) f H).trans (by rw [row_ops]; rfl)
theorem s_gnomonlaw07_GraphPost_r15t2_x (call : CallF) (it : IterF) (base : Nat) (f : List V) (H : Heap) : evC call it base (.region s_gnomonlaw07_GraphPost_r15t2 [] [1, 88, 89, 90, 91, 92]) f H = thenC call it base (.region s_gnomonlaw07_GraphPost_r15t3 [] [1, 88, 89, 90, 91, 92]) (opsC [] s_gnomonlaw07_GraphPost_r15p2 [89, 91] (evOps call base [⟨some 92, (.call (.c (.fn 18 [] [])) [(.t 89), (.t 91)]), none⟩] f H)) := (row_op call it base s_gnomonlaw07_GraphPost_r15p2 s_gnomonlaw07_GraphPost_r15t3 (kc := [89, 91]) (by kernel_rfl) f H).trans (by rw [row_ops]; rfl)
theorem s_gnomonlaw07_GraphPost_r15t3_tale (fr : List V) (H : Heap) : evTale (symAll s_gnomonlaw07_GraphPost_r15t3 [1, 88, 89, 90, 91, 92] [8]) [1, 88, 89, 90, 91, 92] fr H = evTale (some (9, [], [(8, (.t 92))])) [1, 88, 89, 90, 91, 92] fr H := tale_row (items := [.tt 92]) (by kernel_rfl) fr H
theorem s_gnomonlaw07_GraphPost_r15t3_x (call : CallF) (it : IterF) (base : Nat) (f : List V) (H : Heap) : evC call it base (.region s_gnomonlaw07_GraphPost_r15t3 [] [1, 88, 89, 90, 91, 92]) f H = segL H (evTale (symAll s_gnomonlaw07_GraphPost_r15t3 [1, 88, 89, 90, 91, 92] [8]) [1, 88, 89, 90, 91, 92] f H) (origRow call it base s_gnomonlaw07_GraphPost_r15t3 [1, 88, 89, 90, 91, 92] f H) := row_last call it base _ f H
def s_gnomonlaw07_GraphPost_r16 : List AOper := [
  ⟨some 9, (.move (.c (.s (.int .i64 0)))), none⟩]
theorem s_gnomonlaw07_GraphPost_r16_tale (fr : List V) (H : Heap) : evTale (symAll s_gnomonlaw07_GraphPost_r16 [] [9]) [] fr H = evTale (some (10, [], [(9, (.c (.s (.int .i64 0))))])) [] fr H := tale_row (items := [.cc (.s (.int .i64 0))]) (by kernel_rfl) fr H
def s_gnomonlaw07_GraphPost_r17 : List AOper := [
  ⟨some 93, (.move (.t 9)), none⟩,
  ⟨some 94, (.move (.t 0)), none⟩,
  ⟨some 95, (.lenS .s (.t 94)), none⟩,
  ⟨some 96, (.bin .lss (.t 93) (.t 95)), none⟩]
theorem s_gnomonlaw07_GraphPost_r17_tale (fr : List V) (H : Heap) : evTale (symAll s_gnomonlaw07_GraphPost_r17 [93, 94, 95] [96]) [93, 94, 95] fr H = evTale (some (97, [], [(96, (.op (.bin .lss (.t 0) (.t 1)) [(.t 9), (.op (.lenS .s (.t 0)) [(.t 0)])]))])) [93, 94, 95] fr H := tale_row (items := [.tt 9, .tt 0, .sub 0 [1] [], .sub 0 [] []]) (by kernel_rfl) fr H
def s_gnomonlaw07_GraphPost_r18 : List AOper := [
  ⟨some 99, (.move (.t 8)), none⟩,
  ⟨some 100, (.move (.t 9)), none⟩,
  ⟨some 101, (.indexAddr 1 (.t 99) (.t 100)), none⟩,
  ⟨some 102, (.load false 1 (.t 101)), none⟩,
  ⟨some 103, (.move (.t 6)), none⟩,
  ⟨some 104, (.move (.t 9)), none⟩,
  ⟨some 105, (.indexAddr 1 (.t 103) (.t 104)), none⟩,
  ⟨some 106, (.load false 1 (.t 105)), none⟩,
  ⟨some 107, (.bin .gtr (.t 106) (.c (.s (.int .i64 0)))), none⟩,
  ⟨some 108, (.eqB true (.t 102) (.t 107)), none⟩]
theorem s_gnomonlaw07_GraphPost_r18_tale (fr : List V) (H : Heap) : evTale (symAll s_gnomonlaw07_GraphPost_r18 [96, 99, 100, 101, 102, 103, 104, 105, 106, 107] [108]) [96, 99, 100, 101, 102, 103, 104, 105, 106, 107] fr H = evTale (some (109, [], [(108, (.op (.eqB true (.t 0) (.t 1)) [(.op (.load false 1 (.t 0)) [(.op (.indexAddr 1 (.t 0) (.t 1)) [(.t 8), (.t 9)])]), (.op (.bin .gtr (.t 0) (.c (.s (.int .i64 0)))) [(.op (.load false 1 (.t 0)) [(.op (.indexAddr 1 (.t 0) (.t 1)) [(.t 6), (.t 9)])]), (.c (.s (.int .i64 0)))])]))])) [96, 99, 100, 101, 102, 103, 104, 105, 106, 107] fr H := tale_row (items := [.tt 8, .tt 9, .sub 0 [0, 0] [], .sub 0 [0] [], .tt 6, .tt 9, .sub 0 [1, 0, 0] [], .sub 0 [1, 0] [], .sub 0 [1] [], .sub 0 [] []]) (by kernel_rfl) fr H
def s_gnomonlaw07_GraphPost_r19 : List AOper := [
  ⟨some 4, (.move (.c (.s (.bool false)))), none⟩]
theorem s_gnomonlaw07_GraphPost_r19_tale (fr : List V) (H : Heap) : evTale (symAll s_gnomonlaw07_GraphPost_r19 [0, 6, 8, 9, 108] [4]) [0, 6, 8, 9, 108] fr H = evTale (some (5, [], [(4, (.c (.s (.bool false))))])) [0, 6, 8, 9, 108] fr H := tale_row (items := [.cc (.s (.bool false))]) (by kernel_rfl) fr H
def s_gnomonlaw07_GraphPost_r20 : List AOper := [
  ⟨some 97, (.move (.t 9)), none⟩,
  ⟨some 98, (.bin .add (.t 97) (.c (.s (.int .i64 1)))), none⟩,
  ⟨some 9, (.move (.t 98)), none⟩]
theorem s_gnomonlaw07_GraphPost_r20_tale (fr : List V) (H : Heap) : evTale (symAll s_gnomonlaw07_GraphPost_r20 [97, 98, 108] [9]) [97, 98, 108] fr H = evTale (some (99, [], [(9, (.op (.bin .add (.t 0) (.c (.s (.int .i64 1)))) [(.t 9), (.c (.s (.int .i64 1)))]))])) [97, 98, 108] fr H := tale_row (items := [.tt 9, .sub 0 [] [], .sub 0 [] []]) (by kernel_rfl) fr H
def s_gnomonlaw07_GraphPost_l1_b : ACode :=
  (.seq (.seq (.regionE s_gnomonlaw07_GraphPost_r17 [93, 94, 95] [96])
  (.cond (.t 96)
  .skip
  (.exit 2)))
  (.seq (.block 3
  (.seq (.regionE s_gnomonlaw07_GraphPost_r18 [96, 99, 100, 101, 102, 103, 104, 105, 106, 107] [108])
  (.cond (.t 108)
  (.seq (.regionE s_gnomonlaw07_GraphPost_r19 [0, 6, 8, 9, 108] [4])
  .ret)
  .skip)))
  (.regionE s_gnomonlaw07_GraphPost_r20 [97, 98, 108] [9])))
def s_gnomonlaw07_GraphPost_l1 : ACode := s_gnomonlaw07_GraphPost_l1_b
theorem s_gnomonlaw07_GraphPost_l1_ev (call : CallF) (it : IterF) (base : Nat) (fr : List V) (H : Heap) : evC call it base s_gnomonlaw07_GraphPost_l1 fr H = evC call it base s_gnomonlaw07_GraphPost_l1_b fr H := rfl
def s_gnomonlaw07_GraphPost_r21t2 : List AOper := [⟨some 10, (.move (.t 110)), none⟩]
def s_gnomonlaw07_GraphPost_r21p1 : List AOper := [⟨some 110, (.call (.c (.fn 12 [] [])) [(.t 109)]), none⟩]
def s_gnomonlaw07_GraphPost_r21t1 : List AOper := s_gnomonlaw07_GraphPost_r21p1 ++ s_gnomonlaw07_GraphPost_r21t2
def s_gnomonlaw07_GraphPost_r21p0 : List AOper := [⟨some 109, (.move (.t 0)), none⟩]
def s_gnomonlaw07_GraphPost_r21 : List AOper := s_gnomonlaw07_GraphPost_r21p0 ++ s_gnomonlaw07_GraphPost_r21t1
theorem s_gnomonlaw07_GraphPost_r21p0_tale (fr : List V) (H : Heap) : evTale (symAll s_gnomonlaw07_GraphPost_r21p0 [9, 96] [109]) [9, 96] fr H = evTale (some (110, [], [(109, (.t 0))])) [9, 96] fr H := tale_row (items := [.tt 0]) (by kernel_rfl) fr H
theorem s_gnomonlaw07_GraphPost_r21_x (call : CallF) (it : IterF) (base : Nat) (f : List V) (H : Heap) : evC call it base (.region s_gnomonlaw07_GraphPost_r21 [] [9, 96, 109, 110]) f H = segC call it base s_gnomonlaw07_GraphPost_r21t1 [9, 96, 109, 110] H (evTale (symAll s_gnomonlaw07_GraphPost_r21p0 [9, 96] [109]) [9, 96] f H) (origRow call it base s_gnomonlaw07_GraphPost_r21 [9, 96, 109, 110] f H) := row_seg call it base s_gnomonlaw07_GraphPost_r21p0 s_gnomonlaw07_GraphPost_r21t1 (by kernel_rfl) f H
theorem s_gnomonlaw07_GraphPost_r21t1_x (call : CallF) (it : IterF) (base : Nat) (f : List V) (H : Heap) : evC call it base (.region s_gnomonlaw07_GraphPost_r21t1 [] [9, 96, 109, 110]) f H = thenC call it base (.region s_gnomonlaw07_GraphPost_r21t2 [] [9, 96, 109, 110]) (opsC [] s_gnomonlaw07_GraphPost_r21p1 [109] (evOps call base [⟨some 110, (.call (.c (.fn 12 [] [])) [(.t 109)]), none⟩] f H)) := (row_op call it base s_gnomonlaw07_GraphPost_r21p1 s_gnomonlaw07_GraphPost_r21t2 (kc := [109]) (by kernel_rfl) f H).trans (by rw [row_ops]; rfl)
theorem s_gnomonlaw07_GraphPost_r21t2_tale (fr : List V) (H : Heap) : evTale (symAll s_gnomonlaw07_GraphPost_r21t2 [9, 96, 109, 110] [10]) [9, 96, 109, 110] fr H = evTale (some (11, [], [(10, (.t 110))])) [9, 96, 109, 110] fr H := tale_row (items := [.tt 110]) (by kernel_rfl) fr H
theorem s_gnomonlaw07_GraphPost_r21t2_x (call : CallF) (it : IterF) (base : Nat) (f : List V) (H : Heap) : evC call it base (.region s_gnomonlaw07_GraphPost_r21t2 [] [9, 96, 109, 110]) f H = segL H (evTale (symAll s_gnomonlaw07_GraphPost_r21t2 [9, 96, 109, 110] [10]) [9, 96, 109, 110] f H) (origRow call it base s_gnomonlaw07_GraphPost_r21t2 [9, 96, 109, 110] f H) := row_last call it base _ f H
def s_gnomonlaw07_GraphPost_r22 : List AOper := [
  ⟨some 11, (.move (.c (.s (.int .i64 0)))), none⟩]
theorem s_gnomonlaw07_GraphPost_r22_tale (fr : List V) (H : Heap) : evTale (symAll s_gnomonlaw07_GraphPost_r22 [] [11]) [] fr H = evTale (some (12, [], [(11, (.c (.s (.int .i64 0))))])) [] fr H := tale_row (items := [.cc (.s (.int .i64 0))]) (by kernel_rfl) fr H
def s_gnomonlaw07_GraphPost_r23 : List AOper := [
  ⟨some 111, (.move (.t 11)), none⟩,
  ⟨some 112, (.move (.t 10)), none⟩,
  ⟨some 113, (.lenS .s (.t 112)), none⟩,
  ⟨some 114, (.bin .lss (.t 111) (.t 113)), none⟩]
theorem s_gnomonlaw07_GraphPost_r23_tale (fr : List V) (H : Heap) : evTale (symAll s_gnomonlaw07_GraphPost_r23 [111, 112, 113] [114]) [111, 112, 113] fr H = evTale (some (115, [], [(114, (.op (.bin .lss (.t 0) (.t 1)) [(.t 11), (.op (.lenS .s (.t 0)) [(.t 10)])]))])) [111, 112, 113] fr H := tale_row (items := [.tt 11, .tt 10, .sub 0 [1] [], .sub 0 [] []]) (by kernel_rfl) fr H
def s_gnomonlaw07_GraphPost_r24 : List AOper := [
  ⟨some 12, (.move (.c (.s (.int .i64 0)))), none⟩]
theorem s_gnomonlaw07_GraphPost_r24_tale (fr : List V) (H : Heap) : evTale (symAll s_gnomonlaw07_GraphPost_r24 [114] [12]) [114] fr H = evTale (some (13, [], [(12, (.c (.s (.int .i64 0))))])) [114] fr H := tale_row (items := [.cc (.s (.int .i64 0))]) (by kernel_rfl) fr H
def s_gnomonlaw07_GraphPost_r25 : List AOper := [
  ⟨some 117, (.move (.t 12)), none⟩,
  ⟨some 118, (.move (.t 10)), none⟩,
  ⟨some 119, (.move (.t 11)), none⟩,
  ⟨some 120, (.indexAddr 1 (.t 118) (.t 119)), none⟩,
  ⟨some 121, (.load false 1 (.t 120)), none⟩,
  ⟨some 122, (.lenS .s (.t 121)), none⟩,
  ⟨some 123, (.bin .lss (.t 117) (.t 122)), none⟩,
  ⟨some 124, (.move (.t 123)), none⟩,
  ⟨some 125, (.move (.t 8)), some (124, true)⟩,
  ⟨some 126, (.move (.t 11)), some (124, true)⟩,
  ⟨some 127, (.indexAddr 1 (.t 125) (.t 126)), some (124, true)⟩,
  ⟨some 128, (.load false 1 (.t 127)), some (124, true)⟩,
  ⟨some 129, (.pick (.t 124) (.t 128) (.c (.s (.bool false)))), none⟩]
theorem s_gnomonlaw07_GraphPost_r25_tale (fr : List V) (H : Heap) : evTale (symAll s_gnomonlaw07_GraphPost_r25 [117, 118, 119, 120, 121, 122, 123, 124, 125, 126, 127, 128] [129]) [117, 118, 119, 120, 121, 122, 123, 124, 125, 126, 127, 128] fr H = evTale (some (130, [], [(129, (.pick (.op (.bin .lss (.t 0) (.t 1)) [(.t 12), (.op (.lenS .s (.t 0)) [(.op (.load false 1 (.t 0)) [(.op (.indexAddr 1 (.t 0) (.t 1)) [(.t 10), (.t 11)])])])]) (.op (.load false 1 (.t 0)) [(.op (.indexAddr 1 (.t 0) (.t 1)) [(.t 8), (.t 11)])]) (.c (.s (.bool false)))))])) [117, 118, 119, 120, 121, 122, 123, 124, 125, 126, 127, 128] fr H := tale_row (items := [.tt 12, .tt 10, .tt 11, .sub 0 [0, 1, 0, 0] [], .sub 0 [0, 1, 0] [], .sub 0 [0, 1] [], .sub 0 [0] [], .sub 0 [0] [], .sub 0 [1, 0, 0] [124], .sub 0 [1, 0, 1] [124], .sub 0 [1, 0] [124], .sub 0 [1] [124], .sub 0 [] []]) (by kernel_rfl) fr H
def s_gnomonlaw07_GraphPost_r26t11 : List AOper := [⟨some 158, (.un .not (.t 157)), some (147, true)⟩, ⟨some 159, (.pick (.t 147) (.t 158) (.c (.s (.bool false)))), none⟩]
def s_gnomonlaw07_GraphPost_r26p10 : List AOper := [⟨some 157, (.call (.c (.fn 20 [] [])) [(.t 148), (.t 155), (.t 156)]), some (147, true)⟩]
def s_gnomonlaw07_GraphPost_r26t10 : List AOper := s_gnomonlaw07_GraphPost_r26p10 ++ s_gnomonlaw07_GraphPost_r26t11
def s_gnomonlaw07_GraphPost_r26p9 : List AOper := [⟨some 156, (.move (.t 11)), some (147, true)⟩]
def s_gnomonlaw07_GraphPost_r26t9 : List AOper := s_gnomonlaw07_GraphPost_r26p9 ++ s_gnomonlaw07_GraphPost_r26t10
def s_gnomonlaw07_GraphPost_r26p8 : List AOper := [⟨some 155, (.load false 1 (.t 154)), some (147, true)⟩]
def s_gnomonlaw07_GraphPost_r26t8 : List AOper := s_gnomonlaw07_GraphPost_r26p8 ++ s_gnomonlaw07_GraphPost_r26t9
def s_gnomonlaw07_GraphPost_r26p7 : List AOper := [⟨some 154, (.indexAddr 1 (.t 152) (.t 153)), some (147, true)⟩]
def s_gnomonlaw07_GraphPost_r26t7 : List AOper := s_gnomonlaw07_GraphPost_r26p7 ++ s_gnomonlaw07_GraphPost_r26t8
def s_gnomonlaw07_GraphPost_r26p6 : List AOper := [⟨some 153, (.move (.t 12)), some (147, true)⟩]
def s_gnomonlaw07_GraphPost_r26t6 : List AOper := s_gnomonlaw07_GraphPost_r26p6 ++ s_gnomonlaw07_GraphPost_r26t7
def s_gnomonlaw07_GraphPost_r26p5 : List AOper := [⟨some 152, (.load false 1 (.t 151)), some (147, true)⟩]
def s_gnomonlaw07_GraphPost_r26t5 : List AOper := s_gnomonlaw07_GraphPost_r26p5 ++ s_gnomonlaw07_GraphPost_r26t6
def s_gnomonlaw07_GraphPost_r26p4 : List AOper := [⟨some 151, (.indexAddr 1 (.t 149) (.t 150)), some (147, true)⟩]
def s_gnomonlaw07_GraphPost_r26t4 : List AOper := s_gnomonlaw07_GraphPost_r26p4 ++ s_gnomonlaw07_GraphPost_r26t5
def s_gnomonlaw07_GraphPost_r26p3 : List AOper := [⟨some 150, (.move (.t 11)), some (147, true)⟩]
def s_gnomonlaw07_GraphPost_r26t3 : List AOper := s_gnomonlaw07_GraphPost_r26p3 ++ s_gnomonlaw07_GraphPost_r26t4
def s_gnomonlaw07_GraphPost_r26p2 : List AOper := [⟨some 149, (.move (.t 10)), some (147, true)⟩]
def s_gnomonlaw07_GraphPost_r26t2 : List AOper := s_gnomonlaw07_GraphPost_r26p2 ++ s_gnomonlaw07_GraphPost_r26t3
def s_gnomonlaw07_GraphPost_r26p1 : List AOper := [⟨some 148, (.move (.t 0)), some (147, true)⟩]
def s_gnomonlaw07_GraphPost_r26t1 : List AOper := s_gnomonlaw07_GraphPost_r26p1 ++ s_gnomonlaw07_GraphPost_r26t2
def s_gnomonlaw07_GraphPost_r26p0 : List AOper := [⟨some 132, (.move (.t 6)), none⟩, ⟨some 133, (.move (.t 10)), none⟩, ⟨some 134, (.move (.t 11)), none⟩, ⟨some 135, (.indexAddr 1 (.t 133) (.t 134)), none⟩, ⟨some 136, (.load false 1 (.t 135)), none⟩, ⟨some 137, (.move (.t 12)), none⟩, ⟨some 138, (.indexAddr 1 (.t 136) (.t 137)), none⟩, ⟨some 139, (.load false 1 (.t 138)), none⟩, ⟨some 140, (.indexAddr 1 (.t 132) (.t 139)), none⟩, ⟨some 141, (.load false 1 (.t 140)), none⟩, ⟨some 142, (.move (.t 6)), none⟩, ⟨some 143, (.move (.t 11)), none⟩, ⟨some 144, (.indexAddr 1 (.t 142) (.t 143)), none⟩, ⟨some 145, (.load false 1 (.t 144)), none⟩, ⟨some 146, (.bin .leq (.t 141) (.t 145)), none⟩, ⟨some 147, (.move (.t 146)), none⟩]
def s_gnomonlaw07_GraphPost_r26 : List AOper := s_gnomonlaw07_GraphPost_r26p0 ++ s_gnomonlaw07_GraphPost_r26t1
theorem s_gnomonlaw07_GraphPost_r26p0_tale (fr : List V) (H : Heap) : evTale (symAll s_gnomonlaw07_GraphPost_r26p0 [129, 132, 133, 134, 135, 136, 137, 138, 139, 140, 141, 142, 143, 144, 145, 146] [147]) [129, 132, 133, 134, 135, 136, 137, 138, 139, 140, 141, 142, 143, 144, 145, 146] fr H = evTale (some (148, [], [(147, (.op (.bin .leq (.t 0) (.t 1)) [(.op (.load false 1 (.t 0)) [(.op (.indexAddr 1 (.t 0) (.t 1)) [(.t 6), (.op (.load false 1 (.t 0)) [(.op (.indexAddr 1 (.t 0) (.t 1)) [(.op (.load false 1 (.t 0)) [(.op (.indexAddr 1 (.t 0) (.t 1)) [(.t 10), (.t 11)])]), (.t 12)])])])]), (.op (.load false 1 (.t 0)) [(.op (.indexAddr 1 (.t 0) (.t 1)) [(.t 6), (.t 11)])])]))])) [129, 132, 133, 134, 135, 136, 137, 138, 139, 140, 141, 142, 143, 144, 145, 146] fr H := tale_row (items := [.tt 6, .tt 10, .tt 11, .sub 0 [0, 0, 1, 0, 0, 0] [], .sub 0 [0, 0, 1, 0, 0] [], .tt 12, .sub 0 [0, 0, 1, 0] [], .sub 0 [0, 0, 1] [], .sub 0 [0, 0] [], .sub 0 [0] [], .tt 6, .tt 11, .sub 0 [1, 0] [], .sub 0 [1] [], .sub 0 [] [], .sub 0 [] []]) (by kernel_rfl) fr H
theorem s_gnomonlaw07_GraphPost_r26_x (call : CallF) (it : IterF) (base : Nat) (f : List V) (H : Heap) : evC call it base (.region s_gnomonlaw07_GraphPost_r26 [] [129, 132, 133, 134, 135, 136, 137, 138, 139, 140, 141, 142, 143, 144, 145, 146, 147, 148, 149, 150, 151, 152, 153, 154, 155, 156, 157, 158]) f H = segC call it base s_gnomonlaw07_GraphPost_r26t1 [129, 132, 133, 134, 135, 136, 137, 138, 139, 140, 141, 142, 143, 144, 145, 146, 147, 148, 149, 150, 151, 152, 153, 154, 155, 156, 157, 158] H (evTale (symAll s_gnomonlaw07_GraphPost_r26p0 [129, 132, 133, 134, 135, 136, 137, 138, 139, 140, 141, 142, 143, 144, 145, 146] [147]) [129, 132, 133, 134, 135, 136, 137, 138, 139, 140, 141, 142, 143, 144, 145, 146] f H) (origRow call it base s_gnomonlaw07_GraphPost_r26 [129, 132, 133, 134, 135, 136, 137, 138, 139, 140, 141, 142, 143, 144, 145, 146, 147, 148, 149, 150, 151, 152, 153, 154, 155, 156, 157, 158] f H) := row_seg call it base s_gnomonlaw07_GraphPost_r26p0 s_gnomonlaw07_GraphPost_r26t1 (by kernel_rfl) f H
theorem s_gnomonlaw07_GraphPost_r26t1_x (call : CallF) (it : IterF) (base : Nat) (f : List V) (H : Heap) : evC call it base (.region s_gnomonlaw07_GraphPost_r26t1 [] [129, 132, 133, 134, 135, 136, 137, 138, 139, 140, 141, 142, 143, 144, 145, 146, 147, 148, 149, 150, 151, 152, 153, 154, 155, 156, 157, 158]) f H = thenC call it base (.region s_gnomonlaw07_GraphPost_r26t2 [] [129, 132, 133, 134, 135, 136, 137, 138, 139, 140, 141, 142, 143, 144, 145, 146, 147, 148, 149, 150, 151, 152, 153, 154, 155, 156, 157, 158]) (opsC [] s_gnomonlaw07_GraphPost_r26p1 [] (evOps call base [⟨some 148, (.move (.t 0)), some (147, true)⟩] f H)) := (row_op call it base s_gnomonlaw07_GraphPost_r26p1 s_gnomonlaw07_GraphPost_r26t2 (kc := []) (by kernel_rfl) f H).trans (by rw [row_ops]; rfl)
theorem s_gnomonlaw07_GraphPost_r26t2_x (call : CallF) (it : IterF) (base : Nat) (f : List V) (H : Heap) : evC call it base (.region s_gnomonlaw07_GraphPost_r26t2 [] [129, 132, 133, 134, 135, 136, 137, 138, 139, 140, 141, 142, 143, 144, 145, 146, 147, 148, 149, 150, 151, 152, 153, 154, 155, 156, 157, 158]) f H = thenC call it base (.region s_gnomonlaw07_GraphPost_r26t3 [] [129, 132, 133, 134, 135, 136, 137, 138, 139, 140, 141, 142, 143, 144, 145, 146, 147, 148, 149, 150, 151, 152, 153, 154, 155, 156, 157, 158]) (opsC [] s_gnomonlaw07_GraphPost_r26p2 [] (evOps call base [⟨some 149, (.move (.t 10)), some (147, true)⟩] f H)) := (row_op call it base s_gnomonlaw07_GraphPost_r26p2 s_gnomonlaw07_GraphPost_r26t3 (kc := []) (by kernel_rfl) f H).trans (by rw [row_ops]; rfl)
theorem s_gnomonlaw07_GraphPost_r26t3_x (call : CallF) (it : IterF) (base : Nat) (f : List V) (H : Heap) : evC call it base (.region s_gnomonlaw07_GraphPost_r26t3 [] [129, 132, 133, 134, 135, 136, 137, 138, 139, 140, 141, 142, 143, 144, 145, 146, 147, 148, 149, 150, 151, 152, 153, 154, 155, 156, 157, 158]) f H = thenC call it base (.region s_gnomonlaw07_GraphPost_r26t4 [] [129, 132, 133, 134, 135, 136, 137, 138, 139, 140, 141, 142, 143, 144, 145, 146, 147, 148, 149, 150, 151, 152, 153, 154, 155, 156, 157, 158]) (opsC [] s_gnomonlaw07_GraphPost_r26p3 [] (evOps call base [⟨some 150, (.move (.t 11)), some (147, true)⟩] f H)) := (row_op call it base s_gnomonlaw07_GraphPost_r26p3 s_gnomonlaw07_GraphPost_r26t4 (kc := []) (by kernel_rfl) f H).trans (by rw [row_ops]; rfl)
theorem s_gnomonlaw07_GraphPost_r26t4_x (call : CallF) (it : IterF) (base : Nat) (f : List V) (H : Heap) : evC call it base (.region s_gnomonlaw07_GraphPost_r26t4 [] [129, 132, 133, 134, 135, 136, 137, 138, 139, 140, 141, 142, 143, 144, 145, 146, 147, 148, 149, 150, 151, 152, 153, 154, 155, 156, 157, 158]) f H = thenC call it base (.region s_gnomonlaw07_GraphPost_r26t5 [] [129, 132, 133, 134, 135, 136, 137, 138, 139, 140, 141, 142, 143, 144, 145, 146, 147, 148, 149, 150, 151, 152, 153, 154, 155, 156, 157, 158]) (opsC [] s_gnomonlaw07_GraphPost_r26p4 [149, 150] (evOps call base [⟨some 151, (.indexAddr 1 (.t 149) (.t 150)), some (147, true)⟩] f H)) := (row_op call it base s_gnomonlaw07_GraphPost_r26p4 s_gnomonlaw07_GraphPost_r26t5 (kc := [149, 150]) (by kernel_rfl) f H).trans (by rw [row_ops]; rfl)
theorem s_gnomonlaw07_GraphPost_r26t5_x (call : CallF) (it : IterF) (base : Nat) (f : List V) (H : Heap) : evC call it base (.region s_gnomonlaw07_GraphPost_r26t5 [] [129, 132, 133, 134, 135, 136, 137, 138, 139, 140, 141, 142, 143, 144, 145, 146, 147, 148, 149, 150, 151, 152, 153, 154, 155, 156, 157, 158]) f H = thenC call it base (.region s_gnomonlaw07_GraphPost_r26t6 [] [129, 132, 133, 134, 135, 136, 137, 138, 139, 140, 141, 142, 143, 144, 145, 146, 147, 148, 149, 150, 151, 152, 153, 154, 155, 156, 157, 158]) (opsC [] s_gnomonlaw07_GraphPost_r26p5 [151] (evOps call base [⟨some 152, (.load false 1 (.t 151)), some (147, true)⟩] f H)) := (row_op call it base s_gnomonlaw07_GraphPost_r26p5 s_gnomonlaw07_GraphPost_r26t6 (kc := [151]) (by kernel_rfl) f H).trans (by rw [row_ops]; rfl)
theorem s_gnomonlaw07_GraphPost_r26t6_x (call : CallF) (it : IterF) (base : Nat) (f : List V) (H : Heap) : evC call it base (.region s_gnomonlaw07_GraphPost_r26t6 [] [129, 132, 133, 134, 135, 136, 137, 138, 139, 140, 141, 142, 143, 144, 145, 146, 147, 148, 149, 150, 151, 152, 153, 154, 155, 156, 157, 158]) f H = thenC call it base (.region s_gnomonlaw07_GraphPost_r26t7 [] [129, 132, 133, 134, 135, 136, 137, 138, 139, 140, 141, 142, 143, 144, 145, 146, 147, 148, 149, 150, 151, 152, 153, 154, 155, 156, 157, 158]) (opsC [] s_gnomonlaw07_GraphPost_r26p6 [] (evOps call base [⟨some 153, (.move (.t 12)), some (147, true)⟩] f H)) := (row_op call it base s_gnomonlaw07_GraphPost_r26p6 s_gnomonlaw07_GraphPost_r26t7 (kc := []) (by kernel_rfl) f H).trans (by rw [row_ops]; rfl)
theorem s_gnomonlaw07_GraphPost_r26t7_x (call : CallF) (it : IterF) (base : Nat) (f : List V) (H : Heap) : evC call it base (.region s_gnomonlaw07_GraphPost_r26t7 [] [129, 132, 133, 134, 135, 136, 137, 138, 139, 140, 141, 142, 143, 144, 145, 146, 147, 148, 149, 150, 151, 152, 153, 154, 155, 156, 157, 158]) f H = thenC call it base (.region s_gnomonlaw07_GraphPost_r26t8 [] [129, 132, 133, 134, 135, 136, 137, 138, 139, 140, 141, 142, 143, 144, 145, 146, 147, 148, 149, 150, 151, 152, 153, 154, 155, 156, 157, 158]) (opsC [] s_gnomonlaw07_GraphPost_r26p7 [152, 153] (evOps call base [⟨some 154, (.indexAddr 1 (.t 152) (.t 153)), some (147, true)⟩] f H)) := (row_op call it base s_gnomonlaw07_GraphPost_r26p7 s_gnomonlaw07_GraphPost_r26t8 (kc := [152, 153]) (by kernel_rfl) f H).trans (by rw [row_ops]; rfl)
theorem s_gnomonlaw07_GraphPost_r26t8_x (call : CallF) (it : IterF) (base : Nat) (f : List V) (H : Heap) : evC call it base (.region s_gnomonlaw07_GraphPost_r26t8 [] [129, 132, 133, 134, 135, 136, 137, 138, 139, 140, 141, 142, 143, 144, 145, 146, 147, 148, 149, 150, 151, 152, 153, 154, 155, 156, 157, 158]) f H = thenC call it base (.region s_gnomonlaw07_GraphPost_r26t9 [] [129, 132, 133, 134, 135, 136, 137, 138, 139, 140, 141, 142, 143, 144, 145, 146, 147, 148, 149, 150, 151, 152, 153, 154, 155, 156, 157, 158]) (opsC [] s_gnomonlaw07_GraphPost_r26p8 [154] (evOps call base [⟨some 155, (.load false 1 (.t 154)), some (147, true)⟩] f H)) := (row_op call it base s_gnomonlaw07_GraphPost_r26p8 s_gnomonlaw07_GraphPost_r26t9 (kc := [154]) (by kernel_rfl) f H).trans (by rw [row_ops]; rfl)
theorem s_gnomonlaw07_GraphPost_r26t9_x (call : CallF) (it : IterF) (base : Nat) (f : List V) (H : Heap) : evC call it base (.region s_gnomonlaw07_GraphPost_r26t9 [] [129, 132, 133, 134, 135, 136, 137, 138, 139, 140, 141, 142, 143, 144, 145, 146, 147, 148, 149, 150, 151, 152, 153, 154, 155, 156, 157, 158]) f H = thenC call it base (.region s_gnomonlaw07_GraphPost_r26t10 [] [129, 132, 133, 134, 135, 136, 137, 138, 139, 140, 141, 142, 143, 144, 145, 146, 147, 148, 149, 150, 151, 152, 153, 154, 155, 156, 157, 158]) (opsC [] s_gnomonlaw07_GraphPost_r26p9 [] (evOps call base [⟨some 156, (.move (.t 11)), some (147, true)⟩] f H)) := (row_op call it base s_gnomonlaw07_GraphPost_r26p9 s_gnomonlaw07_GraphPost_r26t10 (kc := []) (by kernel_rfl) f H).trans (by rw [row_ops]; rfl)
theorem s_gnomonlaw07_GraphPost_r26t10_x (call : CallF) (it : IterF) (base : Nat) (f : List V) (H : Heap) : evC call it base (.region s_gnomonlaw07_GraphPost_r26t10 [] [129, 132, 133, 134, 135, 136, 137, 138, 139, 140, 141, 142, 143, 144, 145, 146, 147, 148, 149, 150, 151, 152, 153, 154, 155, 156, 157, 158]) f H = thenC call it base (.region s_gnomonlaw07_GraphPost_r26t11 [] [129, 132, 133, 134, 135, 136, 137, 138, 139, 140, 141, 142, 143, 144, 145, 146, 147, 148, 149, 150, 151, 152, 153, 154, 155, 156, 157, 158]) (opsC [] s_gnomonlaw07_GraphPost_r26p10 [148, 155, 156] (evOps call base [⟨some 157, (.call (.c (.fn 20 [] [])) [(.t 148), (.t 155), (.t 156)]), some (147, true)⟩] f H)) := (row_op call it base s_gnomonlaw07_GraphPost_r26p10 s_gnomonlaw07_GraphPost_r26t11 (kc := [148, 155, 156]) (by kernel_rfl) f H).trans (by rw [row_ops]; rfl)
theorem s_gnomonlaw07_GraphPost_r26t11_tale (fr : List V) (H : Heap) : evTale (symAll s_gnomonlaw07_GraphPost_r26t11 [129, 132, 133, 134, 135, 136, 137, 138, 139, 140, 141, 142, 143, 144, 145, 146, 147, 148, 149, 150, 151, 152, 153, 154, 155, 156, 157, 158] [159]) [129, 132, 133, 134, 135, 136, 137, 138, 139, 140, 141, 142, 143, 144, 145, 146, 147, 148, 149, 150, 151, 152, 153, 154, 155, 156, 157, 158] fr H = evTale (some (160, [], [(159, (.pick (.t 147) (.op (.un .not (.t 0)) [(.t 157)]) (.c (.s (.bool false)))))])) [129, 132, 133, 134, 135, 136, 137, 138, 139, 140, 141, 142, 143, 144, 145, 146, 147, 148, 149, 150, 151, 152, 153, 154, 155, 156, 157, 158] fr H := tale_row (items := [.sub 0 [1] [147], .sub 0 [] []]) (by kernel_rfl) fr H
theorem s_gnomonlaw07_GraphPost_r26t11_x (call : CallF) (it : IterF) (base : Nat) (f : List V) (H : Heap) : evC call it base (.region s_gnomonlaw07_GraphPost_r26t11 [] [129, 132, 133, 134, 135, 136, 137, 138, 139, 140, 141, 142, 143, 144, 145, 146, 147, 148, 149, 150, 151, 152, 153, 154, 155, 156, 157, 158]) f H = segL H (evTale (symAll s_gnomonlaw07_GraphPost_r26t11 [129, 132, 133, 134, 135, 136, 137, 138, 139, 140, 141, 142, 143, 144, 145, 146, 147, 148, 149, 150, 151, 152, 153, 154, 155, 156, 157, 158] [159]) [129, 132, 133, 134, 135, 136, 137, 138, 139, 140, 141, 142, 143, 144, 145, 146, 147, 148, 149, 150, 151, 152, 153, 154, 155, 156, 157, 158] f H) (origRow call it base s_gnomonlaw07_GraphPost_r26t11 [129, 132, 133, 134, 135, 136, 137, 138, 139, 140, 141, 142, 143, 144, 145, 146, 147, 148, 149, 150, 151, 152, 153, 154, 155, 156, 157, 158] f H) := row_last call it base _ f H
def s_gnomonlaw07_GraphPost_r27 : List AOper := [
  ⟨some 4, (.move (.c (.s (.bool false)))), none⟩]
theorem s_gnomonlaw07_GraphPost_r27_tale (fr : List V) (H : Heap) : evTale (symAll s_gnomonlaw07_GraphPost_r27 [0, 6, 8, 10, 11, 12, 159] [4]) [0, 6, 8, 10, 11, 12, 159] fr H = evTale (some (5, [], [(4, (.c (.s (.bool false))))])) [0, 6, 8, 10, 11, 12, 159] fr H := tale_row (items := [.cc (.s (.bool false))]) (by kernel_rfl) fr H
def s_gnomonlaw07_GraphPost_r28 : List AOper := [
  ⟨some 130, (.move (.t 12)), none⟩,
  ⟨some 131, (.bin .add (.t 130) (.c (.s (.int .i64 1)))), none⟩,
  ⟨some 12, (.move (.t 131)), none⟩]
theorem s_gnomonlaw07_GraphPost_r28_tale (fr : List V) (H : Heap) : evTale (symAll s_gnomonlaw07_GraphPost_r28 [130, 131, 159] [12]) [130, 131, 159] fr H = evTale (some (132, [], [(12, (.op (.bin .add (.t 0) (.c (.s (.int .i64 1)))) [(.t 12), (.c (.s (.int .i64 1)))]))])) [130, 131, 159] fr H := tale_row (items := [.tt 12, .sub 0 [] [], .sub 0 [] []]) (by kernel_rfl) fr H
def s_gnomonlaw07_GraphPost_l2_b : ACode :=
  (.seq (.seq (.regionE s_gnomonlaw07_GraphPost_r25 [117, 118, 119, 120, 121, 122, 123, 124, 125, 126, 127, 128] [129])
  (.cond (.t 129)
  .skip
  (.exit 6)))
  (.seq (.block 7
  (.seq (.region s_gnomonlaw07_GraphPost_r26 [] [129, 132, 133, 134, 135, 136, 137, 138, 139, 140, 141, 142, 143, 144, 145, 146, 147, 148, 149, 150, 151, 152, 153, 154, 155, 156, 157, 158])
  (.cond (.t 159)
  (.seq (.regionE s_gnomonlaw07_GraphPost_r27 [0, 6, 8, 10, 11, 12, 159] [4])
  .ret)
  .skip)))
  (.regionE s_gnomonlaw07_GraphPost_r28 [130, 131, 159] [12])))
def s_gnomonlaw07_GraphPost_l2 : ACode := s_gnomonlaw07_GraphPost_l2_b
theorem s_gnomonlaw07_GraphPost_l2_ev (call : CallF) (it : IterF) (base : Nat) (fr : List V) (H : Heap) : evC call it base s_gnomonlaw07_GraphPost_l2 fr H = evC call it base s_gnomonlaw07_GraphPost_l2_b fr H := rfl
def s_gnomonlaw07_GraphPost_r29 : List AOper := [
  ⟨some 115, (.move (.t 11)), none⟩,
  ⟨some 116, (.bin .add (.t 115) (.c (.s (.int .i64 1)))), none⟩,
  ⟨some 11, (.move (.t 116)), none⟩]
theorem s_gnomonlaw07_GraphPost_r29_tale (fr : List V) (H : Heap) : evTale (symAll s_gnomonlaw07_GraphPost_r29 [12, 115, 116, 129] [11]) [12, 115, 116, 129] fr H = evTale (some (117, [], [(11, (.op (.bin .add (.t 0) (.c (.s (.int .i64 1)))) [(.t 11), (.c (.s (.int .i64 1)))]))])) [12, 115, 116, 129] fr H := tale_row (items := [.tt 11, .sub 0 [] [], .sub 0 [] []]) (by kernel_rfl) fr H
def s_gnomonlaw07_GraphPost_l3_b : ACode :=
  (.seq (.seq (.regionE s_gnomonlaw07_GraphPost_r23 [111, 112, 113] [114])
  (.cond (.t 114)
  .skip
  (.exit 4)))
  (.seq (.block 5
  (.seq (.regionE s_gnomonlaw07_GraphPost_r24 [114] [12])
  (.block 6
  (.loop [] s_gnomonlaw07_GraphPost_l2))))
  (.regionE s_gnomonlaw07_GraphPost_r29 [12, 115, 116, 129] [11])))
def s_gnomonlaw07_GraphPost_l3 : ACode := s_gnomonlaw07_GraphPost_l3_b
theorem s_gnomonlaw07_GraphPost_l3_ev (call : CallF) (it : IterF) (base : Nat) (fr : List V) (H : Heap) : evC call it base s_gnomonlaw07_GraphPost_l3 fr H = evC call it base s_gnomonlaw07_GraphPost_l3_b fr H := rfl
def s_gnomonlaw07_GraphPost_r30t1 : List AOper := [⟨some 4, (.move (.t 160)), none⟩]
def s_gnomonlaw07_GraphPost_r30p0 : List AOper := [⟨some 160, (.call (.c (.fn 10 [] [])) []), none⟩]
def s_gnomonlaw07_GraphPost_r30 : List AOper := s_gnomonlaw07_GraphPost_r30p0 ++ s_gnomonlaw07_GraphPost_r30t1
theorem s_gnomonlaw07_GraphPost_r30_x (call : CallF) (it : IterF) (base : Nat) (f : List V) (H : Heap) : evC call it base (.region s_gnomonlaw07_GraphPost_r30 [] [0, 6, 8, 10, 11, 114, 160]) f H = thenC call it base (.region s_gnomonlaw07_GraphPost_r30t1 [] [0, 6, 8, 10, 11, 114, 160]) (opsC [] s_gnomonlaw07_GraphPost_r30p0 [0, 6, 8, 10, 11, 114] (evOps call base [⟨some 160, (.call (.c (.fn 10 [] [])) []), none⟩] f H)) := (row_op call it base s_gnomonlaw07_GraphPost_r30p0 s_gnomonlaw07_GraphPost_r30t1 (kc := [0, 6, 8, 10, 11, 114]) (by kernel_rfl) f H).trans (by rw [row_ops]; rfl)
theorem s_gnomonlaw07_GraphPost_r30t1_tale (fr : List V) (H : Heap) : evTale (symAll s_gnomonlaw07_GraphPost_r30t1 [0, 6, 8, 10, 11, 114, 160] [4]) [0, 6, 8, 10, 11, 114, 160] fr H = evTale (some (5, [], [(4, (.t 160))])) [0, 6, 8, 10, 11, 114, 160] fr H := tale_row (items := [.tt 160]) (by kernel_rfl) fr H
theorem s_gnomonlaw07_GraphPost_r30t1_x (call : CallF) (it : IterF) (base : Nat) (f : List V) (H : Heap) : evC call it base (.region s_gnomonlaw07_GraphPost_r30t1 [] [0, 6, 8, 10, 11, 114, 160]) f H = segL H (evTale (symAll s_gnomonlaw07_GraphPost_r30t1 [0, 6, 8, 10, 11, 114, 160] [4]) [0, 6, 8, 10, 11, 114, 160] f H) (origRow call it base s_gnomonlaw07_GraphPost_r30t1 [0, 6, 8, 10, 11, 114, 160] f H) := row_last call it base _ f H
def s_gnomonlaw07_GraphPost : ACFun := { ntmps := 161, results := [(.tmp 4)], body :=
  (.seq (.regionE s_gnomonlaw07_GraphPost_r0 s_gnomonlaw07_GraphPost_r0_k [])
  (.seq (.seq (.region s_gnomonlaw07_GraphPost_r1 [] [13, 14, 15, 16, 17, 18])
  (.cond (.t 19)
  (.seq (.region s_gnomonlaw07_GraphPost_r2 [] [0, 1, 19, 20])
  .ret)
  .skip))
  (.seq (.region s_gnomonlaw07_GraphPost_r3 [] [19, 21, 22, 23])
  (.seq (.seq (.regionE s_gnomonlaw07_GraphPost_r4 [24, 25, 26, 27, 28, 29, 30] [31])
  (.cond (.t 31)
  (.seq (.region s_gnomonlaw07_GraphPost_r5 [] [0, 1, 5, 31, 32, 33, 34, 35, 36, 37])
  .ret)
  .skip))
  (.seq (.region s_gnomonlaw07_GraphPost_r6 [] [31, 38, 39, 40])
  (.seq (.seq (.regionE s_gnomonlaw07_GraphPost_r7 [] [7])
  (.block 0
  (.loop [] s_gnomonlaw07_GraphPost_l0)))
  (.seq (.seq (.regionE s_gnomonlaw07_GraphPost_r13 [5, 7, 44, 79, 80, 81, 82, 83, 84, 85, 86, 87] [88])
  (.cond (.t 88)
  (.seq (.regionE s_gnomonlaw07_GraphPost_r14 [0, 1, 6, 88] [4])
  .ret)
  .skip))
  (.seq (.region s_gnomonlaw07_GraphPost_r15 [] [1, 88, 89, 90, 91, 92])
  (.seq (.seq (.regionE s_gnomonlaw07_GraphPost_r16 [] [9])
  (.block 2
  (.loop [] s_gnomonlaw07_GraphPost_l1)))
  (.seq (.region s_gnomonlaw07_GraphPost_r21 [] [9, 96, 109, 110])
  (.seq (.seq (.regionE s_gnomonlaw07_GraphPost_r22 [] [11])
  (.block 4
  (.loop [] s_gnomonlaw07_GraphPost_l3)))
  (.seq (.region s_gnomonlaw07_GraphPost_r30 [] [0, 6, 8, 10, 11, 114, 160])
  .ret)))))))))))) }
abbrev k_graph_Post : Nat := 23
def s_graph_Post_r0_k : List Nat := [2, 3, 4, 5, 6, 7, 8, 9, 10, 11, 12, 13, 14, 15, 16, 17, 18, 19, 20, 21, 22, 23, 24, 25, 26, 27, 28, 29, 30, 31, 32, 33, 34, 35, 36, 37, 38, 39, 40, 41, 42, 43, 44, 45, 46, 47, 48, 49, 50, 51, 52, 53, 54, 55, 56, 57, 58, 59, 60, 61, 62, 63, 64, 65, 66, 67, 68, 69, 70, 71, 72, 73, 74, 75, 76]
theorem s_graph_Post_r0_kT : killV s_graph_Post_r0_k (startV 77 [] 2) = [] := by kernel_rfl
theorem s_graph_Post_r0_kA0 : s_graph_Post_r0_k.contains 0 = false := by kernel_rfl
theorem s_graph_Post_r0_kA1 : s_graph_Post_r0_k.contains 1 = false := by kernel_rfl
def s_graph_Post_r0 : List AOper := [
  ⟨some 4, (.move (.c (.s (.slice none 0 0)))), none⟩]
theorem s_graph_Post_r0_tale (fr : List V) (H : Heap) : evTale (symAll s_graph_Post_r0 s_graph_Post_r0_k []) s_graph_Post_r0_k fr H = evTale (some (5, [], [])) s_graph_Post_r0_k fr H := tale_row (items := [.cc (.s (.slice none 0 0))]) (by kernel_rfl) fr H
def s_graph_Post_r1 : List AOper := [
  ⟨some 11, (.move (.t 1)), none⟩,
  ⟨some 12, (.bin .lss (.t 11) (.c (.s (.int .i64 0)))), none⟩,
  ⟨some 13, (.move (.t 12)), none⟩,
  ⟨some 14, (.move (.t 1)), some (13, false)⟩,
  ⟨some 15, (.move (.t 0)), some (13, false)⟩,
  ⟨some 16, (.lenS .s (.t 15)), some (13, false)⟩,
  ⟨some 17, (.bin .geq (.t 14) (.t 16)), some (13, false)⟩,
  ⟨some 18, (.pick (.t 13) (.c (.s (.bool true))) (.t 17)), none⟩]
theorem s_graph_Post_r1_tale (fr : List V) (H : Heap) : evTale (symAll s_graph_Post_r1 [11, 12, 13, 14, 15, 16, 17] [18]) [11, 12, 13, 14, 15, 16, 17] fr H = evTale (some (19, [], [(18, (.pick (.op (.bin .lss (.t 0) (.c (.s (.int .i64 0)))) [(.t 1), (.c (.s (.int .i64 0)))]) (.c (.s (.bool true))) (.op (.bin .geq (.t 0) (.t 1)) [(.t 1), (.op (.lenS .s (.t 0)) [(.t 0)])])))])) [11, 12, 13, 14, 15, 16, 17] fr H := tale_row (items := [.tt 1, .sub 0 [0] [], .sub 0 [0] [], .sub 0 [2, 0] [13], .sub 0 [2, 1, 0] [13], .sub 0 [2, 1] [13], .sub 0 [2] [13], .sub 0 [] []]) (by kernel_rfl) fr H
def s_graph_Post_r2 : List AOper := [
  ⟨some 4, (.move (.c (.s (.slice none 0 0)))), none⟩]
theorem s_graph_Post_r2_tale (fr : List V) (H : Heap) : evTale (symAll s_graph_Post_r2 [0, 1, 18] [4]) [0, 1, 18] fr H = evTale (some (5, [], [(4, (.c (.s (.slice none 0 0))))])) [0, 1, 18] fr H := tale_row (items := [.cc (.s (.slice none 0 0))]) (by kernel_rfl) fr H
def s_graph_Post_r3t2 : List AOper := [⟨some 5, (.move (.t 20)), none⟩]
def s_graph_Post_r3p1 : List AOper := [⟨some 20, (.call (.c (.fn 12 [] [])) [(.t 19)]), none⟩]
def s_graph_Post_r3t1 : List AOper := s_graph_Post_r3p1 ++ s_graph_Post_r3t2
def s_graph_Post_r3p0 : List AOper := [⟨some 19, (.move (.t 0)), none⟩]
def s_graph_Post_r3 : List AOper := s_graph_Post_r3p0 ++ s_graph_Post_r3t1
theorem s_graph_Post_r3p0_tale (fr : List V) (H : Heap) : evTale (symAll s_graph_Post_r3p0 [18] [19]) [18] fr H = evTale (some (20, [], [(19, (.t 0))])) [18] fr H := tale_row (items := [.tt 0]) (by kernel_rfl) fr H
theorem s_graph_Post_r3_x (call : CallF) (it : IterF) (base : Nat) (f : List V) (H : Heap) : evC call it base (.region s_graph_Post_r3 [] [18, 19, 20]) f H = segC call it base s_graph_Post_r3t1 [18, 19, 20] H (evTale (symAll s_graph_Post_r3p0 [18] [19]) [18] f H) (origRow call it base s_graph_Post_r3 [18, 19, 20] f H) := row_seg call it base s_graph_Post_r3p0 s_graph_Post_r3t1 (by kernel_rfl) f H
theorem s_graph_Post_r3t1_x (call : CallF) (it : IterF) (base : Nat) (f : List V) (H : Heap) : evC call it base (.region s_graph_Post_r3t1 [] [18, 19, 20]) f H = thenC call it base (.region s_graph_Post_r3t2 [] [18, 19, 20]) (opsC [] s_graph_Post_r3p1 [19] (evOps call base [⟨some 20, (.call (.c (.fn 12 [] [])) [(.t 19)]), none⟩] f H)) := (row_op call it base s_graph_Post_r3p1 s_graph_Post_r3t2 (kc := [19]) (by kernel_rfl) f H).trans (by rw [row_ops]; rfl)
theorem s_graph_Post_r3t2_tale (fr : List V) (H : Heap) : evTale (symAll s_graph_Post_r3t2 [18, 19, 20] [5]) [18, 19, 20] fr H = evTale (some (6, [], [(5, (.t 20))])) [18, 19, 20] fr H := tale_row (items := [.tt 20]) (by kernel_rfl) fr H
theorem s_graph_Post_r3t2_x (call : CallF) (it : IterF) (base : Nat) (f : List V) (H : Heap) : evC call it base (.region s_graph_Post_r3t2 [] [18, 19, 20]) f H = segL H (evTale (symAll s_graph_Post_r3t2 [18, 19, 20] [5]) [18, 19, 20] f H) (origRow call it base s_graph_Post_r3t2 [18, 19, 20] f H) := row_last call it base _ f H
def s_graph_Post_r4t3 : List AOper := [⟨none, (.store 1 (.t 6) (.t 23)), none⟩]
def s_graph_Post_r4p2 : List AOper := [⟨some 6, (.alloc [(.s (.slice none 0 0))]), none⟩]
def s_graph_Post_r4t2 : List AOper := s_graph_Post_r4p2 ++ s_graph_Post_r4t3
def s_graph_Post_r4p1 : List AOper := [⟨some 23, (.mkSl [(.s (.bool false))] 1 1 (.t 22) (.t 22)), none⟩]
def s_graph_Post_r4t1 : List AOper := s_graph_Post_r4p1 ++ s_graph_Post_r4t2
def s_graph_Post_r4p0 : List AOper := [⟨some 21, (.move (.t 0)), none⟩, ⟨some 22, (.lenS .s (.t 21)), none⟩]
def s_graph_Post_r4 : List AOper := s_graph_Post_r4p0 ++ s_graph_Post_r4t1
theorem s_graph_Post_r4p0_tale (fr : List V) (H : Heap) : evTale (symAll s_graph_Post_r4p0 [0, 21] [22]) [0, 21] fr H = evTale (some (23, [], [(22, (.op (.lenS .s (.t 0)) [(.t 0)]))])) [0, 21] fr H := tale_row (items := [.tt 0, .sub 0 [] []]) (by kernel_rfl) fr H
theorem s_graph_Post_r4_x (call : CallF) (it : IterF) (base : Nat) (f : List V) (H : Heap) : evC call it base (.region s_graph_Post_r4 [] [0, 21, 22, 23]) f H = segC call it base s_graph_Post_r4t1 [0, 21, 22, 23] H (evTale (symAll s_graph_Post_r4p0 [0, 21] [22]) [0, 21] f H) (origRow call it base s_graph_Post_r4 [0, 21, 22, 23] f H) := row_seg call it base s_graph_Post_r4p0 s_graph_Post_r4t1 (by kernel_rfl) f H
theorem s_graph_Post_r4t1_x (call : CallF) (it : IterF) (base : Nat) (f : List V) (H : Heap) : evC call it base (.region s_graph_Post_r4t1 [] [0, 21, 22, 23]) f H = thenC call it base (.region s_graph_Post_r4t2 [] [0, 21, 22, 23]) (opsC [] s_graph_Post_r4p1 [22] (evOps call base [⟨some 23, (.mkSl [(.s (.bool false))] 1 1 (.t 22) (.t 22)), none⟩] f H)) := (row_op call it base s_graph_Post_r4p1 s_graph_Post_r4t2 (kc := [22]) (by kernel_rfl) f H).trans (by rw [row_ops]; rfl)
theorem s_graph_Post_r4t2_x (call : CallF) (it : IterF) (base : Nat) (f : List V) (H : Heap) : evC call it base (.region s_graph_Post_r4t2 [] [0, 21, 22, 23]) f H = thenC call it base (.region s_graph_Post_r4t3 [] [0, 21, 22, 23]) (opsC [] s_graph_Post_r4p2 [] (evOps call base [⟨some 6, (.alloc [(.s (.slice none 0 0))]), none⟩] f H)) := (row_op call it base s_graph_Post_r4p2 s_graph_Post_r4t3 (kc := []) (by kernel_rfl) f H).trans (by rw [row_ops]; rfl)
theorem s_graph_Post_r4t3_x (call : CallF) (it : IterF) (base : Nat) (f : List V) (H : Heap) : evC call it base (.region s_graph_Post_r4t3 [] [0, 21, 22, 23]) f H = opsC [] s_graph_Post_r4t3 [0, 21, 22, 23] (evOps call base [⟨none, (.store 1 (.t 6) (.t 23)), none⟩] f H) := row_ops call it base _ _ _ f H
def s_graph_Post_r5t1 : List AOper := [⟨none, (.store 1 (.t 26) (.c (.s (.bool true)))), none⟩]
def s_graph_Post_r5p0 : List AOper := [⟨some 24, (.load false 1 (.t 6)), none⟩, ⟨some 25, (.move (.t 1)), none⟩, ⟨some 26, (.indexAddr 1 (.t 24) (.t 25)), none⟩]
def s_graph_Post_r5 : List AOper := s_graph_Post_r5p0 ++ s_graph_Post_r5t1
theorem s_graph_Post_r5p0_tale (fr : List V) (H : Heap) : evTale (symAll s_graph_Post_r5p0 [24, 25] [26]) [24, 25] fr H = evTale (some (27, [], [(26, (.op (.indexAddr 1 (.t 0) (.t 1)) [(.op (.load false 1 (.t 0)) [(.t 6)]), (.t 1)]))])) [24, 25] fr H := tale_row (items := [.sub 0 [0] [], .tt 1, .sub 0 [] []]) (by kernel_rfl) fr H
theorem s_graph_Post_r5_x (call : CallF) (it : IterF) (base : Nat) (f : List V) (H : Heap) : evC call it base (.region s_graph_Post_r5 [] [24, 25, 26]) f H = segC call it base s_graph_Post_r5t1 [24, 25, 26] H (evTale (symAll s_graph_Post_r5p0 [24, 25] [26]) [24, 25] f H) (origRow call it base s_graph_Post_r5 [24, 25, 26] f H) := row_seg call it base s_graph_Post_r5p0 s_graph_Post_r5t1 (by kernel_rfl) f H
theorem s_graph_Post_r5t1_x (call : CallF) (it : IterF) (base : Nat) (f : List V) (H : Heap) : evC call it base (.region s_graph_Post_r5t1 [] [24, 25, 26]) f H = opsC [] s_graph_Post_r5t1 [24, 25, 26] (evOps call base [⟨none, (.store 1 (.t 26) (.c (.s (.bool true)))), none⟩] f H) := row_ops call it base _ _ _ f H
def s_graph_Post_r6t2 : List AOper := [⟨some 7, (.move (.t 28)), none⟩]
def s_graph_Post_r6p1 : List AOper := [⟨some 28, (.buildSl 1 1 [(.s (.int .i64 0))] [(0, (.t 27))]), none⟩]
def s_graph_Post_r6t1 : List AOper := s_graph_Post_r6p1 ++ s_graph_Post_r6t2
def s_graph_Post_r6p0 : List AOper := [⟨some 27, (.move (.t 1)), none⟩]
def s_graph_Post_r6 : List AOper := s_graph_Post_r6p0 ++ s_graph_Post_r6t1
theorem s_graph_Post_r6p0_tale (fr : List V) (H : Heap) : evTale (symAll s_graph_Post_r6p0 [1] [27]) [1] fr H = evTale (some (28, [], [(27, (.t 1))])) [1] fr H := tale_row (items := [.tt 1]) (by kernel_rfl) fr H
theorem s_graph_Post_r6_x (call : CallF) (it : IterF) (base : Nat) (f : List V) (H : Heap) : evC call it base (.region s_graph_Post_r6 [] [1, 27, 28]) f H = segC call it base s_graph_Post_r6t1 [1, 27, 28] H (evTale (symAll s_graph_Post_r6p0 [1] [27]) [1] f H) (origRow call it base s_graph_Post_r6 [1, 27, 28] f H) := row_seg call it base s_graph_Post_r6p0 s_graph_Post_r6t1 (by kernel_rfl) f H
theorem s_graph_Post_r6t1_x (call : CallF) (it : IterF) (base : Nat) (f : List V) (H : Heap) : evC call it base (.region s_graph_Post_r6t1 [] [1, 27, 28]) f H = thenC call it base (.region s_graph_Post_r6t2 [] [1, 27, 28]) (opsC [] s_graph_Post_r6p1 [27] (evOps call base [⟨some 28, (.buildSl 1 1 [(.s (.int .i64 0))] [(0, (.t 27))]), none⟩] f H)) := (row_op call it base s_graph_Post_r6p1 s_graph_Post_r6t2 (kc := [27]) (by kernel_rfl) f H).trans (by rw [row_ops]; rfl)
theorem s_graph_Post_r6t2_tale (fr : List V) (H : Heap) : evTale (symAll s_graph_Post_r6t2 [1, 27, 28] [7]) [1, 27, 28] fr H = evTale (some (8, [], [(7, (.t 28))])) [1, 27, 28] fr H := tale_row (items := [.tt 28]) (by kernel_rfl) fr H
theorem s_graph_Post_r6t2_x (call : CallF) (it : IterF) (base : Nat) (f : List V) (H : Heap) : evC call it base (.region s_graph_Post_r6t2 [] [1, 27, 28]) f H = segL H (evTale (symAll s_graph_Post_r6t2 [1, 27, 28] [7]) [1, 27, 28] f H) (origRow call it base s_graph_Post_r6t2 [1, 27, 28] f H) := row_last call it base _ f H
def s_graph_Post_r7 : List AOper := [
  ⟨some 8, (.move (.c (.s (.slice none 0 0)))), none⟩]
theorem s_graph_Post_r7_tale (fr : List V) (H : Heap) : evTale (symAll s_graph_Post_r7 [] [8]) [] fr H = evTale (some (9, [], [(8, (.c (.s (.slice none 0 0))))])) [] fr H := tale_row (items := [.cc (.s (.slice none 0 0))]) (by kernel_rfl) fr H
def s_graph_Post_r8 : List AOper := [
  ⟨some 29, (.move (.t 7)), none⟩,
  ⟨some 30, (.lenS .s (.t 29)), none⟩,
  ⟨some 31, (.bin .gtr (.t 30) (.c (.s (.int .i64 0)))), none⟩]
theorem s_graph_Post_r8_tale (fr : List V) (H : Heap) : evTale (symAll s_graph_Post_r8 [29, 30] [31]) [29, 30] fr H = evTale (some (32, [], [(31, (.op (.bin .gtr (.t 0) (.c (.s (.int .i64 0)))) [(.op (.lenS .s (.t 0)) [(.t 7)]), (.c (.s (.int .i64 0)))]))])) [29, 30] fr H := tale_row (items := [.tt 7, .sub 0 [0] [], .sub 0 [] []]) (by kernel_rfl) fr H
def s_graph_Post_r9 : List AOper := [
  ⟨some 32, (.move (.t 7)), none⟩,
  ⟨some 33, (.move (.t 7)), none⟩,
  ⟨some 34, (.lenS .s (.t 33)), none⟩,
  ⟨some 35, (.bin .sub (.t 34) (.c (.s (.int .i64 1)))), none⟩,
  ⟨some 36, (.indexAddr 1 (.t 32) (.t 35)), none⟩,
  ⟨some 37, (.load false 1 (.t 36)), none⟩,
  ⟨some 9, (.move (.t 37)), none⟩]
theorem s_graph_Post_r9_tale (fr : List V) (H : Heap) : evTale (symAll s_graph_Post_r9 [31, 32, 33, 34, 35, 36, 37] [9]) [31, 32, 33, 34, 35, 36, 37] fr H = evTale (some (38, [], [(9, (.op (.load false 1 (.t 0)) [(.op (.indexAddr 1 (.t 0) (.t 1)) [(.t 7), (.op (.bin .sub (.t 0) (.c (.s (.int .i64 1)))) [(.op (.lenS .s (.t 0)) [(.t 7)]), (.c (.s (.int .i64 1)))])])]))])) [31, 32, 33, 34, 35, 36, 37] fr H := tale_row (items := [.tt 7, .tt 7, .sub 0 [0, 1, 0] [], .sub 0 [0, 1] [], .sub 0 [0] [], .sub 0 [] [], .sub 0 [] []]) (by kernel_rfl) fr H
def s_graph_Post_r10t2 : List AOper := [⟨some 10, (.move (.t 43)), none⟩]
def s_graph_Post_r10p1 : List AOper := [⟨some 43, (.call (.c (.fn 33 [] [])) [(.t 41), (.t 42)]), none⟩]
def s_graph_Post_r10t1 : List AOper := s_graph_Post_r10p1 ++ s_graph_Post_r10t2
def s_graph_Post_r10p0 : List AOper := [⟨some 38, (.move (.t 5)), none⟩, ⟨some 39, (.move (.t 9)), none⟩, ⟨some 40, (.indexAddr 1 (.t 38) (.t 39)), none⟩, ⟨some 41, (.load false 1 (.t 40)), none⟩, ⟨some 42, (.mkFn 34 [] [(.t 6)]), none⟩]
def s_graph_Post_r10 : List AOper := s_graph_Post_r10p0 ++ s_graph_Post_r10t1
theorem s_graph_Post_r10p0_tale (fr : List V) (H : Heap) : evTale (symAll s_graph_Post_r10p0 [38, 39, 40] [41, 42]) [38, 39, 40] fr H = evTale (some (43, [], [(41, (.op (.load false 1 (.t 0)) [(.op (.indexAddr 1 (.t 0) (.t 1)) [(.t 5), (.t 9)])])), (42, (.op (.mkFn 34 [] [(.t 0)]) [(.t 6)]))])) [38, 39, 40] fr H := tale_row (items := [.tt 5, .tt 9, .sub 0 [0] [], .sub 0 [] [], .sub 1 [] []]) (by kernel_rfl) fr H
theorem s_graph_Post_r10_x (call : CallF) (it : IterF) (base : Nat) (f : List V) (H : Heap) : evC call it base (.region s_graph_Post_r10 [] [38, 39, 40, 41, 42, 43]) f H = segC call it base s_graph_Post_r10t1 [38, 39, 40, 41, 42, 43] H (evTale (symAll s_graph_Post_r10p0 [38, 39, 40] [41, 42]) [38, 39, 40] f H) (origRow call it base s_graph_Post_r10 [38, 39, 40, 41, 42, 43] f H) := row_seg call it base s_graph_Post_r10p0 s_graph_Post_r10t1 (by kernel_rfl) f H
theorem s_graph_Post_r10t1_x (call : CallF) (it : IterF) (base : Nat) (f : List V) (H : Heap) : evC call it base (.region s_graph_Post_r10t1 [] [38, 39, 40, 41, 42, 43]) f H = thenC call it base (.region s_graph_Post_r10t2 [] [38, 39, 40, 41, 42, 43]) (opsC [] s_graph_Post_r10p1 [41, 42] (evOps call base [⟨some 43, (.call (.c (.fn 33 [] [])) [(.t 41), (.t 42)]), none⟩] f H)) := (row_op call it base s_graph_Post_r10p1 s_graph_Post_r10t2 (kc := [41, 42]) (by kernel_rfl) f H).trans (by rw [row_ops]; rfl)
theorem s_graph_Post_r10t2_tale (fr : List V) (H : Heap) : evTale (symAll s_graph_Post_r10t2 [38, 39, 40, 41, 42, 43] [10]) [38, 39, 40, 41, 42, 43] fr H = evTale (some (11, [], [(10, (.t 43))])) [38, 39, 40, 41, 42, 43] fr H := tale_row (items := [.tt 43]) (by kernel_rfl) fr H
theorem s_graph_Post_r10t2_x (call : CallF) (it : IterF) (base : Nat) (f : List V) (H : Heap) : evC call it base (.region s_graph_Post_r10t2 [] [38, 39, 40, 41, 42, 43]) f H = segL H (evTale (symAll s_graph_Post_r10t2 [38, 39, 40, 41, 42, 43] [10]) [38, 39, 40, 41, 42, 43] f H) (origRow call it base s_graph_Post_r10t2 [38, 39, 40, 41, 42, 43] f H) := row_last call it base _ f H
def s_graph_Post_r11 : List AOper := [
  ⟨some 44, (.move (.t 10)), none⟩,
  ⟨some 45, (.bin .lss (.t 44) (.c (.s (.int .i64 0)))), none⟩]
theorem s_graph_Post_r11_tale (fr : List V) (H : Heap) : evTale (symAll s_graph_Post_r11 [44] [45]) [44] fr H = evTale (some (46, [], [(45, (.op (.bin .lss (.t 0) (.c (.s (.int .i64 0)))) [(.t 10), (.c (.s (.int .i64 0)))]))])) [44] fr H := tale_row (items := [.tt 10, .sub 0 [] []]) (by kernel_rfl) fr H
def s_graph_Post_r12t3 : List AOper := [⟨some 8, (.move (.t 49)), none⟩]
def s_graph_Post_r12p2 : List AOper := [⟨some 49, (.append 1 8 (.t 46) (.t 48)), none⟩]
def s_graph_Post_r12t2 : List AOper := s_graph_Post_r12p2 ++ s_graph_Post_r12t3
def s_graph_Post_r12p1 : List AOper := [⟨some 48, (.buildSl 1 1 [(.s (.int .i64 0))] [(0, (.t 47))]), none⟩]
def s_graph_Post_r12t1 : List AOper := s_graph_Post_r12p1 ++ s_graph_Post_r12t2
def s_graph_Post_r12p0 : List AOper := [⟨some 46, (.move (.t 8)), none⟩, ⟨some 47, (.move (.t 9)), none⟩]
def s_graph_Post_r12 : List AOper := s_graph_Post_r12p0 ++ s_graph_Post_r12t1
theorem s_graph_Post_r12p0_tale (fr : List V) (H : Heap) : evTale (symAll s_graph_Post_r12p0 [8, 9, 10, 45] [46, 47]) [8, 9, 10, 45] fr H = evTale (some (48, [], [(46, (.t 8)), (47, (.t 9))])) [8, 9, 10, 45] fr H := tale_row (items := [.tt 8, .tt 9]) (by kernel_rfl) fr H
theorem s_graph_Post_r12_x (call : CallF) (it : IterF) (base : Nat) (f : List V) (H : Heap) : evC call it base (.region s_graph_Post_r12 [] [9, 10, 45, 46, 47, 48, 49]) f H = segC call it base s_graph_Post_r12t1 [9, 10, 45, 46, 47, 48, 49] H (evTale (symAll s_graph_Post_r12p0 [8, 9, 10, 45] [46, 47]) [8, 9, 10, 45] f H) (origRow call it base s_graph_Post_r12 [9, 10, 45, 46, 47, 48, 49] f H) := row_seg call it base s_graph_Post_r12p0 s_graph_Post_r12t1 (by kernel_rfl) f H
theorem s_graph_Post_r12t1_x (call : CallF) (it : IterF) (base : Nat) (f : List V) (H : Heap) : evC call it base (.region s_graph_Post_r12t1 [] [9, 10, 45, 46, 47, 48, 49]) f H = thenC call it base (.region s_graph_Post_r12t2 [] [9, 10, 45, 46, 47, 48, 49]) (opsC [] s_graph_Post_r12p1 [47] (evOps call base [⟨some 48, (.buildSl 1 1 [(.s (.int .i64 0))] [(0, (.t 47))]), none⟩] f H)) := (row_op call it base s_graph_Post_r12p1 s_graph_Post_r12t2 (kc := [47]) (by kernel_rfl) f H).trans (by rw [row_ops]; rfl)
theorem s_graph_Post_r12t2_x (call : CallF) (it : IterF) (base : Nat) (f : List V) (H : Heap) : evC call it base (.region s_graph_Post_r12t2 [] [9, 10, 45, 46, 47, 48, 49]) f H = thenC call it base (.region s_graph_Post_r12t3 [] [9, 10, 45, 46, 47, 48, 49]) (opsC [] s_graph_Post_r12p2 [46, 48] (evOps call base [⟨some 49, (.append 1 8 (.t 46) (.t 48)), none⟩] f H)) := (row_op call it base s_graph_Post_r12p2 s_graph_Post_r12t3 (kc := [46, 48]) (by kernel_rfl) f H).trans (by rw [row_ops]; rfl)
theorem s_graph_Post_r12t3_tale (fr : List V) (H : Heap) : evTale (symAll s_graph_Post_r12t3 [9, 10, 45, 46, 47, 48, 49] [8]) [9, 10, 45, 46, 47, 48, 49] fr H = evTale (some (9, [], [(8, (.t 49))])) [9, 10, 45, 46, 47, 48, 49] fr H := tale_row (items := [.tt 49]) (by kernel_rfl) fr H
theorem s_graph_Post_r12t3_x (call : CallF) (it : IterF) (base : Nat) (f : List V) (H : Heap) : evC call it base (.region s_graph_Post_r12t3 [] [9, 10, 45, 46, 47, 48, 49]) f H = segL H (evTale (symAll s_graph_Post_r12t3 [9, 10, 45, 46, 47, 48, 49] [8]) [9, 10, 45, 46, 47, 48, 49] f H) (origRow call it base s_graph_Post_r12t3 [9, 10, 45, 46, 47, 48, 49] f H) := row_last call it base _ f H
def s_graph_Post_r13 : List AOper := [
  ⟨some 50, (.move (.t 7)), none⟩,
  ⟨some 51, (.move (.t 7)), none⟩,
  ⟨some 52, (.lenS .s (.t 51)), none⟩,
  ⟨some 53, (.bin .sub (.t 52) (.c (.s (.int .i64 1)))), none⟩,
  ⟨some 54, (.subSl 1 (.t 50) none (some (.t 53)) none), none⟩,
  ⟨some 7, (.move (.t 54)), none⟩]
theorem s_graph_Post_r13_tale (fr : List V) (H : Heap) : evTale (symAll s_graph_Post_r13 [50, 51, 52, 53, 54] [7]) [50, 51, 52, 53, 54] fr H = evTale (some (55, [], [(7, (.op (.subSl 1 (.t 0) none (some (.t 1)) none) [(.t 7), (.op (.bin .sub (.t 0) (.c (.s (.int .i64 1)))) [(.op (.lenS .s (.t 0)) [(.t 7)]), (.c (.s (.int .i64 1)))])]))])) [50, 51, 52, 53, 54] fr H := tale_row (items := [.tt 7, .tt 7, .sub 0 [1, 0] [], .sub 0 [1] [], .sub 0 [] [], .sub 0 [] []]) (by kernel_rfl) fr H
def s_graph_Post_r14t1 : List AOper := [⟨none, (.store 1 (.t 63) (.c (.s (.bool true)))), none⟩]
def s_graph_Post_r14p0 : List AOper := [⟨some 55, (.load false 1 (.t 6)), none⟩, ⟨some 56, (.move (.t 5)), none⟩, ⟨some 57, (.move (.t 9)), none⟩, ⟨some 58, (.indexAddr 1 (.t 56) (.t 57)), none⟩, ⟨some 59, (.load false 1 (.t 58)), none⟩, ⟨some 60, (.move (.t 10)), none⟩, ⟨some 61, (.indexAddr 1 (.t 59) (.t 60)), none⟩, ⟨some 62, (.load false 1 (.t 61)), none⟩, ⟨some 63, (.indexAddr 1 (.t 55) (.t 62)), none⟩]
def s_graph_Post_r14 : List AOper := s_graph_Post_r14p0 ++ s_graph_Post_r14t1
theorem s_graph_Post_r14p0_tale (fr : List V) (H : Heap) : evTale (symAll s_graph_Post_r14p0 [45, 55, 56, 57, 58, 59, 60, 61, 62] [63]) [45, 55, 56, 57, 58, 59, 60, 61, 62] fr H = evTale (some (64, [], [(63, (.op (.indexAddr 1 (.t 0) (.t 1)) [(.op (.load false 1 (.t 0)) [(.t 6)]), (.op (.load false 1 (.t 0)) [(.op (.indexAddr 1 (.t 0) (.t 1)) [(.op (.load false 1 (.t 0)) [(.op (.indexAddr 1 (.t 0) (.t 1)) [(.t 5), (.t 9)])]), (.t 10)])])]))])) [45, 55, 56, 57, 58, 59, 60, 61, 62] fr H := tale_row (items := [.sub 0 [0] [], .tt 5, .tt 9, .sub 0 [1, 0, 0, 0] [], .sub 0 [1, 0, 0] [], .tt 10, .sub 0 [1, 0] [], .sub 0 [1] [], .sub 0 [] []]) (by kernel_rfl) fr H
theorem s_graph_Post_r14_x (call : CallF) (it : IterF) (base : Nat) (f : List V) (H : Heap) : evC call it base (.region s_graph_Post_r14 [] [45, 55, 56, 57, 58, 59, 60, 61, 62, 63]) f H = segC call it base s_graph_Post_r14t1 [45, 55, 56, 57, 58, 59, 60, 61, 62, 63] H (evTale (symAll s_graph_Post_r14p0 [45, 55, 56, 57, 58, 59, 60, 61, 62] [63]) [45, 55, 56, 57, 58, 59, 60, 61, 62] f H) (origRow call it base s_graph_Post_r14 [45, 55, 56, 57, 58, 59, 60, 61, 62, 63] f H) := row_seg call it base s_graph_Post_r14p0 s_graph_Post_r14t1 (by kernel_rfl) f H
theorem s_graph_Post_r14t1_x (call : CallF) (it : IterF) (base : Nat) (f : List V) (H : Heap) : evC call it base (.region s_graph_Post_r14t1 [] [45, 55, 56, 57, 58, 59, 60, 61, 62, 63]) f H = opsC [] s_graph_Post_r14t1 [45, 55, 56, 57, 58, 59, 60, 61, 62, 63] (evOps call base [⟨none, (.store 1 (.t 63) (.c (.s (.bool true)))), none⟩] f H) := row_ops call it base _ _ _ f H
def s_graph_Post_r15t3 : List AOper := [⟨some 7, (.move (.t 73)), none⟩]
def s_graph_Post_r15p2 : List AOper := [⟨some 73, (.append 1 8 (.t 64) (.t 72)), none⟩]
def s_graph_Post_r15t2 : List AOper := s_graph_Post_r15p2 ++ s_graph_Post_r15t3
def s_graph_Post_r15p1 : List AOper := [⟨some 72, (.buildSl 1 1 [(.s (.int .i64 0))] [(0, (.t 71))]), none⟩]
def s_graph_Post_r15t1 : List AOper := s_graph_Post_r15p1 ++ s_graph_Post_r15t2
def s_graph_Post_r15p0 : List AOper := [⟨some 64, (.move (.t 7)), none⟩, ⟨some 65, (.move (.t 5)), none⟩, ⟨some 66, (.move (.t 9)), none⟩, ⟨some 67, (.indexAddr 1 (.t 65) (.t 66)), none⟩, ⟨some 68, (.load false 1 (.t 67)), none⟩, ⟨some 69, (.move (.t 10)), none⟩, ⟨some 70, (.indexAddr 1 (.t 68) (.t 69)), none⟩, ⟨some 71, (.load false 1 (.t 70)), none⟩]
def s_graph_Post_r15 : List AOper := s_graph_Post_r15p0 ++ s_graph_Post_r15t1
theorem s_graph_Post_r15p0_tale (fr : List V) (H : Heap) : evTale (symAll s_graph_Post_r15p0 [7, 9, 10, 65, 66, 67, 68, 69, 70] [64, 71]) [7, 9, 10, 65, 66, 67, 68, 69, 70] fr H = evTale (some (72, [], [(64, (.t 7)), (71, (.op (.load false 1 (.t 0)) [(.op (.indexAddr 1 (.t 0) (.t 1)) [(.op (.load false 1 (.t 0)) [(.op (.indexAddr 1 (.t 0) (.t 1)) [(.t 5), (.t 9)])]), (.t 10)])]))])) [7, 9, 10, 65, 66, 67, 68, 69, 70] fr H := tale_row (items := [.tt 7, .tt 5, .tt 9, .sub 1 [0, 0, 0] [], .sub 1 [0, 0] [], .tt 10, .sub 1 [0] [], .sub 1 [] []]) (by kernel_rfl) fr H
theorem s_graph_Post_r15_x (call : CallF) (it : IterF) (base : Nat) (f : List V) (H : Heap) : evC call it base (.region s_graph_Post_r15 [] [9, 10, 64, 65, 66, 67, 68, 69, 70, 71, 72, 73]) f H = segC call it base s_graph_Post_r15t1 [9, 10, 64, 65, 66, 67, 68, 69, 70, 71, 72, 73] H (evTale (symAll s_graph_Post_r15p0 [7, 9, 10, 65, 66, 67, 68, 69, 70] [64, 71]) [7, 9, 10, 65, 66, 67, 68, 69, 70] f H) (origRow call it base s_graph_Post_r15 [9, 10, 64, 65, 66, 67, 68, 69, 70, 71, 72, 73] f H) := row_seg call it base s_graph_Post_r15p0 s_graph_Post_r15t1 (by kernel_rfl) f H
theorem s_graph_Post_r15t1_x (call : CallF) (it : IterF) (base : Nat) (f : List V) (H : Heap) : evC call it base (.region s_graph_Post_r15t1 [] [9, 10, 64, 65, 66, 67, 68, 69, 70, 71, 72, 73]) f H = thenC call it base (.region s_graph_Post_r15t2 [] [9, 10, 64, 65, 66, 67, 68, 69, 70, 71, 72, 73]) (opsC [] s_graph_Post_r15p1 [71] (evOps call base [⟨some 72, (.buildSl 1 1 [(.s (.int .i64 0))] [(0, (.t 71))]), none⟩] f H)) := (row_op call it base s_graph_Post_r15p1 s_graph_Post_r15t2 (kc := [71]) (by kernel_rfl) f H).trans (by rw [row_ops]; rfl)
theorem s_graph_Post_r15t2_x (call : CallF) (it : IterF) (base : Nat) (f : List V) (H : Heap) : evC call it base (.region s_graph_Post_r15t2 [] [9, 10, 64, 65, 66, 67, 68, 69, 70, 71, 72, 73]) f H = thenC call it base (.region s_graph_Post_r15t3 [] [9, 10, 64, 65, 66, 67, 68, 69, 70, 71, 72, 73]) (opsC [] s_graph_Post_r15p2 [64, 72] (evOps call base [⟨some 73, (.append 1 8 (.t 64) (.t 72)), none⟩] f H)) := (row_op call it base s_graph_Post_r15p2 s_graph_Post_r15t3 (kc := [64, 72]) (by kernel_rfl) f H).trans (by rw [row_ops]; rfl)
theorem s_graph_Post_r15t3_tale (fr : List V) (H : Heap) : evTale (symAll s_graph_Post_r15t3 [9, 10, 64, 65, 66, 67, 68, 69, 70, 71, 72, 73] [7]) [9, 10, 64, 65, 66, 67, 68, 69, 70, 71, 72, 73] fr H = evTale (some (8, [], [(7, (.t 73))])) [9, 10, 64, 65, 66, 67, 68, 69, 70, 71, 72, 73] fr H := tale_row (items := [.tt 73]) (by kernel_rfl) fr H
theorem s_graph_Post_r15t3_x (call : CallF) (it : IterF) (base : Nat) (f : List V) (H : Heap) : evC call it base (.region s_graph_Post_r15t3 [] [9, 10, 64, 65, 66, 67, 68, 69, 70, 71, 72, 73]) f H = segL H (evTale (symAll s_graph_Post_r15t3 [9, 10, 64, 65, 66, 67, 68, 69, 70, 71, 72, 73] [7]) [9, 10, 64, 65, 66, 67, 68, 69, 70, 71, 72, 73] f H) (origRow call it base s_graph_Post_r15t3 [9, 10, 64, 65, 66, 67, 68, 69, 70, 71, 72, 73] f H) := row_last call it base _ f H
def s_graph_Post_l0_b : ACode :=
  (.seq (.seq (.regionE s_graph_Post_r8 [29, 30] [31])
  (.cond (.t 31)
  .skip
  (.exit 0)))
  (.block 1
  (.seq (.regionE s_graph_Post_r9 [31, 32, 33, 34, 35, 36, 37] [9])
  (.seq (.region s_graph_Post_r10 [] [38, 39, 40, 41, 42, 43])
  (.seq (.seq (.regionE s_graph_Post_r11 [44] [45])
  (.cond (.t 45)
  (.seq (.region s_graph_Post_r12 [] [9, 10, 45, 46, 47, 48, 49])
  (.seq (.regionE s_graph_Post_r13 [50, 51, 52, 53, 54] [7])
  (.exit 1)))
  .skip))
  (.seq (.region s_graph_Post_r14 [] [45, 55, 56, 57, 58, 59, 60, 61, 62, 63])
  (.region s_graph_Post_r15 [] [9, 10, 64, 65, 66, 67, 68, 69, 70, 71, 72, 73])))))))
def s_graph_Post_l0 : ACode := s_graph_Post_l0_b
theorem s_graph_Post_l0_ev (call : CallF) (it : IterF) (base : Nat) (fr : List V) (H : Heap) : evC call it base s_graph_Post_l0 fr H = evC call it base s_graph_Post_l0_b fr H := rfl
def s_graph_Post_r16t1 : List AOper := [⟨some 75, (.call (.c (.fn 35 [] [])) [(.t 74)]), none⟩]
def s_graph_Post_r16p0 : List AOper := [⟨some 74, (.move (.t 8)), none⟩]
def s_graph_Post_r16 : List AOper := s_graph_Post_r16p0 ++ s_graph_Post_r16t1
theorem s_graph_Post_r16p0_tale (fr : List V) (H : Heap) : evTale (symAll s_graph_Post_r16p0 [5, 6, 7, 31] [74]) [5, 6, 7, 31] fr H = evTale (some (75, [], [(74, (.t 8))])) [5, 6, 7, 31] fr H := tale_row (items := [.tt 8]) (by kernel_rfl) fr H
theorem s_graph_Post_r16_x (call : CallF) (it : IterF) (base : Nat) (f : List V) (H : Heap) : evC call it base (.region s_graph_Post_r16 [] [5, 6, 7, 31, 74, 75]) f H = segC call it base s_graph_Post_r16t1 [5, 6, 7, 31, 74, 75] H (evTale (symAll s_graph_Post_r16p0 [5, 6, 7, 31] [74]) [5, 6, 7, 31] f H) (origRow call it base s_graph_Post_r16 [5, 6, 7, 31, 74, 75] f H) := row_seg call it base s_graph_Post_r16p0 s_graph_Post_r16t1 (by kernel_rfl) f H
theorem s_graph_Post_r16t1_x (call : CallF) (it : IterF) (base : Nat) (f : List V) (H : Heap) : evC call it base (.region s_graph_Post_r16t1 [] [5, 6, 7, 31, 74, 75]) f H = opsC [] s_graph_Post_r16t1 [5, 6, 7, 31, 74, 75] (evOps call base [⟨some 75, (.call (.c (.fn 35 [] [])) [(.t 74)]), none⟩] f H) := row_ops call it base _ _ _ f H
def s_graph_Post_r17 : List AOper := [
  ⟨some 76, (.move (.t 8)), none⟩,
  ⟨some 4, (.move (.t 76)), none⟩]
theorem s_graph_Post_r17_tale (fr : List V) (H : Heap) : evTale (symAll s_graph_Post_r17 [8, 76] [4]) [8, 76] fr H = evTale (some (77, [], [(4, (.t 8))])) [8, 76] fr H := tale_row (items := [.tt 8, .tt 8]) (by kernel_rfl) fr H
def s_graph_Post : ACFun := { ntmps := 77, results := [(.tmp 4)], body :=
  (.seq (.regionE s_graph_Post_r0 s_graph_Post_r0_k [])
  (.seq (.seq (.regionE s_graph_Post_r1 [11, 12, 13, 14, 15, 16, 17] [18])
  (.cond (.t 18)
  (.seq (.regionE s_graph_Post_r2 [0, 1, 18] [4])
  .ret)
  .skip))
  (.seq (.region s_graph_Post_r3 [] [18, 19, 20])
  (.seq (.region s_graph_Post_r4 [] [0, 21, 22, 23])
  (.seq (.region s_graph_Post_r5 [] [24, 25, 26])
  (.seq (.region s_graph_Post_r6 [] [1, 27, 28])
  (.seq (.regionE s_graph_Post_r7 [] [8])
  (.seq (.block 0
  (.loop [] s_graph_Post_l0))
  (.seq (.region s_graph_Post_r16 [] [5, 6, 7, 31, 74, 75])
  (.seq (.regionE s_graph_Post_r17 [8, 76] [4])
  .ret)))))))))) }
abbrev k_graph_Post_1 : Nat := 34
def s_graph_Post_1_r0_k : List Nat := [2, 3, 4, 5, 6, 7, 8]
theorem s_graph_Post_1_r0_kT : killV s_graph_Post_1_r0_k (startV 9 [] 2) = [] := by kernel_rfl
theorem s_graph_Post_1_r0_kA0 : s_graph_Post_1_r0_k.contains 0 = false := by kernel_rfl
theorem s_graph_Post_1_r0_kA1 : s_graph_Post_1_r0_k.contains 1 = false := by kernel_rfl
def s_graph_Post_1_r0 : List AOper := [
  ⟨some 3, (.move (.c (.s (.bool false)))), none⟩]
theorem s_graph_Post_1_r0_tale (fr : List V) (H : Heap) : evTale (symAll s_graph_Post_1_r0 s_graph_Post_1_r0_k []) s_graph_Post_1_r0_k fr H = evTale (some (4, [], [])) s_graph_Post_1_r0_k fr H := tale_row (items := [.cc (.s (.bool false))]) (by kernel_rfl) fr H
def s_graph_Post_1_r1 : List AOper := [
  ⟨some 4, (.load false 1 (.t 1)), none⟩,
  ⟨some 5, (.move (.t 0)), none⟩,
  ⟨some 6, (.indexAddr 1 (.t 4) (.t 5)), none⟩,
  ⟨some 7, (.load false 1 (.t 6)), none⟩,
  ⟨some 8, (.un .not (.t 7)), none⟩,
  ⟨some 3, (.move (.t 8)), none⟩]
theorem s_graph_Post_1_r1_tale (fr : List V) (H : Heap) : evTale (symAll s_graph_Post_1_r1 [0, 1, 4, 5, 6, 7, 8] [3]) [0, 1, 4, 5, 6, 7, 8] fr H = evTale (some (9, [], [(3, (.op (.un .not (.t 0)) [(.op (.load false 1 (.t 0)) [(.op (.indexAddr 1 (.t 0) (.t 1)) [(.op (.load false 1 (.t 0)) [(.t 1)]), (.t 0)])])]))])) [0, 1, 4, 5, 6, 7, 8] fr H := tale_row (items := [.sub 0 [0, 0, 0] [], .tt 0, .sub 0 [0, 0] [], .sub 0 [0] [], .sub 0 [] [], .sub 0 [] []]) (by kernel_rfl) fr H
def s_graph_Post_1 : ACFun := { ntmps := 9, results := [(.tmp 3)], body :=
  (.seq (.regionE s_graph_Post_1_r0 s_graph_Post_1_r0_k [])
  (.seq (.regionE s_graph_Post_1_r1 [0, 1, 4, 5, 6, 7, 8] [3])
  .ret)) }
abbrev k_slices_Reverse_int_int : Nat := 35
def s_slices_Reverse_int_int_r0_k : List Nat := [1, 4, 5, 6, 7, 8, 9, 10, 11, 12, 13, 14, 15, 16, 17, 18, 19, 20, 21, 22, 23, 24, 25, 26, 27]
theorem s_slices_Reverse_int_int_r0_kT : killV s_slices_Reverse_int_int_r0_k (startV 28 [] 1) = [(2, und), (3, und)] := by kernel_rfl
theorem s_slices_Reverse_int_int_r0_kA0 : s_slices_Reverse_int_int_r0_k.contains 0 = false := by kernel_rfl
def s_slices_Reverse_int_int_r0 : List AOper := [
  ⟨some 4, (.move (.t 0)), none⟩,
  ⟨some 5, (.lenS .s (.t 4)), none⟩,
  ⟨some 6, (.bin .sub (.t 5) (.c (.s (.int .i64 1)))), none⟩,
  ⟨some 2, (.move (.c (.s (.int .i64 0)))), none⟩,
  ⟨some 3, (.move (.t 6)), none⟩]
theorem s_slices_Reverse_int_int_r0_tale (fr : List V) (H : Heap) : evTale (symAll s_slices_Reverse_int_int_r0 s_slices_Reverse_int_int_r0_k [2, 3]) s_slices_Reverse_int_int_r0_k fr H = evTale (some (7, [], [(2, (.c (.s (.int .i64 0)))), (3, (.op (.bin .sub (.t 0) (.c (.s (.int .i64 1)))) [(.op (.lenS .s (.t 0)) [(.t 0)]), (.c (.s (.int .i64 1)))]))])) s_slices_Reverse_int_int_r0_k fr H := tale_row (items := [.tt 0, .sub 1 [0] [], .sub 1 [] [], .cc (.s (.int .i64 0)), .sub 1 [] []]) (by kernel_rfl) fr H
def s_slices_Reverse_int_int_r1 : List AOper := [
  ⟨some 7, (.move (.t 2)), none⟩,
  ⟨some 8, (.move (.t 3)), none⟩,
  ⟨some 9, (.bin .lss (.t 7) (.t 8)), none⟩]
theorem s_slices_Reverse_int_int_r1_tale (fr : List V) (H : Heap) : evTale (symAll s_slices_Reverse_int_int_r1 [7, 8] [9]) [7, 8] fr H = evTale (some (10, [], [(9, (.op (.bin .lss (.t 0) (.t 1)) [(.t 2), (.t 3)]))])) [7, 8] fr H := tale_row (items := [.tt 2, .tt 3, .sub 0 [] []]) (by kernel_rfl) fr H
def s_slices_Reverse_int_int_r2t3 : List AOper := [⟨none, (.store 1 (.t 27) (.t 25)), none⟩]
def s_slices_Reverse_int_int_r2p2 : List AOper := [⟨some 27, (.indexAddr 1 (.t 16) (.t 17)), none⟩]
def s_slices_Reverse_int_int_r2t2 : List AOper := s_slices_Reverse_int_int_r2p2 ++ s_slices_Reverse_int_int_r2t3
def s_slices_Reverse_int_int_r2p1 : List AOper := [⟨none, (.store 1 (.t 26) (.t 21)), none⟩]
def s_slices_Reverse_int_int_r2t1 : List AOper := s_slices_Reverse_int_int_r2p1 ++ s_slices_Reverse_int_int_r2t2
def s_slices_Reverse_int_int_r2p0 : List AOper := [⟨some 14, (.move (.t 0)), none⟩, ⟨some 15, (.move (.t 2)), none⟩, ⟨some 16, (.move (.t 0)), none⟩, ⟨some 17, (.move (.t 3)), none⟩, ⟨some 18, (.move (.t 0)), none⟩, ⟨some 19, (.move (.t 3)), none⟩, ⟨some 20, (.indexAddr 1 (.t 18) (.t 19)), none⟩, ⟨some 21, (.load false 1 (.t 20)), none⟩, ⟨some 22, (.move (.t 0)), none⟩, ⟨some 23, (.move (.t 2)), none⟩, ⟨some 24, (.indexAddr 1 (.t 22) (.t 23)), none⟩, ⟨some 25, (.load false 1 (.t 24)), none⟩, ⟨some 26, (.indexAddr 1 (.t 14) (.t 15)), none⟩]
def s_slices_Reverse_int_int_r2 : List AOper := s_slices_Reverse_int_int_r2p0 ++ s_slices_Reverse_int_int_r2t1
theorem s_slices_Reverse_int_int_r2p0_tale (fr : List V) (H : Heap) : evTale (symAll s_slices_Reverse_int_int_r2p0 [9, 14, 15, 18, 19, 20, 22, 23, 24] [16, 17, 21, 25, 26]) [9, 14, 15, 18, 19, 20, 22, 23, 24] fr H = evTale (some (27, [], [(16, (.t 0)), (17, (.t 3)), (21, (.op (.load false 1 (.t 0)) [(.op (.indexAddr 1 (.t 0) (.t 1)) [(.t 0), (.t 3)])])), (25, (.op (.load false 1 (.t 0)) [(.op (.indexAddr 1 (.t 0) (.t 1)) [(.t 0), (.t 2)])])), (26, (.op (.indexAddr 1 (.t 0) (.t 1)) [(.t 0), (.t 2)]))])) [9, 14, 15, 18, 19, 20, 22, 23, 24] fr H := tale_row (items := [.tt 0, .tt 2, .tt 0, .tt 3, .tt 0, .tt 3, .sub 2 [0] [], .sub 2 [] [], .tt 0, .tt 2, .sub 3 [0] [], .sub 3 [] [], .sub 3 [0] []]) (by kernel_rfl) fr H
theorem s_slices_Reverse_int_int_r2_x (call : CallF) (it : IterF) (base : Nat) (f : List V) (H : Heap) : evC call it base (.region s_slices_Reverse_int_int_r2 [] [9, 14, 15, 16, 17, 18, 19, 20, 21, 22, 23, 24, 25, 26, 27]) f H = segC call it base s_slices_Reverse_int_int_r2t1 [9, 14, 15, 16, 17, 18, 19, 20, 21, 22, 23, 24, 25, 26, 27] H (evTale (symAll s_slices_Reverse_int_int_r2p0 [9, 14, 15, 18, 19, 20, 22, 23, 24] [16, 17, 21, 25, 26]) [9, 14, 15, 18, 19, 20, 22, 23, 24] f H) (origRow call it base s_slices_Reverse_int_int_r2 [9, 14, 15, 16, 17, 18, 19, 20, 21, 22, 23, 24, 25, 26, 27] f H) := row_seg call it base s_slices_Reverse_int_int_r2p0 s_slices_Reverse_int_int_r2t1 (by kernel_rfl) f H
theorem s_slices_Reverse_int_int_r2t1_x (call : CallF) (it : IterF) (base : Nat) (f : List V) (H : Heap) : evC call it base (.region s_slices_Reverse_int_int_r2t1 [] [9, 14, 15, 16, 17, 18, 19, 20, 21, 22, 23, 24, 25, 26, 27]) f H = thenC call it base (.region s_slices_Reverse_int_int_r2t2 [] [9, 14, 15, 16, 17, 18, 19, 20, 21, 22, 23, 24, 25, 26, 27]) (opsC [] s_slices_Reverse_int_int_r2p1 [21, 26] (evOps call base [⟨none, (.store 1 (.t 26) (.t 21)), none⟩] f H)) := (row_op call it base s_slices_Reverse_int_int_r2p1 s_slices_Reverse_int_int_r2t2 (kc := [21, 26]) (by kernel_rfl) f H).trans (by rw [row_ops]; rfl)
theorem s_slices_Reverse_int_int_r2p2_tale (fr : List V) (H : Heap) : evTale (symAll s_slices_Reverse_int_int_r2p2 [16, 17] [27]) [16, 17] fr H = evTale (some (28, [], [(27, (.op (.indexAddr 1 (.t 0) (.t 1)) [(.t 16), (.t 17)]))])) [16, 17] fr H := tale_row (items := [.sub 0 [] []]) (by kernel_rfl) fr H
theorem s_slices_Reverse_int_int_r2t2_x (call : CallF) (it : IterF) (base : Nat) (f : List V) (H : Heap) : evC call it base (.region s_slices_Reverse_int_int_r2t2 [] [9, 14, 15, 16, 17, 18, 19, 20, 21, 22, 23, 24, 25, 26, 27]) f H = segC call it base s_slices_Reverse_int_int_r2t3 [9, 14, 15, 16, 17, 18, 19, 20, 21, 22, 23, 24, 25, 26, 27] H (evTale (symAll s_slices_Reverse_int_int_r2p2 [16, 17] [27]) [16, 17] f H) (origRow call it base s_slices_Reverse_int_int_r2t2 [9, 14, 15, 16, 17, 18, 19, 20, 21, 22, 23, 24, 25, 26, 27] f H) := row_seg call it base s_slices_Reverse_int_int_r2p2 s_slices_Reverse_int_int_r2t3 (by kernel_rfl) f H
theorem s_slices_Reverse_int_int_r2t3_x (call : CallF) (it : IterF) (base : Nat) (f : List V) (H : Heap) : evC call it base (.region s_slices_Reverse_int_int_r2t3 [] [9, 14, 15, 16, 17, 18, 19, 20, 21, 22, 23, 24, 25, 26, 27]) f H = opsC [] s_slices_Reverse_int_int_r2t3 [9, 14, 15, 16, 17, 18, 19, 20, 21, 22, 23, 24, 25, 26, 27] (evOps call base [⟨none, (.store 1 (.t 27) (.t 25)), none⟩] f H) := row_ops call it base _ _ _ f H
def s_slices_Reverse_int_int_r3 : List AOper := [
  ⟨some 10, (.move (.t 2)), none⟩,
  ⟨some 11, (.bin .add (.t 10) (.c (.s (.int .i64 1)))), none⟩,
  ⟨some 12, (.move (.t 3)), none⟩,
  ⟨some 13, (.bin .sub (.t 12) (.c (.s (.int .i64 1)))), none⟩,
  ⟨some 2, (.move (.t 11)), none⟩,
  ⟨some 3, (.move (.t 13)), none⟩]
theorem s_slices_Reverse_int_int_r3_tale (fr : List V) (H : Heap) : evTale (symAll s_slices_Reverse_int_int_r3 [10, 11, 12, 13] [2, 3]) [10, 11, 12, 13] fr H = evTale (some (14, [], [(2, (.op (.bin .add (.t 0) (.c (.s (.int .i64 1)))) [(.t 2), (.c (.s (.int .i64 1)))])), (3, (.op (.bin .sub (.t 0) (.c (.s (.int .i64 1)))) [(.t 3), (.c (.s (.int .i64 1)))]))])) [10, 11, 12, 13] fr H := tale_row (items := [.tt 2, .sub 0 [] [], .tt 3, .sub 1 [] [], .sub 0 [] [], .sub 1 [] []]) (by kernel_rfl) fr H
def s_slices_Reverse_int_int_l0_b : ACode :=
  (.seq (.seq (.regionE s_slices_Reverse_int_int_r1 [7, 8] [9])
  (.cond (.t 9)
  .skip
  (.exit 0)))
  (.seq (.block 1
  (.region s_slices_Reverse_int_int_r2 [] [9, 14, 15, 16, 17, 18, 19, 20, 21, 22, 23, 24, 25, 26, 27]))
  (.regionE s_slices_Reverse_int_int_r3 [10, 11, 12, 13] [2, 3])))
def s_slices_Reverse_int_int_l0 : ACode := s_slices_Reverse_int_int_l0_b
theorem s_slices_Reverse_int_int_l0_ev (call : CallF) (it : IterF) (base : Nat) (fr : List V) (H : Heap) : evC call it base s_slices_Reverse_int_int_l0 fr H = evC call it base s_slices_Reverse_int_int_l0_b fr H := rfl
def s_slices_Reverse_int_int : ACFun := { ntmps := 28, results := [], body :=
  (.seq (.regionE s_slices_Reverse_int_int_r0 s_slices_Reverse_int_int_r0_k [2, 3])
  (.block 0
  (.loop [] s_slices_Reverse_int_int_l0))) }
def a_gnomonlaw07_GraphPost := And.intro @s_gnomonlaw07_GraphPost_r0_tale (And.intro @s_gnomonlaw07_GraphPost_r0_kT (And.intro @s_gnomonlaw07_GraphPost_r0_kA0 (And.intro @s_gnomonlaw07_GraphPost_r0_kA1 (And.intro @s_gnomonlaw07_GraphPost_r1p0_tale (And.intro @s_gnomonlaw07_GraphPost_r1_x (And.intro @s_gnomonlaw07_GraphPost_r1t1_x (And.intro @s_gnomonlaw07_GraphPost_r1t2_tale (And.intro @s_gnomonlaw07_GraphPost_r1t2_x (And.intro @s_gnomonlaw07_GraphPost_r2_x (And.intro @s_gnomonlaw07_GraphPost_r2t1_tale (And.intro @s_gnomonlaw07_GraphPost_r2t1_x (And.intro @s_gnomonlaw07_GraphPost_r3p0_tale (And.intro @s_gnomonlaw07_GraphPost_r3_x (And.intro @s_gnomonlaw07_GraphPost_r3t1_x (And.intro @s_gnomonlaw07_GraphPost_r3t2_tale (And.intro @s_gnomonlaw07_GraphPost_r3t2_x (And.intro @s_gnomonlaw07_GraphPost_r4_tale (And.intro @s_gnomonlaw07_GraphPost_r5p0_tale (And.intro @s_gnomonlaw07_GraphPost_r5_x (And.intro @s_gnomonlaw07_GraphPost_r5t1_x (And.intro @s_gnomonlaw07_GraphPost_r5t2_tale (And.intro @s_gnomonlaw07_GraphPost_r5t2_x (And.intro @s_gnomonlaw07_GraphPost_r6p0_tale (And.intro @s_gnomonlaw07_GraphPost_r6_x (And.intro @s_gnomonlaw07_GraphPost_r6t1_x (And.intro @s_gnomonlaw07_GraphPost_r6t2_tale (And.intro @s_gnomonlaw07_GraphPost_r6t2_x (And.intro @s_gnomonlaw07_GraphPost_r7_tale (And.intro @s_gnomonlaw07_GraphPost_r8_tale (And.intro @s_gnomonlaw07_GraphPost_r9_tale (And.intro @s_gnomonlaw07_GraphPost_r10_tale (And.intro @s_gnomonlaw07_GraphPost_r11p0_tale (And.intro @s_gnomonlaw07_GraphPost_r11_x (And.intro @s_gnomonlaw07_GraphPost_r11t1_x (And.intro @s_gnomonlaw07_GraphPost_r12_tale (And.intro @s_gnomonlaw07_GraphPost_l0_ev (And.intro @s_gnomonlaw07_GraphPost_r13_tale (And.intro @s_gnomonlaw07_GraphPost_r14_tale (And.intro @s_gnomonlaw07_GraphPost_r15p0_tale (And.intro @s_gnomonlaw07_GraphPost_r15_x (And.intro @s_gnomonlaw07_GraphPost_r15t1_x (And.intro @s_gnomonlaw07_GraphPost_r15t2_x (And.intro @s_gnomonlaw07_GraphPost_r15t3_tale (And.intro @s_gnomonlaw07_GraphPost_r15t3_x (And.intro @s_gnomonlaw07_GraphPost_r16_tale (And.intro @s_gnomonlaw07_GraphPost_r17_tale (And.intro @s_gnomonlaw07_GraphPost_r18_tale (And.intro @s_gnomonlaw07_GraphPost_r19_tale (And.intro @s_gnomonlaw07_GraphPost_r20_tale (And.intro @s_gnomonlaw07_GraphPost_l1_ev (And.intro @s_gnomonlaw07_GraphPost_r21p0_tale (And.intro @s_gnomonlaw07_GraphPost_r21_x (And.intro @s_gnomonlaw07_GraphPost_r21t1_x (And.intro @s_gnomonlaw07_GraphPost_r21t2_tale (And.intro @s_gnomonlaw07_GraphPost_r21t2_x (And.intro @s_gnomonlaw07_GraphPost_r22_tale (And.intro @s_gnomonlaw07_GraphPost_r23_tale (And.intro @s_gnomonlaw07_GraphPost_r24_tale (And.intro @s_gnomonlaw07_GraphPost_r25_tale (And.intro @s_gnomonlaw07_GraphPost_r26p0_tale (And.intro @s_gnomonlaw07_GraphPost_r26_x (And.intro @s_gnomonlaw07_GraphPost_r26t1_x (And.intro @s_gnomonlaw07_GraphPost_r26t2_x (And.intro @s_gnomonlaw07_GraphPost_r26t3_x (And.intro @s_gnomonlaw07_GraphPost_r26t4_x (And.intro @s_gnomonlaw07_GraphPost_r26t5_x (And.intro @s_gnomonlaw07_GraphPost_r26t6_x (And.intro @s_gnomonlaw07_GraphPost_r26t7_x (And.intro @s_gnomonlaw07_GraphPost_r26t8_x (And.intro @s_gnomonlaw07_GraphPost_r26t9_x (And.intro @s_gnomonlaw07_GraphPost_r26t10_x (And.intro @s_gnomonlaw07_GraphPost_r26t11_tale (And.intro @s_gnomonlaw07_GraphPost_r26t11_x (And.intro @s_gnomonlaw07_GraphPost_r27_tale (And.intro @s_gnomonlaw07_GraphPost_r28_tale (And.intro @s_gnomonlaw07_GraphPost_l2_ev (And.intro @s_gnomonlaw07_GraphPost_r29_tale (And.intro @s_gnomonlaw07_GraphPost_l3_ev (And.intro @s_gnomonlaw07_GraphPost_r30_x (And.intro @s_gnomonlaw07_GraphPost_r30t1_tale (@s_gnomonlaw07_GraphPost_r30t1_x)))))))))))))))))))))))))))))))))))))))))))))))))))))))))))))))))))))))))))))))))
def a_graph_Post := And.intro @s_graph_Post_r0_tale (And.intro @s_graph_Post_r0_kT (And.intro @s_graph_Post_r0_kA0 (And.intro @s_graph_Post_r0_kA1 (And.intro @s_graph_Post_r1_tale (And.intro @s_graph_Post_r2_tale (And.intro @s_graph_Post_r3p0_tale (And.intro @s_graph_Post_r3_x (And.intro @s_graph_Post_r3t1_x (And.intro @s_graph_Post_r3t2_tale (And.intro @s_graph_Post_r3t2_x (And.intro @s_graph_Post_r4p0_tale (And.intro @s_graph_Post_r4_x (And.intro @s_graph_Post_r4t1_x (And.intro @s_graph_Post_r4t2_x (And.intro @s_graph_Post_r4t3_x (And.intro @s_graph_Post_r5p0_tale (And.intro @s_graph_Post_r5_x (And.intro @s_graph_Post_r5t1_x (And.intro @s_graph_Post_r6p0_tale (And.intro @s_graph_Post_r6_x (And.intro @s_graph_Post_r6t1_x (And.intro @s_graph_Post_r6t2_tale (And.intro @s_graph_Post_r6t2_x (And.intro @s_graph_Post_r7_tale (And.intro @s_graph_Post_r8_tale (And.intro @s_graph_Post_r9_tale (And.intro @s_graph_Post_r10p0_tale (And.intro @s_graph_Post_r10_x (And.intro @s_graph_Post_r10t1_x (And.intro @s_graph_Post_r10t2_tale (And.intro @s_graph_Post_r10t2_x (And.intro @s_graph_Post_r11_tale (And.intro @s_graph_Post_r12p0_tale (And.intro @s_graph_Post_r12_x (And.intro @s_graph_Post_r12t1_x (And.intro @s_graph_Post_r12t2_x (And.intro @s_graph_Post_r12t3_tale (And.intro @s_graph_Post_r12t3_x (And.intro @s_graph_Post_r13_tale (And.intro @s_graph_Post_r14p0_tale (And.intro @s_graph_Post_r14_x (And.intro @s_graph_Post_r14t1_x (And.intro @s_graph_Post_r15p0_tale (And.intro @s_graph_Post_r15_x (And.intro @s_graph_Post_r15t1_x (And.intro @s_graph_Post_r15t2_x (And.intro @s_graph_Post_r15t3_tale (And.intro @s_graph_Post_r15t3_x (And.intro @s_graph_Post_l0_ev (And.intro @s_graph_Post_r16p0_tale (And.intro @s_graph_Post_r16_x (And.intro @s_graph_Post_r16t1_x (@s_graph_Post_r17_tale)))))))))))))))))))))))))))))))))))))))))))))))))))))
def a_graph_Post_1 := And.intro @s_graph_Post_1_r0_tale (And.intro @s_graph_Post_1_r0_kT (And.intro @s_graph_Post_1_r0_kA0 (And.intro @s_graph_Post_1_r0_kA1 (@s_graph_Post_1_r1_tale))))
def a_slices_Reverse_int_int := And.intro @s_slices_Reverse_int_int_r0_tale (And.intro @s_slices_Reverse_int_int_r0_kT (And.intro @s_slices_Reverse_int_int_r0_kA0 (And.intro @s_slices_Reverse_int_int_r1_tale (And.intro @s_slices_Reverse_int_int_r2p0_tale (And.intro @s_slices_Reverse_int_int_r2_x (And.intro @s_slices_Reverse_int_int_r2t1_x (And.intro @s_slices_Reverse_int_int_r2p2_tale (And.intro @s_slices_Reverse_int_int_r2t2_x (And.intro @s_slices_Reverse_int_int_r2t3_x (And.intro @s_slices_Reverse_int_int_r3_tale (@s_slices_Reverse_int_int_l0_ev)))))))))))
theorem CS2_6 : compK Try.prog (fun _ => false) 6 = some (false, s_gnomonlaw07_GraphPost.ntmps, s_gnomonlaw07_GraphPost.results, s_gnomonlaw07_GraphPost.body.bare) := by kernel_rfl
theorem CS2_23 : compK Try.prog (fun _ => false) 23 = some (false, s_graph_Post.ntmps, s_graph_Post.results, s_graph_Post.body.bare) := by kernel_rfl
theorem CS2_34 : compK Try.prog (fun _ => false) 34 = some (false, s_graph_Post_1.ntmps, s_graph_Post_1.results, s_graph_Post_1.body.bare) := by kernel_rfl
theorem CS2_35 : compK Try.prog (fun _ => false) 35 = some (false, s_slices_Reverse_int_int.ntmps, s_slices_Reverse_int_int.results, s_slices_Reverse_int_int.body.bare) := by kernel_rfl
end Go.Proofs.Ytmnlagcmpgilaaa
set_option maxRecDepth 100000
namespace Go.Proofs.Ytmnlagcmpgilaaa
open Go.AM
def Tur (c c' : List V) (n i : Nat) : Prop := c'.length = c.length ∧ ∀ x, c'[x]? = if x < n ∧ (x < i ∨ n ≤ x + i) then c[n - 1 - x]? else c[x]?
theorem tur_start (c : List V) (n : Nat) : Tur c c n 0 := ⟨rfl, fun x => by rw [if_neg]; omega⟩
theorem tur_step {c c' : List V} {n i : Nat} (h : Tur c c' n i) (hn : n ≤ c.length) (hi : i + i + 1 < n) (a b : V) (ha : c'[n - 1 - i]? = some a) (hb : c'[i]? = some b) : Tur c ((c'.set i a).set (n - 1 - i) b) n (i + 1) := by
  obtain ⟨h1, h2⟩ := h
  refine ⟨by rw [List.length_set, List.length_set, h1], fun x => ?_⟩
  have ea := h2 (n - 1 - i)
  have eb := h2 i
  rw [ha, if_neg (by omega)] at ea
  rw [hb, if_neg (by omega)] at eb
  by_cases c1 : n - 1 - i = x
  · subst c1
    rw [List.getElem?_set_self (by rw [List.length_set, h1]; omega), if_pos (by omega), eb]
    congr 1; omega
  · rw [List.getElem?_set_ne c1]
    by_cases c2 : i = x
    · subst c2
      rw [List.getElem?_set_self (by rw [h1]; omega), if_pos (by omega), ea]
    · rw [List.getElem?_set_ne c2, h2 x]
      by_cases c3 : x < n ∧ (x < i ∨ n ≤ x + i)
      · rw [if_pos c3, if_pos (by omega)]
      · rw [if_neg c3, if_neg (by omega)]
theorem tur_end {c c' : List V} {n i : Nat} (h : Tur c c' n i) (hn : n ≤ c.length) (hi : n ≤ i + i + 1) : c'.take n = (c.take n).reverse := by
  obtain ⟨h1, h2⟩ := h
  refine List.ext_getElem? fun x => ?_
  by_cases hx : x < n
  · rw [List.getElem?_take_of_lt hx, List.getElem?_reverse (by rw [List.length_take]; omega), List.length_take, Nat.min_eq_left hn, List.getElem?_take_of_lt (by omega), h2 x]
    by_cases c3 : x < i ∨ n ≤ x + i
    · rw [if_pos ⟨hx, c3⟩]
    · rw [if_neg (by omega)]
      congr 1; omega
  · rw [List.getElem?_eq_none (by rw [List.length_take]; omega), List.getElem?_eq_none (by rw [List.length_reverse, List.length_take]; omega)]
theorem rev_loop (call : CallF) (base : Nat) (id g n : Nat) (c : List V) (H : Heap) (hc : getC H id g = some c) (hn : n ≤ c.length) (hb : base ≤ id) (hone : ∀ x ∈ c, x.one = true) (hsm : n < 2 ^ 60) : ∀ (d i : Nat) (c' : List V), n ≤ d + (i + i) → i ≤ n → Tur c c' n i → (∀ x ∈ c', x.one = true) →
    ∃ c2 i2 j2, itW (evC call itW base s_slices_Reverse_int_int_l0) [] H.length (frOf 28 [(0, .sl id g 0 n 1), (2, .s (.int .i64 i)), (3, .s (.int .i64 ((n : Int) - 1 - i)))]) (H.set id (.cells g c')) = some (.ext 0, frOf 28 [(0, .sl id g 0 n 1), (2, .s (.int .i64 i2)), (3, .s (.int .i64 j2)), (9, .s (.bool false))], H.set id (.cells g c2)) ∧ c2.length = c.length ∧ c2.take n = (c.take n).reverse := by
  have tsm : ∀ fr c', trim H.length fr (H.set id (.cells g c')) = H.set id (.cells g c') := fun fr c' => trim_same (by simp)
  intro d
  induction d using Nat.strongRecOn with
  | ind d ih =>
    intro i c' hd hin ht ho
    by_cases hlt : (i : Int) < (n : Int) - 1 - i
    · have hi : i + i + 1 < n := by omega
      have hl : c'.length = c.length := ht.1
      have hk : ((n : Int) - 1 - i) = ((n - 1 - i : Nat) : Int) := by omega
      have hg : getC (H.set id (.cells g c')) id g = some c' := getC_put hc
      obtain ⟨a1, a2⟩ := at_sl (n := n) hg (j := n - 1 - i) (by omega) (List.getElem?_eq_getElem (by omega))
      obtain ⟨b1, b2⟩ := at_sl (n := n) hg (j := i) (by omega) (List.getElem?_eq_getElem (by omega))
      have st1 := storeV_at (v := c'[n - 1 - i]) (base := base) hg hb (ho _ (List.getElem_mem _)) (off := i) (by omega)
      rw [set_set'] at st1
      have hg2 : getC (H.set id (.cells g (c'.set i c'[n - 1 - i]))) id g = some (c'.set i c'[n - 1 - i]) := getC_put hc
      have st2 := storeV_at (v := c'[i]) (base := base) hg2 hb (ho _ (List.getElem_mem _)) (off := n - 1 - i) (by rw [List.length_set]; omega)
      rw [set_set'] at st2
      have w1 := wrap_pos (n := i) (by omega)
      have w2 : IntKind.i64.wrap (((n - 1 - i : Nat) : Int) - 1) = (n : Int) - 1 - ((i + 1 : Nat) : Int) := by rw [IntKind.wrap_i64]; omega
      obtain ⟨c2, i2, j2, e1, e2⟩ := ih (d - 1) (by omega) (i + 1) ((c'.set i c'[n - 1 - i]).set (n - 1 - i) c'[i]) (by omega) (by omega) (tur_step ht hn hi _ _ (List.getElem?_eq_getElem (by omega)) (List.getElem?_eq_getElem (by omega))) (fun x hx => by
        rcases List.mem_or_eq_of_mem_set hx with hx | rfl
        · rcases List.mem_or_eq_of_mem_set hx with hx | rfl
          · exact ho x hx
          · exact ho _ (List.getElem_mem _)
        · exact ho _ (List.getElem_mem _))
      refine ⟨c2, i2, j2, ?_, e2⟩
      rw [hk] at hlt ⊢
      rw [itW_step]
      simp only [a_slices_Reverse_int_int,s_slices_Reverse_int_int_l0_b, am0,am1,am2,am3,am4,am5,am6,am7,bl,i64,reduceIte,reduceCtorEq,Nat.reduceEqDiff,Nat.reduceLT,Nat.reduceLeDiff,Nat.reduceBEq,Nat.reduceAdd,fillA,splice,Nat.reduceMul,al0,al1,al2,al3,al4,al5,al6,al7,al8,al9,al10,al11,al12,al13,al14,al15,al16,al17,al18,al19,al20,al21,al22,al23,al24,al25,al26,al27,al28,al29,al30,al31,al32,al33,al34, hlt, a1, a2, b1, b2, st1, st2, w1, w2, tsm]
      exact e1
    · refine ⟨c', i, (n : Int) - 1 - i, ?_, ht.1, tur_end ht hn (by omega)⟩
      rw [itW_step]
      simp only [a_slices_Reverse_int_int,s_slices_Reverse_int_int_l0_b, am0,am1,am2,am3,am4,am5,am6,am7,bl,i64,reduceIte,reduceCtorEq,Nat.reduceEqDiff,Nat.reduceLT,Nat.reduceLeDiff,Nat.reduceBEq,Nat.reduceAdd,fillA,splice,Nat.reduceMul,al0,al1,al2,al3,al4,al5,al6,al7,al8,al9,al10,al11,al12,al13,al14,al15,al16,al17,al18,al19,al20,al21,al22,al23,al24,al25,al26,al27,al28,al29,al30,al31,al32,al33,al34, hlt, tsm]
theorem reverse_fun {CT : Nat → Option CFun} (hT : CT k_slices_Reverse_int_int = some (.code s_slices_Reverse_int_int)) (base m : Nat) (H : Heap) (v : V) (l : List Int) (hv : OwnN m H v (l.map iV)) (hone : ∀ id g n c, v = .sl id g 0 n 1 → getC H id g = some c → ∀ x ∈ c, x.one = true) (hb : base ≤ m) (hn : l.length < 2 ^ 60) :
    ∃ H', callW CT (.fn k_slices_Reverse_int_int [] []) [v] base H = some (.tup [], H') ∧ OwnN m H' v (l.reverse.map iV) ∧ H'.length = H.length ∧ ∀ i, i < m → H'[i]? = H[i]? := by
  have hw0 : IntKind.i64.wrap ((l.length : Int) - 1) = (l.length : Int) - 1 := by rw [IntKind.wrap_i64]; omega
  have hlen := iV_len hv.rd
  rcases hv with ⟨h0, hv⟩ | ⟨id, g, c, rfl, hc, hl, ht, hid⟩
  · have hl0 : l = [] := by simpa using h0
    subst hl0
    refine ⟨H, callW_fn (c := s_slices_Reverse_int_int) hT (by simp [s_slices_Reverse_int_int]) ?_, .inl ⟨rfl, hv⟩, rfl, fun _ _ => rfl⟩
    have hlt : ¬ (0 : Int) < IntKind.i64.wrap (((0 : Nat) : Int) - 1) := by rw [IntKind.wrap_i64]; omega
    simp only [List.length_nil] at hlen hw0
    simp only [s_slices_Reverse_int_int, a_slices_Reverse_int_int,s_slices_Reverse_int_int_l0_b, am0,am1,am2,am3,am4,am5,am6,am7,bl,i64,reduceIte,reduceCtorEq,Nat.reduceEqDiff,Nat.reduceLT,Nat.reduceLeDiff,Nat.reduceBEq,Nat.reduceAdd,fillA,splice,Nat.reduceMul,al0,al1,al2,al3,al4,al5,al6,al7,al8,al9,al10,al11,al12,al13,al14,al15,al16,al17,al18,al19,al20,al21,al22,al23,al24,al25,al26,al27,al28,al29,al30,al31,al32,al33,al34, hlen, hw0]
    rw [itW_step]
    simp only [a_slices_Reverse_int_int,s_slices_Reverse_int_int_l0_b, am0,am1,am2,am3,am4,am5,am6,am7,bl,i64,reduceIte,reduceCtorEq,Nat.reduceEqDiff,Nat.reduceLT,Nat.reduceLeDiff,Nat.reduceBEq,Nat.reduceAdd,fillA,splice,Nat.reduceMul,al0,al1,al2,al3,al4,al5,al6,al7,al8,al9,al10,al11,al12,al13,al14,al15,al16,al17,al18,al19,al20,al21,al22,al23,al24,al25,al26,al27,al28,al29,al30,al31,al32,al33,al34, res_nil, trim_same rfl]
    rfl
  · have hll : (l.map iV).length = l.length := List.length_map ..
    rw [hll] at hl ht hlen hone ⊢
    obtain ⟨c2, i2, j2, e1, e2, e3⟩ := rev_loop (callW CT) base id g l.length c H hc hl (by omega) (hone id g _ c rfl hc) hn l.length 0 c (by omega) (by omega) (tur_start _ _) (hone id g _ c rfl hc)
    rw [getC_same hc] at e1
    have hz : (l.length : Int) - 1 - ((0 : Nat) : Int) = (l.length : Int) - 1 := by omega
    rw [hz, cast0] at e1
    refine ⟨H.set id (.cells g c2), callW_fn (c := s_slices_Reverse_int_int) hT (by simp [s_slices_Reverse_int_int]) ?_, .inr ⟨id, g, c2, by simp, getC_put hc, by simp; omega, ?_, hid⟩, by simp, fun i hi => by rw [List.getElem?_set_ne (by omega)]⟩
    · simp only [s_slices_Reverse_int_int, a_slices_Reverse_int_int,s_slices_Reverse_int_int_l0_b, am0,am1,am2,am3,am4,am5,am6,am7,bl,i64,reduceIte,reduceCtorEq,Nat.reduceEqDiff,Nat.reduceLT,Nat.reduceLeDiff,Nat.reduceBEq,Nat.reduceAdd,fillA,splice,Nat.reduceMul,al0,al1,al2,al3,al4,al5,al6,al7,al8,al9,al10,al11,al12,al13,al14,al15,al16,al17,al18,al19,al20,al21,al22,al23,al24,al25,al26,al27,al28,al29,al30,al31,al32,al33,al34, hlen, hw0, e1, res_nil]
    · rw [List.length_map, List.length_reverse, e3, ht, List.map_reverse]
end Go.Proofs.Ytmnlagcmpgilaaa
set_option maxRecDepth 100000
namespace Go.Proofs.Ytmnlagcmpgilaaa
open Go.AM
theorem enters_cnt (n : Nat) : ∀ (l : List Int) (s : List Bool × List Int), s.1.length = n → cntF (enters n l s).1 ≤ cntF s.1 := by
  intro l
  induction l with
  | nil => intro s _; exact Nat.le_refl _
  | cons k l ih =>
    intro s h
    obtain ⟨a, b⟩ := enterZ_inv n k s h
    have h2 := ih _ a
    have h3 : cntF (enterZ n k s).1 ≤ cntF s.1 := by
      have : s.2.length ≤ (enterZ n k s).2.length := by
        simp only [enterZ]
        cases decide (k ≥ 0) && decide (k < (n : Int)) && !(s.1.getD k.toNat true) <;> simp
      omega
    exact Nat.le_trans h2 h3
theorem reach_l2 {CT : Nat → Option CFun} (hT : CT k_graph_Reach_1 = some (.code s_graph_Reach_1)) (base h L : Nat) (v : V) (H0 : Heap) (G : List (List Int)) (hb : base ≤ h) (hL : h + 4 ≤ L) (hv : RdRows H0 v (rowsV G)) (hlen : ∀ H, xLen H .s v = xLen H0 .s v) (hn : G.length < 2 ^ 40) (hr : ∀ r ∈ G, r.length < 2 ^ 62)
    (P : List Bool × List Int → Prop) (hP : ∀ (B : List Bool) (S : List Int) (i : Int), P (B, S ++ [i]) → (0 ≤ i ∧ i < G.length) ∧ P (enters G.length (G.getD i.toNat []) (B, S))) :
    ∀ (m : Nat) (H : Heap) (s : List Bool × List Int), 2 * cntF s.1 + s.2.length ≤ m → RS h v G.length H0 H s.1 s.2 → s.2.length + cntF s.1 ≤ G.length → P s →
    ∃ H' B', itW (evC (callW CT) itW base s_graph_Reach_l2) [17, 18, 19, 20, 44, 45, 46, 47] L (frOf 55 [(2, .ref h 0 0), (5, .ref (h + 2) 0 0), (6, .ref (h + 3) 0 0), (7, clos h)]) H =
      some (.ext 2, frOf 55 [(2, .ref h 0 0), (5, .ref (h + 2) 0 0), (6, .ref (h + 3) 0 0), (7, clos h), (29, .s (.bool false))], H') ∧ RS h v G.length H0 H' B' [] ∧ P (B', []) := by
  have stop : ∀ (H : Heap) (B : List Bool), RS h v G.length H0 H B [] → P (B, []) → ∃ H' B', itW (evC (callW CT) itW base s_graph_Reach_l2) [17, 18, 19, 20, 44, 45, 46, 47] L (frOf 55 [(2, .ref h 0 0), (5, .ref (h + 2) 0 0), (6, .ref (h + 3) 0 0), (7, clos h)]) H = some (.ext 2, (frOf 55 [(2, .ref h 0 0), (5, .ref (h + 2) 0 0), (6, .ref (h + 3) 0 0), (7, clos h), (29, .s (.bool false))]), H') ∧ RS h v G.length H0 H' B' [] ∧ P (B', []) := by
    intro H B hs hp
    obtain ⟨a1, a2, a3, a4, a5, a6, nv, a7, a8⟩ := hs
    have hnl := iV_len a8.rd
    rw [List.length_nil, cast0] at hnl
    refine ⟨trim L (frOf 55 [(2, .ref h 0 0), (5, .ref (h + 2) 0 0), (6, .ref (h + 3) 0 0), (7, clos h), (29, .s (.bool false))]) H, B, ?_, RS.trim ⟨a1, a2, a3, a4, a5, a6, nv, a7, a8⟩ hL _, hp⟩
    rw [itW_step]
    simp only [a_graph_Reach,s_graph_Reach_l0_b,s_graph_Reach_l1_b,s_graph_Reach_l2_b, am0,am1,am2,am3,am4,am5,am6,am7,bl,i64,reduceIte,reduceCtorEq,Nat.reduceEqDiff,Nat.reduceLT,Nat.reduceLeDiff,Nat.reduceBEq,Nat.reduceAdd,fillA,splice,Nat.reduceMul,al0,al1,al2,al3,al4,al5,al6,al7,al8,al9,al10,al11,al12,al13,al14,al15,al16,al17,al18,al19,al20,al21,al22,al23,al24,al25,al26,al27,al28,al29,al30,al31,al32,al33,al34, getC_load a7, hnl, gt_iff_lt, Int.lt_irrefl]
  intro m
  induction m with
  | zero =>
    intro H s hm hs hc hp
    obtain ⟨B, S⟩ := s
    have : S = [] := List.eq_nil_of_length_eq_zero (by simp only at hm; omega)
    subst this
    exact stop H B hs hp
  | succ m ih =>
    intro H s hm hs hc hp
    obtain ⟨B, S0⟩ := s
    rcases List.eq_nil_or_concat S0 with rfl | ⟨S, i, rfl⟩
    · exact stop H B hs hp
    · rw [List.concat_eq_append] at *
      obtain ⟨⟨hi0, hin⟩, hp'⟩ := hP B S i hp
      obtain ⟨j, rfl⟩ := Int.eq_ofNat_of_zero_le hi0
      obtain ⟨a1, a2, a3, a4, a5, a6, nv, a7, a8⟩ := hs
      simp only at a4 a6 a8 hm hc
      have hnl := iV_len a8.rd
      rw [List.length_append, List.length_singleton] at hnl hm hc
      have hj : j < G.length := by omega
      obtain ⟨r, hG⟩ : ∃ r, G[j]? = some r := ⟨G[j], List.getElem?_eq_getElem hj⟩
      have hGD : G.getD j [] = r := by rw [List.getD, hG]; rfl
      obtain ⟨a, ha1, ha2⟩ := iV_at a8.rd a8.wide (k := S.length) (x := (j : Int)) (by simp)
      obtain ⟨w, w1, w2⟩ := a8.pop (k := S.length) (by simp)
      have hst := storeV_at (v := w) (base := base) a7 (by omega) w2.one (off := 0) (by simp)
      have hwp : IntKind.i64.wrap (((S.length + 1 : Nat) : Int) - 1) = (S.length : Nat) := by rw [IntKind.wrap_i64]; omega
      have hpos : (0 : Int) < ((S.length + 1 : Nat) : Int) := by omega
      have a7' := getC_put (c' := [w]) a7
      have hs1 : RS h v G.length H0 (H.set (h + 3) (.cells 0 [w])) B S := by
        refine ⟨a1, a2.set (by omega) _, by rw [getC_other (by omega)]; exact a3, by rw [getC_other (by omega)]; exact a4, by rw [getC_other (by omega)]; exact a5, a6, w, a7', ?_⟩
        have := w2.set (id := h + 3) (by omega) (.cells 0 [w])
        rwa [← List.map_take, List.take_left'] at this
        rfl
      obtain ⟨vs, hv1, hv2, hv3, hv4⟩ := id hv
      obtain ⟨xv, hx1, hx0, hx4⟩ := hv4 j _ (rowsV_get hG)
      obtain ⟨b, hb1, hb2⟩ := (hv1.ext hs1.2.1).at' hv2 hx1
      have hx3 := hx0.ext hs1.2.1
      have hrl := hr r (List.mem_of_getElem? hG)
      obtain ⟨H1, p1, p2⟩ := reach_l1 hT base h G.length H.length v xv H0 r hb (by have := getC_lt a7; omega) (rows_len hv) hlen hn hx0 hx4 hrl r 0 _ (B, S) rfl (Nat.zero_le _) hs1 (by simp only; omega)
      rw [cast0] at p1
      rw [Int.toNat_natCast, hGD] at hp'
      obtain ⟨i1, i2⟩ := enters_inv G.length r (B, S) a6
      simp only at i2
      obtain ⟨H', B', q1, q2, q3⟩ := ih (trim L (frOf 55 [(2, .ref h 0 0), (5, .ref (h + 2) 0 0), (6, .ref (h + 3) 0 0), (7, clos h)]) H1) (enters G.length r (B, S)) (by have := enters_cnt G.length r (B, S) a6; simp only at this; omega) (p2.trim hL _) (by omega) hp'
      refine ⟨H', B', ?_, q2, q3⟩
      rw [itW_step]
      have a3' := hs1.2.2.1
      simp only [a_graph_Reach,s_graph_Reach_l0_b,s_graph_Reach_l1_b,s_graph_Reach_l2_b, am0,am1,am2,am3,am4,am5,am6,am7,bl,i64,reduceIte,reduceCtorEq,Nat.reduceEqDiff,Nat.reduceLT,Nat.reduceLeDiff,Nat.reduceBEq,Nat.reduceAdd,fillA,splice,Nat.reduceMul,al0,al1,al2,al3,al4,al5,al6,al7,al8,al9,al10,al11,al12,al13,al14,al15,al16,al17,al18,al19,al20,al21,al22,al23,al24,al25,al26,al27,al28,al29,al30,al31,al32,al33,al34, getC_load a7, hnl, gt_iff_lt, hpos, hwp, ha1, ha2, w1, hst, a3', hb1, hb2, iV_len hx3, p1]
      exact q1
end Go.Proofs.Ytmnlagcmpgilaaa
set_option maxRecDepth 100000
namespace Go.Proofs.Ytmnlagcmpgilaaa
open Go.AM
theorem reach_run {CT : Nat → Option CFun} (hR : CT k_graph_Reach = some (.code s_graph_Reach)) (hT : CT k_graph_Reach_1 = some (.code s_graph_Reach_1)) (base : Nat) (H : Heap) (v fv : V) (G : List (List Int)) (l : List Int) (hb : base ≤ H.length) (hv : RdRows H v (rowsV G)) (hf : Rd H fv (l.map iV)) (hfw : Wide1 fv) (hl : l.length < 2 ^ 62) (hn : G.length < 2 ^ 40) (hr : ∀ r ∈ G, r.length < 2 ^ 62)
    (P : List Bool × List Int → Prop) (hP : ∀ (B : List Bool) (S : List Int) (i : Int), P (B, S ++ [i]) → (0 ≤ i ∧ i < G.length) ∧ P (enters G.length (G.getD i.toNat []) (B, S))) (h0 : P (enters G.length l (List.replicate G.length false, []))) :
    ∃ v' H' B, callW CT (.fn k_graph_Reach [] []) [v, fv] base H = some (v', H') ∧ Ext H H' ∧ Rd H' v' (B.map bV) ∧ Wide1 v' ∧ B.length = G.length ∧ P (B, []) := by
  have hone : v.one = true := by obtain ⟨vs, h, _⟩ := hv; exact h.one
  have hlen : ∀ H', xLen H' .s v = xLen H .s v := by
    intro H'
    obtain ⟨vs, h, _⟩ := hv
    rcases h.cases with ⟨_, rfl | rfl⟩ | ⟨es, rfl, _⟩ | ⟨id, g, off, n, c, rfl, _⟩ <;> rfl
  have hvl := rows_len hv
  have hfl : ∀ H', xLen H' .s fv = some (.s (.int .i64 l.length)) := by
    intro H'
    rw [← iV_len hf]
    rcases hf.cases with ⟨_, rfl | rfl⟩ | ⟨es, rfl, _⟩ | ⟨id, g, off, n, c, rfl, _⟩ <;> rfl
  have hb2 : base ≤ H.length + 2 := by omega
  have hmk := make_n (H := H ++ [.cells 0 [v]]) (zero := [.s (.bool false)]) (sz := 1) (bytes := 1) (k := .i64) (k' := .i64) (n := G.length) (by omega)
  rw [flat_one] at hmk
  let H4 : Heap := H ++ [.cells 0 [v]] ++ [.cells 0 (List.replicate G.length (.s (.bool false)))] ++ [.cells 0 [.sl (H.length + 1) 0 0 G.length 1]] ++ [.cells 0 [nilS]]
  have hrs : RS H.length v G.length H H4 (List.replicate G.length false) [] := by
    refine ⟨rfl, ⟨[.cells 0 [v], .cells 0 (List.replicate G.length (.s (.bool false))), .cells 0 [.sl (H.length + 1) 0 0 G.length 1], .cells 0 [nilS]], by simp [H4]⟩, by simp [H4, getC], by simp [H4, getC, bV], by simp [H4, getC], by simp, nilS, by simp [H4, getC], .inl ⟨rfl, .inl rfl⟩⟩
  have hcnt : ∀ n, cntF (List.replicate n false) = n := by
    intro n
    induction n with
    | zero => rfl
    | succ n ih => simp only [List.replicate_succ, cntF, ih]; simp; omega
  obtain ⟨H5, p1, p2⟩ := reach_l0 hT base H.length G.length (H.length + 4) v fv H l hb (Nat.le_refl _) hvl hlen hn hf hfw hl l 0 H4 (List.replicate G.length false, []) rfl (Nat.zero_le _) hrs (by simp [hcnt])
  rw [cast0] at p1
  obtain ⟨i1, i2⟩ := enters_inv G.length l (List.replicate G.length false, []) (by simp)
  simp only [hcnt, List.length_nil, Nat.zero_add] at i2
  obtain ⟨H6, B, q1, q2, q3⟩ := reach_l2 hT base H.length H5.length v H G hb (by have := getC_lt p2.2.2.2.2.2.2.choose_spec.1; omega) hv hlen hn hr P hP _ H5 _ (Nat.le_refl _) p2 (by omega) h0
  obtain ⟨a1, a2, a3, a4, a5, a6, nv, a7, a8⟩ := q2
  refine ⟨.sl (H.length + 1) 0 0 G.length 1, H6, B, callW_fnA (c := s_graph_Reach) (k := 2) hR rfl (by decide) s_graph_Reach_first ?_, a2, ?_, trivial, a6, q3⟩
  · simp only [clos] at p1 q1
    simp only [H4, nilS] at p1
    simp only [s_graph_Reach, a_graph_Reach,s_graph_Reach_l0_b,s_graph_Reach_l1_b,s_graph_Reach_l2_b, am0,am1,am2,am3,am4,am5,am6,am7,bl,i64,reduceIte,reduceCtorEq,Nat.reduceEqDiff,Nat.reduceLT,Nat.reduceLeDiff,Nat.reduceBEq,Nat.reduceAdd,fillA,splice,Nat.reduceMul,al0,al1,al2,al3,al4,al5,al6,al7,al8,al9,al10,al11,al12,al13,al14,al15,al16,al17,al18,al19,al20,al21,al22,al23,al24,al25,al26,al27,al28,al29,al30,al31,al32,al33,al34, cells_of_one hone, hone, hlen, hvl, op_mkSl, hmk, hb2, hfl, xsub_mkFn, p1, q1, getC_load a5]
  · have := getC_sl a4
    rwa [List.length_map, a6] at this
end Go.Proofs.Ytmnlagcmpgilaaa
set_option maxRecDepth 100000
namespace Go.Proofs.Ytmnlagcmpgilaaa
open Go.AM
inductive Rch (G : List (List Int)) (l : List Int) : Nat → Prop
  | base (k : Nat) : (k : Int) ∈ l → k < G.length → Rch G l k
  | step (i k : Nat) : Rch G l i → (k : Int) ∈ G.getD i [] → k < G.length → Rch G l k
structure Ent (n : Nat) (r : List Int) (s t : List Bool × List Int) : Prop where
  len : t.1.length = n
  mono : ∀ k : Nat, s.1[k]? = some true → t.1[k]? = some true
  only : ∀ k : Nat, t.1[k]? = some true → s.1[k]? = some true ∨ ((k : Int) ∈ r ∧ k < n ∧ (k : Int) ∈ t.2)
  all : ∀ k : Nat, (k : Int) ∈ r → k < n → t.1[k]? = some true
  sub : ∀ x, x ∈ s.2 → x ∈ t.2
  new : ∀ x, x ∈ t.2 → x ∈ s.2 ∨ ∃ k : Nat, x = k ∧ k < n ∧ t.1[k]? = some true
theorem enterZ_ent (n : Nat) (x : Int) (s : List Bool × List Int) (h : s.1.length = n) : Ent n [x] s (enterZ n x s) := by
  obtain ⟨l1, _⟩ := enterZ_inv n x s h
  simp only [enterZ] at l1 ⊢
  cases hc : decide (x ≥ 0) && decide (x < (n : Int)) && !(s.1.getD x.toNat true) with
  | false =>
    simp only [cond_false]
    refine ⟨h, fun _ h => h, fun _ h => .inl h, fun k hk hkn => ?_, fun _ h => h, fun _ h => .inl h⟩
    have : x = (k : Int) := (List.mem_singleton.1 hk).symm
    subst this
    have h1 : decide ((k : Int) ≥ 0) = true := by rw [decide_eq_true_eq]; omega
    have h2 : decide ((k : Int) < (n : Int)) = true := by rw [decide_eq_true_eq]; omega
    rw [h1, h2, Bool.true_and, Bool.true_and, Bool.not_eq_false', Int.toNat_natCast, List.getD, List.getElem?_eq_getElem (by omega)] at hc
    rw [List.getElem?_eq_getElem (by omega)]
    exact congrArg some hc
  | true =>
    rw [hc] at l1
    simp only [cond_true] at l1 ⊢
    simp only [Bool.and_eq_true, decide_eq_true_eq, Bool.not_eq_true'] at hc
    obtain ⟨j, rfl⟩ := Int.eq_ofNat_of_zero_le hc.1.1
    have hj : j < n := by omega
    simp only [Int.toNat_natCast] at l1 ⊢
    have hset : (s.1.set j true)[j]? = some true := by rw [List.getElem?_set_self (by omega)]
    refine ⟨l1, fun k hk => ?_, fun k hk => ?_, fun k hk _ => ?_, fun y hy => List.mem_append_left _ hy, fun y hy => ?_⟩
    · by_cases e : j = k
      · subst e; exact hset
      · rw [List.getElem?_set_ne e]; exact hk
    · by_cases e : j = k
      · subst e; exact .inr ⟨List.mem_singleton.2 rfl, hj, List.mem_append_right _ (List.mem_singleton.2 rfl)⟩
      · rw [List.getElem?_set_ne e] at hk; exact .inl hk
    · have : k = j := by have := List.mem_singleton.1 hk; omega
      subst this; exact hset
    · rcases List.mem_append.1 hy with hy | hy
      · exact .inl hy
      · exact .inr ⟨j, List.mem_singleton.1 hy, hj, hset⟩
theorem enters_ent (n : Nat) : ∀ (r : List Int) (s : List Bool × List Int), s.1.length = n → Ent n r s (enters n r s) := by
  intro r
  induction r with
  | nil => intro s h; exact ⟨h, fun _ h => h, fun _ h => .inl h, fun _ h => absurd h List.not_mem_nil, fun _ h => h, fun _ h => .inl h⟩
  | cons x r ih =>
    intro s h
    have a := enterZ_ent n x s h
    have b := ih (enterZ n x s) a.len
    refine ⟨b.len, fun k hk => b.mono k (a.mono k hk), fun k hk => ?_, fun k hk hkn => ?_, fun y hy => b.sub y (a.sub y hy), fun y hy => ?_⟩
    · rcases b.only k hk with q | ⟨q1, q2, q3⟩
      · rcases a.only k q with q | ⟨q1, q2, q3⟩
        · exact .inl q
        · exact .inr ⟨List.mem_cons.2 (.inl (List.mem_singleton.1 q1)), q2, b.sub _ q3⟩
      · exact .inr ⟨List.mem_cons_of_mem _ q1, q2, q3⟩
    · rcases List.mem_cons.1 hk with e | e
      · exact b.mono k (a.all k (List.mem_singleton.2 e) hkn)
      · exact b.all k e hkn
    · rcases b.new y hy with q | q
      · rcases a.new y q with q | ⟨k, q1, q2, q3⟩
        · exact .inl q
        · exact .inr ⟨k, q1, q2, b.mono k q3⟩
      · exact .inr q
end Go.Proofs.Ytmnlagcmpgilaaa
set_option maxRecDepth 100000
namespace Go.Proofs.Ytmnlagcmpgilaaa
open Go.AM
structure Inv (G : List (List Int)) (l : List Int) (s : List Bool × List Int) : Prop where
  len : s.1.length = G.length
  stk : ∀ x, x ∈ s.2 → ∃ k : Nat, x = k ∧ k < G.length ∧ s.1[k]? = some true
  snd : ∀ k : Nat, s.1[k]? = some true → Rch G l k
  bas : ∀ k : Nat, (k : Int) ∈ l → k < G.length → s.1[k]? = some true
  cls : ∀ i k : Nat, s.1[i]? = some true → (i : Int) ∉ s.2 → (k : Int) ∈ G.getD i [] → k < G.length → s.1[k]? = some true
theorem inv_start (G : List (List Int)) (l : List Int) : Inv G l (enters G.length l (List.replicate G.length false, [])) := by
  have e := enters_ent G.length l (List.replicate G.length false, []) (by simp)
  have no : ∀ k : Nat, (List.replicate G.length false)[k]? ≠ some true := by
    intro k hk
    rw [List.getElem?_replicate] at hk
    split at hk <;> cases hk
  refine ⟨e.len, fun x hx => ?_, fun k hk => ?_, e.all, fun i k hi hn _ _ => ?_⟩
  · rcases e.new x hx with h | h
    · exact absurd h List.not_mem_nil
    · exact h
  · rcases e.only k hk with h | ⟨h1, h2, _⟩
    · exact absurd h (no k)
    · exact .base k h1 h2
  · rcases e.only i hi with h | ⟨_, _, h3⟩
    · exact absurd h (no i)
    · exact absurd h3 hn
theorem inv_round (G : List (List Int)) (l : List Int) (B : List Bool) (S : List Int) (x : Int) (h : Inv G l (B, S ++ [x])) : (0 ≤ x ∧ x < G.length) ∧ Inv G l (enters G.length (G.getD x.toNat []) (B, S)) := by
  obtain ⟨j, rfl, hj, hBj⟩ := h.stk x (List.mem_append_right _ (List.mem_singleton.2 rfl))
  refine ⟨⟨by omega, by omega⟩, ?_⟩
  rw [Int.toNat_natCast]
  have e := enters_ent G.length (G.getD j []) (B, S) h.len
  refine ⟨e.len, fun y hy => ?_, fun k hk => ?_, fun k hk hkn => e.mono k (h.bas k hk hkn), fun i k hi hn hk hkn => ?_⟩
  · rcases e.new y hy with q | q
    · obtain ⟨k, q1, q2, q3⟩ := h.stk y (List.mem_append_left _ q)
      exact ⟨k, q1, q2, e.mono k q3⟩
    · exact q
  · rcases e.only k hk with q | ⟨q1, q2, _⟩
    · exact h.snd k q
    · exact .step j k (h.snd j hBj) q1 q2
  · by_cases hij : i = j
    · subst hij; exact e.all k hk hkn
    · rcases e.only i hi with q | ⟨_, _, q3⟩
      · refine e.mono k (h.cls i k q (fun hm => ?_) hk hkn)
        rcases List.mem_append.1 hm with hm | hm
        · exact hn (e.sub _ hm)
        · have := List.mem_singleton.1 hm; omega
      · exact absurd q3 hn
theorem inv_end {G : List (List Int)} {l : List Int} {B : List Bool} (h : Inv G l (B, [])) (k : Nat) : B[k]? = some true ↔ Rch G l k := by
  refine ⟨h.snd k, fun hr => ?_⟩
  induction hr with
  | base k h1 h2 => exact h.bas k h1 h2
  | step i k _ h1 h2 ih => exact h.cls i k ih List.not_mem_nil h1 h2
theorem reach_f {CT : Nat → Option CFun} (hR : CT k_graph_Reach = some (.code s_graph_Reach)) (hT : CT k_graph_Reach_1 = some (.code s_graph_Reach_1)) (base : Nat) (H : Heap) (v fv : V) (G : List (List Int)) (l : List Int) (hb : base ≤ H.length) (hv : RdRows H v (rowsV G)) (hf : Rd H fv (l.map iV)) (hfw : Wide1 fv) (hl : l.length < 2 ^ 62) (hn : G.length < 2 ^ 40) (hr : ∀ r ∈ G, r.length < 2 ^ 62) :
    ∃ (v' : V) (H' : Heap) (B : List Bool), callW CT (.fn k_graph_Reach [] []) [v, fv] base H = some (v', H') ∧ Ext H H' ∧ Rd H' v' (B.map bV) ∧ Wide1 v' ∧ B.length = G.length ∧ ∀ k : Nat, B[k]? = some true ↔ Rch G l k := by
  obtain ⟨v', H', B, h1, h2, h3, h4, h5, h6⟩ := reach_run hR hT base H v fv G l hb hv hf hfw hl hn hr (Inv G l) (inv_round G l) (inv_start G l)
  exact ⟨v', H', B, h1, h2, h3, h4, h5, inv_end h6⟩
end Go.Proofs.Ytmnlagcmpgilaaa
set_option maxRecDepth 100000
namespace Go.Proofs.Ytmnlagcmpgilaaa
open Go.AM
theorem rch_lt {G : List (List Int)} {a : List Int} {k : Nat} (h : Rch G a k) : k < G.length := by cases h <;> assumption
theorem bV_at {H : Heap} {v : V} {B : List Bool} (h : Rd H v (B.map bV)) (hw : Wide1 v) {k : Nat} (hk : k < B.length) : ∃ a, xIndexAddr 1 v (.s (.int .i64 k)) = some a ∧ xLoad H false 1 a = some (.s (.bool (B.getD k false))) := by
  refine h.at' hw ?_
  rw [List.getElem?_map, List.getElem?_eq_getElem hk, List.getD, List.getElem?_eq_getElem hk]
  rfl
end Go.Proofs.Ytmnlagcmpgilaaa
set_option maxRecDepth 100000
namespace Go.Proofs.Ytmnlagcmpgilaaa
open Go.AM
end Go.Proofs.Ytmnlagcmpgilaaa
set_option maxRecDepth 100000
namespace Go.Proofs.Ytmnlagcmpgilaaa
open Go.AM
end Go.Proofs.Ytmnlagcmpgilaaa
set_option maxRecDepth 100000
namespace Go.Proofs.Ytmnlagcmpgilaaa
open Go.AM
theorem getD_mem {G : List (List Int)} {k : Nat} (hk : k < G.length) : G.getD k [] ∈ G := by
  rw [List.getD, List.getElem?_eq_getElem hk]; exact List.getElem_mem hk
theorem normG_get (G : List (List Int)) (k : Nat) (x : Int) : x ∈ (normG G).getD k [] ↔ x ∈ G.getD k [] ∧ 0 ≤ x ∧ x < G.length := by
  unfold normG
  simp only [List.getD, List.getElem?_map]
  cases G[k]? with
  | none => simp
  | some r =>
    simp only [Option.map_some, Option.getD_some]
    rw [(normR_up _ _).2 x]
    simp only [outR, Bool.or_eq_false_iff, decide_eq_false_iff_not]
    constructor
    · rintro ⟨a, b, c⟩; exact ⟨a, by omega, by omega⟩
    · rintro ⟨a, b, c⟩; exact ⟨a, by omega, by omega⟩
theorem rch_trans {G : List (List Int)} {l : List Int} {j i : Nat} (h1 : Rch G l j) (h2 : Rch G [(j : Int)] i) : Rch G l i := by
  induction h2 with
  | base k a b =>
    have : k = j := by rw [List.mem_singleton] at a; omega
    subst this; exact h1
  | step a k _ h3 h4 ih => exact .step a k ih h3 h4
theorem rch_norm (G : List (List Int)) (l : List Int) (k : Nat) : Rch (normG G) l k ↔ Rch G l k := by
  constructor
  · intro h
    induction h with
    | base k a b => exact .base k a (by rw [normG_len] at b; exact b)
    | step j k _ h3 h4 ih => exact .step j k ih ((normG_get G j k).1 h3).1 (by rw [normG_len] at h4; exact h4)
  · intro h
    induction h with
    | base k a b => exact .base k a (by rw [normG_len]; exact b)
    | step j k _ h3 h4 ih => exact .step j k ih ((normG_get G j k).2 ⟨h3, by omega, by omega⟩) (by rw [normG_len]; exact h4)
open Classical in
noncomputable def leadsB (G : List (List Int)) (a b : Int) : Bool := decide (∃ k : Nat, b = k ∧ Rch G [a] k)
theorem leadsB_nat (G : List (List Int)) (a : Int) (k : Nat) : leadsB G a k = true ↔ Rch G [a] k := by
  simp only [leadsB, decide_eq_true_eq]
  constructor
  · rintro ⟨j, e, h⟩
    have : k = j := by omega
    subst this; exact h
  · exact fun h => ⟨k, rfl, h⟩
end Go.Proofs.Ytmnlagcmpgilaaa
set_option maxRecDepth 100000
namespace Go.Proofs.Ytmnlagcmpgilaaa
open Go.AM
inductive Dfs (N : List (List Int)) : List Int → List Bool → List Int → List Bool → List Int → Prop
  | nil (s : List Bool) (l : List Int) : Dfs N [] s l s l
  | skip (k : Nat) (r : List Int) (s : List Bool) (l : List Int) (s' : List Bool) (l' : List Int) : s[k]? = some true → Dfs N r s l s' l' → Dfs N ((k : Int) :: r) s l s' l'
  | go (k : Nat) (r : List Int) (s : List Bool) (l : List Int) (s1 : List Bool) (l1 : List Int) (s' : List Bool) (l' : List Int) : s[k]? = some false → Dfs N (N.getD k []) (s.set k true) l s1 l1 → Dfs N r s1 ((k : Int) :: l1) s' l' → Dfs N ((k : Int) :: r) s l s' l'
structure DfsK (s : List Bool) (l : List Int) (s' : List Bool) (l' : List Int) : Prop where
  len : s'.length = s.length
  mono : ∀ k : Nat, s[k]? = some true → s'[k]? = some true
  cnt : cntF s' ≤ cntF s
  new : ∃ p : List Int, l' = p ++ l ∧ p.Nodup ∧ (∀ x ∈ p, ∃ k : Nat, x = k ∧ s[k]? = some false ∧ s'[k]? = some true) ∧ ∀ k : Nat, s'[k]? = some true → s[k]? = some true ∨ (k : Int) ∈ p
theorem set_get {s : List Bool} {k j : Nat} (hk : k < s.length) : (s.set k true)[j]? = if k = j then some true else s[j]? := by
  rw [List.getElem?_set]
  split
  · rename_i h; subst h; first | rfl | rw [if_pos hk]
  · rfl
theorem dfs_keep {N : List (List Int)} {r : List Int} {s : List Bool} {l : List Int} {s' : List Bool} {l' : List Int} (h : Dfs N r s l s' l') : DfsK s l s' l' := by
  induction h with
  | nil s l => exact ⟨rfl, fun _ h => h, Nat.le_refl _, [], rfl, List.nodup_nil, fun x hx => (List.not_mem_nil hx).elim, fun k h => .inl h⟩
  | skip k r s l s' l' h1 h2 ih => exact ih
  | go k r s l s1 l1 s' l' h1 h2 h3 ih1 ih2 =>
    obtain ⟨a1, a2, a3, p, a4, a5, a6, a7⟩ := ih1
    obtain ⟨b1, b2, b3, q, b4, b5, b6, b7⟩ := ih2
    have hk : k < s.length := (List.getElem?_eq_some_iff.1 h1).1
    have hc := cntF_set s k h1
    have hk1 : s1[k]? = some true := a2 k (by rw [set_get hk, if_pos rfl])
    have up : ∀ j : Nat, s[j]? = some true → s1[j]? = some true := fun j hj => a2 j (by rw [set_get hk]; split <;> first | rfl | exact hj)
    have down : ∀ j : Nat, j < s.length → s1[j]? = some false → s[j]? = some false := by
      intro j hj hf
      rw [List.getElem?_eq_getElem hj]
      cases hb : s[j] with
      | false => rfl
      | true =>
        have := up j (by rw [List.getElem?_eq_getElem hj, hb])
        rw [hf] at this; cases this
    refine ⟨by rw [b1, a1, List.length_set], fun j hj => b2 j (up j hj), by omega, q ++ (k : Int) :: p, by rw [b4, a4]; simp, ?_, ?_, ?_⟩
    · rw [List.nodup_append]
      refine ⟨b5, List.nodup_cons.2 ⟨?_, a5⟩, ?_⟩
      · intro hm
        obtain ⟨j, e, hf, _⟩ := a6 _ hm
        have : k = j := by omega
        subst this
        rw [set_get hk, if_pos rfl] at hf
        cases hf
      · intro x hx y hy e
        subst e
        obtain ⟨j, rfl, hf, _⟩ := b6 x hx
        rcases List.mem_cons.1 hy with e | hy
        · have : k = j := by omega
          subst this
          rw [hk1] at hf; cases hf
        · obtain ⟨j', e, _, ht⟩ := a6 _ hy
          have : j' = j := by omega
          subst this
          rw [ht] at hf; cases hf
    · intro x hx
      rcases List.mem_append.1 hx with hx | hx
      · obtain ⟨j, rfl, hf, ht⟩ := b6 x hx
        refine ⟨j, rfl, down j ?_ hf, ht⟩
        have := (List.getElem?_eq_some_iff.1 hf).1
        rw [a1, List.length_set] at this; exact this
      · rcases List.mem_cons.1 hx with rfl | hx
        · exact ⟨k, rfl, h1, b2 k hk1⟩
        · obtain ⟨j, rfl, hf, ht⟩ := a6 x hx
          refine ⟨j, rfl, ?_, b2 j ht⟩
          rw [set_get hk] at hf
          split at hf
          · cases hf
          · exact hf
    · intro j hj
      rcases b7 j hj with h | h
      · rcases a7 j h with h | h
        · rw [set_get hk] at h
          split at h
          · rename_i e; subst e; right; simp
          · exact .inl h
        · right; simp [h]
      · right; simp [h]
theorem dfs_ex (N : List (List Int)) (hN : ∀ r ∈ N, ∀ x ∈ r, 0 ≤ x ∧ x < (N.length : Int)) : ∀ (c : Nat) (r : List Int) (s : List Bool) (l : List Int), cntF s ≤ c → s.length = N.length → (∀ x ∈ r, 0 ≤ x ∧ x < (N.length : Int)) → ∃ s' l', Dfs N r s l s' l' := by
  intro c
  induction c with
  | zero =>
    intro r
    induction r with
    | nil => intro s l _ _ _; exact ⟨s, l, .nil s l⟩
    | cons x r ih =>
      intro s l hc hl hr
      obtain ⟨k, rfl⟩ := Int.eq_ofNat_of_zero_le (hr x List.mem_cons_self).1
      have hk : k < s.length := by have := (hr _ List.mem_cons_self).2; omega
      cases hb : s[k] with
      | true =>
        obtain ⟨s', l', h⟩ := ih s l hc hl fun x hx => hr x (List.mem_cons_of_mem _ hx)
        exact ⟨s', l', .skip k r s l s' l' (by rw [List.getElem?_eq_getElem hk, hb]) h⟩
      | false =>
        have := cntF_set s k (by rw [List.getElem?_eq_getElem hk, hb])
        omega
  | succ c ihc =>
    intro r
    induction r with
    | nil => intro s l _ _ _; exact ⟨s, l, .nil s l⟩
    | cons x r ih =>
      intro s l hc hl hr
      obtain ⟨k, rfl⟩ := Int.eq_ofNat_of_zero_le (hr x List.mem_cons_self).1
      have hk : k < s.length := by have := (hr _ List.mem_cons_self).2; omega
      cases hb : s[k] with
      | true =>
        obtain ⟨s', l', h⟩ := ih s l hc hl fun x hx => hr x (List.mem_cons_of_mem _ hx)
        exact ⟨s', l', .skip k r s l s' l' (by rw [List.getElem?_eq_getElem hk, hb]) h⟩
      | false =>
        have h0 : s[k]? = some false := by rw [List.getElem?_eq_getElem hk, hb]
        have hcn := cntF_set s k h0
        obtain ⟨s1, l1, h1⟩ := ihc (N.getD k []) (s.set k true) l (by omega) (by rw [List.length_set]; exact hl) (hN _ (getD_mem (by omega)))
        have kp := dfs_keep h1
        obtain ⟨s', l', h2⟩ := ih s1 ((k : Int) :: l1) (by have := kp.cnt; omega) (by rw [kp.len, List.length_set]; exact hl) fun x hx => hr x (List.mem_cons_of_mem _ hx)
        exact ⟨s', l', .go k r s l s1 l1 s' l' h0 h1 h2⟩
theorem dfs_all {N : List (List Int)} {r : List Int} {s : List Bool} {l : List Int} {s' : List Bool} {l' : List Int} (h : Dfs N r s l s' l') : ∀ k : Nat, (k : Int) ∈ r → s'[k]? = some true := by
  induction h with
  | nil s l => intro k hk; cases hk
  | skip k r s l s' l' h1 h2 ih =>
    intro j hj
    rcases List.mem_cons.1 hj with e | hj
    · have : j = k := by omega
      subst this
      exact (dfs_keep h2).mono j h1
    · exact ih j hj
  | go k r s l s1 l1 s' l' h1 h2 h3 ih1 ih2 =>
    intro j hj
    rcases List.mem_cons.1 hj with e | hj
    · have : j = k := by omega
      subst this
      exact (dfs_keep h3).mono j ((dfs_keep h2).mono j (by rw [set_get (List.getElem?_eq_some_iff.1 h1).1, if_pos rfl]))
    · exact ih2 j hj
theorem dfs_order {N : List (List Int)} {r : List Int} {s : List Bool} {l : List Int} {s' : List Bool} {l' : List Int} (h : Dfs N r s l s' l') : ∀ (i : Nat), i < N.length → s.length = N.length → (∀ x ∈ r, x ∈ N.getD i []) →
    (∀ x : Nat, s[x]? = some true → (x : Int) ∈ l ∨ Rch N [(x : Int)] i) →
    (∀ x : Nat, s'[x]? = some true → (x : Int) ∈ l' ∨ Rch N [(x : Int)] i) ∧ ∃ p, l' = p ++ l ∧ (∀ (a b : List Int) (v w : Nat), p = a ++ (v : Int) :: b → (w : Int) ∈ N.getD v [] → w < N.length → (w : Int) ∈ b ++ l ∨ Rch N [(w : Int)] v) ∧ ∀ x ∈ p, ∃ k : Nat, x = k ∧ Rch N [(i : Int)] k := by
  induction h with
  | nil s l => intro i _ _ _ hs; exact ⟨hs, [], rfl, fun a b v w e => by simp at e, fun x hx => (List.not_mem_nil hx).elim⟩
  | skip k r s l s' l' h1 h2 ih => intro i hi hl hr hs; exact ih i hi hl (fun x hx => hr x (List.mem_cons_of_mem _ hx)) hs
  | go k r s l s1 l1 s' l' h1 h2 h3 ih1 ih2 =>
    intro i hi hl hr hs
    have hk : k < s.length := (List.getElem?_eq_some_iff.1 h1).1
    have hkN : k < N.length := by omega
    have hik : Rch N [(i : Int)] k := .step i k (.base i (List.mem_singleton.2 rfl) hi) (hr _ List.mem_cons_self) hkN
    have hto : ∀ x : Nat, Rch N [(x : Int)] i → Rch N [(x : Int)] k := fun x hx => rch_trans hx hik
    obtain ⟨a1, p, a2, a3, a4⟩ := ih1 k hkN (by rw [List.length_set]; exact hl) (fun x hx => hx) (fun x hx => by
      rw [set_get hk] at hx
      split at hx
      · rename_i e; subst e; exact .inr (.base k (List.mem_singleton.2 rfl) hkN)
      · rcases hs x hx with h | h
        · exact .inl h
        · exact .inr (hto x h))
    have k1 := dfs_keep h2
    obtain ⟨q0, e0, _, _, k7⟩ := k1.new
    have hq0 : q0 = p := by
      have : q0 ++ l = p ++ l := by rw [← e0, a2]
      exact List.append_cancel_right this
    obtain ⟨b1, q, b2, b3, b4⟩ := ih2 i hi (by rw [k1.len, List.length_set]; exact hl) (fun x hx => hr x (List.mem_cons_of_mem _ hx)) (fun x hx => by
      rcases k7 x hx with h | h
      · rw [set_get hk] at h
        split at h
        · rename_i e; subst e; exact .inl List.mem_cons_self
        · rcases hs x h with h | h
          · left; rw [a2]; simp [h]
          · exact .inr h
      · left; rw [a2, ← hq0]; simp [h])
    refine ⟨b1, q ++ (k : Int) :: p, by rw [b2, a2]; simp, ?_, ?_⟩
    · intro a b v w e hw hwl
      rw [List.append_eq_append_iff] at e
      rcases e with ⟨c, e1, e2⟩ | ⟨c, e1, e2⟩
      · cases c with
        | nil =>
          rw [List.nil_append, List.cons.injEq] at e2
          obtain ⟨e2, rfl⟩ := e2
          have : v = k := by omega
          subst this
          have hs1 := dfs_all h2 w hw
          rcases a1 w hs1 with h | h
          · left; rw [a2] at h; exact h
          · exact .inr h
        | cons y c =>
          rw [List.cons_append, List.cons.injEq] at e2
          rcases a3 c b v w e2.2 hw hwl with h | h
          · exact .inl h
          · exact .inr h
      · cases c with
        | nil =>
          rw [List.nil_append, List.cons.injEq] at e2
          obtain ⟨e2, rfl⟩ := e2
          have : v = k := by omega
          subst this
          have hs1 := dfs_all h2 w hw
          rcases a1 w hs1 with h | h
          · left; rw [a2] at h; exact h
          · exact .inr h
        | cons y c =>
          rw [List.cons_append, List.cons.injEq] at e2
          obtain ⟨e2, rfl⟩ := e2
          rcases b3 a c v w (by rw [e1, e2]) hw hwl with h | h
          · left; rw [a2] at h; simpa using h
          · exact .inr h
    · intro x hx
      rcases List.mem_append.1 hx with hx | hx
      · exact b4 x hx
      · rcases List.mem_cons.1 hx with rfl | hx
        · exact ⟨k, rfl, hik⟩
        · obtain ⟨j, rfl, hj⟩ := a4 x hx
          exact ⟨j, rfl, rch_trans hik hj⟩
end Go.Proofs.Ytmnlagcmpgilaaa
