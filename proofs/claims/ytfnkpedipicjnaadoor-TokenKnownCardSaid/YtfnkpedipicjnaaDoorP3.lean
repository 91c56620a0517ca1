/- Texts of the proof: AmN, AmO, AmY, AmZ, AmI, TokQ, TokG, AmJ, TokC, AmP, TokS1, TokP, TokP2, TokP3, TokF1, TokF2, TokF3. -/
import Derived.Test.YtfnkpedipicjnaaDoorP0
import Derived.Test.YtfnkpedipicjnaaDoorP1
import Derived.Test.YtfnkpedipicjnaaDoorP2
import Derived.Lib.Atoi
import Derived.Lib.Bytealg
import Derived.Shelf.Small.Strs
import Derived.Shelf.Strconv.Atoi
import Derived.Test.YtfnkpedipicjnaaDoorProg
import Derived.KernelRfl
set_option linter.all false
namespace Go.AM
def Bag (m : Nat) (H : Heap) (vs : List V) (R : List (List V)) : Prop :=
  vs.length = R.length ∧ (∀ (j : Nat) (r : List V), R[j]? = some r → ∃ x, vs[j]? = some x ∧ ((r = [] ∧ x = nilS) ∨ ∃ id g, x = .sl id g 0 r.length 1 ∧ getC H id g = some r ∧ m ≤ id)) ∧
  ∀ (j k id g n id' g' n' : Nat), j ≠ k → vs[j]? = some (.sl id g 0 n 1) → vs[k]? = some (.sl id' g' 0 n' 1) → id ≠ id'
theorem Bag.start (m : Nat) (H : Heap) (n : Nat) : Bag m H (List.replicate n nilS) (List.replicate n []) := by
  refine ⟨by simp, fun j r hr => ?_, fun j k id g n id' g' n' _ h => ?_⟩
  · rw [List.getElem?_replicate] at hr
    split at hr
    · rename_i hj
      cases hr
      exact ⟨nilS, by rw [List.getElem?_replicate, if_pos hj], .inl ⟨rfl, rfl⟩⟩
    · cases hr
  · rw [List.getElem?_replicate] at h
    split at h
    · cases h
    · cases h
theorem Bag.get {m : Nat} {H : Heap} {vs : List V} {R : List (List V)} (h : Bag m H vs R) {j : Nat} {r : List V} (hr : R[j]? = some r) : ∃ x, vs[j]? = some x ∧ Rd H x r ∧ Wide1 x := by
  obtain ⟨x, h1, h2⟩ := h.2.1 j r hr
  refine ⟨x, h1, ?_⟩
  rcases h2 with ⟨rfl, rfl⟩ | ⟨id, g, rfl, hc, _⟩
  · exact ⟨Rd.nil H, trivial⟩
  · exact ⟨getC_sl hc, trivial⟩
theorem Bag.rows {m : Nat} {H : Heap} {vs : List V} {R : List (List V)} (h : Bag m H vs R) {o g : Nat} (hc : getC H o g = some vs) : RdRows H (.sl o g 0 R.length 1) R := by
  refine ⟨vs, by rw [← h.1]; exact getC_sl hc, trivial, h.1, fun i r hr => h.get hr⟩
theorem Bag.keep {m : Nat} {H H' : Heap} {vs : List V} {R : List (List V)} (h : Bag m H vs R) (hk : ∀ id g n c, V.sl id g 0 n 1 ∈ vs → m ≤ id → getC H id g = some c → getC H' id g = some c) : Bag m H' vs R := by
  refine ⟨h.1, fun j r hr => ?_, h.2.2⟩
  obtain ⟨x, h1, h2⟩ := h.2.1 j r hr
  refine ⟨x, h1, ?_⟩
  rcases h2 with h2 | ⟨id, g, rfl, hc, hm⟩
  · exact .inl h2
  · exact .inr ⟨id, g, rfl, hk id g _ _ (List.mem_of_getElem? h1) hm hc, hm⟩
theorem Bag.trim {m L o : Nat} {H : Heap} {vs : List V} {R : List (List V)} (h : Bag m H vs R) (hc : getC H o 0 = some vs) (ho : o < L) (fr : List V) : Bag m (trim L fr H) vs R := by
  refine h.keep fun id g n c hv hm hg => ?_
  rcases trim_or' L fr H with e | ⟨_, _, hu⟩
  · rw [e]; exact hg
  · exact trim_get hg (hu _ _ _ ho hc _ _ _ _ _ hv)
theorem Bag.ext {m : Nat} {H H' : Heap} {vs : List V} {R : List (List V)} (h : Bag m H vs R) (k : Ext H H') : Bag m H' vs R := h.keep fun _ _ _ _ _ _ hg => getC_ext hg k
theorem Bag.append {m o base bytes k : Nat} {H : Heap} {vs : List V} {R : List (List V)} {r : List V} {x : V} (h : Bag m H vs R) (hc : getC H o 0 = some vs) (ho : o < m) (hb : base ≤ m) (hm : m ≤ H.length) (hr : R[k]? = some r) (hx : x.one = true) (hs : (r.length + 1) * bytes ≤ 2 ^ 47) :
    ∃ w v' H', vs[k]? = some w ∧ appendV (H ++ [.cells 0 [x]]) base 1 bytes w (.sl H.length 0 0 1 1) = some (v', H') ∧ v'.one = true ∧ getC H' o 0 = some vs ∧ H.length ≤ H'.length ∧
      Bag m (H'.set o (.cells 0 (vs.set k v'))) (vs.set k v') (R.set k (r ++ [x])) ∧ ∀ H0, H0.length ≤ m → Ext H0 H → Ext H0 H' := by
  obtain ⟨w, hw, hwr⟩ := h.2.1 k r hr
  have hkl : k < vs.length := (List.getElem?_eq_some_iff.1 hw).1
  have hx' : [x].all V.one = true := by simp [hx]
  have hol := getC_lt hc
  have fin : ∀ (id g : Nat) (H' : Heap), (∀ j g' n, j ≠ k → vs[j]? ≠ some (.sl id g' 0 n 1)) → m ≤ id → getC H' id g = some (r ++ [x]) → (∀ i, i ≠ id → i < H.length → H'[i]? = H[i]?) →
      Bag m (H'.set o (.cells 0 (vs.set k (.sl id g 0 (r.length + 1) 1)))) (vs.set k (.sl id g 0 (r.length + 1) 1)) (R.set k (r ++ [x])) := by
    intro id g H' hne hid hg hsame
    refine ⟨by rw [List.length_set, List.length_set]; exact h.1, fun j r' hr' => ?_, fun i j a b c a' b' c' hij hi hj => ?_⟩
    · by_cases hjk : k = j
      · subst hjk
        rw [List.getElem?_set_self (by rw [← h.1]; exact hkl)] at hr'
        cases hr'
        refine ⟨_, List.getElem?_set_self hkl, .inr ⟨id, g, by simp, ?_, hid⟩⟩
        rw [getC_other (by omega)]; exact hg
      · rw [List.getElem?_set_ne hjk] at hr'
        obtain ⟨y, h1, h2⟩ := h.2.1 j r' hr'
        refine ⟨y, by rw [List.getElem?_set_ne hjk]; exact h1, ?_⟩
        rcases h2 with h2 | ⟨id2, g2, rfl, hc2, hm2⟩
        · exact .inl h2
        · refine .inr ⟨id2, g2, rfl, ?_, hm2⟩
          have hd : id2 ≠ id := by
            intro e
            subst e
            exact hne j _ _ (Ne.symm hjk) h1
          rw [getC_other (by omega)]
          have := getC_lt hc2
          rw [← hc2]
          simp only [getC, hsame id2 hd this]
    · by_cases hik : k = i
      · subst hik
        rw [List.getElem?_set_self hkl] at hi
        rw [List.getElem?_set_ne hij] at hj
        cases hi
        intro e
        subst e
        exact hne j _ _ (Ne.symm hij) hj
      · rw [List.getElem?_set_ne hik] at hi
        by_cases hjk : k = j
        · subst hjk
          rw [List.getElem?_set_self hkl] at hj
          cases hj
          intro e
          subst e
          exact hne i _ _ hij hi
        · rw [List.getElem?_set_ne hjk] at hj
          exact h.2.2 i j a b c a' b' c' hij hi hj
  rcases hwr with ⟨rfl, rfl⟩ | ⟨id, g, rfl, hg, hid⟩
  · have hs' : 1 * bytes ≤ 2 ^ 47 := by simpa using hs
    refine ⟨nilS, .sl (H.length + 1) 0 0 1 1, H ++ [.cells 0 [x]] ++ [.cells 0 [x]], hw, ?_, rfl, getC_app (getC_app hc), by simp, ?_, fun H0 _ he => he.trans ⟨[.cells 0 [x], .cells 0 [x]], by simp⟩⟩
    · simp only [appendV, elems_new, hx', if_true, nilS, Nat.one_ne_zero, if_false, hs', List.length_append, List.length_cons, List.length_nil]
    · refine fin (H.length + 1) 0 _ (fun j g' n hj e => ?_) (by omega) ?_ (fun i _ hi => by simp [List.getElem?_append_left hi])
      · cases hR : R[j]? with
        | none =>
          have h1 := (List.getElem?_eq_some_iff.1 e).1
          have h2 := List.getElem?_eq_none_iff.1 hR
          rw [h.1] at h1
          omega
        | some r' =>
          obtain ⟨y, h1, h2⟩ := h.2.1 j r' hR
          rw [e] at h1
          cases h1
          rcases h2 with ⟨_, h2⟩ | ⟨id2, g2, h2, hc2, _⟩
          · cases h2
          · cases h2
            have := getC_lt hc2
            omega
      · have := getC_new (H ++ [Ob.cells 0 [x]]) 0 [x]
        simpa using this
  · have hlt := getC_lt hg
    have hg' := getC_app hg (G := [Ob.cells 0 [x]])
    have hbi : base ≤ id := by omega
    have hne : id ≠ o := by omega
    refine ⟨_, .sl id (g + 1) 0 (r.length + 1) 1, (H ++ [Ob.cells 0 [x]]).set id (.cells (g + 1) (r ++ [x])), hw, ?_, rfl, ?_, by simp, ?_, fun H0 h0 he => (he.trans (Ext.app _ _)).set (by omega) _⟩
    · have h2 : 0 + r.length ≤ r.length := by omega
      simp only [appendV, elems_new, hx', if_true, true_and, hbi, hg', h2, Nat.one_ne_zero, if_false, hs, List.drop_zero, Nat.mul_one, List.take_length]
    · rw [getC_other (Ne.symm hne)]; exact getC_app hc
    · refine fin id (g + 1) _ (fun j g' n hj e => ?_) hid (getC_set hg' _) (fun i hi hl => by rw [List.getElem?_set_ne (Ne.symm hi), List.getElem?_append_left hl])
      exact h.2.2 j k _ _ _ _ _ _ hj e hw rfl
theorem OwnRows.set {m : Nat} {H : Heap} {v : V} {R : List (List V)} (h : OwnRows m H v R) {o : Nat} (ho : o < m) (ob : Ob) : OwnRows m (H.set o ob) v R := by
  obtain ⟨id, g, vs, h1, h2, h3, h4, h5⟩ := h
  refine ⟨id, g, vs, h1, by rw [getC_other (by omega)]; exact h2, h3, h4, fun i r hr => ?_⟩
  obtain ⟨x, q1, q2⟩ := h5 i r hr
  exact ⟨x, q1, q2.set (by omega) _⟩
theorem Rd.slice {H : Heap} {v : V} {l : List V} (h : Rd H v l) (hw : Wide1 v) {lo hi : Option V} {a b : Nat} (hlo : bndV 0 lo = some (a : Int)) (hhi : bndV l.length hi = some (b : Int)) (hab : a ≤ b) (hb : b ≤ l.length) :
    ∃ w, xSlice 1 v lo hi = some w ∧ Rd H w ((l.drop a).take (b - a)) ∧ Wide1 w := by
  have i1 : (0 : Int) ≤ a := by omega
  have i2 : (a : Int) ≤ b := by omega
  have i3 : ((b : Int) - (a : Int)).toNat = b - a := by omega
  rcases h.cases with ⟨rfl, hv⟩ | ⟨es, rfl, rfl, he⟩ | ⟨id, g, off, n, c, rfl, hc, rfl, hn⟩
  · have ha : a = 0 := by simp at hb; omega
    have hb0 : b = 0 := by simpa using hb
    subst ha hb0
    rcases hv with rfl | rfl
    · refine ⟨nilS, ?_, Rd.nil H, trivial⟩
      simp only [List.length_nil] at hhi
      simp only [xslice_nil, hlo, hhi, cutNil_some, cast0, and_self, if_true]
    · refine ⟨.esl, ?_, Rd.esl H, trivial⟩
      simp only [List.length_nil] at hhi
      simp only [xslice_esl, hlo, hhi, cutNil_some, cast0, and_self, if_true]
  · have h1 : ∀ e ∈ es, e.length = 1 := hw
    have hmap : ∀ es : List (List V), (∀ e ∈ es, e.length = 1) → es = es.flatten.map fun x => [x] := by
      intro es
      induction es with
      | nil => intro _; rfl
      | cons e es ih =>
        intro h
        have he := h e List.mem_cons_self
        match e, he with
        | [y], _ =>
          show [y] :: es = (y :: es.flatten).map _
          rw [List.map_cons, ← ih fun e he => h e (List.mem_cons_of_mem _ he)]
    have hm := hmap es h1
    refine ⟨.psl ((es.drop a).take (b - a)) 1, ?_, ?_, fun e he => h1 e (List.mem_of_mem_drop (List.mem_of_mem_take he))⟩
    · rw [← he] at hhi
      have i4 : (b : Int) ≤ es.length := by omega
      simp only [xslice_psl, hlo, hhi, cutPsl_some, i1, i2, i3, i4, and_self, if_true, Int.toNat_natCast]
    · have := Rd.psl H ((es.flatten.drop a).take (b - a))
      rw [List.map_take, List.map_drop, ← hm] at this
      exact this
  · refine ⟨.sl id g (off + a) (b - a) 1, ?_, ?_, trivial⟩
    · rw [← hn] at hhi
      have i4 : (b : Int) ≤ n := by omega
      simp only [xslice_sl, hlo, hhi, cutSl_some, i1, i2, i3, i4, and_self, if_true, Int.toNat_natCast, Nat.mul_one]
    · by_cases hn0 : n = 0
      · subst hn0
        have hb0 : b = 0 := by simpa using hb
        have ha0 : a = 0 := by omega
        subst hb0 ha0
        simpa using h
      have hl : off + b ≤ c.length := by
        simp at hb hn
        omega
      have := Rd.sl hc (off := off + a) (n := b - a) (by omega)
      rw [List.drop_take, List.take_take, List.drop_drop, Nat.min_eq_left (by omega)]
      exact this
def AccR (H0 H : Heap) (v : V) (R : List (List V)) : Prop := ∃ vs, Acc H0 H v vs ∧ vs.length = R.length ∧ ∀ (j : Nat) (r : List V), R[j]? = some r → ∃ x, vs[j]? = some x ∧ OwnN H0.length H x r ∧ ∀ id g n id' g' n', v = .sl id g 0 n 1 → x = .sl id' g' 0 n' 1 → id ≠ id'
theorem AccR.start (H : Heap) : AccR H H nilS [] := ⟨[], Acc.start H, rfl, fun j r h => by simp at h⟩
theorem AccR.rows {H0 H : Heap} {v : V} {R : List (List V)} (h : AccR H0 H v R) : RdRows H v R := by
  obtain ⟨vs, h1, h2, h3⟩ := h
  refine ⟨vs, h1.rd, h1.wide, h2, fun j r hr => ?_⟩
  obtain ⟨x, q1, q2, _⟩ := h3 j r hr
  exact ⟨x, q1, q2.rd, q2.wide⟩
theorem AccR.ext {H0 H H' : Heap} {v : V} {R : List (List V)} (h : AccR H0 H v R) (k : Ext H H') : AccR H0 H' v R := by
  obtain ⟨vs, h1, h2, h3⟩ := h
  refine ⟨vs, ⟨h1.1.trans k, ?_⟩, h2, fun j r hr => ?_⟩
  · rcases h1.2 with h | ⟨id, g, a, b, c⟩
    · exact .inl h
    · exact .inr ⟨id, g, a, getC_ext b k, c⟩
  · obtain ⟨x, q1, q2, q3⟩ := h3 j r hr
    exact ⟨x, q1, q2.ext k, q3⟩
theorem AccR.trim {H0 H : Heap} {v : V} {R : List (List V)} (h : AccR H0 H v R) {m : Nat} (hm : H0.length ≤ m) {fr : List V} (hv : v ∈ fr) : AccR H0 (trim m fr H) v R := by
  obtain ⟨vs, h1, h2, h3⟩ := h
  refine ⟨vs, h1.trim hm hv, h2, fun j r hr => ?_⟩
  obtain ⟨x, q1, q2, q3⟩ := h3 j r hr
  refine ⟨x, q1, ?_, q3⟩
  rcases h1.2 with ⟨rfl, _⟩ | ⟨id, g, rfl, hc, hid⟩
  · simp at q1
  · rcases trim_or m fr H with e | ⟨e, hu⟩
    · rw [e]; exact q2
    · have := hu _ hv
      simp only [idsUnder, decide_eq_true_eq] at this
      exact q2.trim hc this (List.mem_of_getElem? q1) fr
theorem AccR.append {H0 H : Heap} {v : V} {R : List (List V)} (h : AccR H0 H v R) {base bytes : Nat} (hb : base ≤ H0.length) {x : V} {r : List V} (hx : OwnN H0.length H x r) (hxv : ∀ id g n id' g' n', v = .sl id g 0 n 1 → x = .sl id' g' 0 n' 1 → id ≠ id') (hs : (R.length + 1) * bytes ≤ 2 ^ 47) :
    ∃ v' H', appendV (H ++ [.cells 0 [x]]) base 1 bytes v (.sl H.length 0 0 1 1) = some (v', H') ∧ AccR H0 H' v' (R ++ [r]) ∧ v'.one = true := by
  obtain ⟨vs, h1, h2, h3⟩ := h
  have hx1 := hx.one
  have hx' : [x].all V.one = true := by simp [hx1]
  have rows : ∀ (v' : V) (H' : Heap), (∀ y q, (y = x ∨ y ∈ vs) → OwnN H0.length H y q → (∀ id g n id' g' n', v = .sl id g 0 n 1 → y = .sl id' g' 0 n' 1 → id ≠ id') → OwnN H0.length H' y q ∧ ∀ id g n id' g' n', v' = .sl id g 0 n 1 → y = .sl id' g' 0 n' 1 → id ≠ id') →
      ∀ (j : Nat) (q : List V), (R ++ [r])[j]? = some q → ∃ y, (vs ++ [x])[j]? = some y ∧ OwnN H0.length H' y q ∧ ∀ id g n id' g' n', v' = .sl id g 0 n 1 → y = .sl id' g' 0 n' 1 → id ≠ id' := by
    intro v' H' hk j q hq
    by_cases hj : j < R.length
    · rw [List.getElem?_append_left hj] at hq
      obtain ⟨y, q1, q2, q3⟩ := h3 j q hq
      exact ⟨y, by rw [List.getElem?_append_left (by omega)]; exact q1, hk y q (.inr (List.mem_of_getElem? q1)) q2 q3⟩
    · rw [List.getElem?_append_right (by omega)] at hq
      have hj0 : j - R.length = 0 := by
        have := (List.getElem?_eq_some_iff.1 hq).1
        simp at this
        omega
      rw [hj0] at hq
      cases hq
      refine ⟨x, by rw [List.getElem?_append_right (by omega), h2, hj0]; rfl, hk x _ (.inl rfl) hx hxv⟩
  rcases h1.2 with ⟨rfl, rfl⟩ | ⟨id, g, rfl, hc, hid⟩
  · have hR : R.length = 0 := by rw [← h2]; rfl
    have hs' : 1 * bytes ≤ 2 ^ 47 := by rw [hR] at hs; simpa using hs
    refine ⟨.sl (H.length + 1) 0 0 1 1, H ++ [.cells 0 [x]] ++ [.cells 0 [x]], ?_, ⟨[x], ⟨h1.1.trans ⟨[.cells 0 [x], .cells 0 [x]], by simp⟩, .inr ⟨H.length + 1, 0, rfl, ?_, ?_⟩⟩, by simp [hR], rows _ _ fun y q hy hyo hyv => ⟨hyo.ext ⟨[.cells 0 [x], .cells 0 [x]], by simp⟩, ?_⟩⟩, rfl⟩
    · simp only [appendV, elems_new, hx', if_true, nilS, Nat.one_ne_zero, if_false, hs', List.length_append, List.length_cons, List.length_nil]
    · have := getC_new (H ++ [.cells 0 [x]]) 0 [x]
      simpa using this
    · have := h1.1.le; omega
    · intro a b c a' b' c' e1 e2
      cases e1
      rcases hyo with ⟨_, rfl | rfl⟩ | ⟨i, g, cc, rfl, hcc, _⟩
      · cases e2
      · cases e2
      · cases e2
        have := getC_lt hcc
        omega
  · have hlt := getC_lt hc
    have hc' := getC_app hc (G := [Ob.cells 0 [x]])
    have hbi : base ≤ id := by omega
    refine ⟨.sl id (g + 1) 0 (vs.length + 1) 1, (H ++ [Ob.cells 0 [x]]).set id (.cells (g + 1) (vs ++ [x])), ?_, ⟨vs ++ [x], ⟨(h1.1.trans (Ext.app _ _)).set hid _, .inr ⟨id, g + 1, by simp, getC_set hc' _, hid⟩⟩, by simp [h2], rows _ _ fun y q hy hyo hyv => ⟨?_, ?_⟩⟩, rfl⟩
    · have e2 : 0 + vs.length ≤ vs.length := by omega
      rw [← h2] at hs
      simp only [appendV, elems_new, hx', if_true, true_and, hbi, hc', e2, Nat.one_ne_zero, if_false, hs, List.drop_zero, Nat.mul_one, List.take_length]
    · rcases hyo with hyo | ⟨i, g', cc, rfl, hcc, p1, p2, p3⟩
      · exact .inl hyo
      · refine .inr ⟨i, g', cc, rfl, ?_, p1, p2, p3⟩
        have : id ≠ i := hyv _ _ _ _ _ _ rfl rfl
        rw [getC_other (Ne.symm this)]
        exact getC_app hcc
    · intro a b c a' b' c' e1 e2
      cases e1
      exact hyv _ _ _ _ _ _ rfl e2
theorem AccR.lt {H0 H : Heap} {v : V} {R : List (List V)} (h : AccR H0 H v R) {id g n : Nat} (hv : v = .sl id g 0 n 1) : id < H.length := by
  obtain ⟨vs, h1, _⟩ := h
  rcases h1.2 with ⟨_, e⟩ | ⟨i, g', e, hc, _⟩
  · rw [hv] at e; cases e
  · rw [hv] at e; cases e; exact getC_lt hc
theorem OwnN.apart {m : Nat} {H : Heap} {v x : V} {l : List V} (h : OwnN m H x l) (hv : ∀ id g n, v = .sl id g 0 n 1 → id < m) : ∀ id g n id' g' n', v = .sl id g 0 n 1 → x = .sl id' g' 0 n' 1 → id ≠ id' := by
  intro id g n id' g' n' e1 e2
  have h1 := hv id g n e1
  rcases h with ⟨_, e | e⟩ | ⟨i, gg, c, e, _, _, _, hi⟩
  · rw [e] at e2; cases e2
  · rw [e] at e2; cases e2
  · rw [e] at e2; cases e2; omega
def apartO : Option (Option Nat) → Option (Option Nat) → Bool
  | some (some i), some (some j) => i != j
  | some _, some _ => true
  | _, _ => false
theorem Rd.look {A H : Heap} {v : V} {l : List V} (h : Rd A v l) (k : Ext A H) (hw : Wide1 v) {i : Nat} {x : V} (hx : l[i]? = some x) : ∃ a, xIndexAddr 1 v (.s (.int .i64 i)) = some a ∧ xLoad H false 1 a = some x ∧ ∀ w, (∀ id g n, w = .sl id g 0 n 1 → A.length ≤ id) → (w = nilS ∨ ∃ id g n, w = .sl id g 0 n 1) → apartO (V.obj? a) (V.appObj w) = true := by
  obtain ⟨a, h1, h2⟩ := (h.ext k).at' hw hx
  refine ⟨a, h1, h2, fun w hw1 hw2 => ?_⟩
  have hi := (List.getElem?_eq_some_iff.1 hx).1
  rcases h.cases with ⟨rfl, _⟩ | ⟨es, rfl, _⟩ | ⟨id, g, off, n, c, rfl, hc, _⟩
  · simp at hi
  · simp only [xi_psl] at h1
    split at h1
    · rw [Option.map_eq_some_iff] at h1
      obtain ⟨q, _, rfl⟩ := h1
      rcases hw2 with rfl | ⟨id, g, n, rfl⟩ <;> rfl
    · cases h1
  · simp only [xi_sl] at h1
    split at h1
    · cases h1
      have hlt := getC_lt hc
      rcases hw2 with rfl | ⟨id', g', n', rfl⟩
      · rfl
      · have := hw1 _ _ _ rfl
        simp only [V.obj?, V.appObj, apartO, bne_iff_ne]
        omega
    · cases h1
theorem Bag.own {m : Nat} {H : Heap} {vs : List V} {R : List (List V)} (h : Bag m H vs R) {j : Nat} {w : V} (hw : vs[j]? = some w) : (∀ id g n, w = .sl id g 0 n 1 → m ≤ id) ∧ (w = nilS ∨ ∃ id g n, w = .sl id g 0 n 1) := by
  have hj := (List.getElem?_eq_some_iff.1 hw).1
  have hR : j < R.length := by rw [← h.1]; exact hj
  obtain ⟨x, h1, h2⟩ := h.2.1 j R[j] (List.getElem?_eq_getElem hR)
  rw [hw] at h1
  cases h1
  rcases h2 with ⟨_, rfl⟩ | ⟨id, g, rfl, _, hm⟩
  · exact ⟨fun _ _ _ e => (by cases e), .inl rfl⟩
  · exact ⟨fun _ _ _ e => (by cases e; exact hm), .inr ⟨_, _, _, rfl⟩⟩
end Go.AM
namespace Go.AM
def bV (b : Bool) : V := .s (.bool b)
theorem OwnN.append {m base bytes : Nat} {H : Heap} {v x : V} {l : List V} (h : OwnN m H v l) (hb : base ≤ m) (hx : x.one = true) (hm : m ≤ H.length) (hs : (l.length + 1) * bytes ≤ 2 ^ 47) :
    ∃ v' H', appendV (H ++ [.cells 0 [x]]) base 1 bytes v (.sl H.length 0 0 1 1) = some (v', H') ∧ OwnN m H' v' (l ++ [x]) ∧ H.length ≤ H'.length ∧ (∀ i, i < m → H'[i]? = H[i]?) := by
  have hx' : [x].all V.one = true := by simp [hx]
  have hnew : 1 * bytes ≤ 2 ^ 47 := by
    refine Nat.le_trans (Nat.mul_le_mul_right _ ?_) hs
    omega
  have hfresh : OwnN m (H ++ [.cells 0 [x]] ++ [.cells 0 [x]]) (.sl (H.length + 1) 0 0 1 1) [x] := by
    refine .inr ⟨H.length + 1, 0, [x], rfl, ?_, Nat.le_refl _, rfl, by omega⟩
    have := getC_new (H ++ [Ob.cells 0 [x]]) 0 [x]
    simpa using this
  rcases h with ⟨rfl, rfl | rfl⟩ | ⟨id, g, c, rfl, hc, hl, ht, hid⟩
  · refine ⟨.sl (H.length + 1) 0 0 1 1, H ++ [.cells 0 [x]] ++ [.cells 0 [x]], ?_, hfresh, by simp, fun i hi => ?_⟩
    · simp only [appendV, elems_new, hx', if_true, nilS, Nat.one_ne_zero, if_false, hnew, List.length_append, List.length_cons, List.length_nil]
    · rw [List.getElem?_append_left (by simp; omega), List.getElem?_append_left (by omega)]
  · refine ⟨.sl (H.length + 1) 0 0 1 1, H ++ [.cells 0 [x]] ++ [.cells 0 [x]], ?_, hfresh, by simp, fun i hi => ?_⟩
    · simp only [appendV, elems_new, hx', if_true, Nat.one_ne_zero, if_false, hnew, List.length_append, List.length_cons, List.length_nil]
    · rw [List.getElem?_append_left (by simp; omega), List.getElem?_append_left (by omega)]
  · have hc' := getC_app hc (G := [Ob.cells 0 [x]])
    have hbi : base ≤ id := by omega
    have h2 : 0 + l.length ≤ c.length := by omega
    refine ⟨.sl id (g + 1) 0 (l.length + 1) 1, (H ++ [Ob.cells 0 [x]]).set id (.cells (g + 1) (l ++ [x])), ?_, .inr ⟨id, g + 1, l ++ [x], by simp, getC_set hc' _, Nat.le_refl _, List.take_length, hid⟩, by simp, fun i hi => ?_⟩
    · simp only [appendV, elems_new, hx', if_true, true_and, hbi, hc', h2, Nat.one_ne_zero, if_false, hs, List.drop_zero, Nat.mul_one, ht]
    · rw [List.getElem?_set_ne (by omega), List.getElem?_append_left (by omega)]
theorem OwnN.pop {m : Nat} {H : Heap} {v : V} {l : List V} (h : OwnN m H v l) {k : Nat} (hk : k ≤ l.length) : ∃ w, xSlice 1 v none (some (.s (.int .i64 k))) = some w ∧ OwnN m H w (l.take k) := by
  rcases h with ⟨rfl, hv⟩ | ⟨id, g, c, rfl, hc, hl, ht, hid⟩
  · have hk0 : k = 0 := by simpa using hk
    subst hk0
    refine ⟨v, ?_, .inl ⟨rfl, hv⟩⟩
    rcases hv with rfl | rfl
    · simp only [xslice_nil, bndV_none, bndV_int, cutNil_some, cast0, and_self, if_true]
    · simp only [xslice_esl, bndV_none, bndV_int, cutNil_some, cast0, and_self, if_true]
  · have i4 : (0 : Int) ≤ (0 : Int) ∧ (0 : Int) ≤ k ∧ (k : Int) ≤ l.length ∧ 1 = 1 := ⟨by omega, by omega, by omega, rfl⟩
    have i5 : ((k : Int) - 0).toNat = k := by omega
    refine ⟨.sl id g 0 k 1, ?_, .inr ⟨id, g, c, by rw [List.length_take, Nat.min_eq_left hk], hc, by rw [List.length_take]; omega, ?_, hid⟩⟩
    · simp only [xslice_sl, bndV_none, bndV_int, cutSl_some, cast0, i4, i5, and_self, if_true, Int.toNat_zero, Nat.zero_mul, Nat.add_zero]
    · rw [List.length_take, Nat.min_eq_left hk, ← ht, List.take_take, Nat.min_eq_left hk]
end Go.AM
namespace Go.AM
def entF (f : Int → Nat) (k : Int) : Value × V := (.int .i64 k, .s (.int .u64 (f k)))
def esF (ks : List Int) (f : Int → Nat) : List (Value × V) := ks.map (entF f)
def updMV (H : Heap) (base : Nat) (kind : TypeDesc) (m k v : V) : Option (V × Heap) :=
  match m, k with
    | .mp id, .s key => if base ≤ id ∧ keyOk kind key then match H[id]? with
        | some (.map es) => match findA kind key es 0 with
          | some (some (i, _)) => some (und, H.set id (.map (es.set i (key, v))))
          | some none => some (und, H.set id (.map (es ++ [(key, v)])))
          | none => none
        | _ => none
      else none
    | _, _ => none
theorem op_mapUpd (call : CallF) (base : Nat) (fr : List V) (H : Heap) (kind : TypeDesc) (m k v : Opd) : evOp call base fr H (.mapUpd kind m k v) = updMV H base kind (ev fr m) (ev fr k) (ev fr v) := rfl
def delMV (H : Heap) (base : Nat) (kind : TypeDesc) (m k : V) : Option (V × Heap) :=
  match m, k with
    | .mp id, .s key => if base ≤ id ∧ keyOk kind key then match H[id]? with
        | some (.map es) => match findA kind key es 0 with
          | some (some (i, _)) => some (und, H.set id (.map (es.eraseIdx i)))
          | some none => some (und, H)
          | none => none
        | _ => none
      else none
    | _, _ => none
theorem op_delete (call : CallF) (base : Nat) (fr : List V) (H : Heap) (kind : TypeDesc) (m k : Opd) : evOp call base fr H (.delete kind m k) = delMV H base kind (ev fr m) (ev fr k) := rfl
theorem set_same_ob {H : Heap} {j : Nat} {ob : Ob} (h : H[j]? = some ob) : H.set j ob = H := by
  apply List.ext_getElem?
  intro i
  by_cases hi : j = i
  · subst hi; rw [List.getElem?_set_self (List.getElem?_eq_some_iff.1 h).1, h]
  · rw [List.getElem?_set_ne hi]
theorem setPs_nil (fr : List V) : setPs [] [] fr = some fr := rfl
theorem setPs_cons (p : Nat) (ps : List Nat) (v : V) (vs : List V) (n : Nat) (en : Env) : setPs (p :: ps) (v :: vs) (frOf n en) = setPs ps vs (frOf n (putV p v en)) := by
  simp only [setPs, frOf_set]
structure SetW (H : Heap) (i j : Nat) (ks : List Int) (f : Int → Nat) (n : Nat) : Prop where
  box : getC H i 0 = some [.mp j, iV n]
  map : H[j]? = some (.map (esF ks f))
  wd : Wd ks f
def putH (H : Heap) (i j : Nat) (ks : List Int) (f : Int → Nat) (n : Nat) : Heap := (H.set i (.cells 0 [.mp j, iV n])).set j (.map (esF ks f))
theorem SetW.ne {H : Heap} {i j : Nat} {ks : List Int} {f : Int → Nat} {n : Nat} (h : SetW H i j ks f n) : i ≠ j := by
  rintro rfl
  have h1 := h.box
  unfold getC at h1
  rw [h.map] at h1
  cases h1
theorem SetW.lt {H : Heap} {i j : Nat} {ks : List Int} {f : Int → Nat} {n : Nat} (h : SetW H i j ks f n) : i < H.length ∧ j < H.length := ⟨getC_lt h.box, (List.getElem?_eq_some_iff.1 h.map).1⟩
theorem SetW.put {H : Heap} {i j : Nat} {ks : List Int} {f : Int → Nat} {n : Nat} (h : SetW H i j ks f n) {ks' : List Int} {f' : Int → Nat} (n' : Nat) (hw : Wd ks' f') : SetW (putH H i j ks' f' n') i j ks' f' n' := by
  have h1 := h.ne
  have h2 := h.lt
  refine ⟨?_, ?_, hw⟩
  · unfold putH
    rw [getC_other h1]
    simp [getC, h2.1]
  · unfold putH
    rw [List.getElem?_set_self (by simpa using h2.2)]
abbrev WS := List Int × (Int → Nat)
def WdP (p : WS) : Prop := Wd p.1 p.2
def cnt (p : WS) : Nat := cntF p.2 p.1
def el (p : WS) : List Int := elemsF p.1 p.2
def SetP (H : Heap) (i j : Nat) (p : WS) : Prop := SetW H i j p.1 p.2 (cnt p)
theorem SetP.wd {H : Heap} {i j : Nat} {p : WS} (h : SetP H i j p) : WdP p := SetW.wd h
theorem SetP.keep {H H' : Heap} {i j : Nat} {p : WS} (h : SetP H i j p) (hi : H'[i]? = H[i]?) (hj : H'[j]? = H[j]?) : SetP H' i j p := by
  refine ⟨?_, hj.trans h.map, h.wd⟩
  have := h.box
  unfold getC at this ⊢
  rw [hi]; exact this
theorem SetP.app {H : Heap} {i j : Nat} {p : WS} (h : SetP H i j p) (G : Heap) : SetP (H ++ G) i j p :=
  h.keep (List.getElem?_append_left (SetW.lt h).1) (List.getElem?_append_left (SetW.lt h).2)
theorem SetP.trim {H : Heap} {i j : Nat} {p : WS} (h : SetP H i j p) {m : Nat} (hi : i < m) (hj : j < m) (fr : List V) : SetP (trim m fr H) i j p := by
  rcases trim_or' m fr H with e | ⟨e, _⟩ <;> rw [e]
  · exact h
  · exact h.keep (List.getElem?_take_of_lt hi) (List.getElem?_take_of_lt hj)
def rngC (L : Nat) (fr : List V) : Option (V × Heap) → Option St
  | some (_, H') => match H'[L]? with
    | some (.loop .ready none _ _ _ _) => some (.nrm, fr, trim L fr (H'.set L .dead))
    | some (.loop .done (some e) _ _ _ _) => some (e, fr, trim L fr (H'.set L .dead))
    | _ => none
  | none => none
def rngF (call : CallF) (base : Nat) (ps : List Nat) (a b : ACode) (fr : List V) (H : Heap) : V → Option St
  | .fn k x y => rngC H.length fr (call (.fn k x y) [.yld H.length] base (H ++ [.loop .ready none fr ps a b]))
  | _ => none
theorem evC_rng (call : CallF) (it : IterF) (base : Nat) (f : Opd) (ps : List Nat) (a b : ACode) (fr : List V) (H : Heap) : evC call it base (.rangeFunc f ps a b) fr H = rngF call base ps a b fr H (ev fr f) := by
  simp only [evC]
  cases ev fr f <;> rfl
theorem rngF_fn (call : CallF) (base : Nat) (ps : List Nat) (a b : ACode) (fr : List V) (H : Heap) (k : Nat) (x y : List V) : rngF call base ps a b fr H (.fn k x y) = rngC H.length fr (call (.fn k x y) [.yld H.length] base (H ++ [.loop .ready none fr ps a b])) := rfl
def KeepB (m0 i j : Nat) (H0 H' : Heap) : Prop := m0 ≤ H'.length ∧ ∀ id, id < m0 → id ≠ i → id ≠ j → H'[id]? = H0[id]?
theorem KeepB.trim {m0 i j : Nat} {H0 H' : Heap} (h : KeepB m0 i j H0 H') {m : Nat} (hm : m0 ≤ m) (fr : List V) : KeepB m0 i j H0 (trim m fr H') := by
  rcases trim_or' m fr H' with e | ⟨e, _⟩ <;> rw [e]
  · exact h
  · exact ⟨by rw [List.length_take]; have := h.1; omega, fun id h1 h2 h3 => by rw [List.getElem?_take_of_lt (by omega)]; exact h.2 id h1 h2 h3⟩
def andNot (a b : Nat) : Nat := a &&& (2 ^ 64 - 1 - b)
def KeepD (m0 : Nat) (D : List Nat) (H0 H' : Heap) : Prop := m0 ≤ H'.length ∧ ∀ id, id < m0 → id ∉ D → H'[id]? = H0[id]?
theorem KeepD.trim {m0 : Nat} {D : List Nat} {H0 H' : Heap} (h : KeepD m0 D H0 H') {m : Nat} (hm : m0 ≤ m) (fr : List V) : KeepD m0 D H0 (trim m fr H') := by
  rcases trim_or' m fr H' with e | ⟨e, _⟩ <;> rw [e]
  · exact h
  · exact ⟨by rw [List.length_take]; have := h.1; omega, fun id h1 h2 => by rw [List.getElem?_take_of_lt (by omega)]; exact h.2 id h1 h2⟩
theorem KeepD.refl (D : List Nat) (H : Heap) : KeepD H.length D H H := ⟨Nat.le_refl _, fun _ _ _ => rfl⟩
theorem KeepD.trans {m0 m1 : Nat} {D : List Nat} {A B C : Heap} (h : KeepD m0 D A B) (k : KeepD m1 D B C) (hm : m0 ≤ m1) : KeepD m0 D A C := ⟨Nat.le_trans hm k.1, fun id h1 h2 => (k.2 id (by omega) h2).trans (h.2 id h1 h2)⟩
theorem KeepD.getC {m0 : Nat} {D : List Nat} {A B : Heap} (h : KeepD m0 D A B) {id g : Nat} {c : List V} (hc : getC A id g = some c) (h1 : id < m0) (h2 : id ∉ D) : getC B id g = some c := by
  unfold Go.AM.getC at hc ⊢
  rw [h.2 id h1 h2]; exact hc
theorem KeepD.setP {m0 : Nat} {D : List Nat} {A B : Heap} (h : KeepD m0 D A B) {i j : Nat} {p : WS} (hp : SetP A i j p) (h1 : i < m0 ∧ j < m0) (h2 : i ∉ D ∧ j ∉ D) : SetP B i j p := hp.keep (h.2 i h1.1 h2.1) (h.2 j h1.2 h2.2)
theorem KeepD.ext {A B : Heap} (h : KeepD A.length [] A B) : Ext A B := Ext.of_get h.1 fun id hid => h.2 id hid (by simp)
theorem KeepB.d {m0 i j : Nat} {A B : Heap} (h : KeepB m0 i j A B) : KeepD m0 [i, j] A B := ⟨h.1, fun id h1 h2 => h.2 id h1 (by simp at h2; exact h2.1) (by simp at h2; exact h2.2)⟩
theorem KeepD.mono {m0 : Nat} {D D' : List Nat} {A B : Heap} (h : KeepD m0 D A B) {m1 : Nat} (hm : m1 ≤ m0) (hD : ∀ id, id < m1 → id ∈ D → id ∈ D') : KeepD m1 D' A B := ⟨by have := h.1; omega, fun id h1 h2 => h.2 id (by omega) fun hx => h2 (hD id h1 hx)⟩
theorem Ext.d {A B : Heap} (h : Ext A B) (D : List Nat) : KeepD A.length D A B := ⟨h.le, fun id h1 _ => h.get h1⟩
theorem xsub_build (H : Heap) (z : List V) (p : List (Nat × Nat)) (ps : List (Nat × Opd)) (vs : List V) : xSub H (.build z p ps) (some vs) = (fillA (p[·]?) z (ps.map fun q => (q.1, ev vs q.2))).map .agg := by
  simp only [xSub, evOp]
  cases fillA (p[·]?) z (ps.map fun q => (q.1, ev vs q.2)) <;> rfl
theorem KeepD.s {H H' : Heap} (k : KeepD H.length [] H H') {i j : Nat} {p : WS} (h : SetP H i j p) : SetP H' i j p := k.setP h (SetW.lt h) ⟨by simp, by simp⟩
theorem KeepB.s {H H' : Heap} {i j : Nat} (k : KeepB H.length i j H H') {a b : Nat} {p : WS} (h : SetP H a b p) (h1 : a ≠ i ∧ a ≠ j ∧ b ≠ i ∧ b ≠ j) : SetP H' a b p := h.keep (k.2 a (SetW.lt h).1 h1.1 h1.2.1) (k.2 b (SetW.lt h).2 h1.2.2.1 h1.2.2.2)
theorem KeepD.o {H H' : Heap} (k : KeepD H.length [] H H') {m : Nat} {v : V} {l : List V} (h : OwnN m H v l) : OwnN m H' v l := h.ext (KeepD.ext k)
theorem KeepB.o {H H' : Heap} {i j : Nat} (k : KeepB H.length i j H H') {m : Nat} {v : V} {l : List V} (h : OwnN m H v l) (hi : i < m) (hj : j < m) : OwnN m H' v l := by
  rcases h with h | ⟨id, g, c, h1, h2, h3, h4, h5⟩
  · exact .inl h
  · refine .inr ⟨id, g, c, h1, ?_, h3, h4, h5⟩
    have hl := getC_lt h2
    unfold getC at h2 ⊢
    rw [k.2 id hl (by omega) (by omega)]
    exact h2
theorem KeepB.o3 {H H' : Heap} {i j : Nat} (k : KeepB H.length i j H H') {m M : Nat} {v : V} {l : List V} (h : OwnN m H v l) (hb : ∀ id g n, v = .sl id g 0 n 1 → id < M) (hi : i < m ∨ M ≤ i) (hj : j < m ∨ M ≤ j) : OwnN m H' v l := by
  rcases h with h | ⟨id, g, c, h1, h2, h3, h4, h5⟩
  · exact .inl h
  · have := hb id g _ h1
    refine .inr ⟨id, g, c, h1, ?_, h3, h4, h5⟩
    have hl := getC_lt h2
    unfold getC at h2 ⊢
    rw [k.2 id hl (by omega) (by omega)]
    exact h2
def amY := And.intro @op_mapUpd (And.intro @op_delete (And.intro @setPs_nil (And.intro @setPs_cons (And.intro @evC_rng (And.intro @rngF_fn @xsub_build)))))
end Go.AM
namespace Go.AM
theorem flat_len {w : Nat} : ∀ (R : List (List V)), (∀ r ∈ R, r.length = w) → R.flatten.length = R.length * w := by
  intro R
  induction R with
  | nil => intro _; simp
  | cons r R ih =>
    intro h
    rw [List.flatten_cons, List.length_append, ih (fun x hx => h x (List.mem_cons_of_mem _ hx)), h r List.mem_cons_self, List.length_cons, Nat.add_mul]
    omega
theorem rows_get {w : Nat} : ∀ (R : List (List V)), (∀ r ∈ R, r.length = w) → ∀ (i : Nat) (r : List V), R[i]? = some r → (R.flatten.drop (i * w)).take w = r := by
  intro R
  induction R with
  | nil => intro _ i r h; simp at h
  | cons s R ih =>
    intro h i r hr
    have hs := h s List.mem_cons_self
    cases i with
    | zero =>
      simp only [List.getElem?_cons_zero, Option.some.injEq] at hr
      subst hr
      rw [Nat.zero_mul, List.drop_zero, List.flatten_cons, ← hs, List.take_left]
    | succ i =>
      simp only [List.getElem?_cons_succ] at hr
      rw [List.flatten_cons, show (i + 1) * w = s.length + i * w by rw [hs, Nat.add_mul]; omega, List.drop_append, List.drop_eq_nil_of_le (by omega), List.nil_append, Nat.add_sub_cancel_left]
      exact ih (fun x hx => h x (List.mem_cons_of_mem _ hx)) i r hr
structure RdW (w : Nat) (H : Heap) (v : V) (R : List (List V)) : Prop where
  el : elems H w v = some (R.length, R.flatten)
  len : xLen H .s v = some (.s (.int .i64 R.length))
  one : v.one = true
  at' : ∀ (i : Nat) (r : List V), R[i]? = some r → ∃ a, xIndexAddr w v (.s (.int .i64 i)) = some a ∧ xLoad H true w a = some (.agg r) ∧ ∀ (o : Nat) (x : V), r[o]? = some x → ∃ b, xFieldAddr o a = some b ∧ xLoad H false 1 b = some x
theorem RdW.nil (w : Nat) (H : Heap) : RdW w H nilS [] := ⟨rfl, rfl, rfl, fun i r h => by simp at h⟩
theorem take_one {r : List V} {o : Nat} {x : V} (h : r[o]? = some x) : (r.drop o).take 1 = [x] := by
  obtain ⟨ho, rfl⟩ := List.getElem?_eq_some_iff.1 h
  rw [List.drop_eq_getElem_cons ho]
  rfl
theorem RdW.psl {w : Nat} (H : Heap) {R : List (List V)} (hR : ∀ r ∈ R, r.length = w) : RdW w H (.psl R w) R := by
  refine ⟨by simp [elems], rfl, rfl, fun i r h => ⟨.pref r, ?_, ?_, fun o x hx => ⟨.pref (r.drop o), ?_, ?_⟩⟩⟩
  · rw [xi_psl, if_pos ⟨by omega, rfl⟩, Int.toNat_natCast, h]
    rfl
  · have := hR r (List.mem_of_getElem? h)
    rw [xo_pref, List.take_of_length_le (by omega), if_pos this, shut_agg]
  · rw [xa_pref, if_pos (by have := (List.getElem?_eq_some_iff.1 hx).1; omega)]
  · rw [xo_pref, take_one hx, if_pos (by rfl), shut_one]
theorem RdW.sl {w : Nat} {H : Heap} {id g : Nat} {R : List (List V)} (hc : getC H id g = some R.flatten) (hR : ∀ r ∈ R, r.length = w) : RdW w H (.sl id g 0 R.length w) R := by
  have hl := flat_len R hR
  refine ⟨?_, rfl, rfl, fun i r h => ?_⟩
  · simp only [elems, if_true, hc, List.drop_zero, ← hl, List.take_length]
  · have hr := hR r (List.mem_of_getElem? h)
    have hi := (List.getElem?_eq_some_iff.1 h).1
    have hg := rows_get R hR i r h
    refine ⟨.ref id g (0 + i * w), ?_, ?_, fun o x hx => ⟨.ref id g (0 + i * w + o), rfl, ?_⟩⟩
    · rw [xi_sl, if_pos ⟨by omega, by omega, rfl⟩, Int.toNat_natCast]
    · rw [xo_ref, hc, Nat.zero_add]
      simp only [hg, hr, if_true, shut_agg]
    · have ho := (List.getElem?_eq_some_iff.1 hx).1
      have e : (R.flatten.drop (0 + i * w + o)).take 1 = [x] := by
        have h2 := take_one hx
        rw [← hg, List.drop_take, List.drop_drop, List.take_take, Nat.min_eq_left (by omega)] at h2
        rw [Nat.zero_add]
        exact h2
      rw [xo_ref, hc]
      simp only [e, List.length_singleton, if_true, shut_one]
def AccW (m w : Nat) (H : Heap) (v : V) (R : List (List V)) : Prop := (∀ r ∈ R, r.length = w) ∧ ((R = [] ∧ v = nilS) ∨ ∃ id g, v = .sl id g 0 R.length w ∧ getC H id g = some R.flatten ∧ m ≤ id)
theorem AccW.start (m w : Nat) (H : Heap) : AccW m w H nilS [] := ⟨fun r h => by simp at h, .inl ⟨rfl, rfl⟩⟩
theorem AccW.rd {m w : Nat} {H : Heap} {v : V} {R : List (List V)} (h : AccW m w H v R) : RdW w H v R := by
  obtain ⟨hR, ⟨rfl, rfl⟩ | ⟨id, g, rfl, hc, _⟩⟩ := h
  · exact RdW.nil w H
  · exact RdW.sl hc hR
theorem AccW.keep {m w : Nat} {H H' : Heap} {v : V} {R : List (List V)} (h : AccW m w H v R) (hk : ∀ id g n, v = .sl id g 0 n w → H'[id]? = H[id]?) : AccW m w H' v R := by
  obtain ⟨hR, h | ⟨id, g, rfl, hc, hm⟩⟩ := h
  · exact ⟨hR, .inl h⟩
  · refine ⟨hR, .inr ⟨id, g, rfl, ?_, hm⟩⟩
    unfold getC at hc ⊢
    rw [hk id g _ rfl]
    exact hc
theorem AccW.lt {m w : Nat} {H : Heap} {v : V} {R : List (List V)} (h : AccW m w H v R) : ∀ id g n, v = .sl id g 0 n w → id < H.length := by
  obtain ⟨_, ⟨_, rfl⟩ | ⟨id, g, rfl, hc, hm⟩⟩ := h
  · intro id g n e; cases e
  · intro id' g' n e
    cases e
    exact getC_lt hc
theorem AccW.d {m w : Nat} {H H' : Heap} {v : V} {R : List (List V)} (h : AccW m w H v R) (k : KeepD H.length [] H H') : AccW m w H' v R := h.keep fun id g n e => k.2 id (h.lt id g n e) (by simp)
def Plain1 (R : List (List V)) : Prop := ∀ r ∈ R, ∃ x xs, r = .s x :: xs
theorem AccW.apart {m w : Nat} {H : Heap} {v : V} {R : List (List V)} (h : AccW m w H v R) (hp : Plain1 R) {i j : Nat} {p : WS} (hs : SetP H i j p) : ∀ id g n, v = .sl id g 0 n w → id ≠ i ∧ id ≠ j := by
  obtain ⟨hR, ⟨_, rfl⟩ | ⟨id, g, rfl, hc, hm⟩⟩ := h
  · intro id g n e; cases e
  · intro id' g' n e
    cases e
    refine ⟨fun e => ?_, fun e => ?_⟩
    · subst e
      have hb := SetW.box hs
      unfold getC at hc hb
      cases ho : H[id]? with
      | none => rw [ho] at hb; cases hb
      | some o =>
        rw [ho] at hb hc
        cases o with
        | cells g2 c =>
          dsimp only at hb hc
          split at hb
          · split at hc
            · cases hb
              cases R with
              | nil => simp at hc
              | cons r R =>
                obtain ⟨x, xs, rfl⟩ := hp r List.mem_cons_self
                simp at hc
            · cases hc
          · cases hb
        | map _ => cases hb
        | loop _ _ _ _ _ _ => cases hb
        | dead => cases hb
    · subst e
      have hb := SetW.map hs
      unfold getC at hc
      rw [hb] at hc
      cases hc
theorem AccW.append {m w : Nat} {H : Heap} {v : V} {R : List (List V)} (h : AccW m w H v R) {base bytes : Nat} (hb : base ≤ m) (hm : m ≤ H.length) {S : List (List V)} (hS : ∀ r ∈ S, r.length = w) (h0 : S ≠ []) {x : V} (hx : elems H w x = some (S.length, S.flatten)) (ho : S.flatten.all V.one = true) (hs : (R.length + S.length) * bytes ≤ 2 ^ 47) :
    ∃ v' H', appendV H base w bytes v x = some (v', H') ∧ AccW m w H' v' (R ++ S) ∧ H.length ≤ H'.length ∧ (∀ id, id < H.length → (∀ g n, v ≠ .sl id g 0 n w) → H'[id]? = H[id]?) := by
  have hn : ¬ S.length = 0 := fun e => h0 (List.eq_nil_of_length_eq_zero e)
  have hRS : ∀ r ∈ R ++ S, r.length = w → r.length = w := fun _ _ e => e
  obtain ⟨hR, ⟨rfl, rfl⟩ | ⟨id, g, rfl, hc, hid⟩⟩ := h
  · have hs' : S.length * bytes ≤ 2 ^ 47 := by simpa using hs
    refine ⟨.sl H.length 0 0 S.length w, H ++ [.cells 0 S.flatten], ?_, ⟨?_, .inr ⟨H.length, 0, by simp, ?_, hm⟩⟩, by simp, fun id hid _ => List.getElem?_append_left hid⟩
    · simp only [appendV, hx, ho, if_true, nilS, hn, if_false, hs']
    · simpa using hS
    · rw [List.nil_append]; exact getC_new H 0 _
  · have hlt := getC_lt hc
    have hbi : base ≤ id := by omega
    have hl := flat_len R hR
    refine ⟨.sl id (g + 1) 0 (R.length + S.length) w, H.set id (.cells (g + 1) (R.flatten ++ S.flatten)), ?_, ⟨?_, .inr ⟨id, g + 1, by simp, ?_, hid⟩⟩, by simp, fun id' hid' hne => ?_⟩
    · have h2 : 0 + R.length * w ≤ R.flatten.length := by omega
      simp only [appendV, hx, ho, if_true, true_and, hbi, hc, h2, hn, if_false, hs, List.drop_zero]
      rw [List.take_of_length_le (by omega)]
    · intro r hr
      rcases List.mem_append.1 hr with hr | hr
      · exact hR r hr
      · exact hS r hr
    · rw [List.flatten_append]
      exact getC_set hc _
    · rw [List.getElem?_set_ne]
      rintro rfl
      exact hne g _ rfl
theorem AccW.trim_or {m w L : Nat} {H : Heap} {v : V} {R : List (List V)} (h : AccW m w H v R) (hL : L ≤ m) {fr : List V} (hv : v ∈ fr) : R = [] ∧ v = nilS ∨ trim L fr H = H := by
  obtain ⟨_, h | ⟨id, g, rfl, hc, hid⟩⟩ := h
  · exact .inl h
  · rcases Go.AM.trim_or L fr H with e | ⟨_, hu⟩
    · exact .inr e
    · have := hu _ hv
      simp only [idsUnder, decide_eq_true_eq] at this
      omega
theorem AccW.append0 {m w : Nat} {H : Heap} {v : V} {R : List (List V)} (h : AccW m w H v R) {base bytes : Nat} (hb : base ≤ m) (hm : m ≤ H.length) {S : List (List V)} (hS : ∀ r ∈ S, r.length = w) {x : V} (hx : elems H w x = some (S.length, S.flatten)) (ho : S.flatten.all V.one = true) (hs : (R.length + S.length) * bytes ≤ 2 ^ 47) :
    ∃ v' H', appendV H base w bytes v x = some (v', H') ∧ AccW m w H' v' (R ++ S) ∧ H.length ≤ H'.length ∧ (∀ id, id < H.length → (∀ g n, v ≠ .sl id g 0 n w) → H'[id]? = H[id]?) := by
  by_cases h0 : S = []
  · subst h0
    refine ⟨v, H, ?_, by rw [List.append_nil]; exact h, Nat.le_refl _, fun _ _ _ => rfl⟩
    obtain ⟨hR, ⟨rfl, rfl⟩ | ⟨id, g, rfl, hc, hid⟩⟩ := h
    · simp only [appendV, hx, ho, if_true, nilS, List.length_nil]
    · have hl := flat_len R hR
      have h2 : 0 + R.length * w ≤ R.flatten.length := by omega
      have hbi : base ≤ id := by omega
      simp only [appendV, hx, ho, if_true, true_and, hbi, hc, h2, List.length_nil]
  · exact h.append hb hm hS h0 hx ho hs
theorem trim_id (m : Nat) (fr : List V) (H : Heap) {id : Nat} (h : id < m) : (trim m fr H)[id]? = H[id]? := by
  rcases Go.AM.trim_or m fr H with e | ⟨e, _⟩
  · rw [e]
  · rw [e, List.getElem?_take_of_lt h]
theorem RdW.ext {w : Nat} {H H' : Heap} {v : V} {R : List (List V)} (h : RdW w H v R) (k : Ext H H') (hv : (∃ es, v = .psl es w) ∨ v = nilS ∨ ∃ m, AccW m w H v R) : RdW w H' v R := by
  rcases hv with ⟨es, rfl⟩ | rfl | ⟨m, hv⟩
  · refine ⟨?_, h.len, rfl, fun i r hr => ?_⟩
    · exact h.el
    · obtain ⟨a, h1, h2, h3⟩ := h.at' i r hr
      rw [xi_psl] at h1
      split at h1
      · cases he : es[(i : Int).toNat]? with
        | none => rw [he] at h1; cases h1
        | some c =>
          rw [he] at h1
          cases h1
          exact ⟨.pref c, by rw [xi_psl, if_pos (by assumption), he]; rfl, h2, fun o x hx => by
            obtain ⟨b, e1, e2⟩ := h3 o x hx
            refine ⟨b, e1, ?_⟩
            rw [xa_pref] at e1
            split at e1
            · cases e1; exact e2
            · cases e1⟩
      · cases h1
  · exact ⟨h.el, h.len, rfl, fun i r hr => by
      obtain ⟨a, h1, _⟩ := h.at' i r hr
      cases h1⟩
  · exact (hv.d (k.d [])).rd
end Go.AM
namespace Go.AM
theorem trim_cells (m : Nat) (fr : List V) (H : Heap) : trim m fr H = H ∨ (trim m fr H = H.take m ∧ (∀ v ∈ fr, idsUnder m 8 v = true) ∧ ∀ id g c, id < m → getC H id g = some c → ∀ v ∈ c, idsUnder m 8 v = true) := by
  unfold trim
  split
  · rename_i h
    rw [Bool.and_eq_true, List.all_eq_true, List.all_eq_true] at h
    refine .inr ⟨rfl, h.1, fun id g c hid hc v hv => ?_⟩
    unfold getC at hc
    cases ho : H[id]? with
    | none => rw [ho] at hc; cases hc
    | some o =>
      rw [ho] at hc
      have hm : o ∈ H.take m := List.mem_of_getElem? (i := id) (by rw [List.getElem?_take_of_lt hid]; exact ho)
      have := h.2 o hm
      cases o with
      | cells g2 c2 =>
        dsimp only at hc
        split at hc
        · cases hc
          simp only [Ob.under, List.all_eq_true] at this
          exact this v hv
        · cases hc
      | map _ => cases hc
      | loop _ _ _ _ _ _ => cases hc
      | dead => cases hc
  · exact .inl rfl
def LiS (m : Nat) (H : Heap) (v : V) (l : List Int) : Prop := (l = [] ∧ v = nilS) ∨ ∃ id g, v = .sl id g 0 l.length 1 ∧ getC H id g = some (l.map iV) ∧ m ≤ id
theorem LiS.nil (m : Nat) (H : Heap) : LiS m H nilS [] := .inl ⟨rfl, rfl⟩
theorem LiS.rd {m : Nat} {H : Heap} {v : V} {l : List Int} (h : LiS m H v l) : Rd H v (l.map iV) := by
  rcases h with ⟨rfl, rfl⟩ | ⟨id, g, rfl, hc, _⟩
  · exact Rd.nil H
  · have := getC_sl hc
    rwa [List.length_map] at this
theorem LiS.wide {m : Nat} {H : Heap} {v : V} {l : List Int} (h : LiS m H v l) : Wide1 v := by
  rcases h with ⟨_, rfl⟩ | ⟨_, _, rfl, _⟩ <;> trivial
theorem LiS.one {m : Nat} {H : Heap} {v : V} {l : List Int} (h : LiS m H v l) : v.one = true := h.rd.one
theorem LiS.mono {m k : Nat} {H : Heap} {v : V} {l : List Int} (h : LiS m H v l) (hk : k ≤ m) : LiS k H v l := by
  rcases h with h | ⟨id, g, h1, h2, h3⟩
  · exact .inl h
  · exact .inr ⟨id, g, h1, h2, by omega⟩
theorem LiS.keep {m : Nat} {H H' : Heap} {v : V} {l : List Int} (h : LiS m H v l) (hk : ∀ id g n, v = .sl id g 0 n 1 → H'[id]? = H[id]?) : LiS m H' v l := by
  rcases h with h | ⟨id, g, rfl, hc, hm⟩
  · exact .inl h
  · refine .inr ⟨id, g, rfl, ?_, hm⟩
    unfold getC at hc ⊢
    rw [hk id g _ rfl]
    exact hc
theorem LiS.lt {m : Nat} {H : Heap} {v : V} {l : List Int} (h : LiS m H v l) : ∀ id g n, v = .sl id g 0 n 1 → id < H.length := by
  rcases h with ⟨_, rfl⟩ | ⟨id, g, rfl, hc, hm⟩
  · intro id g n e; cases e
  · intro id' g' n e
    cases e
    exact getC_lt hc
theorem LiS.d {m : Nat} {H H' : Heap} {v : V} {l : List Int} (h : LiS m H v l) (k : KeepD H.length [] H H') : LiS m H' v l := h.keep fun id g n e => k.2 id (h.lt id g n e) (by simp)
theorem LiS.under {m M : Nat} {H : Heap} {v : V} {l : List Int} (h : LiS m H v l) (hv : idsUnder M 8 v = true) : LiS m (H.take M) v l := by
  rcases h with h | ⟨id, g, rfl, hc, hm⟩
  · exact .inl h
  · simp only [idsUnder, decide_eq_true_eq] at hv
    refine .inr ⟨id, g, rfl, ?_, hm⟩
    unfold getC at hc ⊢
    rw [List.getElem?_take_of_lt hv]
    exact hc
theorem LiS.apart {m : Nat} {H : Heap} {v : V} {l : List Int} (h : LiS m H v l) {o g : Nat} {x : V} {c : List V} (hc : getC H o g = some (x :: c)) (hx : ∀ n, x ≠ iV n) : ∀ id g n, v = .sl id g 0 n 1 → id ≠ o := by
  rcases h with ⟨_, rfl⟩ | ⟨id, g', rfl, hc', _⟩
  · intro id g n e; cases e
  · intro id' g2 n e e2
    cases e
    subst e2
    unfold getC at hc hc'
    cases ho : H[id]? with
    | none => rw [ho] at hc; cases hc
    | some ob =>
      rw [ho] at hc hc'
      cases ob with
      | cells g3 c3 =>
        dsimp only at hc hc'
        split at hc
        · split at hc'
          · cases hc
            cases l with
            | nil => simp at hc'
            | cons y l =>
              simp only [List.map_cons, Option.some.injEq, List.cons.injEq] at hc'
              exact hx y hc'.1
          · cases hc'
        · cases hc
      | map _ => cases hc
      | loop _ _ _ _ _ _ => cases hc
      | dead => cases hc
theorem rowI_flat (l : List Int) : (l.map fun x => [iV x]).flatten = l.map iV := by
  induction l with
  | nil => rfl
  | cons x l ih => simp [ih]
theorem all_one_iV (l : List Int) : (l.map iV).all V.one = true := by simp [List.all_eq_true, iV, V.one]
theorem LiS.append {m : Nat} {H : Heap} {v : V} {l : List Int} (h : LiS m H v l) {base bytes : Nat} (hb : base ≤ m) (hm : m ≤ H.length) {x : V} {l2 : List Int} (hx : Rd H x (l2.map iV)) (hs : (l.length + l2.length) * bytes ≤ 2 ^ 47) :
    ∃ v' H', appendV H base 1 bytes v x = some (v', H') ∧ LiS m H' v' (l ++ l2) ∧ H.length ≤ H'.length ∧ (∀ id, id < H.length → (∀ g n, v ≠ .sl id g 0 n 1) → H'[id]? = H[id]?) := by
  have ha : AccW m 1 H v (l.map fun x => [iV x]) := by
    refine ⟨fun r hr => ?_, ?_⟩
    · obtain ⟨_, _, rfl⟩ := List.mem_map.1 hr; rfl
    · rcases h with ⟨rfl, rfl⟩ | ⟨id, g, rfl, hc, hm⟩
      · exact .inl ⟨rfl, rfl⟩
      · exact .inr ⟨id, g, by rw [List.length_map], by rw [rowI_flat]; exact hc, hm⟩
  obtain ⟨v', H', e1, e2, e3, e4⟩ := ha.append0 (base := base) (bytes := bytes) hb hm (S := l2.map fun x => [iV x]) (fun r hr => by obtain ⟨_, _, rfl⟩ := List.mem_map.1 hr; rfl) (x := x)
    (by rw [rowI_flat, List.length_map]; have := hx.2; rwa [List.length_map] at this) (by rw [rowI_flat]; exact all_one_iV l2) (by simpa using hs)
  refine ⟨v', H', e1, ?_, e3, e4⟩
  rw [← List.map_append] at e2
  obtain ⟨_, ⟨h1, h2⟩ | ⟨id, g, h1, h2, h3⟩⟩ := e2
  · exact .inl ⟨by simpa using h1, h2⟩
  · exact .inr ⟨id, g, by rw [List.length_map] at h1; exact h1, by rw [rowI_flat] at h2; exact h2, h3⟩
theorem OwnN.store {m : Nat} {H : Heap} {v : V} {l : List V} (h : OwnN m H v l) {base k : Nat} (hb : base ≤ m) (hk : k < l.length) {x : V} (hx : x.one = true) :
    ∃ a H', xIndexAddr 1 v (.s (.int .i64 k)) = some a ∧ storeV H base 1 x a = some H' ∧ OwnN m H' v (l.set k x) ∧ H'.length = H.length ∧ ∀ id, id < m → H'[id]? = H[id]? := by
  rcases h with ⟨rfl, _⟩ | ⟨id, g, c, rfl, hc, hl, ht, hm⟩
  · cases hk
  · have hcl : k < c.length := by omega
    have hx2 : c[k]? = some c[k] := List.getElem?_eq_getElem hcl
    refine ⟨.ref id g k, H.set id (.cells g (c.set k x)), (at_sl hc hk hx2).1, storeV_at hc (by omega) hx hcl, .inr ⟨id, g, c.set k x, by rw [List.length_set], getC_put hc, by rw [List.length_set, List.length_set]; exact hl, ?_, hm⟩, List.length_set, fun id' hid => ?_⟩
    · rw [List.length_set, List.take_set, ht]
    · rw [List.getElem?_set_ne (by omega)]
end Go.AM
namespace Go.AM
theorem xsub_str (H : Heap) (b : ByteArray) (k k2 : IntKind) (l h : Int) : xSub H (.subStr (.t 0) (some (.t 1)) (some (.t 2))) (some [.s (.string b), .s (.int k l), .s (.int k2 h)]) = if 0 ≤ l ∧ l ≤ h ∧ h ≤ b.size then some (.s (.string (b.extract l.toNat h.toNat))) else none := by
  show (if 0 ≤ l ∧ l ≤ h ∧ h ≤ (b.size : Int) then some (V.s (.string (b.extract l.toNat h.toNat)), H) else none).map (·.1) = _
  split <;> rfl
theorem extract_eq (b : ByteArray) (at' n : Nat) : b.extract at' (at' + n) = ⟨((b.data.toList.drop at').take n).toArray⟩ := by
  apply ByteArray.ext
  apply Array.ext'
  rw [ByteArray.data_extract, Array.toList_extract, List.extract_eq_drop_take]
  simp
theorem resultV3 (t u w : ARes) (fr : List V) (H : Heap) : resultV [t, u, w] fr H = match resV fr H t, resV fr H u, resV fr H w with | some x, some y, some z => some (.tup [x, y, z]) | _, _, _ => none := by
  simp only [resultV, List.mapM_cons, List.mapM_nil]
  cases resV fr H t <;> cases resV fr H u <;> cases resV fr H w <;> rfl
theorem loadV_x (H : Heap) (g : Bool) (n : Nat) (a : V) : loadV H g n a = xLoad H g n a := rfl
theorem xsub_fn2 (H : Heap) (f : Nat) (a b : V) : xSub H (.mkFn f [] [.t 0, .t 1]) (some [a, b]) = some (.fn f [] [a, b]) := rfl
end Go.AM
namespace Go.AM
def idxG : List V → Nat → Heap → Option (V × Heap) := fun vs _ H => match vs with
  | [.s (.string b), .s (.int .u8 c)] => some (.s (.int .i64 (Lib.indexByte b.data.toList c.toNat.toUInt8)), H)
  | _ => none
def atoiG : List V → Nat → Heap → Option (V × Heap) := fun vs _ H => match vs with
  | [.s (.string b)] => if b.size ≤ 18 then (Lib.atoi b.data.toList).map fun n => (.tup [.s (.int .i64 n), .s .nilIface], H) else none
  | _ => none
end Go.AM
namespace Go.AM
open Go.RowKit
section
variable {P : Program}
theorem idx_ok {pure' : PX} {k : Nat} (hent : ∀ xs w, (callFunc k xs).run P w = .ok (.enter k xs) w)
    (hs : ∀ (s : ByteArray) (c : Int) (w : World), Calls P k #[.string s, .int .u8 c] w fun e w' => e = .returned (.int .i64 (Lib.indexByte s.data.toList c.toNat.toUInt8)) ∧ w' = w) : FunOk P pure' k (.prim idxG) := by
  refine ⟨hent, fun vs base H r H' hg => ?_⟩
  unfold idxG at hg
  split at hg
  · rename_i b c
    cases hg
    refine ⟨Floor.refl _ _, fun μ Mt w cs hH hvs n => ?_⟩
    obtain ⟨h1, h2⟩ := hvs
    match cs, h1 with
    | [x, y], _ =>
      have e1 := vr_s (h2 0 _ x rfl rfl)
      have e2 := vr_s (h2 1 _ y rfl rfl)
      subst e1 e2
      refine callsIn_wide.2 ((hs b c w).mono ?_)
      rintro e w' ⟨rfl, rfl⟩
      exact ⟨_, μ, Mt, rfl, .s _, Post.refl hH⟩
  · cases hg
theorem modify_snoc {α : Type} (x : α) (f : α → α) : ∀ l : List α, (l ++ [x]).modify l.length f = l ++ [f x]
  | [] => rfl
  | y :: l => by
    have := modify_snoc x f l
    simp only [List.cons_append, List.length_cons, List.modify_succ_cons, this]
theorem modify_push {α : Type} (a : Array α) (x : α) (f : α → α) : (a.push x).modify a.size f = a.push (f x) := by
  apply Array.ext'
  rw [Array.toList_modify, Array.toList_push, Array.toList_push, show a.size = a.toList.length from rfl]
  exact modify_snoc x f _
theorem bytes_post {CC : CX} {μ : Mu} {Mt : Nat → Prop} {w : World} {H : Heap} (h : HR CC μ Mt w H) (e : TypeId) (s : ByteArray) : Post CC μ Mt w H μ Mt (Lib.bytesWorld w e s) H := by
  refine post_ghosts [.cells (Lib.bytesCells w e s) e ((Lib.bytesCells w e s).size, (Lib.bytesCells w e s).size + 1)] w _ h ?_ rfl rfl rfl
  unfold Lib.bytesWorld World.freeze
  rw [if_neg (by decide)]
  obtain ⟨o, ho⟩ : ∃ o, Obj.cells (Lib.bytesCells w e s) e = o := ⟨_, rfl⟩
  have hp : (w.drew.alloc o).heap = w.heap.push o := rfl
  simp only [ho, hp]
  rw [modify_push, ← ho]
  rfl
theorem atoi_ok {pure' : PX} {k : Nat} {t : TypeId} (hent : ∀ xs w, (callFunc k xs).run P w = .ok (.enter k xs) w)
    (hs : ∀ (s : ByteArray) (n : Int), s.size ≤ 18 → Lib.atoi s.data.toList = some n → ∀ (w : World), Calls P k #[.string s] w fun e w' => e = .returned (.tuple #[.int .i64 n, .nilIface]) ∧ ∃ b, w' = Lib.bytesWorld w t b) : FunOk P pure' k (.prim atoiG) := by
  refine ⟨hent, fun vs base H r H' hg => ?_⟩
  unfold atoiG at hg
  split at hg
  · rename_i b
    split at hg
    · rename_i hb
      cases hn : Lib.atoi b.data.toList with
      | none => rw [hn] at hg; cases hg
      | some n =>
        rw [hn] at hg
        cases hg
        refine ⟨Floor.refl _ _, fun μ Mt w cs hH hvs m => ?_⟩
        obtain ⟨h1, h2⟩ := hvs
        match cs, h1 with
        | [x], _ =>
          have e1 := vr_s (h2 0 _ x rfl rfl)
          subst e1
          refine callsIn_wide.2 ((hs b n hb hn w).mono ?_)
          rintro e w' ⟨rfl, s, rfl⟩
          refine ⟨_, μ, Mt, rfl, ?_, bytes_post hH t s⟩
          refine .tup _ _ rfl fun i a c ha hc => ?_
          match i with
          | 0 => cases ha; cases hc; exact .s _
          | 1 => cases ha; cases hc; exact .s _
          | i + 2 => simp at ha
    · cases hg
  · cases hg
end
end Go.AM
set_option maxRecDepth 100000
namespace Go.Proofs.YtfnkpedipicjnaaDoor
open Go.AM
def c_token_Lex_l0 : ACode :=
  (.seq (.seq (.region [
    ⟨some 20, (.load false 1 (.t 5)), none⟩,
    ⟨some 21, (.nilCheck (.t 20)), none⟩,
    ⟨some 22, (.fieldAddr 3 (.t 21)), none⟩,
    ⟨some 23, (.load false 1 (.t 22)), none⟩,
    ⟨some 24, (.move (.t 0)), none⟩,
    ⟨some 25, (.lenS .p (.t 24)), none⟩,
    ⟨some 26, (.bin .lss (.t 23) (.t 25)), none⟩] [] [])
  (.cond (.t 26)
    .skip
    (.exit 0)))
  (.block 1
    (.seq (.region [
      ⟨some 27, (.move (.t 0)), none⟩,
      ⟨some 28, (.load false 1 (.t 5)), none⟩,
      ⟨some 29, (.nilCheck (.t 28)), none⟩,
      ⟨some 30, (.fieldAddr 3 (.t 29)), none⟩,
      ⟨some 31, (.load false 1 (.t 30)), none⟩,
      ⟨some 32, (.indexStr (.t 27) (.t 31)), none⟩,
      ⟨some 8, (.move (.t 32)), none⟩] [] [])
    (.block 2
      (.seq (.region [
        ⟨some 38, (.move (.t 8)), none⟩,
        ⟨some 39, (.call (.c (.fn 15 [] [])) [(.c (.s (.string ⟨#[32, 9, 13, 10]⟩))), (.t 38)]), none⟩,
        ⟨some 40, (.bin .geq (.t 39) (.c (.s (.int .i64 0)))), none⟩,
        ⟨some 37, (.move (.t 40)), none⟩] [] [])
      (.cond (.t 37)
        (.region [
          ⟨some 41, (.load false 1 (.t 5)), none⟩,
          ⟨some 42, (.call (.c (.fn 14 [] [])) [(.t 41), (.c (.s (.int .i64 1)))]), none⟩] [] [])
        (.seq (.region [
          ⟨some 44, (.move (.t 8)), none⟩,
          ⟨some 45, (.bin .eql (.t 44) (.c (.s (.int .u8 59)))), none⟩,
          ⟨some 43, (.move (.t 45)), none⟩] [] [])
        (.cond (.t 43)
          (.region [
            ⟨some 46, (.load false 1 (.t 5)), none⟩,
            ⟨some 47, (.load false 1 (.t 5)), none⟩,
            ⟨some 48, (.callR (.c (.fn 16 [] [])) [(.t 47), (.c (.fn 17 [] []))]), none⟩,
            ⟨some 49, (.call (.c (.fn 14 [] [])) [(.t 46), (.t 48)]), none⟩] [] [])
          (.seq (.region [
            ⟨some 51, (.move (.t 8)), none⟩,
            ⟨some 52, (.call (.c (.fn 18 [] [])) [(.t 51)]), none⟩,
            ⟨some 50, (.move (.t 52)), none⟩] [] [])
          (.cond (.t 50)
            (.region [
              ⟨some 53, (.move (.t 7)), none⟩,
              ⟨some 54, (.load false 1 (.t 5)), none⟩,
              ⟨some 55, (.call (.c (.fn 16 [] [])) [(.t 54), (.c (.fn 19 [] []))]), none⟩,
              ⟨some 56, (.call (.t 53) [(.c (.s (.int .u8 1))), (.t 55)]), none⟩] [] [])
            (.seq (.region [
              ⟨some 58, (.move (.t 8)), none⟩,
              ⟨some 59, (.call (.c (.fn 20 [] [])) [(.t 58)]), none⟩,
              ⟨some 57, (.move (.t 59)), none⟩] [] [])
            (.cond (.t 57)
              (.seq (.region [
                ⟨some 60, (.load false 1 (.t 5)), none⟩,
                ⟨some 61, (.call (.c (.fn 16 [] [])) [(.t 60), (.c (.fn 20 [] []))]), none⟩,
                ⟨some 9, (.move (.t 61)), none⟩] [] [])
              (.seq (.seq (.region [
                ⟨some 62, (.move (.t 9)), none⟩,
                ⟨some 63, (.bin .gtr (.t 62) (.c (.s (.int .i64 9)))), none⟩,
                ⟨some 64, (.move (.t 63)), none⟩,
                ⟨some 65, (.move (.t 9)), some (64, false)⟩,
                ⟨some 66, (.bin .gtr (.t 65) (.c (.s (.int .i64 1)))), some (64, false)⟩,
                ⟨some 67, (.move (.t 66)), some (64, false)⟩,
                ⟨some 68, (.move (.t 8)), some (67, true)⟩,
                ⟨some 69, (.bin .eql (.t 68) (.c (.s (.int .u8 48)))), some (67, true)⟩,
                ⟨some 70, (.pick (.t 67) (.t 69) (.c (.s (.bool false)))), some (64, false)⟩,
                ⟨some 71, (.pick (.t 64) (.c (.s (.bool true))) (.t 70)), none⟩,
                ⟨some 72, (.move (.t 71)), none⟩,
                ⟨some 73, (.load false 1 (.t 5)), some (72, false)⟩,
                ⟨some 74, (.call (.c (.fn 16 [] [])) [(.t 73), (.c (.fn 19 [] []))]), some (72, false)⟩,
                ⟨some 75, (.move (.t 9)), some (72, false)⟩,
                ⟨some 76, (.bin .gtr (.t 74) (.t 75)), some (72, false)⟩,
                ⟨some 77, (.pick (.t 72) (.c (.s (.bool true))) (.t 76)), none⟩] [] [])
              (.cond (.t 77)
                (.seq (.region [
                  ⟨some 78, (.load false 1 (.t 5)), none⟩,
                  ⟨some 79, (.nilCheck (.t 78)), none⟩,
                  ⟨some 80, (.fieldAddr 0 (.t 79)), none⟩,
                  ⟨some 81, (.load true 2 (.t 80)), none⟩,
                  ⟨some 2, (.move (.c (.s (.slice none 0 0)))), none⟩,
                  ⟨none, (.store 2 (.t 3) (.t 81)), none⟩,
                  ⟨some 4, (.move (.c (.s (.int .i64 31)))), none⟩] [] [])
                .ret)
                .skip))
              (.seq (.region [
                ⟨some 82, (.move (.t 7)), none⟩,
                ⟨some 83, (.move (.t 9)), none⟩,
                ⟨some 84, (.call (.t 82) [(.c (.s (.int .u8 2))), (.t 83)]), none⟩,
                ⟨some 10, (.move (.t 84)), none⟩] [] [])
              (.region [
                ⟨some 86, (.move (.t 10)), none⟩,
                ⟨some 87, (.move (.t 10)), none⟩,
                ⟨some 88, (.nilCheck (.t 87)), none⟩,
                ⟨some 89, (.fieldAddr 1 (.t 88)), none⟩,
                ⟨some 90, (.load false 1 (.t 89)), none⟩,
                ⟨some 91, (.call (.c (.fn 21 [] [])) [(.t 90)]), none⟩,
                ⟨some 85, (.move (.t 91)), none⟩,
                ⟨some 92, (.extract (.t 85) 0), none⟩,
                ⟨some 93, (.extract (.t 85) 1), none⟩,
                ⟨some 94, (.nilCheck (.t 86)), none⟩,
                ⟨some 95, (.fieldAddr 2 (.t 94)), none⟩,
                ⟨none, (.store 1 (.t 95) (.t 92)), none⟩] [] []))))
              (.seq (.region [
                ⟨some 97, (.move (.t 8)), none⟩,
                ⟨some 98, (.call (.c (.fn 15 [] [])) [(.c (.s (.string ⟨#[61, 44, 58, 40, 41, 123, 125, 91, 93]⟩))), (.t 97)]), none⟩,
                ⟨some 99, (.bin .geq (.t 98) (.c (.s (.int .i64 0)))), none⟩,
                ⟨some 96, (.move (.t 99)), none⟩] [] [])
              (.cond (.t 96)
                (.region [
                  ⟨some 100, (.move (.t 7)), none⟩,
                  ⟨some 101, (.call (.t 100) [(.c (.s (.int .u8 3))), (.c (.s (.int .i64 1)))]), none⟩] [] [])
                (.seq (.region [
                  ⟨some 33, (.load false 1 (.t 5)), none⟩,
                  ⟨some 34, (.nilCheck (.t 33)), none⟩,
                  ⟨some 35, (.fieldAddr 0 (.t 34)), none⟩,
                  ⟨some 36, (.load true 2 (.t 35)), none⟩,
                  ⟨some 2, (.move (.c (.s (.slice none 0 0)))), none⟩,
                  ⟨none, (.store 2 (.t 3) (.t 36)), none⟩,
                  ⟨some 4, (.move (.c (.s (.int .i64 30)))), none⟩] [] [])
                .ret)))))))))))))))
def c_token_Lex_k0 : List Nat := [20, 21, 22, 23, 24, 25, 26, 27, 28, 29, 30, 31, 32, 8, 38, 39, 40, 37, 41, 42, 44, 45, 43, 46, 47, 48, 49, 51, 52, 50, 53, 54, 55, 56, 58, 59, 57, 60, 61, 9, 62, 63, 64, 65, 66, 67, 68, 69, 70, 71, 72, 73, 74, 75, 76, 77, 78, 79, 80, 81, 82, 83, 84, 10, 86, 87, 88, 89, 90, 91, 85, 92, 93, 94, 95, 97, 98, 99, 96, 100, 101, 33, 34, 35, 36]
def c_token_Lex : ACFun := { ntmps := 106, results := [(.tmp 2), (.cell 3 true 2), (.tmp 4)], body :=
  (.seq (.region [
    ⟨some 2, (.move (.c (.s (.slice none 0 0)))), none⟩,
    ⟨some 3, (.alloc [(.s (.int .i64 0)), (.s (.int .i64 0))]), none⟩,
    ⟨some 4, (.move (.c (.s (.int .i64 0)))), none⟩] [] [])
  (.seq (.seq (.region [
    ⟨some 11, (.move (.t 0)), none⟩,
    ⟨some 12, (.lenS .p (.t 11)), none⟩,
    ⟨some 13, (.bin .gtr (.t 12) (.c (.s (.int .i64 1048576)))), none⟩] [] [])
  (.cond (.t 13)
    (.seq (.region [
      ⟨some 14, (.build [(.s (.int .i64 0)), (.s (.int .i64 0))] [(0, 1), (1, 1)] []), none⟩,
      ⟨some 2, (.move (.c (.s (.slice none 0 0)))), none⟩,
      ⟨none, (.store 2 (.t 3) (.t 14)), none⟩,
      ⟨some 4, (.move (.c (.s (.int .i64 2)))), none⟩] [] [])
    .ret)
    .skip))
  (.seq (.region [
    ⟨some 15, (.build [(.s (.int .i64 0)), (.s (.int .i64 0))] [(0, 1), (1, 1)] [(0, (.c (.s (.int .i64 1)))), (1, (.c (.s (.int .i64 1))))]), none⟩,
    ⟨some 16, (.move (.t 0)), none⟩,
    ⟨some 17, (.build [(.s (.int .i64 0)), (.s (.int .i64 0)), (.s (.string ⟨#[]⟩)), (.s (.int .i64 0))] [(0, 2), (2, 1), (3, 1)] [(0, (.t 15)), (1, (.t 16))]), none⟩,
    ⟨some 18, (.box (.t 17)), none⟩,
    ⟨some 5, (.alloc [(.s (.pointer none))]), none⟩,
    ⟨none, (.store 1 (.t 5) (.t 18)), none⟩] [] [])
  (.seq (.region [
    ⟨some 6, (.alloc [(.s (.slice none 0 0))]), none⟩] [] [])
  (.seq (.region [
    ⟨some 19, (.mkFn 13 [] [(.t 6), (.t 5)]), none⟩,
    ⟨some 7, (.move (.t 19)), none⟩] [] [])
  (.seq (.block 0
    (.loop c_token_Lex_k0 c_token_Lex_l0))
  (.seq (.region [
    ⟨some 102, (.move (.t 7)), none⟩,
    ⟨some 103, (.call (.t 102) [(.c (.s (.int .u8 4))), (.c (.s (.int .i64 0)))]), none⟩] [] [])
  (.seq (.region [
    ⟨some 104, (.load false 1 (.t 6)), none⟩,
    ⟨some 105, (.build [(.s (.int .i64 0)), (.s (.int .i64 0))] [(0, 1), (1, 1)] []), none⟩,
    ⟨some 2, (.move (.t 104)), none⟩,
    ⟨none, (.store 2 (.t 3) (.t 105)), none⟩,
    ⟨some 4, (.move (.c (.s (.int .i64 0)))), none⟩] [] [])
  .ret)))))))) }
def c_gnomonlaw03_lexes : ACFun := { ntmps := 32, results := [(.tmp 0)], body :=
  (.seq (.region [
    ⟨some 0, (.move (.c (.s (.bool false)))), none⟩] [] [])
  (.seq (.region [
    ⟨some 5, (.call (.c (.fn 8 [] [])) [(.c (.s (.string ⟨#[97, 46, 49, 61, 55, 59, 120, 10, 40]⟩)))]), none⟩,
    ⟨some 4, (.move (.t 5)), none⟩,
    ⟨some 6, (.extract (.t 4) 0), none⟩,
    ⟨some 7, (.extract (.t 4) 1), none⟩,
    ⟨some 8, (.extract (.t 4) 2), none⟩,
    ⟨some 2, (.alloc [(.s (.int .i64 0)), (.s (.int .i64 0))]), none⟩,
    ⟨some 1, (.move (.t 6)), none⟩,
    ⟨none, (.store 2 (.t 2) (.t 7)), none⟩,
    ⟨some 3, (.move (.t 8)), none⟩] [] [])
  (.seq (.region [
    ⟨some 9, (.move (.t 3)), none⟩,
    ⟨some 10, (.bin .eql (.t 9) (.c (.s (.int .i64 0)))), none⟩,
    ⟨some 11, (.move (.t 10)), none⟩,
    ⟨some 12, (.move (.t 1)), some (11, true)⟩,
    ⟨some 13, (.lenS .s (.t 12)), some (11, true)⟩,
    ⟨some 14, (.bin .eql (.t 13) (.c (.s (.int .i64 5)))), some (11, true)⟩,
    ⟨some 15, (.pick (.t 11) (.t 14) (.c (.s (.bool false)))), none⟩,
    ⟨some 16, (.move (.t 15)), none⟩,
    ⟨some 17, (.move (.t 1)), some (16, true)⟩,
    ⟨some 18, (.indexAddr 5 (.t 17) (.c (.s (.int .i64 2)))), some (16, true)⟩,
    ⟨some 19, (.load true 5 (.t 18)), some (16, true)⟩,
    ⟨some 20, (.build [(.s (.int .i64 0)), (.s (.int .i64 0))] [(0, 1), (1, 1)] [(0, (.c (.s (.int .i64 1)))), (1, (.c (.s (.int .i64 5))))]), some (16, true)⟩,
    ⟨some 21, (.build [(.s (.int .u8 0)), (.s (.string ⟨#[]⟩)), (.s (.int .i64 0)), (.s (.int .i64 0)), (.s (.int .i64 0))] [(0, 1), (1, 1), (2, 1), (3, 2)] [(0, (.c (.s (.int .u8 2)))), (1, (.c (.s (.string ⟨#[55]⟩)))), (2, (.c (.s (.int .i64 7)))), (3, (.t 20))]), some (16, true)⟩,
    ⟨some 22, (.eqAgg false [(.int .u8), .str, (.int .i64), (.int .i64), (.int .i64)] (.t 19) (.t 21)), some (16, true)⟩,
    ⟨some 23, (.pick (.t 16) (.t 22) (.c (.s (.bool false)))), none⟩,
    ⟨some 24, (.move (.t 23)), none⟩,
    ⟨some 25, (.move (.t 1)), some (24, true)⟩,
    ⟨some 26, (.indexAddr 5 (.t 25) (.c (.s (.int .i64 4)))), some (24, true)⟩,
    ⟨some 27, (.load true 5 (.t 26)), some (24, true)⟩,
    ⟨some 28, (.build [(.s (.int .i64 0)), (.s (.int .i64 0))] [(0, 1), (1, 1)] [(0, (.c (.s (.int .i64 2)))), (1, (.c (.s (.int .i64 2))))]), some (24, true)⟩,
    ⟨some 29, (.build [(.s (.int .u8 0)), (.s (.string ⟨#[]⟩)), (.s (.int .i64 0)), (.s (.int .i64 0)), (.s (.int .i64 0))] [(0, 1), (1, 1), (2, 1), (3, 2)] [(0, (.c (.s (.int .u8 4)))), (3, (.t 28))]), some (24, true)⟩,
    ⟨some 30, (.eqAgg false [(.int .u8), .str, (.int .i64), (.int .i64), (.int .i64)] (.t 27) (.t 29)), some (24, true)⟩,
    ⟨some 31, (.pick (.t 24) (.t 30) (.c (.s (.bool false)))), none⟩,
    ⟨some 0, (.move (.t 31)), none⟩] [] [])
  .ret))) }
def c_token_Lex_1 : ACFun := { ntmps := 39, results := [(.tmp 6)], body :=
  (.seq (.region [
    ⟨some 6, (.move (.c (.s (.pointer none)))), none⟩] [] [])
  (.seq (.region [
    ⟨some 7, (.load false 1 (.t 2)), none⟩,
    ⟨some 8, (.move (.t 0)), none⟩,
    ⟨some 9, (.load false 1 (.t 3)), none⟩,
    ⟨some 10, (.nilCheck (.t 9)), none⟩,
    ⟨some 11, (.fieldAddr 2 (.t 10)), none⟩,
    ⟨some 12, (.load false 1 (.t 11)), none⟩,
    ⟨some 13, (.load false 1 (.t 3)), none⟩,
    ⟨some 14, (.nilCheck (.t 13)), none⟩,
    ⟨some 15, (.fieldAddr 3 (.t 14)), none⟩,
    ⟨some 16, (.load false 1 (.t 15)), none⟩,
    ⟨some 17, (.load false 1 (.t 3)), none⟩,
    ⟨some 18, (.nilCheck (.t 17)), none⟩,
    ⟨some 19, (.fieldAddr 3 (.t 18)), none⟩,
    ⟨some 20, (.load false 1 (.t 19)), none⟩,
    ⟨some 21, (.move (.t 1)), none⟩,
    ⟨some 22, (.bin .add (.t 20) (.t 21)), none⟩,
    ⟨some 23, (.subStr (.t 12) (some (.t 16)) (some (.t 22))), none⟩,
    ⟨some 24, (.load false 1 (.t 3)), none⟩,
    ⟨some 25, (.nilCheck (.t 24)), none⟩,
    ⟨some 26, (.fieldAddr 0 (.t 25)), none⟩,
    ⟨some 27, (.load true 2 (.t 26)), none⟩,
    ⟨some 28, (.build [(.s (.int .u8 0)), (.s (.string ⟨#[]⟩)), (.s (.int .i64 0)), (.s (.int .i64 0)), (.s (.int .i64 0))] [(0, 1), (1, 1), (2, 1), (3, 2)] [(0, (.t 8)), (1, (.t 23)), (3, (.t 27))]), none⟩,
    ⟨some 29, (.buildSl 5 1 [(.s (.int .u8 0)), (.s (.string ⟨#[]⟩)), (.s (.int .i64 0)), (.s (.int .i64 0)), (.s (.int .i64 0))] [(0, (.t 28))]), none⟩,
    ⟨some 30, (.append 5 48 (.t 7) (.t 29)), none⟩,
    ⟨none, (.store 1 (.t 2) (.t 30)), none⟩] [] [])
  (.seq (.region [
    ⟨some 31, (.load false 1 (.t 3)), none⟩,
    ⟨some 32, (.move (.t 1)), none⟩,
    ⟨some 33, (.call (.c (.fn 14 [] [])) [(.t 31), (.t 32)]), none⟩] [] [])
  (.seq (.region [
    ⟨some 34, (.load false 1 (.t 2)), none⟩,
    ⟨some 35, (.load false 1 (.t 2)), none⟩,
    ⟨some 36, (.lenS .s (.t 35)), none⟩,
    ⟨some 37, (.bin .sub (.t 36) (.c (.s (.int .i64 1)))), none⟩,
    ⟨some 38, (.indexAddr 5 (.t 34) (.t 37)), none⟩,
    ⟨some 6, (.move (.t 38)), none⟩] [] [])
  .ret)))) }
def c_token_reader_step_l0 : ACode :=
  (.seq (.region [
    ⟨some 6, (.bin .lss (.t 5) (.t 4)), none⟩] [] [])
  (.seq (.cond (.t 6)
    .skip
    (.exit 0))
  (.seq (.block 1
    (.seq (.region [
      ⟨some 7, (.move (.t 0)), none⟩,
      ⟨some 8, (.nilCheck (.t 7)), none⟩,
      ⟨some 9, (.fieldAddr 0 (.t 8)), none⟩,
      ⟨some 10, (.fieldAddr 1 (.t 9)), none⟩,
      ⟨some 11, (.load false 1 (.t 10)), none⟩,
      ⟨some 12, (.bin .add (.t 11) (.c (.s (.int .i64 1)))), none⟩,
      ⟨some 13, (.nilCheck (.t 7)), none⟩,
      ⟨some 14, (.fieldAddr 0 (.t 13)), none⟩,
      ⟨some 15, (.fieldAddr 1 (.t 14)), none⟩,
      ⟨none, (.store 1 (.t 15) (.t 12)), none⟩] [] [])
    (.seq (.seq (.region [
      ⟨some 16, (.move (.t 0)), none⟩,
      ⟨some 17, (.nilCheck (.t 16)), none⟩,
      ⟨some 18, (.fieldAddr 2 (.t 17)), none⟩,
      ⟨some 19, (.load false 1 (.t 18)), none⟩,
      ⟨some 20, (.move (.t 0)), none⟩,
      ⟨some 21, (.nilCheck (.t 20)), none⟩,
      ⟨some 22, (.fieldAddr 3 (.t 21)), none⟩,
      ⟨some 23, (.load false 1 (.t 22)), none⟩,
      ⟨some 24, (.indexStr (.t 19) (.t 23)), none⟩,
      ⟨some 25, (.bin .eql (.t 24) (.c (.s (.int .u8 10)))), none⟩] [] [])
    (.cond (.t 25)
      (.region [
        ⟨some 26, (.move (.t 0)), none⟩,
        ⟨some 27, (.move (.t 0)), none⟩,
        ⟨some 28, (.move (.t 0)), none⟩,
        ⟨some 29, (.nilCheck (.t 28)), none⟩,
        ⟨some 30, (.fieldAddr 0 (.t 29)), none⟩,
        ⟨some 31, (.fieldAddr 0 (.t 30)), none⟩,
        ⟨some 32, (.load false 1 (.t 31)), none⟩,
        ⟨some 33, (.bin .add (.t 32) (.c (.s (.int .i64 1)))), none⟩,
        ⟨some 34, (.nilCheck (.t 26)), none⟩,
        ⟨some 35, (.fieldAddr 0 (.t 34)), none⟩,
        ⟨some 36, (.fieldAddr 0 (.t 35)), none⟩,
        ⟨none, (.store 1 (.t 36) (.t 33)), none⟩,
        ⟨some 37, (.nilCheck (.t 27)), none⟩,
        ⟨some 38, (.fieldAddr 0 (.t 37)), none⟩,
        ⟨some 39, (.fieldAddr 1 (.t 38)), none⟩,
        ⟨none, (.store 1 (.t 39) (.c (.s (.int .i64 1)))), none⟩] [] [])
      .skip))
    (.region [
      ⟨some 40, (.move (.t 0)), none⟩,
      ⟨some 41, (.nilCheck (.t 40)), none⟩,
      ⟨some 42, (.fieldAddr 3 (.t 41)), none⟩,
      ⟨some 43, (.load false 1 (.t 42)), none⟩,
      ⟨some 44, (.bin .add (.t 43) (.c (.s (.int .i64 1)))), none⟩,
      ⟨some 45, (.nilCheck (.t 40)), none⟩,
      ⟨some 46, (.fieldAddr 3 (.t 45)), none⟩,
      ⟨none, (.store 1 (.t 46) (.t 44)), none⟩] [] []))))
  (.region [
    ⟨some 47, (.bin .add (.t 5) (.c (.s (.int .i64 1)))), none⟩,
    ⟨some 5, (.move (.t 47)), none⟩] [] []))))
def c_token_reader_step_k0 : List Nat := [6, 7, 8, 9, 10, 11, 12, 13, 14, 15, 16, 17, 18, 19, 20, 21, 22, 23, 24, 25, 26, 27, 28, 29, 30, 31, 32, 33, 34, 35, 36, 37, 38, 39, 40, 41, 42, 43, 44, 45, 46, 47]
def c_token_reader_step : ACFun := { ntmps := 48, results := [], body :=
  (.seq (.region [
    ⟨some 4, (.move (.t 1)), none⟩,
    ⟨some 5, (.move (.c (.s (.int .i64 0)))), none⟩] [] [])
  (.block 0
    (.loop c_token_reader_step_k0 c_token_reader_step_l0))) }
def c_token_reader_far_l0 : ACode :=
  (.seq (.seq (.region [
    ⟨some 6, (.move (.t 0)), none⟩,
    ⟨some 7, (.nilCheck (.t 6)), none⟩,
    ⟨some 8, (.fieldAddr 3 (.t 7)), none⟩,
    ⟨some 9, (.load false 1 (.t 8)), none⟩,
    ⟨some 10, (.move (.t 5)), none⟩,
    ⟨some 11, (.bin .add (.t 9) (.t 10)), none⟩,
    ⟨some 12, (.move (.t 0)), none⟩,
    ⟨some 13, (.nilCheck (.t 12)), none⟩,
    ⟨some 14, (.fieldAddr 2 (.t 13)), none⟩,
    ⟨some 15, (.load false 1 (.t 14)), none⟩,
    ⟨some 16, (.lenS .p (.t 15)), none⟩,
    ⟨some 17, (.bin .lss (.t 11) (.t 16)), none⟩,
    ⟨some 18, (.move (.t 17)), none⟩,
    ⟨some 19, (.move (.t 1)), some (18, true)⟩,
    ⟨some 20, (.move (.t 0)), some (18, true)⟩,
    ⟨some 21, (.nilCheck (.t 20)), some (18, true)⟩,
    ⟨some 22, (.fieldAddr 2 (.t 21)), some (18, true)⟩,
    ⟨some 23, (.load false 1 (.t 22)), some (18, true)⟩,
    ⟨some 24, (.move (.t 0)), some (18, true)⟩,
    ⟨some 25, (.nilCheck (.t 24)), some (18, true)⟩,
    ⟨some 26, (.fieldAddr 3 (.t 25)), some (18, true)⟩,
    ⟨some 27, (.load false 1 (.t 26)), some (18, true)⟩,
    ⟨some 28, (.move (.t 5)), some (18, true)⟩,
    ⟨some 29, (.bin .add (.t 27) (.t 28)), some (18, true)⟩,
    ⟨some 30, (.indexStr (.t 23) (.t 29)), some (18, true)⟩,
    ⟨some 31, (.call (.t 19) [(.t 30)]), some (18, true)⟩,
    ⟨some 32, (.pick (.t 18) (.t 31) (.c (.s (.bool false)))), none⟩] [] [])
  (.cond (.t 32)
    .skip
    (.exit 0)))
  (.block 1
    (.region [
      ⟨some 33, (.move (.t 5)), none⟩,
      ⟨some 34, (.bin .add (.t 33) (.c (.s (.int .i64 1)))), none⟩,
      ⟨some 5, (.move (.t 34)), none⟩] [] [])))
def c_token_reader_far_k0 : List Nat := [6, 7, 8, 9, 10, 11, 12, 13, 14, 15, 16, 17, 18, 19, 20, 21, 22, 23, 24, 25, 26, 27, 28, 29, 30, 31, 32, 33, 34]
def c_token_reader_far : ACFun := { ntmps := 36, results := [(.tmp 4)], body :=
  (.seq (.region [
    ⟨some 4, (.move (.c (.s (.int .i64 0)))), none⟩] [] [])
  (.seq (.region [
    ⟨some 5, (.move (.c (.s (.int .i64 0)))), none⟩] [] [])
  (.seq (.block 0
    (.loop c_token_reader_far_k0 c_token_reader_far_l0))
  (.seq (.region [
    ⟨some 35, (.move (.t 5)), none⟩,
    ⟨some 4, (.move (.t 35)), none⟩] [] [])
  .ret)))) }
def c_token_Lex_2 : ACFun := { ntmps := 5, results := [(.tmp 2)], body :=
  (.seq (.region [
    ⟨some 2, (.move (.c (.s (.bool false)))), none⟩] [] [])
  (.seq (.region [
    ⟨some 3, (.move (.t 0)), none⟩,
    ⟨some 4, (.bin .neq (.t 3) (.c (.s (.int .u8 10)))), none⟩,
    ⟨some 2, (.move (.t 4)), none⟩] [] [])
  .ret)) }
def c_token_letter : ACFun := { ntmps := 21, results := [(.tmp 2)], body :=
  (.seq (.region [
    ⟨some 2, (.move (.c (.s (.bool false)))), none⟩] [] [])
  (.seq (.region [
    ⟨some 3, (.move (.t 0)), none⟩,
    ⟨some 4, (.bin .geq (.t 3) (.c (.s (.int .u8 97)))), none⟩,
    ⟨some 5, (.move (.t 4)), none⟩,
    ⟨some 6, (.move (.t 0)), some (5, true)⟩,
    ⟨some 7, (.bin .leq (.t 6) (.c (.s (.int .u8 122)))), some (5, true)⟩,
    ⟨some 8, (.pick (.t 5) (.t 7) (.c (.s (.bool false)))), none⟩,
    ⟨some 9, (.move (.t 8)), none⟩,
    ⟨some 10, (.move (.t 0)), some (9, false)⟩,
    ⟨some 11, (.bin .geq (.t 10) (.c (.s (.int .u8 65)))), some (9, false)⟩,
    ⟨some 12, (.move (.t 11)), some (9, false)⟩,
    ⟨some 13, (.move (.t 0)), some (12, true)⟩,
    ⟨some 14, (.bin .leq (.t 13) (.c (.s (.int .u8 90)))), some (12, true)⟩,
    ⟨some 15, (.pick (.t 12) (.t 14) (.c (.s (.bool false)))), some (9, false)⟩,
    ⟨some 16, (.pick (.t 9) (.c (.s (.bool true))) (.t 15)), none⟩,
    ⟨some 17, (.move (.t 16)), none⟩,
    ⟨some 18, (.move (.t 0)), some (17, false)⟩,
    ⟨some 19, (.bin .eql (.t 18) (.c (.s (.int .u8 95)))), some (17, false)⟩,
    ⟨some 20, (.pick (.t 17) (.c (.s (.bool true))) (.t 19)), none⟩,
    ⟨some 2, (.move (.t 20)), none⟩] [] [])
  .ret)) }
def c_token_within : ACFun := { ntmps := 13, results := [(.tmp 2)], body :=
  (.seq (.region [
    ⟨some 2, (.move (.c (.s (.bool false)))), none⟩] [] [])
  (.seq (.region [
    ⟨some 3, (.move (.t 0)), none⟩,
    ⟨some 4, (.call (.c (.fn 18 [] [])) [(.t 3)]), none⟩,
    ⟨some 5, (.move (.t 4)), none⟩,
    ⟨some 6, (.move (.t 0)), some (5, false)⟩,
    ⟨some 7, (.call (.c (.fn 20 [] [])) [(.t 6)]), some (5, false)⟩,
    ⟨some 8, (.pick (.t 5) (.c (.s (.bool true))) (.t 7)), none⟩,
    ⟨some 9, (.move (.t 8)), none⟩,
    ⟨some 10, (.move (.t 0)), some (9, false)⟩,
    ⟨some 11, (.bin .eql (.t 10) (.c (.s (.int .u8 46)))), some (9, false)⟩,
    ⟨some 12, (.pick (.t 9) (.c (.s (.bool true))) (.t 11)), none⟩,
    ⟨some 2, (.move (.t 12)), none⟩] [] [])
  .ret)) }
def c_token_digit : ACFun := { ntmps := 9, results := [(.tmp 2)], body :=
  (.seq (.region [
    ⟨some 2, (.move (.c (.s (.bool false)))), none⟩] [] [])
  (.seq (.region [
    ⟨some 3, (.move (.t 0)), none⟩,
    ⟨some 4, (.bin .geq (.t 3) (.c (.s (.int .u8 48)))), none⟩,
    ⟨some 5, (.move (.t 4)), none⟩,
    ⟨some 6, (.move (.t 0)), some (5, true)⟩,
    ⟨some 7, (.bin .leq (.t 6) (.c (.s (.int .u8 57)))), some (5, true)⟩,
    ⟨some 8, (.pick (.t 5) (.t 7) (.c (.s (.bool false)))), none⟩,
    ⟨some 2, (.move (.t 8)), none⟩] [] [])
  .ret)) }
def CQ : Nat → Option CFun
  | 8 => some (.code c_token_Lex)
  | 11 => some (.code c_gnomonlaw03_lexes)
  | 13 => some (.code c_token_Lex_1)
  | 14 => some (.code c_token_reader_step)
  | 16 => some (.code c_token_reader_far)
  | 17 => some (.code c_token_Lex_2)
  | 18 => some (.code c_token_letter)
  | 19 => some (.code c_token_within)
  | 20 => some (.code c_token_digit)
  | _ => none
theorem CQ_8 : compK Tryd.prog PX0 8 = some (false, c_token_Lex.ntmps, c_token_Lex.results, c_token_Lex.body.bare) := by kernel_rfl
theorem CQ_11 : compK Tryd.prog PX0 11 = some (false, c_gnomonlaw03_lexes.ntmps, c_gnomonlaw03_lexes.results, c_gnomonlaw03_lexes.body.bare) := by kernel_rfl
theorem CQ_13 : compK Tryd.prog PX0 13 = some (false, c_token_Lex_1.ntmps, c_token_Lex_1.results, c_token_Lex_1.body.bare) := by kernel_rfl
theorem CQ_14 : compK Tryd.prog PX0 14 = some (false, c_token_reader_step.ntmps, c_token_reader_step.results, c_token_reader_step.body.bare) := by kernel_rfl
theorem CQ_16 : compK Tryd.prog PX0 16 = some (false, c_token_reader_far.ntmps, c_token_reader_far.results, c_token_reader_far.body.bare) := by kernel_rfl
theorem CQ_17 : compK Tryd.prog PX0 17 = some (false, c_token_Lex_2.ntmps, c_token_Lex_2.results, c_token_Lex_2.body.bare) := by kernel_rfl
theorem CQ_18 : compK Tryd.prog PX0 18 = some (false, c_token_letter.ntmps, c_token_letter.results, c_token_letter.body.bare) := by kernel_rfl
theorem CQ_19 : compK Tryd.prog PX0 19 = some (false, c_token_within.ntmps, c_token_within.results, c_token_within.body.bare) := by kernel_rfl
theorem CQ_20 : compK Tryd.prog PX0 20 = some (false, c_token_digit.ntmps, c_token_digit.results, c_token_digit.body.bare) := by kernel_rfl
theorem CQ_ok (fx : Nat → Option (Array Value × TypeId × Nat × Nat)) : ∀ k c, CQ k = some c → FunOk Tryd.prog (PXf fx) k c := by
  intro k c h
  unfold CQ at h
  split at h
  · cases h; exact funOk_f fx CQ_8
  · cases h; exact funOk_f fx CQ_11
  · cases h; exact funOk_f fx CQ_13
  · cases h; exact funOk_f fx CQ_14
  · cases h; exact funOk_f fx CQ_16
  · cases h; exact funOk_f fx CQ_17
  · cases h; exact funOk_f fx CQ_18
  · cases h; exact funOk_f fx CQ_19
  · cases h; exact funOk_f fx CQ_20
  · cases h
def CQp (k : Nat) : Option CFun := if k = 15 then some (.prim idxG) else if k = 21 then some (.prim atoiG) else CQ k
theorem lexes_true : givesE CQp 400 11 = some (bl true) := by kernel_rfl
end Go.Proofs.YtfnkpedipicjnaaDoor
namespace Go.AM
def am0 := And.intro @evC_skip (And.intro @evC_exit (And.intro @evC_ret (And.intro @evC_seq (And.intro @evC_block (And.intro @evC_cond (And.intro @evC_loop (And.intro @evC_row (And.intro @thenC_nrm (And.intro @thenC_ext (And.intro @thenC_ret (And.intro @thenC_none (And.intro @thenC_cond (And.intro @outC_nrm (And.intro @outC_ret (And.intro @outC_ext (And.intro @outC_none (And.intro @outC_cond (And.intro @condC_bool (And.intro @rowC_some (And.intro @opsC_some (And.intro @Bool.not_true (And.intro @Bool.not_false (And.intro @Bool.and_false (And.intro @Bool.false_and (And.intro @taleR_true (And.intro @setOuts_nil (And.intro @setOuts_cons (And.intro @outE_some (And.intro @reqE_nil (And.intro @reqE_cons (And.intro @reqB_bool (And.intro @Bool.and_true (And.intro @Bool.true_and (And.intro @V1_some (And.intro @V2_some (And.intro @evE_t (And.intro @evE_c (And.intro @evE_pick (@pickO_bool)))))))))))))))))))))))))))))))))))))))
def am1 := And.intro @pickO_true (And.intro @pickO_false (And.intro @evE_bin (And.intro @evE_binL (And.intro @evE_binR (And.intro @evE_eqB (And.intro @evE_eqBL (And.intro @evE_eqBR (And.intro @evE_eqAgg (And.intro @evE_eqAggL (And.intro @evE_eqAggR (And.intro @evE_indexAddr (And.intro @evE_indexAddrL (And.intro @evE_indexAddrR (And.intro @evE_indexStr (And.intro @evE_indexStrL (And.intro @evE_indexStrR (And.intro @evE_minmax (And.intro @evE_minmaxL (And.intro @evE_minmaxR (And.intro @evE_mapGet (And.intro @evE_mapGetL (And.intro @evE_mapGetR (And.intro @evE_nilCheck (And.intro @evE_eqNil (And.intro @evE_un (And.intro @evE_conv (And.intro @evE_convId (And.intro @evE_fieldAddr (And.intro @evE_field (And.intro @evE_extract (And.intro @evE_lenS (And.intro @evE_load (And.intro @evE_build (And.intro @evE_mkFn (And.intro @evE_subStr (And.intro @evE_subSl (And.intro @evEs_nil (And.intro @evEs_cons (@L1_some)))))))))))))))))))))))))))))))))))))))
def am2 := And.intro @frOf_get (And.intro @frOf_set (And.intro @frOf_kill (And.intro @getV_cons (And.intro @getV_nil (And.intro @putV_cons (And.intro @putV_nil (And.intro @killV_cons (And.intro @killV_nil (And.intro @startV_cons (And.intro @not_true_eq_false (And.intro @not_false_eq_true (And.intro @Bool.or_false (And.intro @Bool.false_or (And.intro @Bool.or_true (And.intro @Bool.true_or (And.intro @Bool.false_eq_true (And.intro @decide_true (And.intro @decide_false (And.intro @Int.toNat_natCast (And.intro @Int.natCast_nonneg (And.intro @Bool.cond_true_left (And.intro @Bool.cond_false_right (And.intro @Bool.cond_false_left (And.intro @Bool.cond_true_right (And.intro @free_row (And.intro @kept_row (And.intro @stepW_nrm (And.intro @stepW_ext (And.intro @stepW_ret (And.intro @stepW_cond (And.intro @trim_self (And.intro @retC_nrm (And.intro @retC_ret (And.intro @retC_cond (And.intro @resultV1 (And.intro @resultV2 (And.intro @resV_tmp (And.intro @resV_cell (@evOps_nil)))))))))))))))))))))))))))))))))))))))
def am3 := And.intro @evOps_cons (And.intro @evOps_guard (And.intro @opK_bool (And.intro @wantV_bool (And.intro @wantV_und (And.intro @resK_some (And.intro @put_some (And.intro @put_none (And.intro @resK_cond (And.intro @opsC_cond (And.intro @ev_t (And.intro @ev_c (And.intro @beq_true (And.intro @beq_false (And.intro @op_bin (And.intro @op_eqB (And.intro @op_eqAgg (And.intro @op_indexAddr (And.intro @op_indexStr (And.intro @op_minmax (And.intro @op_nilCheck (And.intro @op_eqNil (And.intro @op_un (And.intro @op_conv (And.intro @op_convId (And.intro @op_fieldAddr (And.intro @op_field (And.intro @op_extract (And.intro @op_lenS (And.intro @op_load (And.intro @op_mapGet (And.intro @op_move (And.intro @op_alloc (And.intro @op_box (And.intro @op_mapNew (And.intro @op_store (And.intro @op_mkFn (And.intro @op_append (And.intro @op_call (@op_callR)))))))))))))))))))))))))))))))))))))))
def am4 := And.intro @op_build (And.intro @op_buildSl (And.intro @mkSlV_some (And.intro @RH_some (And.intro @RS_some (And.intro @evOp_pick (And.intro @pickR_bool (And.intro @pickR_same (And.intro @Bool.bne_false (And.intro @Bool.bne_true (And.intro @xb_add (And.intro @xb_sub (And.intro @xb_mul (And.intro @xb_eql (And.intro @xb_neq (And.intro @xb_lss (And.intro @xb_leq (And.intro @xb_gtr (And.intro @xb_geq (And.intro @xb_and (And.intro @xb_or (And.intro @xb_xor (And.intro @xb_andNot (And.intro @xb_quo (And.intro @xb_rem (And.intro @xb_shl (And.intro @xb_shr (And.intro @xs_eql (And.intro @xs_neq (And.intro @xs_lss (And.intro @xs_add (And.intro @xq_b (And.intro @xn_pn (And.intro @xn_pr (And.intro @xn_pp (And.intro @xn_sn (And.intro @xn_ss (And.intro @xn_sp (And.intro @xn_se (@xn_mn)))))))))))))))))))))))))))))))))))))))
def am5 := And.intro @xn_mm (And.intro @xn_fn (And.intro @xn_ff (And.intro @xn_fy (And.intro @xg (And.intro @xu_not (And.intro @xu_neg (And.intro @xc_int (And.intro @xc_id (And.intro @xk_ref (And.intro @xk_pref (And.intro @xk_fn (And.intro @xk_yld (And.intro @xa_ref (And.intro @xa_pref (And.intro @xf_agg (And.intro @xi_sl (And.intro @xi_psl (And.intro @xj_str (And.intro @xe_tup (And.intro @xl_str (And.intro @xl_nil (And.intro @xl_esl (And.intro @xl_psl (And.intro @xl_sl (And.intro @xl_mnil (And.intro @xo_ref (And.intro @xo_pref (And.intro @xm (And.intro @shut_agg (And.intro @shut_one (And.intro @Nat.le_refl (And.intro @and_self (And.intro @and_true (And.intro @true_and (And.intro @Nat.zero_add (And.intro @Nat.mul_one (And.intro @Nat.add_zero (And.intro @set_set' (@bndV_none)))))))))))))))))))))))))))))))))))))))
def am6 := And.intro @bndV_int (And.intro @xslice_nil (And.intro @xslice_esl (And.intro @xslice_psl (And.intro @xslice_sl (And.intro @cutSl_some (And.intro @cutPsl_some (And.intro @cutNil_some (And.intro @op_subSl (And.intro @xsub_sl (And.intro @op_clear (And.intro @Int.sub_zero (And.intro @Int.le_refl (And.intro @cast0 (And.intro @toNat0 (And.intro @getC_snoc (And.intro @obC_same (And.intro @len_snoc (And.intro @ne_add (And.intro @add_ne (And.intro @one_int (And.intro @one_str (And.intro @one_bool (And.intro @one_nilS (And.intro @one_ref (And.intro @one_sl (And.intro @one_psl (And.intro @one_esl (And.intro @one_mp (And.intro @one_fn (And.intro @cells_agg (And.intro @cells_s (And.intro @cells_sl (And.intro @cells_psl (And.intro @cells_ref (And.intro @cells_esl (And.intro @cells_mp (And.intro @fillA_nil (And.intro @startA_nil (@startA_cons)))))))))))))))))))))))))))))))))))))))
def am7 := And.intro @segC_some (And.intro @segL_some (And.intro @set_snoc' (And.intro @storeV_ref (@Nat.add_assoc))))
def al0 := @Bool.cond_self
def al1 := @List.all_cons
def al2 := @List.all_nil
def al3 := @Option.isSome_some
def al4 := @Option.map_some
def al5 := @ne_eq
def al6 := @if_false
def al7 := @if_true
def al8 := @List.contains_cons
def al9 := @List.contains_nil
def al10 := @cond_true
def al11 := @cond_false
def al12 := @List.nil_append
def al13 := @List.append_nil
def al14 := @List.cons_append
def al15 := @List.map_cons
def al16 := @List.map_nil
def al17 := @beq_self_eq_true
def al18 := @bne_self_eq_false
def al19 := @List.getElem?_cons_zero
def al20 := @List.getElem?_cons_succ
def al21 := @List.drop_zero
def al22 := @List.drop_succ_cons
def al23 := @List.take_succ_cons
def al24 := @List.take_zero
def al25 := @List.take_nil
def al26 := @List.drop_nil
def al27 := @List.length_cons
def al28 := @List.length_nil
def al29 := @Option.map_none
def al30 := @List.getD_cons_zero
def al31 := @List.getD_cons_succ
def al32 := @List.length_set
def al33 := @List.set_cons_zero
def al34 := @List.set_cons_succ
end Go.AM
set_option maxRecDepth 100000
namespace Go.Proofs.YtfnkpedipicjnaaDoor
open Go.AM
abbrev k_token_Lex : Nat := 8
def s_token_Lex_r0_k : List Nat := [1, 2, 4, 5, 6, 7, 8, 9, 10, 11, 12, 13, 14, 15, 16, 17, 18, 19, 20, 21, 22, 23, 24, 25, 26, 27, 28, 29, 30, 31, 32, 33, 34, 35, 36, 37, 38, 39, 40, 41, 42, 43, 44, 45, 46, 47, 48, 49, 50, 51, 52, 53, 54, 55, 56, 57, 58, 59, 60, 61, 62, 63, 64, 65, 66, 67, 68, 69, 70, 71, 72, 73, 74, 75, 76, 77, 78, 79, 80, 81, 82, 83, 84, 85, 86, 87, 88, 89, 90, 91, 92, 93, 94, 95, 96, 97, 98, 99, 100, 101, 102, 103, 104, 105]
theorem s_token_Lex_r0_k_kA0 : s_token_Lex_r0_k.contains 0 = false := by kernel_rfl
theorem s_token_Lex_r0_k_kA2 : s_token_Lex_r0_k.contains 2 = true := by kernel_rfl
theorem s_token_Lex_r0_k_kA3 : s_token_Lex_r0_k.contains 3 = false := by kernel_rfl
theorem s_token_Lex_r0_k_kA4 : s_token_Lex_r0_k.contains 4 = true := by kernel_rfl
def s_token_Lex_r0t2 : List AOper := [⟨some 4, (.move (.c (.s (.int .i64 0)))), none⟩]
def s_token_Lex_r0p1 : List AOper := [⟨some 3, (.alloc [(.s (.int .i64 0)), (.s (.int .i64 0))]), none⟩]
def s_token_Lex_r0t1 : List AOper := s_token_Lex_r0p1 ++ s_token_Lex_r0t2
def s_token_Lex_r0p0 : List AOper := [⟨some 2, (.move (.c (.s (.slice none 0 0)))), none⟩]
def s_token_Lex_r0 : List AOper := s_token_Lex_r0p0 ++ s_token_Lex_r0t1
def s_token_Lex_r0p0_k : List Nat := [1, 2, 3, 4, 5, 6, 7, 8, 9, 10, 11, 12, 13, 14, 15, 16, 17, 18, 19, 20, 21, 22, 23, 24, 25, 26, 27, 28, 29, 30, 31, 32, 33, 34, 35, 36, 37, 38, 39, 40, 41, 42, 43, 44, 45, 46, 47, 48, 49, 50, 51, 52, 53, 54, 55, 56, 57, 58, 59, 60, 61, 62, 63, 64, 65, 66, 67, 68, 69, 70, 71, 72, 73, 74, 75, 76, 77, 78, 79, 80, 81, 82, 83, 84, 85, 86, 87, 88, 89, 90, 91, 92, 93, 94, 95, 96, 97, 98, 99, 100, 101, 102, 103, 104, 105]
theorem s_token_Lex_r0p0_k_kA0 : s_token_Lex_r0p0_k.contains 0 = false := by kernel_rfl
theorem s_token_Lex_r0p0_k_kA2 : s_token_Lex_r0p0_k.contains 2 = true := by kernel_rfl
theorem s_token_Lex_r0p0_k_kA3 : s_token_Lex_r0p0_k.contains 3 = true := by kernel_rfl
theorem s_token_Lex_r0p0_k_kA4 : s_token_Lex_r0p0_k.contains 4 = true := by kernel_rfl
theorem s_token_Lex_r0p0_tale (fr : List V) (H : Heap) : evTale (symAll s_token_Lex_r0p0 s_token_Lex_r0p0_k []) s_token_Lex_r0p0_k fr H = evTale (some (3, [], [])) s_token_Lex_r0p0_k fr H := tale_row (items := [.cc (.s (.slice none 0 0))]) (by kernel_rfl) fr H
theorem s_token_Lex_r0_x (call : CallF) (it : IterF) (base : Nat) (f : List V) (H : Heap) : evC call it base (.region s_token_Lex_r0 [] s_token_Lex_r0_k) f H = segC call it base s_token_Lex_r0t1 s_token_Lex_r0_k H (evTale (symAll s_token_Lex_r0p0 s_token_Lex_r0p0_k []) s_token_Lex_r0p0_k f H) (origRow call it base s_token_Lex_r0 s_token_Lex_r0_k f H) := row_seg call it base s_token_Lex_r0p0 s_token_Lex_r0t1 (by kernel_rfl) f H
theorem s_token_Lex_r0t1_x (call : CallF) (it : IterF) (base : Nat) (f : List V) (H : Heap) : evC call it base (.region s_token_Lex_r0t1 [] s_token_Lex_r0_k) f H = thenC call it base (.region s_token_Lex_r0t2 [] s_token_Lex_r0_k) (opsC [] s_token_Lex_r0p1 [] (evOps call base [⟨some 3, (.alloc [(.s (.int .i64 0)), (.s (.int .i64 0))]), none⟩] f H)) := (row_op call it base s_token_Lex_r0p1 s_token_Lex_r0t2 (kc := []) (by kernel_rfl) f H).trans (by rw [row_ops]; rfl)
theorem s_token_Lex_r0t2_tale (fr : List V) (H : Heap) : evTale (symAll s_token_Lex_r0t2 s_token_Lex_r0_k []) s_token_Lex_r0_k fr H = evTale (some (5, [], [])) s_token_Lex_r0_k fr H := tale_row (items := [.cc (.s (.int .i64 0))]) (by kernel_rfl) fr H
theorem s_token_Lex_r0t2_x (call : CallF) (it : IterF) (base : Nat) (f : List V) (H : Heap) : evC call it base (.region s_token_Lex_r0t2 [] s_token_Lex_r0_k) f H = segL H (evTale (symAll s_token_Lex_r0t2 s_token_Lex_r0_k []) s_token_Lex_r0_k f H) (origRow call it base s_token_Lex_r0t2 s_token_Lex_r0_k f H) := row_last call it base _ f H
def s_token_Lex_r1 : List AOper := [
  ⟨some 11, (.move (.t 0)), none⟩,
  ⟨some 12, (.lenS .p (.t 11)), none⟩,
  ⟨some 13, (.bin .gtr (.t 12) (.c (.s (.int .i64 1048576)))), none⟩]
theorem s_token_Lex_r1_tale (fr : List V) (H : Heap) : evTale (symAll s_token_Lex_r1 [11, 12] [13]) [11, 12] fr H = evTale (some (14, [], [(13, (.op (.bin .gtr (.t 0) (.c (.s (.int .i64 1048576)))) [(.op (.lenS .p (.t 0)) [(.t 0)]), (.c (.s (.int .i64 1048576)))]))])) [11, 12] fr H := tale_row (items := [.tt 0, .sub 0 [0] [], .sub 0 [] []]) (by kernel_rfl) fr H
def s_token_Lex_r2t2 : List AOper := [⟨some 4, (.move (.c (.s (.int .i64 2)))), none⟩]
def s_token_Lex_r2p1 : List AOper := [⟨none, (.store 2 (.t 3) (.t 14)), none⟩]
def s_token_Lex_r2t1 : List AOper := s_token_Lex_r2p1 ++ s_token_Lex_r2t2
def s_token_Lex_r2p0 : List AOper := [⟨some 14, (.build [(.s (.int .i64 0)), (.s (.int .i64 0))] [(0, 1), (1, 1)] []), none⟩, ⟨some 2, (.move (.c (.s (.slice none 0 0)))), none⟩]
def s_token_Lex_r2 : List AOper := s_token_Lex_r2p0 ++ s_token_Lex_r2t1
theorem s_token_Lex_r2p0_tale (fr : List V) (H : Heap) : evTale (symAll s_token_Lex_r2p0 [0, 13] [14, 2]) [0, 13] fr H = evTale (some (15, [], [(14, (.op (.build [(.s (.int .i64 0)), (.s (.int .i64 0))] [(0, 1), (1, 1)] []) [])), (2, (.c (.s (.slice none 0 0))))])) [0, 13] fr H := tale_row (items := [.sub 0 [] [], .cc (.s (.slice none 0 0))]) (by kernel_rfl) fr H
theorem s_token_Lex_r2_x (call : CallF) (it : IterF) (base : Nat) (f : List V) (H : Heap) : evC call it base (.region s_token_Lex_r2 [] [0, 13, 14]) f H = segC call it base s_token_Lex_r2t1 [0, 13, 14] H (evTale (symAll s_token_Lex_r2p0 [0, 13] [14, 2]) [0, 13] f H) (origRow call it base s_token_Lex_r2 [0, 13, 14] f H) := row_seg call it base s_token_Lex_r2p0 s_token_Lex_r2t1 (by kernel_rfl) f H
theorem s_token_Lex_r2t1_x (call : CallF) (it : IterF) (base : Nat) (f : List V) (H : Heap) : evC call it base (.region s_token_Lex_r2t1 [] [0, 13, 14]) f H = thenC call it base (.region s_token_Lex_r2t2 [] [0, 13, 14]) (opsC [] s_token_Lex_r2p1 [14] (evOps call base [⟨none, (.store 2 (.t 3) (.t 14)), none⟩] f H)) := (row_op call it base s_token_Lex_r2p1 s_token_Lex_r2t2 (kc := [14]) (by kernel_rfl) f H).trans (by rw [row_ops]; rfl)
theorem s_token_Lex_r2t2_tale (fr : List V) (H : Heap) : evTale (symAll s_token_Lex_r2t2 [0, 13, 14] [4]) [0, 13, 14] fr H = evTale (some (5, [], [(4, (.c (.s (.int .i64 2))))])) [0, 13, 14] fr H := tale_row (items := [.cc (.s (.int .i64 2))]) (by kernel_rfl) fr H
theorem s_token_Lex_r2t2_x (call : CallF) (it : IterF) (base : Nat) (f : List V) (H : Heap) : evC call it base (.region s_token_Lex_r2t2 [] [0, 13, 14]) f H = segL H (evTale (symAll s_token_Lex_r2t2 [0, 13, 14] [4]) [0, 13, 14] f H) (origRow call it base s_token_Lex_r2t2 [0, 13, 14] f H) := row_last call it base _ f H
def s_token_Lex_r3t3 : List AOper := [⟨none, (.store 1 (.t 5) (.t 18)), none⟩]
def s_token_Lex_r3p2 : List AOper := [⟨some 5, (.alloc [(.s (.pointer none))]), none⟩]
def s_token_Lex_r3t2 : List AOper := s_token_Lex_r3p2 ++ s_token_Lex_r3t3
def s_token_Lex_r3p1 : List AOper := [⟨some 18, (.box (.t 17)), none⟩]
def s_token_Lex_r3t1 : List AOper := s_token_Lex_r3p1 ++ s_token_Lex_r3t2
def s_token_Lex_r3p0 : List AOper := [⟨some 15, (.build [(.s (.int .i64 0)), (.s (.int .i64 0))] [(0, 1), (1, 1)] [(0, (.c (.s (.int .i64 1)))), (1, (.c (.s (.int .i64 1))))]), none⟩, ⟨some 16, (.move (.t 0)), none⟩, ⟨some 17, (.build [(.s (.int .i64 0)), (.s (.int .i64 0)), (.s (.string ⟨#[]⟩)), (.s (.int .i64 0))] [(0, 2), (2, 1), (3, 1)] [(0, (.t 15)), (1, (.t 16))]), none⟩]
def s_token_Lex_r3 : List AOper := s_token_Lex_r3p0 ++ s_token_Lex_r3t1
theorem s_token_Lex_r3p0_tale (fr : List V) (H : Heap) : evTale (symAll s_token_Lex_r3p0 [13, 15, 16] [17]) [13, 15, 16] fr H = evTale (some (18, [], [(17, (.op (.build [(.s (.int .i64 0)), (.s (.int .i64 0)), (.s (.string ⟨#[]⟩)), (.s (.int .i64 0))] [(0, 2), (2, 1), (3, 1)] [(0, (.t 0)), (1, (.t 1))]) [(.op (.build [(.s (.int .i64 0)), (.s (.int .i64 0))] [(0, 1), (1, 1)] [(0, (.c (.s (.int .i64 1)))), (1, (.c (.s (.int .i64 1))))]) [(.c (.s (.int .i64 1))), (.c (.s (.int .i64 1)))]), (.t 0)]))])) [13, 15, 16] fr H := tale_row (items := [.sub 0 [0] [], .tt 0, .sub 0 [] []]) (by kernel_rfl) fr H
theorem s_token_Lex_r3_x (call : CallF) (it : IterF) (base : Nat) (f : List V) (H : Heap) : evC call it base (.region s_token_Lex_r3 [] [13, 15, 16, 17, 18]) f H = segC call it base s_token_Lex_r3t1 [13, 15, 16, 17, 18] H (evTale (symAll s_token_Lex_r3p0 [13, 15, 16] [17]) [13, 15, 16] f H) (origRow call it base s_token_Lex_r3 [13, 15, 16, 17, 18] f H) := row_seg call it base s_token_Lex_r3p0 s_token_Lex_r3t1 (by kernel_rfl) f H
theorem s_token_Lex_r3t1_x (call : CallF) (it : IterF) (base : Nat) (f : List V) (H : Heap) : evC call it base (.region s_token_Lex_r3t1 [] [13, 15, 16, 17, 18]) f H = thenC call it base (.region s_token_Lex_r3t2 [] [13, 15, 16, 17, 18]) (opsC [] s_token_Lex_r3p1 [17] (evOps call base [⟨some 18, (.box (.t 17)), none⟩] f H)) := (row_op call it base s_token_Lex_r3p1 s_token_Lex_r3t2 (kc := [17]) (by kernel_rfl) f H).trans (by rw [row_ops]; rfl)
theorem s_token_Lex_r3t2_x (call : CallF) (it : IterF) (base : Nat) (f : List V) (H : Heap) : evC call it base (.region s_token_Lex_r3t2 [] [13, 15, 16, 17, 18]) f H = thenC call it base (.region s_token_Lex_r3t3 [] [13, 15, 16, 17, 18]) (opsC [] s_token_Lex_r3p2 [] (evOps call base [⟨some 5, (.alloc [(.s (.pointer none))]), none⟩] f H)) := (row_op call it base s_token_Lex_r3p2 s_token_Lex_r3t3 (kc := []) (by kernel_rfl) f H).trans (by rw [row_ops]; rfl)
theorem s_token_Lex_r3t3_x (call : CallF) (it : IterF) (base : Nat) (f : List V) (H : Heap) : evC call it base (.region s_token_Lex_r3t3 [] [13, 15, 16, 17, 18]) f H = opsC [] s_token_Lex_r3t3 [13, 15, 16, 17, 18] (evOps call base [⟨none, (.store 1 (.t 5) (.t 18)), none⟩] f H) := row_ops call it base _ _ f H
def s_token_Lex_r4 : List AOper := [⟨some 6, (.alloc [(.s (.slice none 0 0))]), none⟩]
theorem s_token_Lex_r4_x (call : CallF) (it : IterF) (base : Nat) (f : List V) (H : Heap) : evC call it base (.region s_token_Lex_r4 [] []) f H = opsC [] s_token_Lex_r4 [] (evOps call base [⟨some 6, (.alloc [(.s (.slice none 0 0))]), none⟩] f H) := row_ops call it base _ _ f H
def s_token_Lex_r5 : List AOper := [
  ⟨some 19, (.mkFn 13 [] [(.t 6), (.t 5)]), none⟩,
  ⟨some 7, (.move (.t 19)), none⟩]
theorem s_token_Lex_r5_tale (fr : List V) (H : Heap) : evTale (symAll s_token_Lex_r5 [19] [7]) [19] fr H = evTale (some (20, [], [(7, (.op (.mkFn 13 [] [(.t 0), (.t 1)]) [(.t 6), (.t 5)]))])) [19] fr H := tale_row (items := [.sub 0 [] [], .sub 0 [] []]) (by kernel_rfl) fr H
def s_token_Lex_r6 : List AOper := [
  ⟨some 20, (.load false 1 (.t 5)), none⟩,
  ⟨some 21, (.nilCheck (.t 20)), none⟩,
  ⟨some 22, (.fieldAddr 3 (.t 21)), none⟩,
  ⟨some 23, (.load false 1 (.t 22)), none⟩,
  ⟨some 24, (.move (.t 0)), none⟩,
  ⟨some 25, (.lenS .p (.t 24)), none⟩,
  ⟨some 26, (.bin .lss (.t 23) (.t 25)), none⟩]
theorem s_token_Lex_r6_tale (fr : List V) (H : Heap) : evTale (symAll s_token_Lex_r6 [20, 21, 22, 23, 24, 25] [26]) [20, 21, 22, 23, 24, 25] fr H = evTale (some (27, [], [(26, (.op (.bin .lss (.t 0) (.t 1)) [(.op (.load false 1 (.t 0)) [(.op (.fieldAddr 3 (.t 0)) [(.op (.nilCheck (.t 0)) [(.op (.load false 1 (.t 0)) [(.t 5)])])])]), (.op (.lenS .p (.t 0)) [(.t 0)])]))])) [20, 21, 22, 23, 24, 25] fr H := tale_row (items := [.sub 0 [0, 0, 0, 0] [], .sub 0 [0, 0, 0] [], .sub 0 [0, 0] [], .sub 0 [0] [], .tt 0, .sub 0 [1] [], .sub 0 [] []]) (by kernel_rfl) fr H
def s_token_Lex_r7 : List AOper := [
  ⟨some 27, (.move (.t 0)), none⟩,
  ⟨some 28, (.load false 1 (.t 5)), none⟩,
  ⟨some 29, (.nilCheck (.t 28)), none⟩,
  ⟨some 30, (.fieldAddr 3 (.t 29)), none⟩,
  ⟨some 31, (.load false 1 (.t 30)), none⟩,
  ⟨some 32, (.indexStr (.t 27) (.t 31)), none⟩,
  ⟨some 8, (.move (.t 32)), none⟩]
theorem s_token_Lex_r7_tale (fr : List V) (H : Heap) : evTale (symAll s_token_Lex_r7 [26, 27, 28, 29, 30, 31, 32] [8]) [26, 27, 28, 29, 30, 31, 32] fr H = evTale (some (33, [], [(8, (.op (.indexStr (.t 0) (.t 1)) [(.t 0), (.op (.load false 1 (.t 0)) [(.op (.fieldAddr 3 (.t 0)) [(.op (.nilCheck (.t 0)) [(.op (.load false 1 (.t 0)) [(.t 5)])])])])]))])) [26, 27, 28, 29, 30, 31, 32] fr H := tale_row (items := [.tt 0, .sub 0 [1, 0, 0, 0] [], .sub 0 [1, 0, 0] [], .sub 0 [1, 0] [], .sub 0 [1] [], .sub 0 [] [], .sub 0 [] []]) (by kernel_rfl) fr H
def s_token_Lex_r8t2 : List AOper := [⟨some 40, (.bin .geq (.t 39) (.c (.s (.int .i64 0)))), none⟩, ⟨some 37, (.move (.t 40)), none⟩]
def s_token_Lex_r8p1 : List AOper := [⟨some 39, (.call (.c (.fn 15 [] [])) [(.c (.s (.string ⟨#[32, 9, 13, 10]⟩))), (.t 38)]), none⟩]
def s_token_Lex_r8t1 : List AOper := s_token_Lex_r8p1 ++ s_token_Lex_r8t2
def s_token_Lex_r8p0 : List AOper := [⟨some 38, (.move (.t 8)), none⟩]
def s_token_Lex_r8 : List AOper := s_token_Lex_r8p0 ++ s_token_Lex_r8t1
theorem s_token_Lex_r8p0_tale (fr : List V) (H : Heap) : evTale (symAll s_token_Lex_r8p0 [] [38]) [] fr H = evTale (some (39, [], [(38, (.t 8))])) [] fr H := tale_row (items := [.tt 8]) (by kernel_rfl) fr H
theorem s_token_Lex_r8_x (call : CallF) (it : IterF) (base : Nat) (f : List V) (H : Heap) : evC call it base (.region s_token_Lex_r8 [] [38, 39, 40]) f H = segC call it base s_token_Lex_r8t1 [38, 39, 40] H (evTale (symAll s_token_Lex_r8p0 [] [38]) [] f H) (origRow call it base s_token_Lex_r8 [38, 39, 40] f H) := row_seg call it base s_token_Lex_r8p0 s_token_Lex_r8t1 (by kernel_rfl) f H
theorem s_token_Lex_r8t1_x (call : CallF) (it : IterF) (base : Nat) (f : List V) (H : Heap) : evC call it base (.region s_token_Lex_r8t1 [] [38, 39, 40]) f H = thenC call it base (.region s_token_Lex_r8t2 [] [38, 39, 40]) (opsC [] s_token_Lex_r8p1 [38] (evOps call base [⟨some 39, (.call (.c (.fn 15 [] [])) [(.c (.s (.string ⟨#[32, 9, 13, 10]⟩))), (.t 38)]), none⟩] f H)) := (row_op call it base s_token_Lex_r8p1 s_token_Lex_r8t2 (kc := [38]) (by kernel_rfl) f H).trans (by rw [row_ops]; rfl)
theorem s_token_Lex_r8t2_tale (fr : List V) (H : Heap) : evTale (symAll s_token_Lex_r8t2 [38, 39, 40] [37]) [38, 39, 40] fr H = evTale (some (41, [], [(37, (.op (.bin .geq (.t 0) (.c (.s (.int .i64 0)))) [(.t 39), (.c (.s (.int .i64 0)))]))])) [38, 39, 40] fr H := tale_row (items := [.sub 0 [] [], .sub 0 [] []]) (by kernel_rfl) fr H
theorem s_token_Lex_r8t2_x (call : CallF) (it : IterF) (base : Nat) (f : List V) (H : Heap) : evC call it base (.region s_token_Lex_r8t2 [] [38, 39, 40]) f H = segL H (evTale (symAll s_token_Lex_r8t2 [38, 39, 40] [37]) [38, 39, 40] f H) (origRow call it base s_token_Lex_r8t2 [38, 39, 40] f H) := row_last call it base _ f H
def s_token_Lex_r9t1 : List AOper := [⟨some 42, (.call (.c (.fn 14 [] [])) [(.t 41), (.c (.s (.int .i64 1)))]), none⟩]
def s_token_Lex_r9p0 : List AOper := [⟨some 41, (.load false 1 (.t 5)), none⟩]
def s_token_Lex_r9 : List AOper := s_token_Lex_r9p0 ++ s_token_Lex_r9t1
theorem s_token_Lex_r9p0_tale (fr : List V) (H : Heap) : evTale (symAll s_token_Lex_r9p0 [8, 37] [41]) [8, 37] fr H = evTale (some (42, [], [(41, (.op (.load false 1 (.t 0)) [(.t 5)]))])) [8, 37] fr H := tale_row (items := [.sub 0 [] []]) (by kernel_rfl) fr H
theorem s_token_Lex_r9_x (call : CallF) (it : IterF) (base : Nat) (f : List V) (H : Heap) : evC call it base (.region s_token_Lex_r9 [] [8, 37, 41, 42]) f H = segC call it base s_token_Lex_r9t1 [8, 37, 41, 42] H (evTale (symAll s_token_Lex_r9p0 [8, 37] [41]) [8, 37] f H) (origRow call it base s_token_Lex_r9 [8, 37, 41, 42] f H) := row_seg call it base s_token_Lex_r9p0 s_token_Lex_r9t1 (by kernel_rfl) f H
theorem s_token_Lex_r9t1_x (call : CallF) (it : IterF) (base : Nat) (f : List V) (H : Heap) : evC call it base (.region s_token_Lex_r9t1 [] [8, 37, 41, 42]) f H = opsC [] s_token_Lex_r9t1 [8, 37, 41, 42] (evOps call base [⟨some 42, (.call (.c (.fn 14 [] [])) [(.t 41), (.c (.s (.int .i64 1)))]), none⟩] f H) := row_ops call it base _ _ f H
def s_token_Lex_r10 : List AOper := [
  ⟨some 44, (.move (.t 8)), none⟩,
  ⟨some 45, (.bin .eql (.t 44) (.c (.s (.int .u8 59)))), none⟩,
  ⟨some 43, (.move (.t 45)), none⟩]
theorem s_token_Lex_r10_tale (fr : List V) (H : Heap) : evTale (symAll s_token_Lex_r10 [37, 44, 45] [43]) [37, 44, 45] fr H = evTale (some (46, [], [(43, (.op (.bin .eql (.t 0) (.c (.s (.int .u8 59)))) [(.t 8), (.c (.s (.int .u8 59)))]))])) [37, 44, 45] fr H := tale_row (items := [.tt 8, .sub 0 [] [], .sub 0 [] []]) (by kernel_rfl) fr H
def s_token_Lex_r11t2 : List AOper := [⟨some 49, (.call (.c (.fn 14 [] [])) [(.t 46), (.t 48)]), none⟩]
def s_token_Lex_r11p1 : List AOper := [⟨some 48, (.callR (.c (.fn 16 [] [])) [(.t 47), (.c (.fn 17 [] []))]), none⟩]
def s_token_Lex_r11t1 : List AOper := s_token_Lex_r11p1 ++ s_token_Lex_r11t2
def s_token_Lex_r11p0 : List AOper := [⟨some 46, (.load false 1 (.t 5)), none⟩, ⟨some 47, (.load false 1 (.t 5)), none⟩]
def s_token_Lex_r11 : List AOper := s_token_Lex_r11p0 ++ s_token_Lex_r11t1
theorem s_token_Lex_r11p0_tale (fr : List V) (H : Heap) : evTale (symAll s_token_Lex_r11p0 [8, 43] [46, 47]) [8, 43] fr H = evTale (some (48, [], [(46, (.op (.load false 1 (.t 0)) [(.t 5)])), (47, (.op (.load false 1 (.t 0)) [(.t 5)]))])) [8, 43] fr H := tale_row (items := [.sub 0 [] [], .sub 0 [] []]) (by kernel_rfl) fr H
theorem s_token_Lex_r11_x (call : CallF) (it : IterF) (base : Nat) (f : List V) (H : Heap) : evC call it base (.region s_token_Lex_r11 [] [8, 43, 46, 47, 48, 49]) f H = segC call it base s_token_Lex_r11t1 [8, 43, 46, 47, 48, 49] H (evTale (symAll s_token_Lex_r11p0 [8, 43] [46, 47]) [8, 43] f H) (origRow call it base s_token_Lex_r11 [8, 43, 46, 47, 48, 49] f H) := row_seg call it base s_token_Lex_r11p0 s_token_Lex_r11t1 (by kernel_rfl) f H
theorem s_token_Lex_r11t1_x (call : CallF) (it : IterF) (base : Nat) (f : List V) (H : Heap) : evC call it base (.region s_token_Lex_r11t1 [] [8, 43, 46, 47, 48, 49]) f H = thenC call it base (.region s_token_Lex_r11t2 [] [8, 43, 46, 47, 48, 49]) (opsC [] s_token_Lex_r11p1 [47] (evOps call base [⟨some 48, (.callR (.c (.fn 16 [] [])) [(.t 47), (.c (.fn 17 [] []))]), none⟩] f H)) := (row_op call it base s_token_Lex_r11p1 s_token_Lex_r11t2 (kc := [47]) (by kernel_rfl) f H).trans (by rw [row_ops]; rfl)
theorem s_token_Lex_r11t2_x (call : CallF) (it : IterF) (base : Nat) (f : List V) (H : Heap) : evC call it base (.region s_token_Lex_r11t2 [] [8, 43, 46, 47, 48, 49]) f H = opsC [] s_token_Lex_r11t2 [8, 43, 46, 47, 48, 49] (evOps call base [⟨some 49, (.call (.c (.fn 14 [] [])) [(.t 46), (.t 48)]), none⟩] f H) := row_ops call it base _ _ f H
def s_token_Lex_r12t2 : List AOper := [⟨some 50, (.move (.t 52)), none⟩]
def s_token_Lex_r12p1 : List AOper := [⟨some 52, (.call (.c (.fn 18 [] [])) [(.t 51)]), none⟩]
def s_token_Lex_r12t1 : List AOper := s_token_Lex_r12p1 ++ s_token_Lex_r12t2
def s_token_Lex_r12p0 : List AOper := [⟨some 51, (.move (.t 8)), none⟩]
def s_token_Lex_r12 : List AOper := s_token_Lex_r12p0 ++ s_token_Lex_r12t1
theorem s_token_Lex_r12p0_tale (fr : List V) (H : Heap) : evTale (symAll s_token_Lex_r12p0 [43] [51]) [43] fr H = evTale (some (52, [], [(51, (.t 8))])) [43] fr H := tale_row (items := [.tt 8]) (by kernel_rfl) fr H
theorem s_token_Lex_r12_x (call : CallF) (it : IterF) (base : Nat) (f : List V) (H : Heap) : evC call it base (.region s_token_Lex_r12 [] [43, 51, 52]) f H = segC call it base s_token_Lex_r12t1 [43, 51, 52] H (evTale (symAll s_token_Lex_r12p0 [43] [51]) [43] f H) (origRow call it base s_token_Lex_r12 [43, 51, 52] f H) := row_seg call it base s_token_Lex_r12p0 s_token_Lex_r12t1 (by kernel_rfl) f H
theorem s_token_Lex_r12t1_x (call : CallF) (it : IterF) (base : Nat) (f : List V) (H : Heap) : evC call it base (.region s_token_Lex_r12t1 [] [43, 51, 52]) f H = thenC call it base (.region s_token_Lex_r12t2 [] [43, 51, 52]) (opsC [] s_token_Lex_r12p1 [51] (evOps call base [⟨some 52, (.call (.c (.fn 18 [] [])) [(.t 51)]), none⟩] f H)) := (row_op call it base s_token_Lex_r12p1 s_token_Lex_r12t2 (kc := [51]) (by kernel_rfl) f H).trans (by rw [row_ops]; rfl)
theorem s_token_Lex_r12t2_tale (fr : List V) (H : Heap) : evTale (symAll s_token_Lex_r12t2 [43, 51, 52] [50]) [43, 51, 52] fr H = evTale (some (51, [], [(50, (.t 52))])) [43, 51, 52] fr H := tale_row (items := [.tt 52]) (by kernel_rfl) fr H
theorem s_token_Lex_r12t2_x (call : CallF) (it : IterF) (base : Nat) (f : List V) (H : Heap) : evC call it base (.region s_token_Lex_r12t2 [] [43, 51, 52]) f H = segL H (evTale (symAll s_token_Lex_r12t2 [43, 51, 52] [50]) [43, 51, 52] f H) (origRow call it base s_token_Lex_r12t2 [43, 51, 52] f H) := row_last call it base _ f H
def s_token_Lex_r13t2 : List AOper := [⟨some 56, (.call (.t 53) [(.c (.s (.int .u8 1))), (.t 55)]), none⟩]
def s_token_Lex_r13p1 : List AOper := [⟨some 55, (.call (.c (.fn 16 [] [])) [(.t 54), (.c (.fn 19 [] []))]), none⟩]
def s_token_Lex_r13t1 : List AOper := s_token_Lex_r13p1 ++ s_token_Lex_r13t2
def s_token_Lex_r13p0 : List AOper := [⟨some 53, (.move (.t 7)), none⟩, ⟨some 54, (.load false 1 (.t 5)), none⟩]
def s_token_Lex_r13 : List AOper := s_token_Lex_r13p0 ++ s_token_Lex_r13t1
theorem s_token_Lex_r13p0_tale (fr : List V) (H : Heap) : evTale (symAll s_token_Lex_r13p0 [8, 50] [53, 54]) [8, 50] fr H = evTale (some (55, [], [(53, (.t 7)), (54, (.op (.load false 1 (.t 0)) [(.t 5)]))])) [8, 50] fr H := tale_row (items := [.tt 7, .sub 1 [] []]) (by kernel_rfl) fr H
theorem s_token_Lex_r13_x (call : CallF) (it : IterF) (base : Nat) (f : List V) (H : Heap) : evC call it base (.region s_token_Lex_r13 [] [8, 50, 53, 54, 55, 56]) f H = segC call it base s_token_Lex_r13t1 [8, 50, 53, 54, 55, 56] H (evTale (symAll s_token_Lex_r13p0 [8, 50] [53, 54]) [8, 50] f H) (origRow call it base s_token_Lex_r13 [8, 50, 53, 54, 55, 56] f H) := row_seg call it base s_token_Lex_r13p0 s_token_Lex_r13t1 (by kernel_rfl) f H
theorem s_token_Lex_r13t1_x (call : CallF) (it : IterF) (base : Nat) (f : List V) (H : Heap) : evC call it base (.region s_token_Lex_r13t1 [] [8, 50, 53, 54, 55, 56]) f H = thenC call it base (.region s_token_Lex_r13t2 [] [8, 50, 53, 54, 55, 56]) (opsC [] s_token_Lex_r13p1 [54] (evOps call base [⟨some 55, (.call (.c (.fn 16 [] [])) [(.t 54), (.c (.fn 19 [] []))]), none⟩] f H)) := (row_op call it base s_token_Lex_r13p1 s_token_Lex_r13t2 (kc := [54]) (by kernel_rfl) f H).trans (by rw [row_ops]; rfl)
theorem s_token_Lex_r13t2_x (call : CallF) (it : IterF) (base : Nat) (f : List V) (H : Heap) : evC call it base (.region s_token_Lex_r13t2 [] [8, 50, 53, 54, 55, 56]) f H = opsC [] s_token_Lex_r13t2 [8, 50, 53, 54, 55, 56] (evOps call base [⟨some 56, (.call (.t 53) [(.c (.s (.int .u8 1))), (.t 55)]), none⟩] f H) := row_ops call it base _ _ f H
def s_token_Lex_r14t2 : List AOper := [⟨some 57, (.move (.t 59)), none⟩]
def s_token_Lex_r14p1 : List AOper := [⟨some 59, (.call (.c (.fn 20 [] [])) [(.t 58)]), none⟩]
def s_token_Lex_r14t1 : List AOper := s_token_Lex_r14p1 ++ s_token_Lex_r14t2
def s_token_Lex_r14p0 : List AOper := [⟨some 58, (.move (.t 8)), none⟩]
def s_token_Lex_r14 : List AOper := s_token_Lex_r14p0 ++ s_token_Lex_r14t1
theorem s_token_Lex_r14p0_tale (fr : List V) (H : Heap) : evTale (symAll s_token_Lex_r14p0 [50] [58]) [50] fr H = evTale (some (59, [], [(58, (.t 8))])) [50] fr H := tale_row (items := [.tt 8]) (by kernel_rfl) fr H
theorem s_token_Lex_r14_x (call : CallF) (it : IterF) (base : Nat) (f : List V) (H : Heap) : evC call it base (.region s_token_Lex_r14 [] [50, 58, 59]) f H = segC call it base s_token_Lex_r14t1 [50, 58, 59] H (evTale (symAll s_token_Lex_r14p0 [50] [58]) [50] f H) (origRow call it base s_token_Lex_r14 [50, 58, 59] f H) := row_seg call it base s_token_Lex_r14p0 s_token_Lex_r14t1 (by kernel_rfl) f H
theorem s_token_Lex_r14t1_x (call : CallF) (it : IterF) (base : Nat) (f : List V) (H : Heap) : evC call it base (.region s_token_Lex_r14t1 [] [50, 58, 59]) f H = thenC call it base (.region s_token_Lex_r14t2 [] [50, 58, 59]) (opsC [] s_token_Lex_r14p1 [58] (evOps call base [⟨some 59, (.call (.c (.fn 20 [] [])) [(.t 58)]), none⟩] f H)) := (row_op call it base s_token_Lex_r14p1 s_token_Lex_r14t2 (kc := [58]) (by kernel_rfl) f H).trans (by rw [row_ops]; rfl)
theorem s_token_Lex_r14t2_tale (fr : List V) (H : Heap) : evTale (symAll s_token_Lex_r14t2 [50, 58, 59] [57]) [50, 58, 59] fr H = evTale (some (58, [], [(57, (.t 59))])) [50, 58, 59] fr H := tale_row (items := [.tt 59]) (by kernel_rfl) fr H
theorem s_token_Lex_r14t2_x (call : CallF) (it : IterF) (base : Nat) (f : List V) (H : Heap) : evC call it base (.region s_token_Lex_r14t2 [] [50, 58, 59]) f H = segL H (evTale (symAll s_token_Lex_r14t2 [50, 58, 59] [57]) [50, 58, 59] f H) (origRow call it base s_token_Lex_r14t2 [50, 58, 59] f H) := row_last call it base _ f H
def s_token_Lex_r15t2 : List AOper := [⟨some 9, (.move (.t 61)), none⟩]
def s_token_Lex_r15p1 : List AOper := [⟨some 61, (.call (.c (.fn 16 [] [])) [(.t 60), (.c (.fn 20 [] []))]), none⟩]
def s_token_Lex_r15t1 : List AOper := s_token_Lex_r15p1 ++ s_token_Lex_r15t2
def s_token_Lex_r15p0 : List AOper := [⟨some 60, (.load false 1 (.t 5)), none⟩]
def s_token_Lex_r15 : List AOper := s_token_Lex_r15p0 ++ s_token_Lex_r15t1
theorem s_token_Lex_r15p0_tale (fr : List V) (H : Heap) : evTale (symAll s_token_Lex_r15p0 [57] [60]) [57] fr H = evTale (some (61, [], [(60, (.op (.load false 1 (.t 0)) [(.t 5)]))])) [57] fr H := tale_row (items := [.sub 0 [] []]) (by kernel_rfl) fr H
theorem s_token_Lex_r15_x (call : CallF) (it : IterF) (base : Nat) (f : List V) (H : Heap) : evC call it base (.region s_token_Lex_r15 [] [57, 60, 61]) f H = segC call it base s_token_Lex_r15t1 [57, 60, 61] H (evTale (symAll s_token_Lex_r15p0 [57] [60]) [57] f H) (origRow call it base s_token_Lex_r15 [57, 60, 61] f H) := row_seg call it base s_token_Lex_r15p0 s_token_Lex_r15t1 (by kernel_rfl) f H
theorem s_token_Lex_r15t1_x (call : CallF) (it : IterF) (base : Nat) (f : List V) (H : Heap) : evC call it base (.region s_token_Lex_r15t1 [] [57, 60, 61]) f H = thenC call it base (.region s_token_Lex_r15t2 [] [57, 60, 61]) (opsC [] s_token_Lex_r15p1 [60] (evOps call base [⟨some 61, (.call (.c (.fn 16 [] [])) [(.t 60), (.c (.fn 20 [] []))]), none⟩] f H)) := (row_op call it base s_token_Lex_r15p1 s_token_Lex_r15t2 (kc := [60]) (by kernel_rfl) f H).trans (by rw [row_ops]; rfl)
theorem s_token_Lex_r15t2_tale (fr : List V) (H : Heap) : evTale (symAll s_token_Lex_r15t2 [57, 60, 61] [9]) [57, 60, 61] fr H = evTale (some (10, [], [(9, (.t 61))])) [57, 60, 61] fr H := tale_row (items := [.tt 61]) (by kernel_rfl) fr H
theorem s_token_Lex_r15t2_x (call : CallF) (it : IterF) (base : Nat) (f : List V) (H : Heap) : evC call it base (.region s_token_Lex_r15t2 [] [57, 60, 61]) f H = segL H (evTale (symAll s_token_Lex_r15t2 [57, 60, 61] [9]) [57, 60, 61] f H) (origRow call it base s_token_Lex_r15t2 [57, 60, 61] f H) := row_last call it base _ f H
def s_token_Lex_r16t3 : List AOper := [⟨some 75, (.move (.t 9)), some (72, false)⟩, ⟨some 76, (.bin .gtr (.t 74) (.t 75)), some (72, false)⟩, ⟨some 77, (.pick (.t 72) (.c (.s (.bool true))) (.t 76)), none⟩]
def s_token_Lex_r16p2 : List AOper := [⟨some 74, (.call (.c (.fn 16 [] [])) [(.t 73), (.c (.fn 19 [] []))]), some (72, false)⟩]
def s_token_Lex_r16t2 : List AOper := s_token_Lex_r16p2 ++ s_token_Lex_r16t3
def s_token_Lex_r16p1 : List AOper := [⟨some 73, (.load false 1 (.t 5)), some (72, false)⟩]
def s_token_Lex_r16t1 : List AOper := s_token_Lex_r16p1 ++ s_token_Lex_r16t2
def s_token_Lex_r16p0 : List AOper := [⟨some 62, (.move (.t 9)), none⟩, ⟨some 63, (.bin .gtr (.t 62) (.c (.s (.int .i64 9)))), none⟩, ⟨some 64, (.move (.t 63)), none⟩, ⟨some 65, (.move (.t 9)), some (64, false)⟩, ⟨some 66, (.bin .gtr (.t 65) (.c (.s (.int .i64 1)))), some (64, false)⟩, ⟨some 67, (.move (.t 66)), some (64, false)⟩, ⟨some 68, (.move (.t 8)), some (67, true)⟩, ⟨some 69, (.bin .eql (.t 68) (.c (.s (.int .u8 48)))), some (67, true)⟩, ⟨some 70, (.pick (.t 67) (.t 69) (.c (.s (.bool false)))), some (64, false)⟩, ⟨some 71, (.pick (.t 64) (.c (.s (.bool true))) (.t 70)), none⟩, ⟨some 72, (.move (.t 71)), none⟩]
def s_token_Lex_r16 : List AOper := s_token_Lex_r16p0 ++ s_token_Lex_r16t1
theorem s_token_Lex_r16p0_tale (fr : List V) (H : Heap) : evTale (symAll s_token_Lex_r16p0 [8, 62, 63, 64, 65, 66, 67, 68, 69, 70, 71] [72]) [8, 62, 63, 64, 65, 66, 67, 68, 69, 70, 71] fr H = evTale (some (73, [], [(72, (.pick (.op (.bin .gtr (.t 0) (.c (.s (.int .i64 9)))) [(.t 9), (.c (.s (.int .i64 9)))]) (.c (.s (.bool true))) (.pick (.op (.bin .gtr (.t 0) (.c (.s (.int .i64 1)))) [(.t 9), (.c (.s (.int .i64 1)))]) (.op (.bin .eql (.t 0) (.c (.s (.int .u8 48)))) [(.t 8), (.c (.s (.int .u8 48)))]) (.c (.s (.bool false))))))])) [8, 62, 63, 64, 65, 66, 67, 68, 69, 70, 71] fr H := tale_row (items := [.tt 9, .sub 0 [0] [], .sub 0 [0] [], .sub 0 [2, 0, 0] [64], .sub 0 [2, 0] [64], .sub 0 [2, 0] [64], .sub 0 [2, 1, 0] [64, 67], .sub 0 [2, 1] [64, 67], .sub 0 [2] [64], .sub 0 [] [], .sub 0 [] []]) (by kernel_rfl) fr H
theorem s_token_Lex_r16_x (call : CallF) (it : IterF) (base : Nat) (f : List V) (H : Heap) : evC call it base (.region s_token_Lex_r16 [] [8, 62, 63, 64, 65, 66, 67, 68, 69, 70, 71, 72, 73, 74, 75, 76]) f H = segC call it base s_token_Lex_r16t1 [8, 62, 63, 64, 65, 66, 67, 68, 69, 70, 71, 72, 73, 74, 75, 76] H (evTale (symAll s_token_Lex_r16p0 [8, 62, 63, 64, 65, 66, 67, 68, 69, 70, 71] [72]) [8, 62, 63, 64, 65, 66, 67, 68, 69, 70, 71] f H) (origRow call it base s_token_Lex_r16 [8, 62, 63, 64, 65, 66, 67, 68, 69, 70, 71, 72, 73, 74, 75, 76] f H) := row_seg call it base s_token_Lex_r16p0 s_token_Lex_r16t1 (by kernel_rfl) f H
theorem s_token_Lex_r16t1_x (call : CallF) (it : IterF) (base : Nat) (f : List V) (H : Heap) : evC call it base (.region s_token_Lex_r16t1 [] [8, 62, 63, 64, 65, 66, 67, 68, 69, 70, 71, 72, 73, 74, 75, 76]) f H = thenC call it base (.region s_token_Lex_r16t2 [] [8, 62, 63, 64, 65, 66, 67, 68, 69, 70, 71, 72, 73, 74, 75, 76]) (opsC [] s_token_Lex_r16p1 [] (evOps call base [⟨some 73, (.load false 1 (.t 5)), some (72, false)⟩] f H)) := (row_op call it base s_token_Lex_r16p1 s_token_Lex_r16t2 (kc := []) (by kernel_rfl) f H).trans (by rw [row_ops]; rfl)
theorem s_token_Lex_r16t2_x (call : CallF) (it : IterF) (base : Nat) (f : List V) (H : Heap) : evC call it base (.region s_token_Lex_r16t2 [] [8, 62, 63, 64, 65, 66, 67, 68, 69, 70, 71, 72, 73, 74, 75, 76]) f H = thenC call it base (.region s_token_Lex_r16t3 [] [8, 62, 63, 64, 65, 66, 67, 68, 69, 70, 71, 72, 73, 74, 75, 76]) (opsC [] s_token_Lex_r16p2 [73] (evOps call base [⟨some 74, (.call (.c (.fn 16 [] [])) [(.t 73), (.c (.fn 19 [] []))]), some (72, false)⟩] f H)) := (row_op call it base s_token_Lex_r16p2 s_token_Lex_r16t3 (kc := [73]) (by kernel_rfl) f H).trans (by rw [row_ops]; rfl)
theorem s_token_Lex_r16t3_tale (fr : List V) (H : Heap) : evTale (symAll s_token_Lex_r16t3 [8, 62, 63, 64, 65, 66, 67, 68, 69, 70, 71, 72, 73, 74, 75, 76] [77]) [8, 62, 63, 64, 65, 66, 67, 68, 69, 70, 71, 72, 73, 74, 75, 76] fr H = evTale (some (78, [], [(77, (.pick (.t 72) (.c (.s (.bool true))) (.op (.bin .gtr (.t 0) (.t 1)) [(.t 74), (.t 9)])))])) [8, 62, 63, 64, 65, 66, 67, 68, 69, 70, 71, 72, 73, 74, 75, 76] fr H := tale_row (items := [.sub 0 [2, 1] [72], .sub 0 [2] [72], .sub 0 [] []]) (by kernel_rfl) fr H
theorem s_token_Lex_r16t3_x (call : CallF) (it : IterF) (base : Nat) (f : List V) (H : Heap) : evC call it base (.region s_token_Lex_r16t3 [] [8, 62, 63, 64, 65, 66, 67, 68, 69, 70, 71, 72, 73, 74, 75, 76]) f H = segL H (evTale (symAll s_token_Lex_r16t3 [8, 62, 63, 64, 65, 66, 67, 68, 69, 70, 71, 72, 73, 74, 75, 76] [77]) [8, 62, 63, 64, 65, 66, 67, 68, 69, 70, 71, 72, 73, 74, 75, 76] f H) (origRow call it base s_token_Lex_r16t3 [8, 62, 63, 64, 65, 66, 67, 68, 69, 70, 71, 72, 73, 74, 75, 76] f H) := row_last call it base _ f H
def s_token_Lex_r17t2 : List AOper := [⟨some 4, (.move (.c (.s (.int .i64 31)))), none⟩]
def s_token_Lex_r17p1 : List AOper := [⟨none, (.store 2 (.t 3) (.t 81)), none⟩]
def s_token_Lex_r17t1 : List AOper := s_token_Lex_r17p1 ++ s_token_Lex_r17t2
def s_token_Lex_r17p0 : List AOper := [⟨some 78, (.load false 1 (.t 5)), none⟩, ⟨some 79, (.nilCheck (.t 78)), none⟩, ⟨some 80, (.fieldAddr 0 (.t 79)), none⟩, ⟨some 81, (.load true 2 (.t 80)), none⟩, ⟨some 2, (.move (.c (.s (.slice none 0 0)))), none⟩]
def s_token_Lex_r17 : List AOper := s_token_Lex_r17p0 ++ s_token_Lex_r17t1
theorem s_token_Lex_r17p0_tale (fr : List V) (H : Heap) : evTale (symAll s_token_Lex_r17p0 [0, 5, 6, 7, 9, 77, 78, 79, 80] [81, 2]) [0, 5, 6, 7, 9, 77, 78, 79, 80] fr H = evTale (some (82, [], [(81, (.op (.load true 2 (.t 0)) [(.op (.fieldAddr 0 (.t 0)) [(.op (.nilCheck (.t 0)) [(.op (.load false 1 (.t 0)) [(.t 5)])])])])), (2, (.c (.s (.slice none 0 0))))])) [0, 5, 6, 7, 9, 77, 78, 79, 80] fr H := tale_row (items := [.sub 0 [0, 0, 0] [], .sub 0 [0, 0] [], .sub 0 [0] [], .sub 0 [] [], .cc (.s (.slice none 0 0))]) (by kernel_rfl) fr H
theorem s_token_Lex_r17_x (call : CallF) (it : IterF) (base : Nat) (f : List V) (H : Heap) : evC call it base (.region s_token_Lex_r17 [] [0, 5, 6, 7, 9, 77, 78, 79, 80, 81]) f H = segC call it base s_token_Lex_r17t1 [0, 5, 6, 7, 9, 77, 78, 79, 80, 81] H (evTale (symAll s_token_Lex_r17p0 [0, 5, 6, 7, 9, 77, 78, 79, 80] [81, 2]) [0, 5, 6, 7, 9, 77, 78, 79, 80] f H) (origRow call it base s_token_Lex_r17 [0, 5, 6, 7, 9, 77, 78, 79, 80, 81] f H) := row_seg call it base s_token_Lex_r17p0 s_token_Lex_r17t1 (by kernel_rfl) f H
theorem s_token_Lex_r17t1_x (call : CallF) (it : IterF) (base : Nat) (f : List V) (H : Heap) : evC call it base (.region s_token_Lex_r17t1 [] [0, 5, 6, 7, 9, 77, 78, 79, 80, 81]) f H = thenC call it base (.region s_token_Lex_r17t2 [] [0, 5, 6, 7, 9, 77, 78, 79, 80, 81]) (opsC [] s_token_Lex_r17p1 [81] (evOps call base [⟨none, (.store 2 (.t 3) (.t 81)), none⟩] f H)) := (row_op call it base s_token_Lex_r17p1 s_token_Lex_r17t2 (kc := [81]) (by kernel_rfl) f H).trans (by rw [row_ops]; rfl)
theorem s_token_Lex_r17t2_tale (fr : List V) (H : Heap) : evTale (symAll s_token_Lex_r17t2 [0, 5, 6, 7, 9, 77, 78, 79, 80, 81] [4]) [0, 5, 6, 7, 9, 77, 78, 79, 80, 81] fr H = evTale (some (5, [], [(4, (.c (.s (.int .i64 31))))])) [0, 5, 6, 7, 9, 77, 78, 79, 80, 81] fr H := tale_row (items := [.cc (.s (.int .i64 31))]) (by kernel_rfl) fr H
theorem s_token_Lex_r17t2_x (call : CallF) (it : IterF) (base : Nat) (f : List V) (H : Heap) : evC call it base (.region s_token_Lex_r17t2 [] [0, 5, 6, 7, 9, 77, 78, 79, 80, 81]) f H = segL H (evTale (symAll s_token_Lex_r17t2 [0, 5, 6, 7, 9, 77, 78, 79, 80, 81] [4]) [0, 5, 6, 7, 9, 77, 78, 79, 80, 81] f H) (origRow call it base s_token_Lex_r17t2 [0, 5, 6, 7, 9, 77, 78, 79, 80, 81] f H) := row_last call it base _ f H
def s_token_Lex_r18t2 : List AOper := [⟨some 10, (.move (.t 84)), none⟩]
def s_token_Lex_r18p1 : List AOper := [⟨some 84, (.call (.t 82) [(.c (.s (.int .u8 2))), (.t 83)]), none⟩]
def s_token_Lex_r18t1 : List AOper := s_token_Lex_r18p1 ++ s_token_Lex_r18t2
def s_token_Lex_r18p0 : List AOper := [⟨some 82, (.move (.t 7)), none⟩, ⟨some 83, (.move (.t 9)), none⟩]
def s_token_Lex_r18 : List AOper := s_token_Lex_r18p0 ++ s_token_Lex_r18t1
theorem s_token_Lex_r18p0_tale (fr : List V) (H : Heap) : evTale (symAll s_token_Lex_r18p0 [9, 77] [82, 83]) [9, 77] fr H = evTale (some (84, [], [(82, (.t 7)), (83, (.t 9))])) [9, 77] fr H := tale_row (items := [.tt 7, .tt 9]) (by kernel_rfl) fr H
theorem s_token_Lex_r18_x (call : CallF) (it : IterF) (base : Nat) (f : List V) (H : Heap) : evC call it base (.region s_token_Lex_r18 [] [9, 77, 82, 83, 84]) f H = segC call it base s_token_Lex_r18t1 [9, 77, 82, 83, 84] H (evTale (symAll s_token_Lex_r18p0 [9, 77] [82, 83]) [9, 77] f H) (origRow call it base s_token_Lex_r18 [9, 77, 82, 83, 84] f H) := row_seg call it base s_token_Lex_r18p0 s_token_Lex_r18t1 (by kernel_rfl) f H
theorem s_token_Lex_r18t1_x (call : CallF) (it : IterF) (base : Nat) (f : List V) (H : Heap) : evC call it base (.region s_token_Lex_r18t1 [] [9, 77, 82, 83, 84]) f H = thenC call it base (.region s_token_Lex_r18t2 [] [9, 77, 82, 83, 84]) (opsC [] s_token_Lex_r18p1 [82, 83] (evOps call base [⟨some 84, (.call (.t 82) [(.c (.s (.int .u8 2))), (.t 83)]), none⟩] f H)) := (row_op call it base s_token_Lex_r18p1 s_token_Lex_r18t2 (kc := [82, 83]) (by kernel_rfl) f H).trans (by rw [row_ops]; rfl)
theorem s_token_Lex_r18t2_tale (fr : List V) (H : Heap) : evTale (symAll s_token_Lex_r18t2 [9, 77, 82, 83, 84] [10]) [9, 77, 82, 83, 84] fr H = evTale (some (11, [], [(10, (.t 84))])) [9, 77, 82, 83, 84] fr H := tale_row (items := [.tt 84]) (by kernel_rfl) fr H
theorem s_token_Lex_r18t2_x (call : CallF) (it : IterF) (base : Nat) (f : List V) (H : Heap) : evC call it base (.region s_token_Lex_r18t2 [] [9, 77, 82, 83, 84]) f H = segL H (evTale (symAll s_token_Lex_r18t2 [9, 77, 82, 83, 84] [10]) [9, 77, 82, 83, 84] f H) (origRow call it base s_token_Lex_r18t2 [9, 77, 82, 83, 84] f H) := row_last call it base _ f H
def s_token_Lex_r19t3 : List AOper := [⟨none, (.store 1 (.t 95) (.t 92)), none⟩]
def s_token_Lex_r19p2 : List AOper := [⟨some 85, (.move (.t 91)), none⟩, ⟨some 92, (.extract (.t 85) 0), none⟩, ⟨some 93, (.extract (.t 85) 1), none⟩, ⟨some 94, (.nilCheck (.t 86)), none⟩, ⟨some 95, (.fieldAddr 2 (.t 94)), none⟩]
def s_token_Lex_r19t2 : List AOper := s_token_Lex_r19p2 ++ s_token_Lex_r19t3
def s_token_Lex_r19p1 : List AOper := [⟨some 91, (.call (.c (.fn 21 [] [])) [(.t 90)]), none⟩]
def s_token_Lex_r19t1 : List AOper := s_token_Lex_r19p1 ++ s_token_Lex_r19t2
def s_token_Lex_r19p0 : List AOper := [⟨some 86, (.move (.t 10)), none⟩, ⟨some 87, (.move (.t 10)), none⟩, ⟨some 88, (.nilCheck (.t 87)), none⟩, ⟨some 89, (.fieldAddr 1 (.t 88)), none⟩, ⟨some 90, (.load false 1 (.t 89)), none⟩]
def s_token_Lex_r19 : List AOper := s_token_Lex_r19p0 ++ s_token_Lex_r19t1
theorem s_token_Lex_r19p0_tale (fr : List V) (H : Heap) : evTale (symAll s_token_Lex_r19p0 [10, 87, 88, 89] [86, 90]) [10, 87, 88, 89] fr H = evTale (some (91, [], [(86, (.t 10)), (90, (.op (.load false 1 (.t 0)) [(.op (.fieldAddr 1 (.t 0)) [(.op (.nilCheck (.t 0)) [(.t 10)])])]))])) [10, 87, 88, 89] fr H := tale_row (items := [.tt 10, .tt 10, .sub 1 [0, 0] [], .sub 1 [0] [], .sub 1 [] []]) (by kernel_rfl) fr H
theorem s_token_Lex_r19_x (call : CallF) (it : IterF) (base : Nat) (f : List V) (H : Heap) : evC call it base (.region s_token_Lex_r19 [] [10, 85, 86, 87, 88, 89, 90, 91, 92, 93, 94, 95]) f H = segC call it base s_token_Lex_r19t1 [10, 85, 86, 87, 88, 89, 90, 91, 92, 93, 94, 95] H (evTale (symAll s_token_Lex_r19p0 [10, 87, 88, 89] [86, 90]) [10, 87, 88, 89] f H) (origRow call it base s_token_Lex_r19 [10, 85, 86, 87, 88, 89, 90, 91, 92, 93, 94, 95] f H) := row_seg call it base s_token_Lex_r19p0 s_token_Lex_r19t1 (by kernel_rfl) f H
theorem s_token_Lex_r19t1_x (call : CallF) (it : IterF) (base : Nat) (f : List V) (H : Heap) : evC call it base (.region s_token_Lex_r19t1 [] [10, 85, 86, 87, 88, 89, 90, 91, 92, 93, 94, 95]) f H = thenC call it base (.region s_token_Lex_r19t2 [] [10, 85, 86, 87, 88, 89, 90, 91, 92, 93, 94, 95]) (opsC [] s_token_Lex_r19p1 [90] (evOps call base [⟨some 91, (.call (.c (.fn 21 [] [])) [(.t 90)]), none⟩] f H)) := (row_op call it base s_token_Lex_r19p1 s_token_Lex_r19t2 (kc := [90]) (by kernel_rfl) f H).trans (by rw [row_ops]; rfl)
theorem s_token_Lex_r19p2_tale (fr : List V) (H : Heap) : evTale (symAll s_token_Lex_r19p2 [85, 86, 91, 93, 94] [92, 95]) [85, 86, 91, 93, 94] fr H = evTale (some (96, [([], (.op (.extract (.t 0) 1) [(.t 91)]))], [(92, (.op (.extract (.t 0) 0) [(.t 91)])), (95, (.op (.fieldAddr 2 (.t 0)) [(.op (.nilCheck (.t 0)) [(.t 86)])]))])) [85, 86, 91, 93, 94] fr H := tale_row (items := [.tt 91, .sub 0 [] [], .keep [] (.op (.extract (.t 0) 1) [(.t 91)]), .sub 1 [0] [], .sub 1 [] []]) (by kernel_rfl) fr H
theorem s_token_Lex_r19t2_x (call : CallF) (it : IterF) (base : Nat) (f : List V) (H : Heap) : evC call it base (.region s_token_Lex_r19t2 [] [10, 85, 86, 87, 88, 89, 90, 91, 92, 93, 94, 95]) f H = segC call it base s_token_Lex_r19t3 [10, 85, 86, 87, 88, 89, 90, 91, 92, 93, 94, 95] H (evTale (symAll s_token_Lex_r19p2 [85, 86, 91, 93, 94] [92, 95]) [85, 86, 91, 93, 94] f H) (origRow call it base s_token_Lex_r19t2 [10, 85, 86, 87, 88, 89, 90, 91, 92, 93, 94, 95] f H) := row_seg call it base s_token_Lex_r19p2 s_token_Lex_r19t3 (by kernel_rfl) f H
theorem s_token_Lex_r19t3_x (call : CallF) (it : IterF) (base : Nat) (f : List V) (H : Heap) : evC call it base (.region s_token_Lex_r19t3 [] [10, 85, 86, 87, 88, 89, 90, 91, 92, 93, 94, 95]) f H = opsC [] s_token_Lex_r19t3 [10, 85, 86, 87, 88, 89, 90, 91, 92, 93, 94, 95] (evOps call base [⟨none, (.store 1 (.t 95) (.t 92)), none⟩] f H) := row_ops call it base _ _ f H
def s_token_Lex_r20t2 : List AOper := [⟨some 99, (.bin .geq (.t 98) (.c (.s (.int .i64 0)))), none⟩, ⟨some 96, (.move (.t 99)), none⟩]
def s_token_Lex_r20p1 : List AOper := [⟨some 98, (.call (.c (.fn 15 [] [])) [(.c (.s (.string ⟨#[61, 44, 58, 40, 41, 123, 125, 91, 93]⟩))), (.t 97)]), none⟩]
def s_token_Lex_r20t1 : List AOper := s_token_Lex_r20p1 ++ s_token_Lex_r20t2
def s_token_Lex_r20p0 : List AOper := [⟨some 97, (.move (.t 8)), none⟩]
def s_token_Lex_r20 : List AOper := s_token_Lex_r20p0 ++ s_token_Lex_r20t1
theorem s_token_Lex_r20p0_tale (fr : List V) (H : Heap) : evTale (symAll s_token_Lex_r20p0 [8, 57] [97]) [8, 57] fr H = evTale (some (98, [], [(97, (.t 8))])) [8, 57] fr H := tale_row (items := [.tt 8]) (by kernel_rfl) fr H
theorem s_token_Lex_r20_x (call : CallF) (it : IterF) (base : Nat) (f : List V) (H : Heap) : evC call it base (.region s_token_Lex_r20 [] [8, 57, 97, 98, 99]) f H = segC call it base s_token_Lex_r20t1 [8, 57, 97, 98, 99] H (evTale (symAll s_token_Lex_r20p0 [8, 57] [97]) [8, 57] f H) (origRow call it base s_token_Lex_r20 [8, 57, 97, 98, 99] f H) := row_seg call it base s_token_Lex_r20p0 s_token_Lex_r20t1 (by kernel_rfl) f H
theorem s_token_Lex_r20t1_x (call : CallF) (it : IterF) (base : Nat) (f : List V) (H : Heap) : evC call it base (.region s_token_Lex_r20t1 [] [8, 57, 97, 98, 99]) f H = thenC call it base (.region s_token_Lex_r20t2 [] [8, 57, 97, 98, 99]) (opsC [] s_token_Lex_r20p1 [97] (evOps call base [⟨some 98, (.call (.c (.fn 15 [] [])) [(.c (.s (.string ⟨#[61, 44, 58, 40, 41, 123, 125, 91, 93]⟩))), (.t 97)]), none⟩] f H)) := (row_op call it base s_token_Lex_r20p1 s_token_Lex_r20t2 (kc := [97]) (by kernel_rfl) f H).trans (by rw [row_ops]; rfl)
theorem s_token_Lex_r20t2_tale (fr : List V) (H : Heap) : evTale (symAll s_token_Lex_r20t2 [8, 57, 97, 98, 99] [96]) [8, 57, 97, 98, 99] fr H = evTale (some (100, [], [(96, (.op (.bin .geq (.t 0) (.c (.s (.int .i64 0)))) [(.t 98), (.c (.s (.int .i64 0)))]))])) [8, 57, 97, 98, 99] fr H := tale_row (items := [.sub 0 [] [], .sub 0 [] []]) (by kernel_rfl) fr H
theorem s_token_Lex_r20t2_x (call : CallF) (it : IterF) (base : Nat) (f : List V) (H : Heap) : evC call it base (.region s_token_Lex_r20t2 [] [8, 57, 97, 98, 99]) f H = segL H (evTale (symAll s_token_Lex_r20t2 [8, 57, 97, 98, 99] [96]) [8, 57, 97, 98, 99] f H) (origRow call it base s_token_Lex_r20t2 [8, 57, 97, 98, 99] f H) := row_last call it base _ f H
def s_token_Lex_r21t1 : List AOper := [⟨some 101, (.call (.t 100) [(.c (.s (.int .u8 3))), (.c (.s (.int .i64 1)))]), none⟩]
def s_token_Lex_r21p0 : List AOper := [⟨some 100, (.move (.t 7)), none⟩]
def s_token_Lex_r21 : List AOper := s_token_Lex_r21p0 ++ s_token_Lex_r21t1
theorem s_token_Lex_r21p0_tale (fr : List V) (H : Heap) : evTale (symAll s_token_Lex_r21p0 [96] [100]) [96] fr H = evTale (some (101, [], [(100, (.t 7))])) [96] fr H := tale_row (items := [.tt 7]) (by kernel_rfl) fr H
theorem s_token_Lex_r21_x (call : CallF) (it : IterF) (base : Nat) (f : List V) (H : Heap) : evC call it base (.region s_token_Lex_r21 [] [96, 100, 101]) f H = segC call it base s_token_Lex_r21t1 [96, 100, 101] H (evTale (symAll s_token_Lex_r21p0 [96] [100]) [96] f H) (origRow call it base s_token_Lex_r21 [96, 100, 101] f H) := row_seg call it base s_token_Lex_r21p0 s_token_Lex_r21t1 (by kernel_rfl) f H
theorem s_token_Lex_r21t1_x (call : CallF) (it : IterF) (base : Nat) (f : List V) (H : Heap) : evC call it base (.region s_token_Lex_r21t1 [] [96, 100, 101]) f H = opsC [] s_token_Lex_r21t1 [96, 100, 101] (evOps call base [⟨some 101, (.call (.t 100) [(.c (.s (.int .u8 3))), (.c (.s (.int .i64 1)))]), none⟩] f H) := row_ops call it base _ _ f H
def s_token_Lex_r22t2 : List AOper := [⟨some 4, (.move (.c (.s (.int .i64 30)))), none⟩]
def s_token_Lex_r22p1 : List AOper := [⟨none, (.store 2 (.t 3) (.t 36)), none⟩]
def s_token_Lex_r22t1 : List AOper := s_token_Lex_r22p1 ++ s_token_Lex_r22t2
def s_token_Lex_r22p0 : List AOper := [⟨some 33, (.load false 1 (.t 5)), none⟩, ⟨some 34, (.nilCheck (.t 33)), none⟩, ⟨some 35, (.fieldAddr 0 (.t 34)), none⟩, ⟨some 36, (.load true 2 (.t 35)), none⟩, ⟨some 2, (.move (.c (.s (.slice none 0 0)))), none⟩]
def s_token_Lex_r22 : List AOper := s_token_Lex_r22p0 ++ s_token_Lex_r22t1
theorem s_token_Lex_r22p0_tale (fr : List V) (H : Heap) : evTale (symAll s_token_Lex_r22p0 [0, 5, 6, 7, 33, 34, 35, 96] [36, 2]) [0, 5, 6, 7, 33, 34, 35, 96] fr H = evTale (some (37, [], [(36, (.op (.load true 2 (.t 0)) [(.op (.fieldAddr 0 (.t 0)) [(.op (.nilCheck (.t 0)) [(.op (.load false 1 (.t 0)) [(.t 5)])])])])), (2, (.c (.s (.slice none 0 0))))])) [0, 5, 6, 7, 33, 34, 35, 96] fr H := tale_row (items := [.sub 0 [0, 0, 0] [], .sub 0 [0, 0] [], .sub 0 [0] [], .sub 0 [] [], .cc (.s (.slice none 0 0))]) (by kernel_rfl) fr H
theorem s_token_Lex_r22_x (call : CallF) (it : IterF) (base : Nat) (f : List V) (H : Heap) : evC call it base (.region s_token_Lex_r22 [] [0, 5, 6, 7, 33, 34, 35, 36, 96]) f H = segC call it base s_token_Lex_r22t1 [0, 5, 6, 7, 33, 34, 35, 36, 96] H (evTale (symAll s_token_Lex_r22p0 [0, 5, 6, 7, 33, 34, 35, 96] [36, 2]) [0, 5, 6, 7, 33, 34, 35, 96] f H) (origRow call it base s_token_Lex_r22 [0, 5, 6, 7, 33, 34, 35, 36, 96] f H) := row_seg call it base s_token_Lex_r22p0 s_token_Lex_r22t1 (by kernel_rfl) f H
theorem s_token_Lex_r22t1_x (call : CallF) (it : IterF) (base : Nat) (f : List V) (H : Heap) : evC call it base (.region s_token_Lex_r22t1 [] [0, 5, 6, 7, 33, 34, 35, 36, 96]) f H = thenC call it base (.region s_token_Lex_r22t2 [] [0, 5, 6, 7, 33, 34, 35, 36, 96]) (opsC [] s_token_Lex_r22p1 [36] (evOps call base [⟨none, (.store 2 (.t 3) (.t 36)), none⟩] f H)) := (row_op call it base s_token_Lex_r22p1 s_token_Lex_r22t2 (kc := [36]) (by kernel_rfl) f H).trans (by rw [row_ops]; rfl)
theorem s_token_Lex_r22t2_tale (fr : List V) (H : Heap) : evTale (symAll s_token_Lex_r22t2 [0, 5, 6, 7, 33, 34, 35, 36, 96] [4]) [0, 5, 6, 7, 33, 34, 35, 36, 96] fr H = evTale (some (5, [], [(4, (.c (.s (.int .i64 30))))])) [0, 5, 6, 7, 33, 34, 35, 36, 96] fr H := tale_row (items := [.cc (.s (.int .i64 30))]) (by kernel_rfl) fr H
theorem s_token_Lex_r22t2_x (call : CallF) (it : IterF) (base : Nat) (f : List V) (H : Heap) : evC call it base (.region s_token_Lex_r22t2 [] [0, 5, 6, 7, 33, 34, 35, 36, 96]) f H = segL H (evTale (symAll s_token_Lex_r22t2 [0, 5, 6, 7, 33, 34, 35, 36, 96] [4]) [0, 5, 6, 7, 33, 34, 35, 36, 96] f H) (origRow call it base s_token_Lex_r22t2 [0, 5, 6, 7, 33, 34, 35, 36, 96] f H) := row_last call it base _ f H
def s_token_Lex_l0_b : ACode :=
  (.seq (.seq (.regionE s_token_Lex_r6 [20, 21, 22, 23, 24, 25] [26])
  (.cond (.t 26)
  .skip
  (.exit 0)))
  (.block 1
  (.seq (.regionE s_token_Lex_r7 [26, 27, 28, 29, 30, 31, 32] [8])
  (.block 2
  (.seq (.region s_token_Lex_r8 [] [38, 39, 40])
  (.cond (.t 37)
  (.region s_token_Lex_r9 [] [8, 37, 41, 42])
  (.seq (.regionE s_token_Lex_r10 [37, 44, 45] [43])
  (.cond (.t 43)
  (.region s_token_Lex_r11 [] [8, 43, 46, 47, 48, 49])
  (.seq (.region s_token_Lex_r12 [] [43, 51, 52])
  (.cond (.t 50)
  (.region s_token_Lex_r13 [] [8, 50, 53, 54, 55, 56])
  (.seq (.region s_token_Lex_r14 [] [50, 58, 59])
  (.cond (.t 57)
  (.seq (.region s_token_Lex_r15 [] [57, 60, 61])
  (.seq (.seq (.region s_token_Lex_r16 [] [8, 62, 63, 64, 65, 66, 67, 68, 69, 70, 71, 72, 73, 74, 75, 76])
  (.cond (.t 77)
  (.seq (.region s_token_Lex_r17 [] [0, 5, 6, 7, 9, 77, 78, 79, 80, 81])
  .ret)
  .skip))
  (.seq (.region s_token_Lex_r18 [] [9, 77, 82, 83, 84])
  (.region s_token_Lex_r19 [] [10, 85, 86, 87, 88, 89, 90, 91, 92, 93, 94, 95]))))
  (.seq (.region s_token_Lex_r20 [] [8, 57, 97, 98, 99])
  (.cond (.t 96)
  (.region s_token_Lex_r21 [] [96, 100, 101])
  (.seq (.region s_token_Lex_r22 [] [0, 5, 6, 7, 33, 34, 35, 36, 96])
  .ret)))))))))))))))
def s_token_Lex_l0 : ACode := s_token_Lex_l0_b
theorem s_token_Lex_l0_ev (call : CallF) (it : IterF) (base : Nat) (fr : List V) (H : Heap) : evC call it base s_token_Lex_l0 fr H = evC call it base s_token_Lex_l0_b fr H := rfl
def s_token_Lex_r23t1 : List AOper := [⟨some 103, (.call (.t 102) [(.c (.s (.int .u8 4))), (.c (.s (.int .i64 0)))]), none⟩]
def s_token_Lex_r23p0 : List AOper := [⟨some 102, (.move (.t 7)), none⟩]
def s_token_Lex_r23 : List AOper := s_token_Lex_r23p0 ++ s_token_Lex_r23t1
theorem s_token_Lex_r23p0_tale (fr : List V) (H : Heap) : evTale (symAll s_token_Lex_r23p0 [0, 5, 7, 26] [102]) [0, 5, 7, 26] fr H = evTale (some (103, [], [(102, (.t 7))])) [0, 5, 7, 26] fr H := tale_row (items := [.tt 7]) (by kernel_rfl) fr H
theorem s_token_Lex_r23_x (call : CallF) (it : IterF) (base : Nat) (f : List V) (H : Heap) : evC call it base (.region s_token_Lex_r23 [] [0, 5, 7, 26, 102, 103]) f H = segC call it base s_token_Lex_r23t1 [0, 5, 7, 26, 102, 103] H (evTale (symAll s_token_Lex_r23p0 [0, 5, 7, 26] [102]) [0, 5, 7, 26] f H) (origRow call it base s_token_Lex_r23 [0, 5, 7, 26, 102, 103] f H) := row_seg call it base s_token_Lex_r23p0 s_token_Lex_r23t1 (by kernel_rfl) f H
theorem s_token_Lex_r23t1_x (call : CallF) (it : IterF) (base : Nat) (f : List V) (H : Heap) : evC call it base (.region s_token_Lex_r23t1 [] [0, 5, 7, 26, 102, 103]) f H = opsC [] s_token_Lex_r23t1 [0, 5, 7, 26, 102, 103] (evOps call base [⟨some 103, (.call (.t 102) [(.c (.s (.int .u8 4))), (.c (.s (.int .i64 0)))]), none⟩] f H) := row_ops call it base _ _ f H
def s_token_Lex_r24t2 : List AOper := [⟨some 4, (.move (.c (.s (.int .i64 0)))), none⟩]
def s_token_Lex_r24p1 : List AOper := [⟨none, (.store 2 (.t 3) (.t 105)), none⟩]
def s_token_Lex_r24t1 : List AOper := s_token_Lex_r24p1 ++ s_token_Lex_r24t2
def s_token_Lex_r24p0 : List AOper := [⟨some 104, (.load false 1 (.t 6)), none⟩, ⟨some 105, (.build [(.s (.int .i64 0)), (.s (.int .i64 0))] [(0, 1), (1, 1)] []), none⟩, ⟨some 2, (.move (.t 104)), none⟩]
def s_token_Lex_r24 : List AOper := s_token_Lex_r24p0 ++ s_token_Lex_r24t1
theorem s_token_Lex_r24p0_tale (fr : List V) (H : Heap) : evTale (symAll s_token_Lex_r24p0 [6, 104] [105, 2]) [6, 104] fr H = evTale (some (106, [], [(105, (.op (.build [(.s (.int .i64 0)), (.s (.int .i64 0))] [(0, 1), (1, 1)] []) [])), (2, (.op (.load false 1 (.t 0)) [(.t 6)]))])) [6, 104] fr H := tale_row (items := [.sub 1 [] [], .sub 0 [] [], .sub 1 [] []]) (by kernel_rfl) fr H
theorem s_token_Lex_r24_x (call : CallF) (it : IterF) (base : Nat) (f : List V) (H : Heap) : evC call it base (.region s_token_Lex_r24 [] [6, 104, 105]) f H = segC call it base s_token_Lex_r24t1 [6, 104, 105] H (evTale (symAll s_token_Lex_r24p0 [6, 104] [105, 2]) [6, 104] f H) (origRow call it base s_token_Lex_r24 [6, 104, 105] f H) := row_seg call it base s_token_Lex_r24p0 s_token_Lex_r24t1 (by kernel_rfl) f H
theorem s_token_Lex_r24t1_x (call : CallF) (it : IterF) (base : Nat) (f : List V) (H : Heap) : evC call it base (.region s_token_Lex_r24t1 [] [6, 104, 105]) f H = thenC call it base (.region s_token_Lex_r24t2 [] [6, 104, 105]) (opsC [] s_token_Lex_r24p1 [105] (evOps call base [⟨none, (.store 2 (.t 3) (.t 105)), none⟩] f H)) := (row_op call it base s_token_Lex_r24p1 s_token_Lex_r24t2 (kc := [105]) (by kernel_rfl) f H).trans (by rw [row_ops]; rfl)
theorem s_token_Lex_r24t2_tale (fr : List V) (H : Heap) : evTale (symAll s_token_Lex_r24t2 [6, 104, 105] [4]) [6, 104, 105] fr H = evTale (some (5, [], [(4, (.c (.s (.int .i64 0))))])) [6, 104, 105] fr H := tale_row (items := [.cc (.s (.int .i64 0))]) (by kernel_rfl) fr H
theorem s_token_Lex_r24t2_x (call : CallF) (it : IterF) (base : Nat) (f : List V) (H : Heap) : evC call it base (.region s_token_Lex_r24t2 [] [6, 104, 105]) f H = segL H (evTale (symAll s_token_Lex_r24t2 [6, 104, 105] [4]) [6, 104, 105] f H) (origRow call it base s_token_Lex_r24t2 [6, 104, 105] f H) := row_last call it base _ f H
def s_token_Lex : ACFun := { ntmps := 106, results := [(.tmp 2), (.cell 3 true 2), (.tmp 4)], body :=
  (.seq (.region s_token_Lex_r0 [] s_token_Lex_r0_k)
  (.seq (.seq (.regionE s_token_Lex_r1 [11, 12] [13])
  (.cond (.t 13)
  (.seq (.region s_token_Lex_r2 [] [0, 13, 14])
  .ret)
  .skip))
  (.seq (.region s_token_Lex_r3 [] [13, 15, 16, 17, 18])
  (.seq (.region s_token_Lex_r4 [] [])
  (.seq (.regionE s_token_Lex_r5 [19] [7])
  (.seq (.block 0
  (.loop [] s_token_Lex_l0))
  (.seq (.region s_token_Lex_r23 [] [0, 5, 7, 26, 102, 103])
  (.seq (.region s_token_Lex_r24 [] [6, 104, 105])
  .ret)))))))) }
theorem s_token_Lex_first : firstOk (List.range' 1 (s_token_Lex.ntmps - 1)) s_token_Lex.body = true := by kernel_rfl
abbrev k_gnomonlaw03_lexes : Nat := 11
abbrev k_token_Lex_1 : Nat := 13
def s_token_Lex_1_r0_k : List Nat := [4, 5, 6, 7, 8, 9, 10, 11, 12, 13, 14, 15, 16, 17, 18, 19, 20, 21, 22, 23, 24, 25, 26, 27, 28, 29, 30, 31, 32, 33, 34, 35, 36, 37, 38]
theorem s_token_Lex_1_r0_kT : killV s_token_Lex_1_r0_k (startV 39 [] 4) = [] := by kernel_rfl
theorem s_token_Lex_1_r0_kA0 : s_token_Lex_1_r0_k.contains 0 = false := by kernel_rfl
theorem s_token_Lex_1_r0_kA1 : s_token_Lex_1_r0_k.contains 1 = false := by kernel_rfl
theorem s_token_Lex_1_r0_kA2 : s_token_Lex_1_r0_k.contains 2 = false := by kernel_rfl
theorem s_token_Lex_1_r0_kA3 : s_token_Lex_1_r0_k.contains 3 = false := by kernel_rfl
def s_token_Lex_1_r0 : List AOper := [
  ⟨some 6, (.move (.c (.s (.pointer none)))), none⟩]
theorem s_token_Lex_1_r0_tale (fr : List V) (H : Heap) : evTale (symAll s_token_Lex_1_r0 s_token_Lex_1_r0_k []) s_token_Lex_1_r0_k fr H = evTale (some (7, [], [])) s_token_Lex_1_r0_k fr H := tale_row (items := [.cc (.s (.pointer none))]) (by kernel_rfl) fr H
def s_token_Lex_1_r1t3 : List AOper := [⟨none, (.store 1 (.t 2) (.t 30)), none⟩]
def s_token_Lex_1_r1p2 : List AOper := [⟨some 30, (.append 5 48 (.t 7) (.t 29)), none⟩]
def s_token_Lex_1_r1t2 : List AOper := s_token_Lex_1_r1p2 ++ s_token_Lex_1_r1t3
def s_token_Lex_1_r1p1 : List AOper := [⟨some 29, (.buildSl 5 1 [(.s (.int .u8 0)), (.s (.string ⟨#[]⟩)), (.s (.int .i64 0)), (.s (.int .i64 0)), (.s (.int .i64 0))] [(0, (.t 28))]), none⟩]
def s_token_Lex_1_r1t1 : List AOper := s_token_Lex_1_r1p1 ++ s_token_Lex_1_r1t2
def s_token_Lex_1_r1p0 : List AOper := [⟨some 7, (.load false 1 (.t 2)), none⟩, ⟨some 8, (.move (.t 0)), none⟩, ⟨some 9, (.load false 1 (.t 3)), none⟩, ⟨some 10, (.nilCheck (.t 9)), none⟩, ⟨some 11, (.fieldAddr 2 (.t 10)), none⟩, ⟨some 12, (.load false 1 (.t 11)), none⟩, ⟨some 13, (.load false 1 (.t 3)), none⟩, ⟨some 14, (.nilCheck (.t 13)), none⟩, ⟨some 15, (.fieldAddr 3 (.t 14)), none⟩, ⟨some 16, (.load false 1 (.t 15)), none⟩, ⟨some 17, (.load false 1 (.t 3)), none⟩, ⟨some 18, (.nilCheck (.t 17)), none⟩, ⟨some 19, (.fieldAddr 3 (.t 18)), none⟩, ⟨some 20, (.load false 1 (.t 19)), none⟩, ⟨some 21, (.move (.t 1)), none⟩, ⟨some 22, (.bin .add (.t 20) (.t 21)), none⟩, ⟨some 23, (.subStr (.t 12) (some (.t 16)) (some (.t 22))), none⟩, ⟨some 24, (.load false 1 (.t 3)), none⟩, ⟨some 25, (.nilCheck (.t 24)), none⟩, ⟨some 26, (.fieldAddr 0 (.t 25)), none⟩, ⟨some 27, (.load true 2 (.t 26)), none⟩, ⟨some 28, (.build [(.s (.int .u8 0)), (.s (.string ⟨#[]⟩)), (.s (.int .i64 0)), (.s (.int .i64 0)), (.s (.int .i64 0))] [(0, 1), (1, 1), (2, 1), (3, 2)] [(0, (.t 8)), (1, (.t 23)), (3, (.t 27))]), none⟩]
def s_token_Lex_1_r1 : List AOper := s_token_Lex_1_r1p0 ++ s_token_Lex_1_r1t1
theorem s_token_Lex_1_r1p0_tale (fr : List V) (H : Heap) : evTale (symAll s_token_Lex_1_r1p0 [0, 8, 9, 10, 11, 12, 13, 14, 15, 16, 17, 18, 19, 20, 21, 22, 23, 24, 25, 26, 27] [7, 28]) [0, 8, 9, 10, 11, 12, 13, 14, 15, 16, 17, 18, 19, 20, 21, 22, 23, 24, 25, 26, 27] fr H = evTale (some (29, [], [(7, (.op (.load false 1 (.t 0)) [(.t 2)])), (28, (.op (.build [(.s (.int .u8 0)), (.s (.string ⟨#[]⟩)), (.s (.int .i64 0)), (.s (.int .i64 0)), (.s (.int .i64 0))] [(0, 1), (1, 1), (2, 1), (3, 2)] [(0, (.t 0)), (1, (.t 1)), (3, (.t 2))]) [(.t 0), (.op (.subStr (.t 0) (some (.t 1)) (some (.t 2))) [(.op (.load false 1 (.t 0)) [(.op (.fieldAddr 2 (.t 0)) [(.op (.nilCheck (.t 0)) [(.op (.load false 1 (.t 0)) [(.t 3)])])])]), (.op (.load false 1 (.t 0)) [(.op (.fieldAddr 3 (.t 0)) [(.op (.nilCheck (.t 0)) [(.op (.load false 1 (.t 0)) [(.t 3)])])])]), (.op (.bin .add (.t 0) (.t 1)) [(.op (.load false 1 (.t 0)) [(.op (.fieldAddr 3 (.t 0)) [(.op (.nilCheck (.t 0)) [(.op (.load false 1 (.t 0)) [(.t 3)])])])]), (.t 1)])]), (.op (.load true 2 (.t 0)) [(.op (.fieldAddr 0 (.t 0)) [(.op (.nilCheck (.t 0)) [(.op (.load false 1 (.t 0)) [(.t 3)])])])])]))])) [0, 8, 9, 10, 11, 12, 13, 14, 15, 16, 17, 18, 19, 20, 21, 22, 23, 24, 25, 26, 27] fr H := tale_row (items := [.sub 0 [] [], .tt 0, .sub 1 [1, 0, 0, 0, 0] [], .sub 1 [1, 0, 0, 0] [], .sub 1 [1, 0, 0] [], .sub 1 [1, 0] [], .sub 1 [1, 0, 0, 0, 0] [], .sub 1 [1, 0, 0, 0] [], .sub 1 [1, 1, 0] [], .sub 1 [1, 1] [], .sub 1 [1, 0, 0, 0, 0] [], .sub 1 [1, 0, 0, 0] [], .sub 1 [1, 1, 0] [], .sub 1 [1, 1] [], .tt 1, .sub 1 [1, 2] [], .sub 1 [1] [], .sub 1 [1, 0, 0, 0, 0] [], .sub 1 [1, 0, 0, 0] [], .sub 1 [2, 0] [], .sub 1 [2] [], .sub 1 [] []]) (by kernel_rfl) fr H
theorem s_token_Lex_1_r1_x (call : CallF) (it : IterF) (base : Nat) (f : List V) (H : Heap) : evC call it base (.region s_token_Lex_1_r1 [] [0, 7, 8, 9, 10, 11, 12, 13, 14, 15, 16, 17, 18, 19, 20, 21, 22, 23, 24, 25, 26, 27, 28, 29, 30]) f H = segC call it base s_token_Lex_1_r1t1 [0, 7, 8, 9, 10, 11, 12, 13, 14, 15, 16, 17, 18, 19, 20, 21, 22, 23, 24, 25, 26, 27, 28, 29, 30] H (evTale (symAll s_token_Lex_1_r1p0 [0, 8, 9, 10, 11, 12, 13, 14, 15, 16, 17, 18, 19, 20, 21, 22, 23, 24, 25, 26, 27] [7, 28]) [0, 8, 9, 10, 11, 12, 13, 14, 15, 16, 17, 18, 19, 20, 21, 22, 23, 24, 25, 26, 27] f H) (origRow call it base s_token_Lex_1_r1 [0, 7, 8, 9, 10, 11, 12, 13, 14, 15, 16, 17, 18, 19, 20, 21, 22, 23, 24, 25, 26, 27, 28, 29, 30] f H) := row_seg call it base s_token_Lex_1_r1p0 s_token_Lex_1_r1t1 (by kernel_rfl) f H
theorem s_token_Lex_1_r1t1_x (call : CallF) (it : IterF) (base : Nat) (f : List V) (H : Heap) : evC call it base (.region s_token_Lex_1_r1t1 [] [0, 7, 8, 9, 10, 11, 12, 13, 14, 15, 16, 17, 18, 19, 20, 21, 22, 23, 24, 25, 26, 27, 28, 29, 30]) f H = thenC call it base (.region s_token_Lex_1_r1t2 [] [0, 7, 8, 9, 10, 11, 12, 13, 14, 15, 16, 17, 18, 19, 20, 21, 22, 23, 24, 25, 26, 27, 28, 29, 30]) (opsC [] s_token_Lex_1_r1p1 [28] (evOps call base [⟨some 29, (.buildSl 5 1 [(.s (.int .u8 0)), (.s (.string ⟨#[]⟩)), (.s (.int .i64 0)), (.s (.int .i64 0)), (.s (.int .i64 0))] [(0, (.t 28))]), none⟩] f H)) := (row_op call it base s_token_Lex_1_r1p1 s_token_Lex_1_r1t2 (kc := [28]) (by kernel_rfl) f H).trans (by rw [row_ops]; rfl)
theorem s_token_Lex_1_r1t2_x (call : CallF) (it : IterF) (base : Nat) (f : List V) (H : Heap) : evC call it base (.region s_token_Lex_1_r1t2 [] [0, 7, 8, 9, 10, 11, 12, 13, 14, 15, 16, 17, 18, 19, 20, 21, 22, 23, 24, 25, 26, 27, 28, 29, 30]) f H = thenC call it base (.region s_token_Lex_1_r1t3 [] [0, 7, 8, 9, 10, 11, 12, 13, 14, 15, 16, 17, 18, 19, 20, 21, 22, 23, 24, 25, 26, 27, 28, 29, 30]) (opsC [] s_token_Lex_1_r1p2 [7, 29] (evOps call base [⟨some 30, (.append 5 48 (.t 7) (.t 29)), none⟩] f H)) := (row_op call it base s_token_Lex_1_r1p2 s_token_Lex_1_r1t3 (kc := [7, 29]) (by kernel_rfl) f H).trans (by rw [row_ops]; rfl)
theorem s_token_Lex_1_r1t3_x (call : CallF) (it : IterF) (base : Nat) (f : List V) (H : Heap) : evC call it base (.region s_token_Lex_1_r1t3 [] [0, 7, 8, 9, 10, 11, 12, 13, 14, 15, 16, 17, 18, 19, 20, 21, 22, 23, 24, 25, 26, 27, 28, 29, 30]) f H = opsC [] s_token_Lex_1_r1t3 [0, 7, 8, 9, 10, 11, 12, 13, 14, 15, 16, 17, 18, 19, 20, 21, 22, 23, 24, 25, 26, 27, 28, 29, 30] (evOps call base [⟨none, (.store 1 (.t 2) (.t 30)), none⟩] f H) := row_ops call it base _ _ f H
def s_token_Lex_1_r2t1 : List AOper := [⟨some 33, (.call (.c (.fn 14 [] [])) [(.t 31), (.t 32)]), none⟩]
def s_token_Lex_1_r2p0 : List AOper := [⟨some 31, (.load false 1 (.t 3)), none⟩, ⟨some 32, (.move (.t 1)), none⟩]
def s_token_Lex_1_r2 : List AOper := s_token_Lex_1_r2p0 ++ s_token_Lex_1_r2t1
theorem s_token_Lex_1_r2p0_tale (fr : List V) (H : Heap) : evTale (symAll s_token_Lex_1_r2p0 [1, 3] [31, 32]) [1, 3] fr H = evTale (some (33, [], [(31, (.op (.load false 1 (.t 0)) [(.t 3)])), (32, (.t 1))])) [1, 3] fr H := tale_row (items := [.sub 0 [] [], .tt 1]) (by kernel_rfl) fr H
theorem s_token_Lex_1_r2_x (call : CallF) (it : IterF) (base : Nat) (f : List V) (H : Heap) : evC call it base (.region s_token_Lex_1_r2 [] [1, 3, 31, 32, 33]) f H = segC call it base s_token_Lex_1_r2t1 [1, 3, 31, 32, 33] H (evTale (symAll s_token_Lex_1_r2p0 [1, 3] [31, 32]) [1, 3] f H) (origRow call it base s_token_Lex_1_r2 [1, 3, 31, 32, 33] f H) := row_seg call it base s_token_Lex_1_r2p0 s_token_Lex_1_r2t1 (by kernel_rfl) f H
theorem s_token_Lex_1_r2t1_x (call : CallF) (it : IterF) (base : Nat) (f : List V) (H : Heap) : evC call it base (.region s_token_Lex_1_r2t1 [] [1, 3, 31, 32, 33]) f H = opsC [] s_token_Lex_1_r2t1 [1, 3, 31, 32, 33] (evOps call base [⟨some 33, (.call (.c (.fn 14 [] [])) [(.t 31), (.t 32)]), none⟩] f H) := row_ops call it base _ _ f H
def s_token_Lex_1_r3 : List AOper := [
  ⟨some 34, (.load false 1 (.t 2)), none⟩,
  ⟨some 35, (.load false 1 (.t 2)), none⟩,
  ⟨some 36, (.lenS .s (.t 35)), none⟩,
  ⟨some 37, (.bin .sub (.t 36) (.c (.s (.int .i64 1)))), none⟩,
  ⟨some 38, (.indexAddr 5 (.t 34) (.t 37)), none⟩,
  ⟨some 6, (.move (.t 38)), none⟩]
theorem s_token_Lex_1_r3_tale (fr : List V) (H : Heap) : evTale (symAll s_token_Lex_1_r3 [2, 34, 35, 36, 37, 38] [6]) [2, 34, 35, 36, 37, 38] fr H = evTale (some (39, [], [(6, (.op (.indexAddr 5 (.t 0) (.t 1)) [(.op (.load false 1 (.t 0)) [(.t 2)]), (.op (.bin .sub (.t 0) (.c (.s (.int .i64 1)))) [(.op (.lenS .s (.t 0)) [(.op (.load false 1 (.t 0)) [(.t 2)])]), (.c (.s (.int .i64 1)))])]))])) [2, 34, 35, 36, 37, 38] fr H := tale_row (items := [.sub 0 [0] [], .sub 0 [0] [], .sub 0 [1, 0] [], .sub 0 [1] [], .sub 0 [] [], .sub 0 [] []]) (by kernel_rfl) fr H
def s_token_Lex_1 : ACFun := { ntmps := 39, results := [(.tmp 6)], body :=
  (.seq (.regionE s_token_Lex_1_r0 s_token_Lex_1_r0_k [])
  (.seq (.region s_token_Lex_1_r1 [] [0, 7, 8, 9, 10, 11, 12, 13, 14, 15, 16, 17, 18, 19, 20, 21, 22, 23, 24, 25, 26, 27, 28, 29, 30])
  (.seq (.region s_token_Lex_1_r2 [] [1, 3, 31, 32, 33])
  (.seq (.regionE s_token_Lex_1_r3 [2, 34, 35, 36, 37, 38] [6])
  .ret)))) }
abbrev k_token_reader_step : Nat := 14
def s_token_reader_step_r0_k : List Nat := [1, 2, 3, 6, 7, 8, 9, 10, 11, 12, 13, 14, 15, 16, 17, 18, 19, 20, 21, 22, 23, 24, 25, 26, 27, 28, 29, 30, 31, 32, 33, 34, 35, 36, 37, 38, 39, 40, 41, 42, 43, 44, 45, 46, 47]
theorem s_token_reader_step_r0_kT : killV s_token_reader_step_r0_k (startV 48 [] 2) = [(4, und), (5, und)] := by kernel_rfl
theorem s_token_reader_step_r0_kA0 : s_token_reader_step_r0_k.contains 0 = false := by kernel_rfl
theorem s_token_reader_step_r0_kA1 : s_token_reader_step_r0_k.contains 1 = true := by kernel_rfl
def s_token_reader_step_r0 : List AOper := [
  ⟨some 4, (.move (.t 1)), none⟩,
  ⟨some 5, (.move (.c (.s (.int .i64 0)))), none⟩]
theorem s_token_reader_step_r0_tale (fr : List V) (H : Heap) : evTale (symAll s_token_reader_step_r0 s_token_reader_step_r0_k [4, 5]) s_token_reader_step_r0_k fr H = evTale (some (6, [], [(4, (.t 1)), (5, (.c (.s (.int .i64 0))))])) s_token_reader_step_r0_k fr H := tale_row (items := [.tt 1, .cc (.s (.int .i64 0))]) (by kernel_rfl) fr H
def s_token_reader_step_r1 : List AOper := [
  ⟨some 6, (.bin .lss (.t 5) (.t 4)), none⟩]
theorem s_token_reader_step_r1_tale (fr : List V) (H : Heap) : evTale (symAll s_token_reader_step_r1 [] [6]) [] fr H = evTale (some (7, [], [(6, (.op (.bin .lss (.t 0) (.t 1)) [(.t 5), (.t 4)]))])) [] fr H := tale_row (items := [.sub 0 [] []]) (by kernel_rfl) fr H
def s_token_reader_step_r2t1 : List AOper := [⟨none, (.store 1 (.t 15) (.t 12)), none⟩]
def s_token_reader_step_r2p0 : List AOper := [⟨some 7, (.move (.t 0)), none⟩, ⟨some 8, (.nilCheck (.t 7)), none⟩, ⟨some 9, (.fieldAddr 0 (.t 8)), none⟩, ⟨some 10, (.fieldAddr 1 (.t 9)), none⟩, ⟨some 11, (.load false 1 (.t 10)), none⟩, ⟨some 12, (.bin .add (.t 11) (.c (.s (.int .i64 1)))), none⟩, ⟨some 13, (.nilCheck (.t 7)), none⟩, ⟨some 14, (.fieldAddr 0 (.t 13)), none⟩, ⟨some 15, (.fieldAddr 1 (.t 14)), none⟩]
def s_token_reader_step_r2 : List AOper := s_token_reader_step_r2p0 ++ s_token_reader_step_r2t1
theorem s_token_reader_step_r2p0_tale (fr : List V) (H : Heap) : evTale (symAll s_token_reader_step_r2p0 [6, 7, 8, 9, 10, 11, 13, 14] [12, 15]) [6, 7, 8, 9, 10, 11, 13, 14] fr H = evTale (some (16, [], [(12, (.op (.bin .add (.t 0) (.c (.s (.int .i64 1)))) [(.op (.load false 1 (.t 0)) [(.op (.fieldAddr 1 (.t 0)) [(.op (.fieldAddr 0 (.t 0)) [(.op (.nilCheck (.t 0)) [(.t 0)])])])]), (.c (.s (.int .i64 1)))])), (15, (.op (.fieldAddr 1 (.t 0)) [(.op (.fieldAddr 0 (.t 0)) [(.op (.nilCheck (.t 0)) [(.t 0)])])]))])) [6, 7, 8, 9, 10, 11, 13, 14] fr H := tale_row (items := [.tt 0, .sub 0 [0, 0, 0, 0] [], .sub 0 [0, 0, 0] [], .sub 0 [0, 0] [], .sub 0 [0] [], .sub 0 [] [], .sub 0 [0, 0, 0, 0] [], .sub 0 [0, 0, 0] [], .sub 0 [0, 0] []]) (by kernel_rfl) fr H
theorem s_token_reader_step_r2_x (call : CallF) (it : IterF) (base : Nat) (f : List V) (H : Heap) : evC call it base (.region s_token_reader_step_r2 [] [6, 7, 8, 9, 10, 11, 12, 13, 14, 15]) f H = segC call it base s_token_reader_step_r2t1 [6, 7, 8, 9, 10, 11, 12, 13, 14, 15] H (evTale (symAll s_token_reader_step_r2p0 [6, 7, 8, 9, 10, 11, 13, 14] [12, 15]) [6, 7, 8, 9, 10, 11, 13, 14] f H) (origRow call it base s_token_reader_step_r2 [6, 7, 8, 9, 10, 11, 12, 13, 14, 15] f H) := row_seg call it base s_token_reader_step_r2p0 s_token_reader_step_r2t1 (by kernel_rfl) f H
theorem s_token_reader_step_r2t1_x (call : CallF) (it : IterF) (base : Nat) (f : List V) (H : Heap) : evC call it base (.region s_token_reader_step_r2t1 [] [6, 7, 8, 9, 10, 11, 12, 13, 14, 15]) f H = opsC [] s_token_reader_step_r2t1 [6, 7, 8, 9, 10, 11, 12, 13, 14, 15] (evOps call base [⟨none, (.store 1 (.t 15) (.t 12)), none⟩] f H) := row_ops call it base _ _ f H
def s_token_reader_step_r3 : List AOper := [
  ⟨some 16, (.move (.t 0)), none⟩,
  ⟨some 17, (.nilCheck (.t 16)), none⟩,
  ⟨some 18, (.fieldAddr 2 (.t 17)), none⟩,
  ⟨some 19, (.load false 1 (.t 18)), none⟩,
  ⟨some 20, (.move (.t 0)), none⟩,
  ⟨some 21, (.nilCheck (.t 20)), none⟩,
  ⟨some 22, (.fieldAddr 3 (.t 21)), none⟩,
  ⟨some 23, (.load false 1 (.t 22)), none⟩,
  ⟨some 24, (.indexStr (.t 19) (.t 23)), none⟩,
  ⟨some 25, (.bin .eql (.t 24) (.c (.s (.int .u8 10)))), none⟩]
theorem s_token_reader_step_r3_tale (fr : List V) (H : Heap) : evTale (symAll s_token_reader_step_r3 [16, 17, 18, 19, 20, 21, 22, 23, 24] [25]) [16, 17, 18, 19, 20, 21, 22, 23, 24] fr H = evTale (some (26, [], [(25, (.op (.bin .eql (.t 0) (.c (.s (.int .u8 10)))) [(.op (.indexStr (.t 0) (.t 1)) [(.op (.load false 1 (.t 0)) [(.op (.fieldAddr 2 (.t 0)) [(.op (.nilCheck (.t 0)) [(.t 0)])])]), (.op (.load false 1 (.t 0)) [(.op (.fieldAddr 3 (.t 0)) [(.op (.nilCheck (.t 0)) [(.t 0)])])])]), (.c (.s (.int .u8 10)))]))])) [16, 17, 18, 19, 20, 21, 22, 23, 24] fr H := tale_row (items := [.tt 0, .sub 0 [0, 0, 0, 0] [], .sub 0 [0, 0, 0] [], .sub 0 [0, 0] [], .tt 0, .sub 0 [0, 0, 0, 0] [], .sub 0 [0, 1, 0] [], .sub 0 [0, 1] [], .sub 0 [0] [], .sub 0 [] []]) (by kernel_rfl) fr H
def s_token_reader_step_r4t3 : List AOper := [⟨none, (.store 1 (.t 39) (.c (.s (.int .i64 1)))), none⟩]
def s_token_reader_step_r4p2 : List AOper := [⟨some 37, (.nilCheck (.t 27)), none⟩, ⟨some 38, (.fieldAddr 0 (.t 37)), none⟩, ⟨some 39, (.fieldAddr 1 (.t 38)), none⟩]
def s_token_reader_step_r4t2 : List AOper := s_token_reader_step_r4p2 ++ s_token_reader_step_r4t3
def s_token_reader_step_r4p1 : List AOper := [⟨none, (.store 1 (.t 36) (.t 33)), none⟩]
def s_token_reader_step_r4t1 : List AOper := s_token_reader_step_r4p1 ++ s_token_reader_step_r4t2
def s_token_reader_step_r4p0 : List AOper := [⟨some 26, (.move (.t 0)), none⟩, ⟨some 27, (.move (.t 0)), none⟩, ⟨some 28, (.move (.t 0)), none⟩, ⟨some 29, (.nilCheck (.t 28)), none⟩, ⟨some 30, (.fieldAddr 0 (.t 29)), none⟩, ⟨some 31, (.fieldAddr 0 (.t 30)), none⟩, ⟨some 32, (.load false 1 (.t 31)), none⟩, ⟨some 33, (.bin .add (.t 32) (.c (.s (.int .i64 1)))), none⟩, ⟨some 34, (.nilCheck (.t 26)), none⟩, ⟨some 35, (.fieldAddr 0 (.t 34)), none⟩, ⟨some 36, (.fieldAddr 0 (.t 35)), none⟩]
def s_token_reader_step_r4 : List AOper := s_token_reader_step_r4p0 ++ s_token_reader_step_r4t1
theorem s_token_reader_step_r4p0_tale (fr : List V) (H : Heap) : evTale (symAll s_token_reader_step_r4p0 [25, 26, 28, 29, 30, 31, 32, 34, 35] [27, 33, 36]) [25, 26, 28, 29, 30, 31, 32, 34, 35] fr H = evTale (some (37, [], [(27, (.t 0)), (33, (.op (.bin .add (.t 0) (.c (.s (.int .i64 1)))) [(.op (.load false 1 (.t 0)) [(.op (.fieldAddr 0 (.t 0)) [(.op (.fieldAddr 0 (.t 0)) [(.op (.nilCheck (.t 0)) [(.t 0)])])])]), (.c (.s (.int .i64 1)))])), (36, (.op (.fieldAddr 0 (.t 0)) [(.op (.fieldAddr 0 (.t 0)) [(.op (.nilCheck (.t 0)) [(.t 0)])])]))])) [25, 26, 28, 29, 30, 31, 32, 34, 35] fr H := tale_row (items := [.tt 0, .tt 0, .tt 0, .sub 1 [0, 0, 0, 0] [], .sub 1 [0, 0, 0] [], .sub 1 [0, 0] [], .sub 1 [0] [], .sub 1 [] [], .sub 1 [0, 0, 0, 0] [], .sub 1 [0, 0, 0] [], .sub 1 [0, 0] []]) (by kernel_rfl) fr H
theorem s_token_reader_step_r4_x (call : CallF) (it : IterF) (base : Nat) (f : List V) (H : Heap) : evC call it base (.region s_token_reader_step_r4 [] [25, 26, 27, 28, 29, 30, 31, 32, 33, 34, 35, 36, 37, 38, 39]) f H = segC call it base s_token_reader_step_r4t1 [25, 26, 27, 28, 29, 30, 31, 32, 33, 34, 35, 36, 37, 38, 39] H (evTale (symAll s_token_reader_step_r4p0 [25, 26, 28, 29, 30, 31, 32, 34, 35] [27, 33, 36]) [25, 26, 28, 29, 30, 31, 32, 34, 35] f H) (origRow call it base s_token_reader_step_r4 [25, 26, 27, 28, 29, 30, 31, 32, 33, 34, 35, 36, 37, 38, 39] f H) := row_seg call it base s_token_reader_step_r4p0 s_token_reader_step_r4t1 (by kernel_rfl) f H
theorem s_token_reader_step_r4t1_x (call : CallF) (it : IterF) (base : Nat) (f : List V) (H : Heap) : evC call it base (.region s_token_reader_step_r4t1 [] [25, 26, 27, 28, 29, 30, 31, 32, 33, 34, 35, 36, 37, 38, 39]) f H = thenC call it base (.region s_token_reader_step_r4t2 [] [25, 26, 27, 28, 29, 30, 31, 32, 33, 34, 35, 36, 37, 38, 39]) (opsC [] s_token_reader_step_r4p1 [33, 36] (evOps call base [⟨none, (.store 1 (.t 36) (.t 33)), none⟩] f H)) := (row_op call it base s_token_reader_step_r4p1 s_token_reader_step_r4t2 (kc := [33, 36]) (by kernel_rfl) f H).trans (by rw [row_ops]; rfl)
theorem s_token_reader_step_r4p2_tale (fr : List V) (H : Heap) : evTale (symAll s_token_reader_step_r4p2 [27, 37, 38] [39]) [27, 37, 38] fr H = evTale (some (40, [], [(39, (.op (.fieldAddr 1 (.t 0)) [(.op (.fieldAddr 0 (.t 0)) [(.op (.nilCheck (.t 0)) [(.t 27)])])]))])) [27, 37, 38] fr H := tale_row (items := [.sub 0 [0, 0] [], .sub 0 [0] [], .sub 0 [] []]) (by kernel_rfl) fr H
theorem s_token_reader_step_r4t2_x (call : CallF) (it : IterF) (base : Nat) (f : List V) (H : Heap) : evC call it base (.region s_token_reader_step_r4t2 [] [25, 26, 27, 28, 29, 30, 31, 32, 33, 34, 35, 36, 37, 38, 39]) f H = segC call it base s_token_reader_step_r4t3 [25, 26, 27, 28, 29, 30, 31, 32, 33, 34, 35, 36, 37, 38, 39] H (evTale (symAll s_token_reader_step_r4p2 [27, 37, 38] [39]) [27, 37, 38] f H) (origRow call it base s_token_reader_step_r4t2 [25, 26, 27, 28, 29, 30, 31, 32, 33, 34, 35, 36, 37, 38, 39] f H) := row_seg call it base s_token_reader_step_r4p2 s_token_reader_step_r4t3 (by kernel_rfl) f H
theorem s_token_reader_step_r4t3_x (call : CallF) (it : IterF) (base : Nat) (f : List V) (H : Heap) : evC call it base (.region s_token_reader_step_r4t3 [] [25, 26, 27, 28, 29, 30, 31, 32, 33, 34, 35, 36, 37, 38, 39]) f H = opsC [] s_token_reader_step_r4t3 [25, 26, 27, 28, 29, 30, 31, 32, 33, 34, 35, 36, 37, 38, 39] (evOps call base [⟨none, (.store 1 (.t 39) (.c (.s (.int .i64 1)))), none⟩] f H) := row_ops call it base _ _ f H
def s_token_reader_step_r5t1 : List AOper := [⟨none, (.store 1 (.t 46) (.t 44)), none⟩]
def s_token_reader_step_r5p0 : List AOper := [⟨some 40, (.move (.t 0)), none⟩, ⟨some 41, (.nilCheck (.t 40)), none⟩, ⟨some 42, (.fieldAddr 3 (.t 41)), none⟩, ⟨some 43, (.load false 1 (.t 42)), none⟩, ⟨some 44, (.bin .add (.t 43) (.c (.s (.int .i64 1)))), none⟩, ⟨some 45, (.nilCheck (.t 40)), none⟩, ⟨some 46, (.fieldAddr 3 (.t 45)), none⟩]
def s_token_reader_step_r5 : List AOper := s_token_reader_step_r5p0 ++ s_token_reader_step_r5t1
theorem s_token_reader_step_r5p0_tale (fr : List V) (H : Heap) : evTale (symAll s_token_reader_step_r5p0 [25, 40, 41, 42, 43, 45] [44, 46]) [25, 40, 41, 42, 43, 45] fr H = evTale (some (47, [], [(44, (.op (.bin .add (.t 0) (.c (.s (.int .i64 1)))) [(.op (.load false 1 (.t 0)) [(.op (.fieldAddr 3 (.t 0)) [(.op (.nilCheck (.t 0)) [(.t 0)])])]), (.c (.s (.int .i64 1)))])), (46, (.op (.fieldAddr 3 (.t 0)) [(.op (.nilCheck (.t 0)) [(.t 0)])]))])) [25, 40, 41, 42, 43, 45] fr H := tale_row (items := [.tt 0, .sub 0 [0, 0, 0] [], .sub 0 [0, 0] [], .sub 0 [0] [], .sub 0 [] [], .sub 0 [0, 0, 0] [], .sub 0 [0, 0] []]) (by kernel_rfl) fr H
theorem s_token_reader_step_r5_x (call : CallF) (it : IterF) (base : Nat) (f : List V) (H : Heap) : evC call it base (.region s_token_reader_step_r5 [] [25, 40, 41, 42, 43, 44, 45, 46]) f H = segC call it base s_token_reader_step_r5t1 [25, 40, 41, 42, 43, 44, 45, 46] H (evTale (symAll s_token_reader_step_r5p0 [25, 40, 41, 42, 43, 45] [44, 46]) [25, 40, 41, 42, 43, 45] f H) (origRow call it base s_token_reader_step_r5 [25, 40, 41, 42, 43, 44, 45, 46] f H) := row_seg call it base s_token_reader_step_r5p0 s_token_reader_step_r5t1 (by kernel_rfl) f H
theorem s_token_reader_step_r5t1_x (call : CallF) (it : IterF) (base : Nat) (f : List V) (H : Heap) : evC call it base (.region s_token_reader_step_r5t1 [] [25, 40, 41, 42, 43, 44, 45, 46]) f H = opsC [] s_token_reader_step_r5t1 [25, 40, 41, 42, 43, 44, 45, 46] (evOps call base [⟨none, (.store 1 (.t 46) (.t 44)), none⟩] f H) := row_ops call it base _ _ f H
def s_token_reader_step_r6 : List AOper := [
  ⟨some 47, (.bin .add (.t 5) (.c (.s (.int .i64 1)))), none⟩,
  ⟨some 5, (.move (.t 47)), none⟩]
theorem s_token_reader_step_r6_tale (fr : List V) (H : Heap) : evTale (symAll s_token_reader_step_r6 [47] [5]) [47] fr H = evTale (some (48, [], [(5, (.op (.bin .add (.t 0) (.c (.s (.int .i64 1)))) [(.t 5), (.c (.s (.int .i64 1)))]))])) [47] fr H := tale_row (items := [.sub 0 [] [], .sub 0 [] []]) (by kernel_rfl) fr H
def s_token_reader_step_l0_b : ACode :=
  (.seq (.regionE s_token_reader_step_r1 [] [6])
  (.seq (.cond (.t 6)
  .skip
  (.exit 0))
  (.seq (.block 1
  (.seq (.region s_token_reader_step_r2 [] [6, 7, 8, 9, 10, 11, 12, 13, 14, 15])
  (.seq (.seq (.regionE s_token_reader_step_r3 [16, 17, 18, 19, 20, 21, 22, 23, 24] [25])
  (.cond (.t 25)
  (.region s_token_reader_step_r4 [] [25, 26, 27, 28, 29, 30, 31, 32, 33, 34, 35, 36, 37, 38, 39])
  .skip))
  (.region s_token_reader_step_r5 [] [25, 40, 41, 42, 43, 44, 45, 46]))))
  (.regionE s_token_reader_step_r6 [47] [5]))))
def s_token_reader_step_l0 : ACode := s_token_reader_step_l0_b
theorem s_token_reader_step_l0_ev (call : CallF) (it : IterF) (base : Nat) (fr : List V) (H : Heap) : evC call it base s_token_reader_step_l0 fr H = evC call it base s_token_reader_step_l0_b fr H := rfl
def s_token_reader_step : ACFun := { ntmps := 48, results := [], body :=
  (.seq (.regionE s_token_reader_step_r0 s_token_reader_step_r0_k [4, 5])
  (.block 0
  (.loop [] s_token_reader_step_l0))) }
abbrev k_token_reader_far : Nat := 16
def s_token_reader_far_r0_k : List Nat := [2, 3, 4, 5, 6, 7, 8, 9, 10, 11, 12, 13, 14, 15, 16, 17, 18, 19, 20, 21, 22, 23, 24, 25, 26, 27, 28, 29, 30, 31, 32, 33, 34, 35]
theorem s_token_reader_far_r0_kT : killV s_token_reader_far_r0_k (startV 36 [] 2) = [] := by kernel_rfl
theorem s_token_reader_far_r0_kA0 : s_token_reader_far_r0_k.contains 0 = false := by kernel_rfl
theorem s_token_reader_far_r0_kA1 : s_token_reader_far_r0_k.contains 1 = false := by kernel_rfl
def s_token_reader_far_r0 : List AOper := [
  ⟨some 4, (.move (.c (.s (.int .i64 0)))), none⟩]
theorem s_token_reader_far_r0_tale (fr : List V) (H : Heap) : evTale (symAll s_token_reader_far_r0 s_token_reader_far_r0_k []) s_token_reader_far_r0_k fr H = evTale (some (5, [], [])) s_token_reader_far_r0_k fr H := tale_row (items := [.cc (.s (.int .i64 0))]) (by kernel_rfl) fr H
def s_token_reader_far_r1 : List AOper := [
  ⟨some 5, (.move (.c (.s (.int .i64 0)))), none⟩]
theorem s_token_reader_far_r1_tale (fr : List V) (H : Heap) : evTale (symAll s_token_reader_far_r1 [] [5]) [] fr H = evTale (some (6, [], [(5, (.c (.s (.int .i64 0))))])) [] fr H := tale_row (items := [.cc (.s (.int .i64 0))]) (by kernel_rfl) fr H
def s_token_reader_far_r2t14 : List AOper := [⟨some 32, (.pick (.t 18) (.t 31) (.c (.s (.bool false)))), none⟩]
def s_token_reader_far_r2p13 : List AOper := [⟨some 31, (.call (.t 19) [(.t 30)]), some (18, true)⟩]
def s_token_reader_far_r2t13 : List AOper := s_token_reader_far_r2p13 ++ s_token_reader_far_r2t14
def s_token_reader_far_r2p12 : List AOper := [⟨some 30, (.indexStr (.t 23) (.t 29)), some (18, true)⟩]
def s_token_reader_far_r2t12 : List AOper := s_token_reader_far_r2p12 ++ s_token_reader_far_r2t13
def s_token_reader_far_r2p11 : List AOper := [⟨some 29, (.bin .add (.t 27) (.t 28)), some (18, true)⟩]
def s_token_reader_far_r2t11 : List AOper := s_token_reader_far_r2p11 ++ s_token_reader_far_r2t12
def s_token_reader_far_r2p10 : List AOper := [⟨some 28, (.move (.t 5)), some (18, true)⟩]
def s_token_reader_far_r2t10 : List AOper := s_token_reader_far_r2p10 ++ s_token_reader_far_r2t11
def s_token_reader_far_r2p9 : List AOper := [⟨some 27, (.load false 1 (.t 26)), some (18, true)⟩]
def s_token_reader_far_r2t9 : List AOper := s_token_reader_far_r2p9 ++ s_token_reader_far_r2t10
def s_token_reader_far_r2p8 : List AOper := [⟨some 26, (.fieldAddr 3 (.t 25)), some (18, true)⟩]
def s_token_reader_far_r2t8 : List AOper := s_token_reader_far_r2p8 ++ s_token_reader_far_r2t9
def s_token_reader_far_r2p7 : List AOper := [⟨some 25, (.nilCheck (.t 24)), some (18, true)⟩]
def s_token_reader_far_r2t7 : List AOper := s_token_reader_far_r2p7 ++ s_token_reader_far_r2t8
def s_token_reader_far_r2p6 : List AOper := [⟨some 24, (.move (.t 0)), some (18, true)⟩]
def s_token_reader_far_r2t6 : List AOper := s_token_reader_far_r2p6 ++ s_token_reader_far_r2t7
def s_token_reader_far_r2p5 : List AOper := [⟨some 23, (.load false 1 (.t 22)), some (18, true)⟩]
def s_token_reader_far_r2t5 : List AOper := s_token_reader_far_r2p5 ++ s_token_reader_far_r2t6
def s_token_reader_far_r2p4 : List AOper := [⟨some 22, (.fieldAddr 2 (.t 21)), some (18, true)⟩]
def s_token_reader_far_r2t4 : List AOper := s_token_reader_far_r2p4 ++ s_token_reader_far_r2t5
def s_token_reader_far_r2p3 : List AOper := [⟨some 21, (.nilCheck (.t 20)), some (18, true)⟩]
def s_token_reader_far_r2t3 : List AOper := s_token_reader_far_r2p3 ++ s_token_reader_far_r2t4
def s_token_reader_far_r2p2 : List AOper := [⟨some 20, (.move (.t 0)), some (18, true)⟩]
def s_token_reader_far_r2t2 : List AOper := s_token_reader_far_r2p2 ++ s_token_reader_far_r2t3
def s_token_reader_far_r2p1 : List AOper := [⟨some 19, (.move (.t 1)), some (18, true)⟩]
def s_token_reader_far_r2t1 : List AOper := s_token_reader_far_r2p1 ++ s_token_reader_far_r2t2
def s_token_reader_far_r2p0 : List AOper := [⟨some 6, (.move (.t 0)), none⟩, ⟨some 7, (.nilCheck (.t 6)), none⟩, ⟨some 8, (.fieldAddr 3 (.t 7)), none⟩, ⟨some 9, (.load false 1 (.t 8)), none⟩, ⟨some 10, (.move (.t 5)), none⟩, ⟨some 11, (.bin .add (.t 9) (.t 10)), none⟩, ⟨some 12, (.move (.t 0)), none⟩, ⟨some 13, (.nilCheck (.t 12)), none⟩, ⟨some 14, (.fieldAddr 2 (.t 13)), none⟩, ⟨some 15, (.load false 1 (.t 14)), none⟩, ⟨some 16, (.lenS .p (.t 15)), none⟩, ⟨some 17, (.bin .lss (.t 11) (.t 16)), none⟩, ⟨some 18, (.move (.t 17)), none⟩]
def s_token_reader_far_r2 : List AOper := s_token_reader_far_r2p0 ++ s_token_reader_far_r2t1
theorem s_token_reader_far_r2p0_tale (fr : List V) (H : Heap) : evTale (symAll s_token_reader_far_r2p0 [6, 7, 8, 9, 10, 11, 12, 13, 14, 15, 16, 17] [18]) [6, 7, 8, 9, 10, 11, 12, 13, 14, 15, 16, 17] fr H = evTale (some (19, [], [(18, (.op (.bin .lss (.t 0) (.t 1)) [(.op (.bin .add (.t 0) (.t 1)) [(.op (.load false 1 (.t 0)) [(.op (.fieldAddr 3 (.t 0)) [(.op (.nilCheck (.t 0)) [(.t 0)])])]), (.t 5)]), (.op (.lenS .p (.t 0)) [(.op (.load false 1 (.t 0)) [(.op (.fieldAddr 2 (.t 0)) [(.op (.nilCheck (.t 0)) [(.t 0)])])])])]))])) [6, 7, 8, 9, 10, 11, 12, 13, 14, 15, 16, 17] fr H := tale_row (items := [.tt 0, .sub 0 [0, 0, 0, 0] [], .sub 0 [0, 0, 0] [], .sub 0 [0, 0] [], .tt 5, .sub 0 [0] [], .tt 0, .sub 0 [0, 0, 0, 0] [], .sub 0 [1, 0, 0] [], .sub 0 [1, 0] [], .sub 0 [1] [], .sub 0 [] [], .sub 0 [] []]) (by kernel_rfl) fr H
theorem s_token_reader_far_r2_x (call : CallF) (it : IterF) (base : Nat) (f : List V) (H : Heap) : evC call it base (.region s_token_reader_far_r2 [] [6, 7, 8, 9, 10, 11, 12, 13, 14, 15, 16, 17, 18, 19, 20, 21, 22, 23, 24, 25, 26, 27, 28, 29, 30, 31]) f H = segC call it base s_token_reader_far_r2t1 [6, 7, 8, 9, 10, 11, 12, 13, 14, 15, 16, 17, 18, 19, 20, 21, 22, 23, 24, 25, 26, 27, 28, 29, 30, 31] H (evTale (symAll s_token_reader_far_r2p0 [6, 7, 8, 9, 10, 11, 12, 13, 14, 15, 16, 17] [18]) [6, 7, 8, 9, 10, 11, 12, 13, 14, 15, 16, 17] f H) (origRow call it base s_token_reader_far_r2 [6, 7, 8, 9, 10, 11, 12, 13, 14, 15, 16, 17, 18, 19, 20, 21, 22, 23, 24, 25, 26, 27, 28, 29, 30, 31] f H) := row_seg call it base s_token_reader_far_r2p0 s_token_reader_far_r2t1 (by kernel_rfl) f H
theorem s_token_reader_far_r2t1_x (call : CallF) (it : IterF) (base : Nat) (f : List V) (H : Heap) : evC call it base (.region s_token_reader_far_r2t1 [] [6, 7, 8, 9, 10, 11, 12, 13, 14, 15, 16, 17, 18, 19, 20, 21, 22, 23, 24, 25, 26, 27, 28, 29, 30, 31]) f H = thenC call it base (.region s_token_reader_far_r2t2 [] [6, 7, 8, 9, 10, 11, 12, 13, 14, 15, 16, 17, 18, 19, 20, 21, 22, 23, 24, 25, 26, 27, 28, 29, 30, 31]) (opsC [] s_token_reader_far_r2p1 [] (evOps call base [⟨some 19, (.move (.t 1)), some (18, true)⟩] f H)) := (row_op call it base s_token_reader_far_r2p1 s_token_reader_far_r2t2 (kc := []) (by kernel_rfl) f H).trans (by rw [row_ops]; rfl)
theorem s_token_reader_far_r2t2_x (call : CallF) (it : IterF) (base : Nat) (f : List V) (H : Heap) : evC call it base (.region s_token_reader_far_r2t2 [] [6, 7, 8, 9, 10, 11, 12, 13, 14, 15, 16, 17, 18, 19, 20, 21, 22, 23, 24, 25, 26, 27, 28, 29, 30, 31]) f H = thenC call it base (.region s_token_reader_far_r2t3 [] [6, 7, 8, 9, 10, 11, 12, 13, 14, 15, 16, 17, 18, 19, 20, 21, 22, 23, 24, 25, 26, 27, 28, 29, 30, 31]) (opsC [] s_token_reader_far_r2p2 [] (evOps call base [⟨some 20, (.move (.t 0)), some (18, true)⟩] f H)) := (row_op call it base s_token_reader_far_r2p2 s_token_reader_far_r2t3 (kc := []) (by kernel_rfl) f H).trans (by rw [row_ops]; rfl)
theorem s_token_reader_far_r2t3_x (call : CallF) (it : IterF) (base : Nat) (f : List V) (H : Heap) : evC call it base (.region s_token_reader_far_r2t3 [] [6, 7, 8, 9, 10, 11, 12, 13, 14, 15, 16, 17, 18, 19, 20, 21, 22, 23, 24, 25, 26, 27, 28, 29, 30, 31]) f H = thenC call it base (.region s_token_reader_far_r2t4 [] [6, 7, 8, 9, 10, 11, 12, 13, 14, 15, 16, 17, 18, 19, 20, 21, 22, 23, 24, 25, 26, 27, 28, 29, 30, 31]) (opsC [] s_token_reader_far_r2p3 [20] (evOps call base [⟨some 21, (.nilCheck (.t 20)), some (18, true)⟩] f H)) := (row_op call it base s_token_reader_far_r2p3 s_token_reader_far_r2t4 (kc := [20]) (by kernel_rfl) f H).trans (by rw [row_ops]; rfl)
theorem s_token_reader_far_r2t4_x (call : CallF) (it : IterF) (base : Nat) (f : List V) (H : Heap) : evC call it base (.region s_token_reader_far_r2t4 [] [6, 7, 8, 9, 10, 11, 12, 13, 14, 15, 16, 17, 18, 19, 20, 21, 22, 23, 24, 25, 26, 27, 28, 29, 30, 31]) f H = thenC call it base (.region s_token_reader_far_r2t5 [] [6, 7, 8, 9, 10, 11, 12, 13, 14, 15, 16, 17, 18, 19, 20, 21, 22, 23, 24, 25, 26, 27, 28, 29, 30, 31]) (opsC [] s_token_reader_far_r2p4 [21] (evOps call base [⟨some 22, (.fieldAddr 2 (.t 21)), some (18, true)⟩] f H)) := (row_op call it base s_token_reader_far_r2p4 s_token_reader_far_r2t5 (kc := [21]) (by kernel_rfl) f H).trans (by rw [row_ops]; rfl)
theorem s_token_reader_far_r2t5_x (call : CallF) (it : IterF) (base : Nat) (f : List V) (H : Heap) : evC call it base (.region s_token_reader_far_r2t5 [] [6, 7, 8, 9, 10, 11, 12, 13, 14, 15, 16, 17, 18, 19, 20, 21, 22, 23, 24, 25, 26, 27, 28, 29, 30, 31]) f H = thenC call it base (.region s_token_reader_far_r2t6 [] [6, 7, 8, 9, 10, 11, 12, 13, 14, 15, 16, 17, 18, 19, 20, 21, 22, 23, 24, 25, 26, 27, 28, 29, 30, 31]) (opsC [] s_token_reader_far_r2p5 [22] (evOps call base [⟨some 23, (.load false 1 (.t 22)), some (18, true)⟩] f H)) := (row_op call it base s_token_reader_far_r2p5 s_token_reader_far_r2t6 (kc := [22]) (by kernel_rfl) f H).trans (by rw [row_ops]; rfl)
theorem s_token_reader_far_r2t6_x (call : CallF) (it : IterF) (base : Nat) (f : List V) (H : Heap) : evC call it base (.region s_token_reader_far_r2t6 [] [6, 7, 8, 9, 10, 11, 12, 13, 14, 15, 16, 17, 18, 19, 20, 21, 22, 23, 24, 25, 26, 27, 28, 29, 30, 31]) f H = thenC call it base (.region s_token_reader_far_r2t7 [] [6, 7, 8, 9, 10, 11, 12, 13, 14, 15, 16, 17, 18, 19, 20, 21, 22, 23, 24, 25, 26, 27, 28, 29, 30, 31]) (opsC [] s_token_reader_far_r2p6 [] (evOps call base [⟨some 24, (.move (.t 0)), some (18, true)⟩] f H)) := (row_op call it base s_token_reader_far_r2p6 s_token_reader_far_r2t7 (kc := []) (by kernel_rfl) f H).trans (by rw [row_ops]; rfl)
theorem s_token_reader_far_r2t7_x (call : CallF) (it : IterF) (base : Nat) (f : List V) (H : Heap) : evC call it base (.region s_token_reader_far_r2t7 [] [6, 7, 8, 9, 10, 11, 12, 13, 14, 15, 16, 17, 18, 19, 20, 21, 22, 23, 24, 25, 26, 27, 28, 29, 30, 31]) f H = thenC call it base (.region s_token_reader_far_r2t8 [] [6, 7, 8, 9, 10, 11, 12, 13, 14, 15, 16, 17, 18, 19, 20, 21, 22, 23, 24, 25, 26, 27, 28, 29, 30, 31]) (opsC [] s_token_reader_far_r2p7 [24] (evOps call base [⟨some 25, (.nilCheck (.t 24)), some (18, true)⟩] f H)) := (row_op call it base s_token_reader_far_r2p7 s_token_reader_far_r2t8 (kc := [24]) (by kernel_rfl) f H).trans (by rw [row_ops]; rfl)
theorem s_token_reader_far_r2t8_x (call : CallF) (it : IterF) (base : Nat) (f : List V) (H : Heap) : evC call it base (.region s_token_reader_far_r2t8 [] [6, 7, 8, 9, 10, 11, 12, 13, 14, 15, 16, 17, 18, 19, 20, 21, 22, 23, 24, 25, 26, 27, 28, 29, 30, 31]) f H = thenC call it base (.region s_token_reader_far_r2t9 [] [6, 7, 8, 9, 10, 11, 12, 13, 14, 15, 16, 17, 18, 19, 20, 21, 22, 23, 24, 25, 26, 27, 28, 29, 30, 31]) (opsC [] s_token_reader_far_r2p8 [25] (evOps call base [⟨some 26, (.fieldAddr 3 (.t 25)), some (18, true)⟩] f H)) := (row_op call it base s_token_reader_far_r2p8 s_token_reader_far_r2t9 (kc := [25]) (by kernel_rfl) f H).trans (by rw [row_ops]; rfl)
theorem s_token_reader_far_r2t9_x (call : CallF) (it : IterF) (base : Nat) (f : List V) (H : Heap) : evC call it base (.region s_token_reader_far_r2t9 [] [6, 7, 8, 9, 10, 11, 12, 13, 14, 15, 16, 17, 18, 19, 20, 21, 22, 23, 24, 25, 26, 27, 28, 29, 30, 31]) f H = thenC call it base (.region s_token_reader_far_r2t10 [] [6, 7, 8, 9, 10, 11, 12, 13, 14, 15, 16, 17, 18, 19, 20, 21, 22, 23, 24, 25, 26, 27, 28, 29, 30, 31]) (opsC [] s_token_reader_far_r2p9 [26] (evOps call base [⟨some 27, (.load false 1 (.t 26)), some (18, true)⟩] f H)) := (row_op call it base s_token_reader_far_r2p9 s_token_reader_far_r2t10 (kc := [26]) (by kernel_rfl) f H).trans (by rw [row_ops]; rfl)
theorem s_token_reader_far_r2t10_x (call : CallF) (it : IterF) (base : Nat) (f : List V) (H : Heap) : evC call it base (.region s_token_reader_far_r2t10 [] [6, 7, 8, 9, 10, 11, 12, 13, 14, 15, 16, 17, 18, 19, 20, 21, 22, 23, 24, 25, 26, 27, 28, 29, 30, 31]) f H = thenC call it base (.region s_token_reader_far_r2t11 [] [6, 7, 8, 9, 10, 11, 12, 13, 14, 15, 16, 17, 18, 19, 20, 21, 22, 23, 24, 25, 26, 27, 28, 29, 30, 31]) (opsC [] s_token_reader_far_r2p10 [] (evOps call base [⟨some 28, (.move (.t 5)), some (18, true)⟩] f H)) := (row_op call it base s_token_reader_far_r2p10 s_token_reader_far_r2t11 (kc := []) (by kernel_rfl) f H).trans (by rw [row_ops]; rfl)
theorem s_token_reader_far_r2t11_x (call : CallF) (it : IterF) (base : Nat) (f : List V) (H : Heap) : evC call it base (.region s_token_reader_far_r2t11 [] [6, 7, 8, 9, 10, 11, 12, 13, 14, 15, 16, 17, 18, 19, 20, 21, 22, 23, 24, 25, 26, 27, 28, 29, 30, 31]) f H = thenC call it base (.region s_token_reader_far_r2t12 [] [6, 7, 8, 9, 10, 11, 12, 13, 14, 15, 16, 17, 18, 19, 20, 21, 22, 23, 24, 25, 26, 27, 28, 29, 30, 31]) (opsC [] s_token_reader_far_r2p11 [27, 28] (evOps call base [⟨some 29, (.bin .add (.t 27) (.t 28)), some (18, true)⟩] f H)) := (row_op call it base s_token_reader_far_r2p11 s_token_reader_far_r2t12 (kc := [27, 28]) (by kernel_rfl) f H).trans (by rw [row_ops]; rfl)
theorem s_token_reader_far_r2t12_x (call : CallF) (it : IterF) (base : Nat) (f : List V) (H : Heap) : evC call it base (.region s_token_reader_far_r2t12 [] [6, 7, 8, 9, 10, 11, 12, 13, 14, 15, 16, 17, 18, 19, 20, 21, 22, 23, 24, 25, 26, 27, 28, 29, 30, 31]) f H = thenC call it base (.region s_token_reader_far_r2t13 [] [6, 7, 8, 9, 10, 11, 12, 13, 14, 15, 16, 17, 18, 19, 20, 21, 22, 23, 24, 25, 26, 27, 28, 29, 30, 31]) (opsC [] s_token_reader_far_r2p12 [23, 29] (evOps call base [⟨some 30, (.indexStr (.t 23) (.t 29)), some (18, true)⟩] f H)) := (row_op call it base s_token_reader_far_r2p12 s_token_reader_far_r2t13 (kc := [23, 29]) (by kernel_rfl) f H).trans (by rw [row_ops]; rfl)
theorem s_token_reader_far_r2t13_x (call : CallF) (it : IterF) (base : Nat) (f : List V) (H : Heap) : evC call it base (.region s_token_reader_far_r2t13 [] [6, 7, 8, 9, 10, 11, 12, 13, 14, 15, 16, 17, 18, 19, 20, 21, 22, 23, 24, 25, 26, 27, 28, 29, 30, 31]) f H = thenC call it base (.region s_token_reader_far_r2t14 [] [6, 7, 8, 9, 10, 11, 12, 13, 14, 15, 16, 17, 18, 19, 20, 21, 22, 23, 24, 25, 26, 27, 28, 29, 30, 31]) (opsC [] s_token_reader_far_r2p13 [19, 30] (evOps call base [⟨some 31, (.call (.t 19) [(.t 30)]), some (18, true)⟩] f H)) := (row_op call it base s_token_reader_far_r2p13 s_token_reader_far_r2t14 (kc := [19, 30]) (by kernel_rfl) f H).trans (by rw [row_ops]; rfl)
theorem s_token_reader_far_r2t14_tale (fr : List V) (H : Heap) : evTale (symAll s_token_reader_far_r2t14 [6, 7, 8, 9, 10, 11, 12, 13, 14, 15, 16, 17, 18, 19, 20, 21, 22, 23, 24, 25, 26, 27, 28, 29, 30, 31] [32]) [6, 7, 8, 9, 10, 11, 12, 13, 14, 15, 16, 17, 18, 19, 20, 21, 22, 23, 24, 25, 26, 27, 28, 29, 30, 31] fr H = evTale (some (33, [], [(32, (.pick (.t 18) (.t 31) (.c (.s (.bool false)))))])) [6, 7, 8, 9, 10, 11, 12, 13, 14, 15, 16, 17, 18, 19, 20, 21, 22, 23, 24, 25, 26, 27, 28, 29, 30, 31] fr H := tale_row (items := [.sub 0 [] []]) (by kernel_rfl) fr H
theorem s_token_reader_far_r2t14_x (call : CallF) (it : IterF) (base : Nat) (f : List V) (H : Heap) : evC call it base (.region s_token_reader_far_r2t14 [] [6, 7, 8, 9, 10, 11, 12, 13, 14, 15, 16, 17, 18, 19, 20, 21, 22, 23, 24, 25, 26, 27, 28, 29, 30, 31]) f H = segL H (evTale (symAll s_token_reader_far_r2t14 [6, 7, 8, 9, 10, 11, 12, 13, 14, 15, 16, 17, 18, 19, 20, 21, 22, 23, 24, 25, 26, 27, 28, 29, 30, 31] [32]) [6, 7, 8, 9, 10, 11, 12, 13, 14, 15, 16, 17, 18, 19, 20, 21, 22, 23, 24, 25, 26, 27, 28, 29, 30, 31] f H) (origRow call it base s_token_reader_far_r2t14 [6, 7, 8, 9, 10, 11, 12, 13, 14, 15, 16, 17, 18, 19, 20, 21, 22, 23, 24, 25, 26, 27, 28, 29, 30, 31] f H) := row_last call it base _ f H
def s_token_reader_far_r3 : List AOper := [
  ⟨some 33, (.move (.t 5)), none⟩,
  ⟨some 34, (.bin .add (.t 33) (.c (.s (.int .i64 1)))), none⟩,
  ⟨some 5, (.move (.t 34)), none⟩]
theorem s_token_reader_far_r3_tale (fr : List V) (H : Heap) : evTale (symAll s_token_reader_far_r3 [32, 33, 34] [5]) [32, 33, 34] fr H = evTale (some (35, [], [(5, (.op (.bin .add (.t 0) (.c (.s (.int .i64 1)))) [(.t 5), (.c (.s (.int .i64 1)))]))])) [32, 33, 34] fr H := tale_row (items := [.tt 5, .sub 0 [] [], .sub 0 [] []]) (by kernel_rfl) fr H
def s_token_reader_far_l0_b : ACode :=
  (.seq (.seq (.region s_token_reader_far_r2 [] [6, 7, 8, 9, 10, 11, 12, 13, 14, 15, 16, 17, 18, 19, 20, 21, 22, 23, 24, 25, 26, 27, 28, 29, 30, 31])
  (.cond (.t 32)
  .skip
  (.exit 0)))
  (.block 1
  (.regionE s_token_reader_far_r3 [32, 33, 34] [5])))
def s_token_reader_far_l0 : ACode := s_token_reader_far_l0_b
theorem s_token_reader_far_l0_ev (call : CallF) (it : IterF) (base : Nat) (fr : List V) (H : Heap) : evC call it base s_token_reader_far_l0 fr H = evC call it base s_token_reader_far_l0_b fr H := rfl
def s_token_reader_far_r4 : List AOper := [
  ⟨some 35, (.move (.t 5)), none⟩,
  ⟨some 4, (.move (.t 35)), none⟩]
theorem s_token_reader_far_r4_tale (fr : List V) (H : Heap) : evTale (symAll s_token_reader_far_r4 [0, 1, 5, 32, 35] [4]) [0, 1, 5, 32, 35] fr H = evTale (some (36, [], [(4, (.t 5))])) [0, 1, 5, 32, 35] fr H := tale_row (items := [.tt 5, .tt 5]) (by kernel_rfl) fr H
def s_token_reader_far : ACFun := { ntmps := 36, results := [(.tmp 4)], body :=
  (.seq (.regionE s_token_reader_far_r0 s_token_reader_far_r0_k [])
  (.seq (.regionE s_token_reader_far_r1 [] [5])
  (.seq (.block 0
  (.loop [] s_token_reader_far_l0))
  (.seq (.regionE s_token_reader_far_r4 [0, 1, 5, 32, 35] [4])
  .ret)))) }
abbrev k_token_Lex_2 : Nat := 17
def s_token_Lex_2_r0_k : List Nat := [1, 2, 3, 4]
theorem s_token_Lex_2_r0_kT : killV s_token_Lex_2_r0_k (startV 5 [] 1) = [] := by kernel_rfl
theorem s_token_Lex_2_r0_kA0 : s_token_Lex_2_r0_k.contains 0 = false := by kernel_rfl
def s_token_Lex_2_r0 : List AOper := [
  ⟨some 2, (.move (.c (.s (.bool false)))), none⟩]
theorem s_token_Lex_2_r0_tale (fr : List V) (H : Heap) : evTale (symAll s_token_Lex_2_r0 s_token_Lex_2_r0_k []) s_token_Lex_2_r0_k fr H = evTale (some (3, [], [])) s_token_Lex_2_r0_k fr H := tale_row (items := [.cc (.s (.bool false))]) (by kernel_rfl) fr H
def s_token_Lex_2_r1 : List AOper := [
  ⟨some 3, (.move (.t 0)), none⟩,
  ⟨some 4, (.bin .neq (.t 3) (.c (.s (.int .u8 10)))), none⟩,
  ⟨some 2, (.move (.t 4)), none⟩]
theorem s_token_Lex_2_r1_tale (fr : List V) (H : Heap) : evTale (symAll s_token_Lex_2_r1 [0, 3, 4] [2]) [0, 3, 4] fr H = evTale (some (5, [], [(2, (.op (.bin .neq (.t 0) (.c (.s (.int .u8 10)))) [(.t 0), (.c (.s (.int .u8 10)))]))])) [0, 3, 4] fr H := tale_row (items := [.tt 0, .sub 0 [] [], .sub 0 [] []]) (by kernel_rfl) fr H
def s_token_Lex_2 : ACFun := { ntmps := 5, results := [(.tmp 2)], body :=
  (.seq (.regionE s_token_Lex_2_r0 s_token_Lex_2_r0_k [])
  (.seq (.regionE s_token_Lex_2_r1 [0, 3, 4] [2])
  .ret)) }
abbrev k_token_letter : Nat := 18
def s_token_letter_r0_k : List Nat := [1, 2, 3, 4, 5, 6, 7, 8, 9, 10, 11, 12, 13, 14, 15, 16, 17, 18, 19, 20]
theorem s_token_letter_r0_kT : killV s_token_letter_r0_k (startV 21 [] 1) = [] := by kernel_rfl
theorem s_token_letter_r0_kA0 : s_token_letter_r0_k.contains 0 = false := by kernel_rfl
def s_token_letter_r0 : List AOper := [
  ⟨some 2, (.move (.c (.s (.bool false)))), none⟩]
theorem s_token_letter_r0_tale (fr : List V) (H : Heap) : evTale (symAll s_token_letter_r0 s_token_letter_r0_k []) s_token_letter_r0_k fr H = evTale (some (3, [], [])) s_token_letter_r0_k fr H := tale_row (items := [.cc (.s (.bool false))]) (by kernel_rfl) fr H
def s_token_letter_r1 : List AOper := [
  ⟨some 3, (.move (.t 0)), none⟩,
  ⟨some 4, (.bin .geq (.t 3) (.c (.s (.int .u8 97)))), none⟩,
  ⟨some 5, (.move (.t 4)), none⟩,
  ⟨some 6, (.move (.t 0)), some (5, true)⟩,
  ⟨some 7, (.bin .leq (.t 6) (.c (.s (.int .u8 122)))), some (5, true)⟩,
  ⟨some 8, (.pick (.t 5) (.t 7) (.c (.s (.bool false)))), none⟩,
  ⟨some 9, (.move (.t 8)), none⟩,
  ⟨some 10, (.move (.t 0)), some (9, false)⟩,
  ⟨some 11, (.bin .geq (.t 10) (.c (.s (.int .u8 65)))), some (9, false)⟩,
  ⟨some 12, (.move (.t 11)), some (9, false)⟩,
  ⟨some 13, (.move (.t 0)), some (12, true)⟩,
  ⟨some 14, (.bin .leq (.t 13) (.c (.s (.int .u8 90)))), some (12, true)⟩,
  ⟨some 15, (.pick (.t 12) (.t 14) (.c (.s (.bool false)))), some (9, false)⟩,
  ⟨some 16, (.pick (.t 9) (.c (.s (.bool true))) (.t 15)), none⟩,
  ⟨some 17, (.move (.t 16)), none⟩,
  ⟨some 18, (.move (.t 0)), some (17, false)⟩,
  ⟨some 19, (.bin .eql (.t 18) (.c (.s (.int .u8 95)))), some (17, false)⟩,
  ⟨some 20, (.pick (.t 17) (.c (.s (.bool true))) (.t 19)), none⟩,
  ⟨some 2, (.move (.t 20)), none⟩]
theorem s_token_letter_r1_tale (fr : List V) (H : Heap) : evTale (symAll s_token_letter_r1 [0, 3, 4, 5, 6, 7, 8, 9, 10, 11, 12, 13, 14, 15, 16, 17, 18, 19, 20] [2]) [0, 3, 4, 5, 6, 7, 8, 9, 10, 11, 12, 13, 14, 15, 16, 17, 18, 19, 20] fr H = evTale (some (21, [], [(2, (.pick (.pick (.pick (.op (.bin .geq (.t 0) (.c (.s (.int .u8 97)))) [(.t 0), (.c (.s (.int .u8 97)))]) (.op (.bin .leq (.t 0) (.c (.s (.int .u8 122)))) [(.t 0), (.c (.s (.int .u8 122)))]) (.c (.s (.bool false)))) (.c (.s (.bool true))) (.pick (.op (.bin .geq (.t 0) (.c (.s (.int .u8 65)))) [(.t 0), (.c (.s (.int .u8 65)))]) (.op (.bin .leq (.t 0) (.c (.s (.int .u8 90)))) [(.t 0), (.c (.s (.int .u8 90)))]) (.c (.s (.bool false))))) (.c (.s (.bool true))) (.op (.bin .eql (.t 0) (.c (.s (.int .u8 95)))) [(.t 0), (.c (.s (.int .u8 95)))])))])) [0, 3, 4, 5, 6, 7, 8, 9, 10, 11, 12, 13, 14, 15, 16, 17, 18, 19, 20] fr H := tale_row (items := [.tt 0, .sub 0 [0, 0, 0] [], .sub 0 [0, 0, 0] [], .sub 0 [0, 0, 1, 0] [5], .sub 0 [0, 0, 1] [5], .sub 0 [0, 0] [], .sub 0 [0, 0] [], .sub 0 [0, 2, 0, 0] [9], .sub 0 [0, 2, 0] [9], .sub 0 [0, 2, 0] [9], .sub 0 [0, 2, 1, 0] [9, 12], .sub 0 [0, 2, 1] [9, 12], .sub 0 [0, 2] [9], .sub 0 [0] [], .sub 0 [0] [], .sub 0 [2, 0] [17], .sub 0 [2] [17], .sub 0 [] [], .sub 0 [] []]) (by kernel_rfl) fr H
def s_token_letter : ACFun := { ntmps := 21, results := [(.tmp 2)], body :=
  (.seq (.regionE s_token_letter_r0 s_token_letter_r0_k [])
  (.seq (.regionE s_token_letter_r1 [0, 3, 4, 5, 6, 7, 8, 9, 10, 11, 12, 13, 14, 15, 16, 17, 18, 19, 20] [2])
  .ret)) }
abbrev k_token_within : Nat := 19
def s_token_within_r0_k : List Nat := [1, 2, 3, 4, 5, 6, 7, 8, 9, 10, 11, 12]
theorem s_token_within_r0_kT : killV s_token_within_r0_k (startV 13 [] 1) = [] := by kernel_rfl
theorem s_token_within_r0_kA0 : s_token_within_r0_k.contains 0 = false := by kernel_rfl
def s_token_within_r0 : List AOper := [
  ⟨some 2, (.move (.c (.s (.bool false)))), none⟩]
theorem s_token_within_r0_tale (fr : List V) (H : Heap) : evTale (symAll s_token_within_r0 s_token_within_r0_k []) s_token_within_r0_k fr H = evTale (some (3, [], [])) s_token_within_r0_k fr H := tale_row (items := [.cc (.s (.bool false))]) (by kernel_rfl) fr H
def s_token_within_r1t5 : List AOper := [⟨some 8, (.pick (.t 5) (.c (.s (.bool true))) (.t 7)), none⟩, ⟨some 9, (.move (.t 8)), none⟩, ⟨some 10, (.move (.t 0)), some (9, false)⟩, ⟨some 11, (.bin .eql (.t 10) (.c (.s (.int .u8 46)))), some (9, false)⟩, ⟨some 12, (.pick (.t 9) (.c (.s (.bool true))) (.t 11)), none⟩, ⟨some 2, (.move (.t 12)), none⟩]
def s_token_within_r1p4 : List AOper := [⟨some 7, (.call (.c (.fn 20 [] [])) [(.t 6)]), some (5, false)⟩]
def s_token_within_r1t4 : List AOper := s_token_within_r1p4 ++ s_token_within_r1t5
def s_token_within_r1p3 : List AOper := [⟨some 6, (.move (.t 0)), some (5, false)⟩]
def s_token_within_r1t3 : List AOper := s_token_within_r1p3 ++ s_token_within_r1t4
def s_token_within_r1p2 : List AOper := [⟨some 5, (.move (.t 4)), none⟩]
def s_token_within_r1t2 : List AOper := s_token_within_r1p2 ++ s_token_within_r1t3
def s_token_within_r1p1 : List AOper := [⟨some 4, (.call (.c (.fn 18 [] [])) [(.t 3)]), none⟩]
def s_token_within_r1t1 : List AOper := s_token_within_r1p1 ++ s_token_within_r1t2
def s_token_within_r1p0 : List AOper := [⟨some 3, (.move (.t 0)), none⟩]
def s_token_within_r1 : List AOper := s_token_within_r1p0 ++ s_token_within_r1t1
theorem s_token_within_r1p0_tale (fr : List V) (H : Heap) : evTale (symAll s_token_within_r1p0 [] [3]) [] fr H = evTale (some (4, [], [(3, (.t 0))])) [] fr H := tale_row (items := [.tt 0]) (by kernel_rfl) fr H
theorem s_token_within_r1_x (call : CallF) (it : IterF) (base : Nat) (f : List V) (H : Heap) : evC call it base (.region s_token_within_r1 [] [0, 3, 4, 5, 6, 7, 8, 9, 10, 11, 12]) f H = segC call it base s_token_within_r1t1 [0, 3, 4, 5, 6, 7, 8, 9, 10, 11, 12] H (evTale (symAll s_token_within_r1p0 [] [3]) [] f H) (origRow call it base s_token_within_r1 [0, 3, 4, 5, 6, 7, 8, 9, 10, 11, 12] f H) := row_seg call it base s_token_within_r1p0 s_token_within_r1t1 (by kernel_rfl) f H
theorem s_token_within_r1t1_x (call : CallF) (it : IterF) (base : Nat) (f : List V) (H : Heap) : evC call it base (.region s_token_within_r1t1 [] [0, 3, 4, 5, 6, 7, 8, 9, 10, 11, 12]) f H = thenC call it base (.region s_token_within_r1t2 [] [0, 3, 4, 5, 6, 7, 8, 9, 10, 11, 12]) (opsC [] s_token_within_r1p1 [3] (evOps call base [⟨some 4, (.call (.c (.fn 18 [] [])) [(.t 3)]), none⟩] f H)) := (row_op call it base s_token_within_r1p1 s_token_within_r1t2 (kc := [3]) (by kernel_rfl) f H).trans (by rw [row_ops]; rfl)
theorem s_token_within_r1p2_tale (fr : List V) (H : Heap) : evTale (symAll s_token_within_r1p2 [4] [5]) [4] fr H = evTale (some (6, [], [(5, (.t 4))])) [4] fr H := tale_row (items := [.tt 4]) (by kernel_rfl) fr H
theorem s_token_within_r1t2_x (call : CallF) (it : IterF) (base : Nat) (f : List V) (H : Heap) : evC call it base (.region s_token_within_r1t2 [] [0, 3, 4, 5, 6, 7, 8, 9, 10, 11, 12]) f H = segC call it base s_token_within_r1t3 [0, 3, 4, 5, 6, 7, 8, 9, 10, 11, 12] H (evTale (symAll s_token_within_r1p2 [4] [5]) [4] f H) (origRow call it base s_token_within_r1t2 [0, 3, 4, 5, 6, 7, 8, 9, 10, 11, 12] f H) := row_seg call it base s_token_within_r1p2 s_token_within_r1t3 (by kernel_rfl) f H
theorem s_token_within_r1t3_x (call : CallF) (it : IterF) (base : Nat) (f : List V) (H : Heap) : evC call it base (.region s_token_within_r1t3 [] [0, 3, 4, 5, 6, 7, 8, 9, 10, 11, 12]) f H = thenC call it base (.region s_token_within_r1t4 [] [0, 3, 4, 5, 6, 7, 8, 9, 10, 11, 12]) (opsC [] s_token_within_r1p3 [] (evOps call base [⟨some 6, (.move (.t 0)), some (5, false)⟩] f H)) := (row_op call it base s_token_within_r1p3 s_token_within_r1t4 (kc := []) (by kernel_rfl) f H).trans (by rw [row_ops]; rfl)
theorem s_token_within_r1t4_x (call : CallF) (it : IterF) (base : Nat) (f : List V) (H : Heap) : evC call it base (.region s_token_within_r1t4 [] [0, 3, 4, 5, 6, 7, 8, 9, 10, 11, 12]) f H = thenC call it base (.region s_token_within_r1t5 [] [0, 3, 4, 5, 6, 7, 8, 9, 10, 11, 12]) (opsC [] s_token_within_r1p4 [6] (evOps call base [⟨some 7, (.call (.c (.fn 20 [] [])) [(.t 6)]), some (5, false)⟩] f H)) := (row_op call it base s_token_within_r1p4 s_token_within_r1t5 (kc := [6]) (by kernel_rfl) f H).trans (by rw [row_ops]; rfl)
theorem s_token_within_r1t5_tale (fr : List V) (H : Heap) : evTale (symAll s_token_within_r1t5 [0, 3, 4, 5, 6, 7, 8, 9, 10, 11, 12] [2]) [0, 3, 4, 5, 6, 7, 8, 9, 10, 11, 12] fr H = evTale (some (13, [], [(2, (.pick (.pick (.t 5) (.c (.s (.bool true))) (.t 7)) (.c (.s (.bool true))) (.op (.bin .eql (.t 0) (.c (.s (.int .u8 46)))) [(.t 0), (.c (.s (.int .u8 46)))])))])) [0, 3, 4, 5, 6, 7, 8, 9, 10, 11, 12] fr H := tale_row (items := [.sub 0 [0] [], .sub 0 [0] [], .sub 0 [2, 0] [9], .sub 0 [2] [9], .sub 0 [] [], .sub 0 [] []]) (by kernel_rfl) fr H
theorem s_token_within_r1t5_x (call : CallF) (it : IterF) (base : Nat) (f : List V) (H : Heap) : evC call it base (.region s_token_within_r1t5 [] [0, 3, 4, 5, 6, 7, 8, 9, 10, 11, 12]) f H = segL H (evTale (symAll s_token_within_r1t5 [0, 3, 4, 5, 6, 7, 8, 9, 10, 11, 12] [2]) [0, 3, 4, 5, 6, 7, 8, 9, 10, 11, 12] f H) (origRow call it base s_token_within_r1t5 [0, 3, 4, 5, 6, 7, 8, 9, 10, 11, 12] f H) := row_last call it base _ f H
def s_token_within : ACFun := { ntmps := 13, results := [(.tmp 2)], body :=
  (.seq (.regionE s_token_within_r0 s_token_within_r0_k [])
  (.seq (.region s_token_within_r1 [] [0, 3, 4, 5, 6, 7, 8, 9, 10, 11, 12])
  .ret)) }
abbrev k_token_digit : Nat := 20
def s_token_digit_r0_k : List Nat := [1, 2, 3, 4, 5, 6, 7, 8]
theorem s_token_digit_r0_kT : killV s_token_digit_r0_k (startV 9 [] 1) = [] := by kernel_rfl
theorem s_token_digit_r0_kA0 : s_token_digit_r0_k.contains 0 = false := by kernel_rfl
def s_token_digit_r0 : List AOper := [
  ⟨some 2, (.move (.c (.s (.bool false)))), none⟩]
theorem s_token_digit_r0_tale (fr : List V) (H : Heap) : evTale (symAll s_token_digit_r0 s_token_digit_r0_k []) s_token_digit_r0_k fr H = evTale (some (3, [], [])) s_token_digit_r0_k fr H := tale_row (items := [.cc (.s (.bool false))]) (by kernel_rfl) fr H
def s_token_digit_r1 : List AOper := [
  ⟨some 3, (.move (.t 0)), none⟩,
  ⟨some 4, (.bin .geq (.t 3) (.c (.s (.int .u8 48)))), none⟩,
  ⟨some 5, (.move (.t 4)), none⟩,
  ⟨some 6, (.move (.t 0)), some (5, true)⟩,
  ⟨some 7, (.bin .leq (.t 6) (.c (.s (.int .u8 57)))), some (5, true)⟩,
  ⟨some 8, (.pick (.t 5) (.t 7) (.c (.s (.bool false)))), none⟩,
  ⟨some 2, (.move (.t 8)), none⟩]
theorem s_token_digit_r1_tale (fr : List V) (H : Heap) : evTale (symAll s_token_digit_r1 [0, 3, 4, 5, 6, 7, 8] [2]) [0, 3, 4, 5, 6, 7, 8] fr H = evTale (some (9, [], [(2, (.pick (.op (.bin .geq (.t 0) (.c (.s (.int .u8 48)))) [(.t 0), (.c (.s (.int .u8 48)))]) (.op (.bin .leq (.t 0) (.c (.s (.int .u8 57)))) [(.t 0), (.c (.s (.int .u8 57)))]) (.c (.s (.bool false)))))])) [0, 3, 4, 5, 6, 7, 8] fr H := tale_row (items := [.tt 0, .sub 0 [0] [], .sub 0 [0] [], .sub 0 [1, 0] [5], .sub 0 [1] [5], .sub 0 [] [], .sub 0 [] []]) (by kernel_rfl) fr H
def s_token_digit : ACFun := { ntmps := 9, results := [(.tmp 2)], body :=
  (.seq (.regionE s_token_digit_r0 s_token_digit_r0_k [])
  (.seq (.regionE s_token_digit_r1 [0, 3, 4, 5, 6, 7, 8] [2])
  .ret)) }
abbrev k_strings_IndexByte : Nat := 15
abbrev k_strconv_Atoi : Nat := 21
def a_token_Lex := And.intro @s_token_Lex_r0p0_k_kA0 (And.intro @s_token_Lex_r0p0_k_kA2 (And.intro @s_token_Lex_r0p0_k_kA3 (And.intro @s_token_Lex_r0p0_k_kA4 (And.intro @s_token_Lex_r0p0_tale (And.intro @s_token_Lex_r0_x (And.intro @s_token_Lex_r0t1_x (And.intro @s_token_Lex_r0t2_tale (And.intro @s_token_Lex_r0t2_x (And.intro @s_token_Lex_r0_k_kA0 (And.intro @s_token_Lex_r0_k_kA2 (And.intro @s_token_Lex_r0_k_kA3 (And.intro @s_token_Lex_r0_k_kA4 (And.intro @s_token_Lex_r1_tale (And.intro @s_token_Lex_r2p0_tale (And.intro @s_token_Lex_r2_x (And.intro @s_token_Lex_r2t1_x (And.intro @s_token_Lex_r2t2_tale (And.intro @s_token_Lex_r2t2_x (And.intro @s_token_Lex_r3p0_tale (And.intro @s_token_Lex_r3_x (And.intro @s_token_Lex_r3t1_x (And.intro @s_token_Lex_r3t2_x (And.intro @s_token_Lex_r3t3_x (And.intro @s_token_Lex_r4_x (And.intro @s_token_Lex_r5_tale (And.intro @s_token_Lex_r6_tale (And.intro @s_token_Lex_r7_tale (And.intro @s_token_Lex_r8p0_tale (And.intro @s_token_Lex_r8_x (And.intro @s_token_Lex_r8t1_x (And.intro @s_token_Lex_r8t2_tale (And.intro @s_token_Lex_r8t2_x (And.intro @s_token_Lex_r9p0_tale (And.intro @s_token_Lex_r9_x (And.intro @s_token_Lex_r9t1_x (And.intro @s_token_Lex_r10_tale (And.intro @s_token_Lex_r11p0_tale (And.intro @s_token_Lex_r11_x (And.intro @s_token_Lex_r11t1_x (And.intro @s_token_Lex_r11t2_x (And.intro @s_token_Lex_r12p0_tale (And.intro @s_token_Lex_r12_x (And.intro @s_token_Lex_r12t1_x (And.intro @s_token_Lex_r12t2_tale (And.intro @s_token_Lex_r12t2_x (And.intro @s_token_Lex_r13p0_tale (And.intro @s_token_Lex_r13_x (And.intro @s_token_Lex_r13t1_x (And.intro @s_token_Lex_r13t2_x (And.intro @s_token_Lex_r14p0_tale (And.intro @s_token_Lex_r14_x (And.intro @s_token_Lex_r14t1_x (And.intro @s_token_Lex_r14t2_tale (And.intro @s_token_Lex_r14t2_x (And.intro @s_token_Lex_r15p0_tale (And.intro @s_token_Lex_r15_x (And.intro @s_token_Lex_r15t1_x (And.intro @s_token_Lex_r15t2_tale (And.intro @s_token_Lex_r15t2_x (And.intro @s_token_Lex_r16p0_tale (And.intro @s_token_Lex_r16_x (And.intro @s_token_Lex_r16t1_x (And.intro @s_token_Lex_r16t2_x (And.intro @s_token_Lex_r16t3_tale (And.intro @s_token_Lex_r16t3_x (And.intro @s_token_Lex_r17p0_tale (And.intro @s_token_Lex_r17_x (And.intro @s_token_Lex_r17t1_x (And.intro @s_token_Lex_r17t2_tale (And.intro @s_token_Lex_r17t2_x (And.intro @s_token_Lex_r18p0_tale (And.intro @s_token_Lex_r18_x (And.intro @s_token_Lex_r18t1_x (And.intro @s_token_Lex_r18t2_tale (And.intro @s_token_Lex_r18t2_x (And.intro @s_token_Lex_r19p0_tale (And.intro @s_token_Lex_r19_x (And.intro @s_token_Lex_r19t1_x (And.intro @s_token_Lex_r19p2_tale (And.intro @s_token_Lex_r19t2_x (And.intro @s_token_Lex_r19t3_x (And.intro @s_token_Lex_r20p0_tale (And.intro @s_token_Lex_r20_x (And.intro @s_token_Lex_r20t1_x (And.intro @s_token_Lex_r20t2_tale (And.intro @s_token_Lex_r20t2_x (And.intro @s_token_Lex_r21p0_tale (And.intro @s_token_Lex_r21_x (And.intro @s_token_Lex_r21t1_x (And.intro @s_token_Lex_r22p0_tale (And.intro @s_token_Lex_r22_x (And.intro @s_token_Lex_r22t1_x (And.intro @s_token_Lex_r22t2_tale (And.intro @s_token_Lex_r22t2_x (And.intro @s_token_Lex_l0_ev (And.intro @s_token_Lex_r23p0_tale (And.intro @s_token_Lex_r23_x (And.intro @s_token_Lex_r23t1_x (And.intro @s_token_Lex_r24p0_tale (And.intro @s_token_Lex_r24_x (And.intro @s_token_Lex_r24t1_x (And.intro @s_token_Lex_r24t2_tale (@s_token_Lex_r24t2_x)))))))))))))))))))))))))))))))))))))))))))))))))))))))))))))))))))))))))))))))))))))))))))))))))))))))
def a_token_Lex_1 := And.intro @s_token_Lex_1_r0_tale (And.intro @s_token_Lex_1_r0_kT (And.intro @s_token_Lex_1_r0_kA0 (And.intro @s_token_Lex_1_r0_kA1 (And.intro @s_token_Lex_1_r0_kA2 (And.intro @s_token_Lex_1_r0_kA3 (And.intro @s_token_Lex_1_r1p0_tale (And.intro @s_token_Lex_1_r1_x (And.intro @s_token_Lex_1_r1t1_x (And.intro @s_token_Lex_1_r1t2_x (And.intro @s_token_Lex_1_r1t3_x (And.intro @s_token_Lex_1_r2p0_tale (And.intro @s_token_Lex_1_r2_x (And.intro @s_token_Lex_1_r2t1_x (@s_token_Lex_1_r3_tale))))))))))))))
def a_token_reader_step := And.intro @s_token_reader_step_r0_tale (And.intro @s_token_reader_step_r0_kT (And.intro @s_token_reader_step_r0_kA0 (And.intro @s_token_reader_step_r0_kA1 (And.intro @s_token_reader_step_r1_tale (And.intro @s_token_reader_step_r2p0_tale (And.intro @s_token_reader_step_r2_x (And.intro @s_token_reader_step_r2t1_x (And.intro @s_token_reader_step_r3_tale (And.intro @s_token_reader_step_r4p0_tale (And.intro @s_token_reader_step_r4_x (And.intro @s_token_reader_step_r4t1_x (And.intro @s_token_reader_step_r4p2_tale (And.intro @s_token_reader_step_r4t2_x (And.intro @s_token_reader_step_r4t3_x (And.intro @s_token_reader_step_r5p0_tale (And.intro @s_token_reader_step_r5_x (And.intro @s_token_reader_step_r5t1_x (And.intro @s_token_reader_step_r6_tale (@s_token_reader_step_l0_ev)))))))))))))))))))
def a_token_reader_far := And.intro @s_token_reader_far_r0_tale (And.intro @s_token_reader_far_r0_kT (And.intro @s_token_reader_far_r0_kA0 (And.intro @s_token_reader_far_r0_kA1 (And.intro @s_token_reader_far_r1_tale (And.intro @s_token_reader_far_r2p0_tale (And.intro @s_token_reader_far_r2_x (And.intro @s_token_reader_far_r2t1_x (And.intro @s_token_reader_far_r2t2_x (And.intro @s_token_reader_far_r2t3_x (And.intro @s_token_reader_far_r2t4_x (And.intro @s_token_reader_far_r2t5_x (And.intro @s_token_reader_far_r2t6_x (And.intro @s_token_reader_far_r2t7_x (And.intro @s_token_reader_far_r2t8_x (And.intro @s_token_reader_far_r2t9_x (And.intro @s_token_reader_far_r2t10_x (And.intro @s_token_reader_far_r2t11_x (And.intro @s_token_reader_far_r2t12_x (And.intro @s_token_reader_far_r2t13_x (And.intro @s_token_reader_far_r2t14_tale (And.intro @s_token_reader_far_r2t14_x (And.intro @s_token_reader_far_r3_tale (And.intro @s_token_reader_far_l0_ev (@s_token_reader_far_r4_tale))))))))))))))))))))))))
def a_token_Lex_2 := And.intro @s_token_Lex_2_r0_tale (And.intro @s_token_Lex_2_r0_kT (And.intro @s_token_Lex_2_r0_kA0 (@s_token_Lex_2_r1_tale)))
def a_token_letter := And.intro @s_token_letter_r0_tale (And.intro @s_token_letter_r0_kT (And.intro @s_token_letter_r0_kA0 (@s_token_letter_r1_tale)))
def a_token_within := And.intro @s_token_within_r0_tale (And.intro @s_token_within_r0_kT (And.intro @s_token_within_r0_kA0 (And.intro @s_token_within_r1p0_tale (And.intro @s_token_within_r1_x (And.intro @s_token_within_r1t1_x (And.intro @s_token_within_r1p2_tale (And.intro @s_token_within_r1t2_x (And.intro @s_token_within_r1t3_x (And.intro @s_token_within_r1t4_x (And.intro @s_token_within_r1t5_tale (@s_token_within_r1t5_x)))))))))))
def a_token_digit := And.intro @s_token_digit_r0_tale (And.intro @s_token_digit_r0_kT (And.intro @s_token_digit_r0_kA0 (@s_token_digit_r1_tale)))
theorem TA1_8 : compK Tryd.prog PX0 8 = some (false, s_token_Lex.ntmps, s_token_Lex.results, s_token_Lex.body.bare) := by kernel_rfl
theorem TA1_13 : compK Tryd.prog PX0 13 = some (false, s_token_Lex_1.ntmps, s_token_Lex_1.results, s_token_Lex_1.body.bare) := by kernel_rfl
theorem TA1_14 : compK Tryd.prog PX0 14 = some (false, s_token_reader_step.ntmps, s_token_reader_step.results, s_token_reader_step.body.bare) := by kernel_rfl
theorem TA1_16 : compK Tryd.prog PX0 16 = some (false, s_token_reader_far.ntmps, s_token_reader_far.results, s_token_reader_far.body.bare) := by kernel_rfl
theorem TA1_17 : compK Tryd.prog PX0 17 = some (false, s_token_Lex_2.ntmps, s_token_Lex_2.results, s_token_Lex_2.body.bare) := by kernel_rfl
theorem TA1_18 : compK Tryd.prog PX0 18 = some (false, s_token_letter.ntmps, s_token_letter.results, s_token_letter.body.bare) := by kernel_rfl
theorem TA1_19 : compK Tryd.prog PX0 19 = some (false, s_token_within.ntmps, s_token_within.results, s_token_within.body.bare) := by kernel_rfl
theorem TA1_20 : compK Tryd.prog PX0 20 = some (false, s_token_digit.ntmps, s_token_digit.results, s_token_digit.body.bare) := by kernel_rfl
end Go.Proofs.YtfnkpedipicjnaaDoor
namespace Go.AM.Tok
def far (p : UInt8 → Bool) : List UInt8 → Nat
  | [] => 0
  | c :: l => if p c then far p l + 1 else 0
theorem far_le (p : UInt8 → Bool) : ∀ l, far p l ≤ l.length
  | [] => Nat.le_refl _
  | c :: l => by
    unfold far
    split
    · exact Nat.succ_le_succ (far_le p l)
    · exact Nat.zero_le _
def blank (c : UInt8) : Bool := c == 32 || c == 9 || c == 13 || c == 10
def letter (c : UInt8) : Bool := decide (97 ≤ c.toNat) && decide (c.toNat ≤ 122) || decide (65 ≤ c.toNat) && decide (c.toNat ≤ 90) || c == 95
def digit (c : UInt8) : Bool := decide (48 ≤ c.toNat) && decide (c.toNat ≤ 57)
def within (c : UInt8) : Bool := letter c || digit c || c == 46
def other (c : UInt8) : Bool := c != 10
def sign (c : UInt8) : Bool := c == 61 || c == 44 || c == 58 || c == 40 || c == 41 || c == 123 || c == 125 || c == 91 || c == 93
structure T where
  kind : Nat
  text : List UInt8
  n : Nat
  line : Nat
  col : Nat
  deriving DecidableEq, Inhabited
inductive Out where
  | done (ts : List T)
  | bad (e line col : Nat)
  deriving DecidableEq, Inhabited
def Out.cons (t : T) : Out → Out
  | .done ts => .done (t :: ts)
  | .bad e a b => .bad e a b
def val (l : List UInt8) : Nat := l.foldl (fun n c => n * 10 + (c.toNat - 48)) 0
def lex (l : List UInt8) (ln cl : Nat) : Out :=
  match l with
  | [] => .done [⟨4, [], 0, ln, cl⟩]
  | c :: l =>
    if blank c then (if c = 10 then lex l (ln + 1) 1 else lex l ln (cl + 1))
    else if c = 59 then lex (l.drop (far other l)) ln (cl + (far other l + 1))
    else if letter c then (lex (l.drop (far within l)) ln (cl + (far within l + 1))).cons ⟨1, c :: l.take (far within l), 0, ln, cl⟩
    else if digit c then
      if 9 < far digit l + 1 ∨ (1 < far digit l + 1 ∧ c = 48) ∨ far digit l < far within l then .bad 31 ln cl
      else (lex (l.drop (far digit l)) ln (cl + (far digit l + 1))).cons ⟨2, c :: l.take (far digit l), val (c :: l.take (far digit l)), ln, cl⟩
    else if sign c then (lex l ln (cl + 1)).cons ⟨3, [c], 0, ln, cl⟩
    else .bad 30 ln cl
termination_by l.length
decreasing_by all_goals simp only [List.length_cons, List.length_drop]; omega
theorem lex_nil (ln cl : Nat) : lex [] ln cl = .done [⟨4, [], 0, ln, cl⟩] := by rw [lex]
theorem lex_cons (c : UInt8) (l : List UInt8) (ln cl : Nat) : lex (c :: l) ln cl =
    if blank c then (if c = 10 then lex l (ln + 1) 1 else lex l ln (cl + 1))
    else if c = 59 then lex (l.drop (far other l)) ln (cl + (far other l + 1))
    else if letter c then (lex (l.drop (far within l)) ln (cl + (far within l + 1))).cons ⟨1, c :: l.take (far within l), 0, ln, cl⟩
    else if digit c then
      if 9 < far digit l + 1 ∨ (1 < far digit l + 1 ∧ c = 48) ∨ far digit l < far within l then .bad 31 ln cl
      else (lex (l.drop (far digit l)) ln (cl + (far digit l + 1))).cons ⟨2, c :: l.take (far digit l), val (c :: l.take (far digit l)), ln, cl⟩
    else if sign c then (lex l ln (cl + 1)).cons ⟨3, [c], 0, ln, cl⟩
    else .bad 30 ln cl := by rw [lex]
def Out.app (ts : List T) : Out → Out
  | .done us => .done (ts ++ us)
  | .bad e a b => .bad e a b
end Go.AM.Tok
namespace Go.AM.Tok
def spotL : List UInt8 → Nat × Nat → Nat × Nat
  | [], p => p
  | c :: l, p => spotL l (if c = 10 then (p.1 + 1, 1) else (p.1, p.2 + 1))
theorem spotL_flat : ∀ (l : List UInt8) (p : Nat × Nat), (∀ c ∈ l, c ≠ 10) → spotL l p = (p.1, p.2 + l.length)
  | [], p, _ => rfl
  | c :: l, p, h => by
    simp only [spotL, h c List.mem_cons_self, if_false]
    rw [spotL_flat l _ fun x hx => h x (List.mem_cons_of_mem _ hx)]
    simp only [List.length_cons]
    rw [Nat.add_assoc, Nat.add_comm 1]
theorem far_take (p : UInt8 → Bool) : ∀ (l : List UInt8), ∀ c ∈ l.take (far p l), p c = true
  | [] => by simp
  | x :: l => by
    intro c hc
    unfold far at hc
    split at hc
    · rename_i hx
      rw [List.take_succ_cons, List.mem_cons] at hc
      rcases hc with rfl | hc
      · exact hx
      · exact far_take p l c hc
    · simp at hc
theorem far_len (p : UInt8 → Bool) (l : List UInt8) : (l.take (far p l)).length = far p l := by rw [List.length_take, Nat.min_eq_left (far_le p l)]
theorem len_ne {c : UInt8} (p : UInt8 → Bool) (hp : p 10 = false) (l : List UInt8) (hc : c ≠ 10) : ∀ x ∈ c :: l.take (far p l), x ≠ 10 := by
  intro x hx
  rcases List.mem_cons.1 hx with rfl | hx
  · exact hc
  · rintro rfl
    rw [far_take p l _ hx] at hp
    cases hp
def gap : Bool → List UInt8 → Bool
  | _, [] => true
  | cm, c :: l =>
    let a := if c = 59 then true else cm
    let b := if c = 10 then false else a
    (b || blank c) && gap b l
inductive Cov : List UInt8 → Nat × Nat → List T → Prop
  | last (g : List UInt8) (p : Nat × Nat) : gap false g = true → Cov g p [⟨4, [], 0, (spotL g p).1, (spotL g p).2⟩]
  | word (g r : List UInt8) (p : Nat × Nat) (t : T) (ts : List T) : gap false g = true → (t.line, t.col) = spotL g p → t.kind ≠ 4 → t.text ≠ [] → Cov r (spotL t.text (spotL g p)) ts → Cov (g ++ (t.text ++ r)) p (t :: ts)
theorem Cov.next {c : UInt8} {l x : List UInt8} {k n : Nat} {p : Nat × Nat} {us : List T} (hk : k ≠ 4) (hc : ∀ y ∈ c :: x, y ≠ 10) (h : Cov l (p.1, p.2 + (x.length + 1)) us) : Cov (c :: (x ++ l)) p (⟨k, c :: x, n, p.1, p.2⟩ :: us) := by
  have := Cov.word [] l p ⟨k, c :: x, n, p.1, p.2⟩ us rfl rfl hk (by simp) (by rw [spotL_flat _ _ hc]; exact h)
  simpa using this
theorem not_ten : ∀ {c : UInt8}, (letter c = true ∨ digit c = true ∨ sign c = true) → c ≠ 10 := by
  rintro c h rfl
  revert h
  decide
def Out.ok : Out → Bool
  | .done _ => true
  | .bad _ _ _ => false
end Go.AM.Tok
namespace Go.AM.Tok
end Go.AM.Tok
set_option maxRecDepth 100000
namespace Go.Proofs.YtfnkpedipicjnaaDoor
open Go.AM
def bV (c : UInt8) : V := .s (.int .u8 c.toNat)
def S (b : ByteArray) : V := .s (.string b)
theorem byte_ne (c d : UInt8) : (c = d) ↔ ((c.toNat : Nat) : Int) = ((d.toNat : Nat) : Int) := by rw [Int.natCast_inj, UInt8.toNat_inj]
theorem letter_m (c : UInt8) : (decide ((c.toNat : Int) ≥ 97) && decide ((c.toNat : Int) ≤ 122) || decide ((c.toNat : Int) ≥ 65) && decide ((c.toNat : Int) ≤ 90) || ((c.toNat : Int) == 95)) = Tok.letter c := by
  unfold Tok.letter
  rw [Bool.eq_iff_iff]
  simp only [Bool.or_eq_true, Bool.and_eq_true, decide_eq_true_eq, beq_iff_eq, byte_ne, show (UInt8.toNat 95) = 95 from rfl]
  omega
theorem digit_m (c : UInt8) : (decide ((c.toNat : Int) ≥ 48) && decide ((c.toNat : Int) ≤ 57)) = Tok.digit c := by
  unfold Tok.digit
  rw [Bool.eq_iff_iff]
  simp only [Bool.or_eq_true, Bool.and_eq_true, decide_eq_true_eq, beq_iff_eq]
  omega
theorem dot_m (c : UInt8) : ((c.toNat : Int) == 46) = (c == 46) := by
  rw [Bool.eq_iff_iff, beq_iff_eq, beq_iff_eq, byte_ne]
  rfl
theorem other_m (c : UInt8) : ((c.toNat : Int) != 10) = Tok.other c := by
  unfold Tok.other
  rw [Bool.eq_iff_iff]
  simp only [bne_iff_ne, Ne, byte_ne]
  rfl
section
variable {CT : Nat → Option CFun}
theorem letter_fun (hT : CT k_token_letter = some (.code s_token_letter)) (c : UInt8) (base : Nat) (H : Heap) : callW CT (.fn k_token_letter [] []) [.s (.int .u8 c.toNat)] base H = some (bl (Tok.letter c), H) := by
  refine callW_fn (c := s_token_letter) hT (by simp [s_token_letter]) ?_
  rw [← letter_m]
  simp only [s_token_letter, bV, a_token_letter, am0,am1,am2,am3,am4,am5,am6,am7,bl,i64,reduceIte,reduceCtorEq,Nat.reduceEqDiff,Nat.reduceLT,Nat.reduceLeDiff,Nat.reduceBEq,Nat.reduceAdd,fillA,splice,Nat.reduceMul,al0,al1,al2,al3,al4,al5,al6,al7,al8,al9,al10,al11,al12,al13,al14,al15,al16,al17,al18,al19,al20,al21,al22,al23,al24,al25,al26,al27,al28,al29,al30,al31,al32,al33,al34,amY,op_eqP]
theorem digit_fun (hT : CT k_token_digit = some (.code s_token_digit)) (c : UInt8) (base : Nat) (H : Heap) : callW CT (.fn k_token_digit [] []) [.s (.int .u8 c.toNat)] base H = some (bl (Tok.digit c), H) := by
  refine callW_fn (c := s_token_digit) hT (by simp [s_token_digit]) ?_
  rw [← digit_m]
  simp only [s_token_digit, bV, a_token_digit, am0,am1,am2,am3,am4,am5,am6,am7,bl,i64,reduceIte,reduceCtorEq,Nat.reduceEqDiff,Nat.reduceLT,Nat.reduceLeDiff,Nat.reduceBEq,Nat.reduceAdd,fillA,splice,Nat.reduceMul,al0,al1,al2,al3,al4,al5,al6,al7,al8,al9,al10,al11,al12,al13,al14,al15,al16,al17,al18,al19,al20,al21,al22,al23,al24,al25,al26,al27,al28,al29,al30,al31,al32,al33,al34,amY,op_eqP]
theorem other_fun (hT : CT k_token_Lex_2 = some (.code s_token_Lex_2)) (c : UInt8) (base : Nat) (H : Heap) : callW CT (.fn k_token_Lex_2 [] []) [.s (.int .u8 c.toNat)] base H = some (bl (Tok.other c), H) := by
  refine callW_fn (c := s_token_Lex_2) hT (by simp [s_token_Lex_2]) ?_
  rw [← other_m]
  simp only [s_token_Lex_2, bV, a_token_Lex_2, am0,am1,am2,am3,am4,am5,am6,am7,bl,i64,reduceIte,reduceCtorEq,Nat.reduceEqDiff,Nat.reduceLT,Nat.reduceLeDiff,Nat.reduceBEq,Nat.reduceAdd,fillA,splice,Nat.reduceMul,al0,al1,al2,al3,al4,al5,al6,al7,al8,al9,al10,al11,al12,al13,al14,al15,al16,al17,al18,al19,al20,al21,al22,al23,al24,al25,al26,al27,al28,al29,al30,al31,al32,al33,al34,amY,op_eqP]
theorem within_fun (hT : CT k_token_within = some (.code s_token_within)) (hl : ∀ (c : UInt8) (base : Nat) (H : Heap), callW CT (.fn k_token_letter [] []) [.s (.int .u8 c.toNat)] base H = some (bl (Tok.letter c), H)) (hd : ∀ (c : UInt8) (base : Nat) (H : Heap), callW CT (.fn k_token_digit [] []) [.s (.int .u8 c.toNat)] base H = some (bl (Tok.digit c), H)) (c : UInt8) (base : Nat) (H : Heap) : callW CT (.fn k_token_within [] []) [.s (.int .u8 c.toNat)] base H = some (bl (Tok.within c), H) := by
  refine callW_fn (c := s_token_within) hT (by simp [s_token_within]) ?_
  unfold Tok.within
  rw [← dot_m]
  cases h1 : Tok.letter c <;> simp only [s_token_within, bV, a_token_within, am0,am1,am2,am3,am4,am5,am6,am7,bl,i64,reduceIte,reduceCtorEq,Nat.reduceEqDiff,Nat.reduceLT,Nat.reduceLeDiff,Nat.reduceBEq,Nat.reduceAdd,fillA,splice,Nat.reduceMul,al0,al1,al2,al3,al4,al5,al6,al7,al8,al9,al10,al11,al12,al13,al14,al15,al16,al17,al18,al19,al20,al21,al22,al23,al24,al25,al26,al27,al28,al29,al30,al31,al32,al33,al34,amY,op_eqP, hl, hd, h1]
end
end Go.Proofs.YtfnkpedipicjnaaDoor
set_option maxRecDepth 100000
namespace Go.Proofs.YtfnkpedipicjnaaDoor
open Go.AM
abbrev I (n : Int) : V := .s (.int .i64 n)
def rC (ln cl : Nat) (b : ByteArray) (at' : Nat) : List V := [I ln, I cl, .s (.string b), I at']
theorem ten_m (c : UInt8) : ((c.toNat : Int) == 10) = decide (c = 10) := by
  rw [Bool.eq_iff_iff, beq_iff_eq, decide_eq_true_iff, byte_ne]
  rfl
theorem w64_nat {n : Nat} (h : n < 2 ^ 62) : IntKind.i64.wrap ((n : Int) + 1) = ((n + 1 : Nat) : Int) := by rw [IntKind.wrap_i64]; omega
theorem getC_ob {H : Heap} {i g : Nat} {c : List V} (h : getC H i g = some c) : H[i]? = some (.cells g c) := by
  unfold getC at h
  cases ho : H[i]? with
  | none => rw [ho] at h; cases h
  | some o =>
    rw [ho] at h
    cases o with
    | cells g2 c2 =>
      dsimp only at h
      split at h
      · rename_i e
        cases h
        rw [e]
      · cases h
    | map _ => cases h
    | loop _ _ _ _ _ _ => cases h
    | dead => cases h
theorem getC_put {H : Heap} {i g : Nat} {c : List V} (h : getC H i g = some c) (c' : List V) : getC (H.set i (.cells g c')) i g = some c' := by
  have := getC_lt h
  unfold getC
  rw [List.getElem?_set_self this]
  simp
theorem step_loop (call : CallF) (base : Nat) (b : ByteArray) (hb : b.size ≤ 2 ^ 40) (i : Nat) (hi : base ≤ i) (m q : Nat) (hq : q ≤ b.size) (hm : m < 2 ^ 62) : ∀ (n j at' ln cl : Nat) (H : Heap), getC H i 0 = some (rC ln cl b at') → at' + n = q → j + n = m → ln ≤ at' + 1 → cl ≤ at' + 1 →
    itW (evC call itW base s_token_reader_step_l0) [] H.length (frOf 48 [(0, .ref i 0 0), (4, I m), (5, I j)]) H =
    some (.ext 0, frOf 48 [(0, .ref i 0 0), (4, I m), (5, I m), (6, bl false)], H.set i (.cells 0 (rC (Tok.spotL ((b.data.toList.drop at').take n) (ln, cl)).1 (Tok.spotL ((b.data.toList.drop at').take n) (ln, cl)).2 b q))) := by
  intro n
  induction n with
  | zero =>
    intro j at' ln cl H hc h1 h4 h2 h3
    have hlt := getC_lt hc
    have e : H.set i (.cells 0 (rC ln cl b at')) = H := set_same_ob (getC_ob hc)
    rw [Nat.add_zero] at h1 h4
    subst h1 h4
    rw [itW_step]
    simp only [a_token_reader_step,s_token_reader_step_l0_b, am0,am1,am2,am3,am4,am5,am6,am7,bl,i64,reduceIte,reduceCtorEq,Nat.reduceEqDiff,Nat.reduceLT,Nat.reduceLeDiff,Nat.reduceBEq,Nat.reduceAdd,fillA,splice,Nat.reduceMul,al0,al1,al2,al3,al4,al5,al6,al7,al8,al9,al10,al11,al12,al13,al14,al15,al16,al17,al18,al19,al20,al21,al22,al23,al24,al25,al26,al27,al28,al29,al30,al31,al32,al33,al34,amY,op_eqP, I, Nat.add_zero, Int.lt_irrefl, List.take_zero, Tok.spotL, e]
  | succ n ih =>
    intro j at' ln cl H hc h1 h4 h2 h3
    have hlt := getC_lt hc
    have hat : at' < b.data.toList.length := by rw [show b.data.toList.length = b.size from rfl]; omega
    have hx : b.data.toList[at']? = some b.data.toList[at'] := List.getElem?_eq_getElem hat
    have hset : ∀ c', getC (H.set i (.cells 0 c')) i 0 = some c' := fun c' => getC_put hc c'
    have hlen : ∀ ob, (H.set i ob).length = H.length := fun ob => List.length_set
    have hss : ∀ a b, (H.set i a).set i b = H.set i b := fun a b => List.set_set ..
    have hd : b.data.toList.drop at' = b.data.toList[at'] :: b.data.toList.drop (at' + 1) := List.drop_eq_getElem_cons hat
    have hj : ((j : Int) < (m : Int)) := by omega
    have w1 := w64_nat (n := cl) (by omega)
    have w2 := w64_nat (n := ln) (by omega)
    have w3 := w64_nat (n := at') (by omega)
    have w4 := w64_nat (n := j) (by omega)
    have htr : ∀ fr ob, trim H.length fr (H.set i ob) = H.set i ob := fun fr ob => trim_same (hlen ob)
    have hrc : getC H i 0 = some [I ln, I cl, .s (.string b), I at'] := hc
    rw [hd, List.take_succ_cons, Tok.spotL]
    rw [itW_step]
    by_cases h10 : b.data.toList[at'] = 10
    · rw [if_pos h10]
      have ih' := ih (j + 1) (at' + 1) (ln + 1) 1 (H.set i (.cells 0 (rC (ln + 1) 1 b (at' + 1)))) (hset _) (by omega) (by omega) (by omega) (by omega)
      simp only [a_token_reader_step,s_token_reader_step_l0_b, am0,am1,am2,am3,am4,am5,am6,am7,bl,i64,reduceIte,reduceCtorEq,Nat.reduceEqDiff,Nat.reduceLT,Nat.reduceLeDiff,Nat.reduceBEq,Nat.reduceAdd,fillA,splice,Nat.reduceMul,al0,al1,al2,al3,al4,al5,al6,al7,al8,al9,al10,al11,al12,al13,al14,al15,al16,al17,al18,al19,al20,al21,al22,al23,al24,al25,al26,al27,al28,al29,al30,al31,al32,al33,al34,amY,op_eqP, I, hi, hrc, hj, hx, w1, w2, w3, w4, hset, hlen, hss, ten_m, h10, htr, decide_true, decide_false]
      simp only [hlen, hss, rC, I] at ih' ⊢
      exact ih'
    · rw [if_neg h10]
      have ih' := ih (j + 1) (at' + 1) ln (cl + 1) (H.set i (.cells 0 (rC ln (cl + 1) b (at' + 1)))) (hset _) (by omega) (by omega) (by omega) (by omega)
      simp only [a_token_reader_step,s_token_reader_step_l0_b, am0,am1,am2,am3,am4,am5,am6,am7,bl,i64,reduceIte,reduceCtorEq,Nat.reduceEqDiff,Nat.reduceLT,Nat.reduceLeDiff,Nat.reduceBEq,Nat.reduceAdd,fillA,splice,Nat.reduceMul,al0,al1,al2,al3,al4,al5,al6,al7,al8,al9,al10,al11,al12,al13,al14,al15,al16,al17,al18,al19,al20,al21,al22,al23,al24,al25,al26,al27,al28,al29,al30,al31,al32,al33,al34,amY,op_eqP, I, hi, hrc, hj, hx, w1, w2, w3, w4, hset, hlen, hss, ten_m, h10, htr, decide_true, decide_false]
      simp only [hlen, hss, rC, I] at ih' ⊢
      exact ih'
section
variable {CT : Nat → Option CFun}
theorem step_fun (hT : CT k_token_reader_step = some (.code s_token_reader_step)) (base : Nat) {b : ByteArray} (hb : b.size ≤ 2 ^ 40) {i : Nat} (hi : base ≤ i) {H : Heap} {ln cl at' : Nat} (hc : getC H i 0 = some (rC ln cl b at')) {n : Nat} (hn : at' + n ≤ b.size) (h2 : ln ≤ at' + 1) (h3 : cl ≤ at' + 1) :
    callW CT (.fn k_token_reader_step [] []) [.ref i 0 0, I n] base H = some (.tup [], H.set i (.cells 0 (rC (Tok.spotL ((b.data.toList.drop at').take n) (ln, cl)).1 (Tok.spotL ((b.data.toList.drop at').take n) (ln, cl)).2 b (at' + n)))) := by
  refine callW_fn (c := s_token_reader_step) hT (by simp [s_token_reader_step]) ?_
  have hl := step_loop (callW CT) base b hb i hi n (at' + n) hn (by omega) n 0 at' ln cl H hc rfl (by omega) h2 h3
  rw [I, I, show ((0 : Nat) : Int) = 0 from rfl] at hl
  simp only [s_token_reader_step, a_token_reader_step,s_token_reader_step_l0_b, am0,am1,am2,am3,am4,am5,am6,am7,bl,i64,reduceIte,reduceCtorEq,Nat.reduceEqDiff,Nat.reduceLT,Nat.reduceLeDiff,Nat.reduceBEq,Nat.reduceAdd,fillA,splice,Nat.reduceMul,al0,al1,al2,al3,al4,al5,al6,al7,al8,al9,al10,al11,al12,al13,al14,al15,al16,al17,al18,al19,al20,al21,al22,al23,al24,al25,al26,al27,al28,al29,al30,al31,al32,al33,al34,amY,op_eqP, I, hl]
  rfl
theorem far_loop (base : Nat) {f : V} {p : UInt8 → Bool} (hp : ∀ (c : UInt8) (base : Nat) (H : Heap), callW CT f [.s (.int .u8 c.toNat)] base H = some (bl (p c), H)) (hf : ∃ k, f = .fn k [] []) {b : ByteArray} (hb : b.size ≤ 2 ^ 40) {i : Nat} {H : Heap} {ln cl at' : Nat} (hc : getC H i 0 = some (rC ln cl b at')) : ∀ (l : List UInt8) (j : Nat), b.data.toList.drop (at' + j) = l → at' + j ≤ b.size →
    itW (evC (callW CT) itW base s_token_reader_far_l0) [] H.length (frOf 36 [(0, .ref i 0 0), (1, f), (5, I j)]) H = some (.ext 0, frOf 36 ((0, .ref i 0 0) :: (1, f) :: (5, I ((j + Tok.far p l : Nat) : Int)) :: [(32, bl false)]), H) := by
  intro l
  induction l with
  | nil =>
    intro j hd hj
    have hin : at' + j = b.size := by
      have := congrArg List.length hd
      rw [List.length_drop, show b.data.toList.length = b.size from rfl] at this
      simp at this
      omega
    rw [itW_step]
    have hrc : getC H i 0 = some [I ln, I cl, .s (.string b), I at'] := hc
    have w1 : IntKind.i64.wrap ((at' : Int) + (j : Int)) = (b.size : Int) := by rw [IntKind.wrap_i64]; omega
    simp only [a_token_reader_far,s_token_reader_far_l0_b, am0,am1,am2,am3,am4,am5,am6,am7,bl,i64,reduceIte,reduceCtorEq,Nat.reduceEqDiff,Nat.reduceLT,Nat.reduceLeDiff,Nat.reduceBEq,Nat.reduceAdd,fillA,splice,Nat.reduceMul,al0,al1,al2,al3,al4,al5,al6,al7,al8,al9,al10,al11,al12,al13,al14,al15,al16,al17,al18,al19,al20,al21,al22,al23,al24,al25,al26,al27,al28,al29,al30,al31,al32,al33,al34,amY,op_eqP, I, hrc, w1, Int.lt_irrefl, Tok.far, Nat.add_zero]
  | cons c l ih =>
    intro j hd hj
    have hcc : b.data.toList[at' + j]? = some c := by have := congrArg (·[0]?) hd; simp only [List.getElem?_drop] at this; exact this
    have hlt : at' + j < b.size := by have := (List.getElem?_eq_some_iff.1 hcc).1; exact this
    have hd' : b.data.toList.drop (at' + (j + 1)) = l := by
      have := congrArg (List.drop 1) hd
      simpa [List.drop_drop, Nat.add_assoc] using this
    have hrc : getC H i 0 = some [I ln, I cl, .s (.string b), I at'] := hc
    have w1 : IntKind.i64.wrap ((at' : Int) + (j : Int)) = ((at' + j : Nat) : Int) := by rw [IntKind.wrap_i64]; omega
    have w2 := w64_nat (n := j) (by omega)
    have hlt' : (((at' + j : Nat) : Int) < (b.size : Int)) := by omega
    obtain ⟨k, rfl⟩ := hf
    have hen := ih (j + 1) hd' (by omega)
    rw [itW_step]
    cases hpc : p c with
    | true =>
      simp only [a_token_reader_far,s_token_reader_far_l0_b, am0,am1,am2,am3,am4,am5,am6,am7,bl,i64,reduceIte,reduceCtorEq,Nat.reduceEqDiff,Nat.reduceLT,Nat.reduceLeDiff,Nat.reduceBEq,Nat.reduceAdd,fillA,splice,Nat.reduceMul,al0,al1,al2,al3,al4,al5,al6,al7,al8,al9,al10,al11,al12,al13,al14,al15,al16,al17,al18,al19,al20,al21,al22,al23,al24,al25,al26,al27,al28,al29,al30,al31,al32,al33,al34,amY,op_eqP, I, hrc, w1, w2, hlt', hcc, hp, hpc, Tok.far]
      rw [show j + (Tok.far p l + 1) = j + 1 + Tok.far p l by omega]
      exact hen
    | false =>
      simp only [a_token_reader_far,s_token_reader_far_l0_b, am0,am1,am2,am3,am4,am5,am6,am7,bl,i64,reduceIte,reduceCtorEq,Nat.reduceEqDiff,Nat.reduceLT,Nat.reduceLeDiff,Nat.reduceBEq,Nat.reduceAdd,fillA,splice,Nat.reduceMul,al0,al1,al2,al3,al4,al5,al6,al7,al8,al9,al10,al11,al12,al13,al14,al15,al16,al17,al18,al19,al20,al21,al22,al23,al24,al25,al26,al27,al28,al29,al30,al31,al32,al33,al34,amY,op_eqP, I, hrc, w1, w2, hlt', hcc, hp, hpc, Tok.far]
theorem far_fun (hT : CT k_token_reader_far = some (.code s_token_reader_far)) (base : Nat) {f : V} {p : UInt8 → Bool} (hp : ∀ (c : UInt8) (base : Nat) (H : Heap), callW CT f [.s (.int .u8 c.toNat)] base H = some (bl (p c), H)) (hf : ∃ k, f = .fn k [] []) {b : ByteArray} (hb : b.size ≤ 2 ^ 40) {i : Nat} {H : Heap} {ln cl at' : Nat} (hc : getC H i 0 = some (rC ln cl b at')) (hat : at' ≤ b.size) :
    callW CT (.fn k_token_reader_far [] []) [.ref i 0 0, f] base H = some (I (Tok.far p (b.data.toList.drop at') : Nat), H) := by
  refine callW_fn (c := s_token_reader_far) hT (by simp [s_token_reader_far]) ?_
  have hl := far_loop (CT := CT) base hp hf hb hc (b.data.toList.drop at') 0 rfl hat
  rw [I, I, show ((0 : Nat) : Int) = 0 from rfl, Nat.zero_add] at hl
  simp only [s_token_reader_far, a_token_reader_far,s_token_reader_far_l0_b, am0,am1,am2,am3,am4,am5,am6,am7,bl,i64,reduceIte,reduceCtorEq,Nat.reduceEqDiff,Nat.reduceLT,Nat.reduceLeDiff,Nat.reduceBEq,Nat.reduceAdd,fillA,splice,Nat.reduceMul,al0,al1,al2,al3,al4,al5,al6,al7,al8,al9,al10,al11,al12,al13,al14,al15,al16,al17,al18,al19,al20,al21,al22,al23,al24,al25,al26,al27,al28,al29,al30,al31,al32,al33,al34,amY,op_eqP, I, hl]
end
end Go.Proofs.YtfnkpedipicjnaaDoor
set_option maxRecDepth 100000
namespace Go.Proofs.YtfnkpedipicjnaaDoor
open Go.AM
def tV (t : Tok.T) : List V := [.s (.int .u8 t.kind), .s (.string ⟨t.text.toArray⟩), I t.n, I t.line, I t.col]
structure LexSt (m : Nat) (H : Heap) (o h i : Nat) (b : ByteArray) (ln cl at' : Nat) (R : List (List V)) : Prop where
  hold : getC H h 0 = some [.ref i 0 0]
  rd : getC H i 0 = some (rC ln cl b at')
  out : ∃ v, getC H o 0 = some [v] ∧ AccW m 5 H v R
  len : m ≤ H.length
  lt : h < m ∧ i < m ∧ o < m
  ne : o ≠ h ∧ o ≠ i ∧ h ≠ i
theorem AccW.trim_cell {m w L o : Nat} {H : Heap} {v : V} {R : List (List V)} (h : AccW m w H v R) (ho : getC H o 0 = some [v]) (hL : o < L) (fr : List V) : AccW m w (trim L fr H) v R := by
  rcases trim_cells L fr H with e | ⟨e, _, hu⟩
  · rw [e]; exact h
  · refine h.keep fun id g n ev => ?_
    have := hu o 0 _ hL ho v (by simp)
    rw [ev] at this
    simp only [idsUnder, decide_eq_true_eq] at this
    rw [e, List.getElem?_take_of_lt this]
section
variable {CT : Nat → Option CFun}
theorem put_fun (hT : CT k_token_Lex_1 = some (.code s_token_Lex_1)) (hS : CT k_token_reader_step = some (.code s_token_reader_step)) {base m : Nat} {H : Heap} {o h i : Nat} {b : ByteArray} {ln cl at' : Nat} {R : List (List V)} (st : LexSt m H o h i b ln cl at' R) (hb : b.size ≤ 2 ^ 40) (hbo : base ≤ o) (hbi : base ≤ i) (hbm : base ≤ m) {n : Nat} (hn : at' + n ≤ b.size) (hl : ln ≤ at' + 1) (hc : cl ≤ at' + 1) (hR : R.length ≤ at' + 1) (kind : Nat) :
    ∃ id g H', callW CT (.fn k_token_Lex_1 [] [.ref o 0 0, .ref h 0 0]) [.s (.int .u8 kind), I n] base H = some (.ref id g (R.length * 5), H') ∧
      LexSt m H' o h i b (Tok.spotL ((b.data.toList.drop at').take n) (ln, cl)).1 (Tok.spotL ((b.data.toList.drop at').take n) (ln, cl)).2 (at' + n) (R ++ [tV ⟨kind, (b.data.toList.drop at').take n, 0, ln, cl⟩]) ∧
      getC H' o 0 = some [.sl id g 0 (R.length + 1) 5] ∧ m ≤ id ∧ getC H' id g = some (R ++ [tV ⟨kind, (b.data.toList.drop at').take n, 0, ln, cl⟩]).flatten ∧ KeepD m [o, i] H H' := by
  obtain ⟨v, ho, hv⟩ := st.out
  have hrd := st.rd
  have hh := st.hold
  obtain ⟨hmh, hmi, hmo⟩ := st.lt
  obtain ⟨noh, noi, nhi⟩ := st.ne
  have hmL := st.len
  have hrc : getC H i 0 = some [I ln, I cl, .s (.string b), I at'] := hrd
  have w1 : IntKind.i64.wrap ((at' : Int) + (n : Int)) = ((at' + n : Nat) : Int) := by rw [IntKind.wrap_i64]; omega
  have hle : (0 ≤ (at' : Int) ∧ (at' : Int) ≤ ((at' + n : Nat) : Int) ∧ ((at' + n : Nat) : Int) ≤ (b.size : Int)) := by omega
  obtain ⟨row, hrow⟩ : ∃ row, tV ⟨kind, (b.data.toList.drop at').take n, 0, ln, cl⟩ = row := ⟨_, rfl⟩
  have hrow' : [V.s (.int .u8 kind), V.s (.string ⟨((b.data.toList.drop at').take n).toArray⟩), V.s (.int .i64 0), V.s (.int .i64 ln), V.s (.int .i64 cl)] = row := hrow
  have hrl : row.length = 5 := by rw [← hrow]; rfl
  have hr1 : row.all V.one = true := by rw [← hrow]; rfl
  rw [hrow]
  obtain ⟨B, hB⟩ : ∃ B, H ++ [Ob.cells 0 row] = B := ⟨_, rfl⟩
  have kB : ∀ id, id < H.length → B[id]? = H[id]? := fun id h1 => by rw [← hB, List.getElem?_append_left h1]
  have lB : B.length = H.length + 1 := by rw [← hB]; simp
  have cB : ∀ {id g c}, getC H id g = some c → getC B id g = some c := fun {id g c} hg => by have := getC_lt hg; unfold getC at hg ⊢; rw [kB id this]; exact hg
  have hx : elems B 5 (.sl H.length 0 0 1 5) = some ([row].length, [row].flatten) := by
    rw [← hB]; exact (RdW.sl (R := [row]) (by simpa using getC_new H 0 row) (by intro r hr; simp at hr; subst hr; exact hrl)).el
  have hvB : AccW m 5 B v R := hv.keep fun id g n e => kB id (hv.lt id g n e)
  obtain ⟨v', C, eC, aC, lC, kC⟩ := hvB.append (base := base) (bytes := 48) (S := [row]) hbm (by omega) (by intro r hr; simp at hr; subst hr; exact hrl) (by simp) hx (by simpa using hr1) (by simp; omega)
  obtain ⟨hRR, ⟨e0, _⟩ | ⟨id, g, rfl, hcC, hid⟩⟩ := aC
  · simp at e0
  have hap : AccW m 5 C (.sl id g 0 (R ++ [row]).length 5) (R ++ [row]) := ⟨hRR, .inr ⟨id, g, rfl, hcC, hid⟩⟩
  have hvne : ∀ x, x < m → ∀ g n, v ≠ .sl x g 0 n 5 := by
    intro x hx g n e
    obtain ⟨_, ⟨_, rfl⟩ | ⟨id', g', rfl, _, hid'⟩⟩ := hv
    · cases e
    · cases e; omega
  have kCm : ∀ x, x < m → C[x]? = H[x]? := fun x hx => by rw [kC x (by omega) (hvne x hx), kB x (by omega)]
  have cC : ∀ {x g c}, x < m → getC H x g = some c → getC C x g = some c := fun {x g c} hx hg => by unfold getC at hg ⊢; rw [kCm x hx]; exact hg
  have hoC := cC hmo ho
  obtain ⟨E, hE⟩ : ∃ E, C.set o (.cells 0 [.sl id g 0 (R.length + 1) 5]) = E := ⟨_, rfl⟩
  have lE : E.length = C.length := by rw [← hE]; exact List.length_set
  have oE : getC E o 0 = some [.sl id g 0 (R.length + 1) 5] := by rw [← hE]; exact getC_put hoC _
  have kE : ∀ x, x ≠ o → E[x]? = C[x]? := fun x hx => by rw [← hE, List.getElem?_set_ne (Ne.symm hx)]
  have cE : ∀ {x g c}, x ≠ o → getC C x g = some c → getC E x g = some c := fun {x g c} hx hg => by unfold getC at hg ⊢; rw [kE x hx]; exact hg
  have aE : AccW m 5 E (.sl id g 0 (R ++ [row]).length 5) (R ++ [row]) := hap.keep fun id' g' n' e => by cases e; exact kE id (by omega)
  have hhE := cE (Ne.symm noh) (cC hmh hh)
  have hrE := cE (Ne.symm noi) (cC hmi hrd)
  have stepF := step_fun hS base hb hbi hrE hn hl hc
  obtain ⟨rc, hrc'⟩ : ∃ rc, rC (Tok.spotL ((b.data.toList.drop at').take n) (ln, cl)).1 (Tok.spotL ((b.data.toList.drop at').take n) (ln, cl)).2 b (at' + n) = rc := ⟨_, rfl⟩
  have lG : ∀ ob, (E.set i ob).length = E.length := fun ob => List.length_set
  have tG : ∀ fr2 ob, trim E.length fr2 (E.set i ob) = E.set i ob := fun fr2 ob => trim_same (lG ob)
  have oG : ∀ ob, getC (E.set i ob) o 0 = some [.sl id g 0 (R.length + 1) 5] := fun ob => by rw [getC_set_ne ob noi]; exact oE
  have lR : (R ++ [row]).length = R.length + 1 := by simp
  have w2 : IntKind.i64.wrap (((R.length + 1 : Nat) : Int) - 1) = (R.length : Int) := by rw [IntKind.wrap_i64]; omega
  have hix : (0 ≤ (R.length : Int) ∧ (R.length : Int) < ((R.length + 1 : Nat) : Int) ∧ 5 = 5) := by omega
  have hBx : H ++ [Ob.cells 0 [V.s (.int .u8 kind), V.s (.string ⟨((b.data.toList.drop at').take n).toArray⟩), V.s (.int .i64 0), V.s (.int .i64 ln), V.s (.int .i64 cl)]] = B := by rw [hrow']; exact hB
  refine ⟨id, g, _, callW_fn (c := s_token_Lex_1) hT (r := (.ref id g (R.length * 5), E.set i (.cells 0 rc))) (by simp [s_token_Lex_1]) ?_, ?_⟩
  · simp only [s_token_Lex_1, a_token_Lex_1, am0,am1,am2,am3,am4,am5,am6,am7,bl,i64,reduceIte,reduceCtorEq,Nat.reduceEqDiff,Nat.reduceLT,Nat.reduceLeDiff,Nat.reduceBEq,Nat.reduceAdd,fillA,splice,Nat.reduceMul,al0,al1,al2,al3,al4,al5,al6,al7,al8,al9,al10,al11,al12,al13,al14,al15,al16,al17,al18,al19,al20,al21,al22,al23,al24,al25,al26,al27,al28,al29,al30,al31,al32,al33,al34,amY,op_eqP, I, ho, hh, hrc, w1, xsub_str, xsub_build, hle, extract_eq, hBx, eC, hoC, hbo, hE, oE, hhE, stepF, hrc', tG, oG, lR, w2, hix]
  · have aG : AccW m 5 (E.set i (.cells 0 rc)) (.sl id g 0 (R ++ [row]).length 5) (R ++ [row]) := aE.keep fun id' g' n' e => by cases e; exact List.getElem?_set_ne (by omega)
    have hlE : m ≤ E.length := by omega
    refine ⟨⟨by rw [getC_set_ne _ (fun e => nhi e)]; exact hhE, by rw [hrc']; exact getC_put hrE _, ⟨_, oG _, by rw [← lR]; exact aG⟩, by rw [List.length_set]; exact hlE, st.lt, st.ne⟩, oG _, hid, ?_, ⟨by rw [List.length_set]; exact hlE, fun x hx hxn => ?_⟩⟩
    · obtain ⟨_, ⟨e0, _⟩ | ⟨id', g', e, hc', _⟩⟩ := aG
      · simp at e0
      · cases e; exact hc'
    · simp only [List.mem_cons, List.not_mem_nil, or_false, not_or] at hxn
      rw [List.getElem?_set_ne (Ne.symm hxn.2), kE x hxn.1, kCm x hx]
end
end Go.Proofs.YtfnkpedipicjnaaDoor
