/-
  Slices as they read; small laws for walks.
-/
import Derived.Test.YtmnlagcmpgilaaaAmG
set_option linter.all false
namespace Go.AM

theorem wrap_pos {n : Nat} (h : n + 1 < 2 ^ 63) : IntKind.i64.wrap ((n : Int) + 1) = ((n + 1 : Nat) : Int) := by rw [IntKind.wrap_i64]; omega
theorem wrap_id {n : Int} (h1 : -(2 ^ 62) ≤ n) (h2 : n ≤ 2 ^ 62) : IntKind.i64.wrap n = n := by rw [IntKind.wrap_i64]; omega

/-- A value that reads as a slice of cells, one cell an element. -/
def Rd (H : Heap) (v : V) (l : List V) : Prop := (∀ b, v ≠ .s (.string b)) ∧ elems H 1 v = some (l.length, l)

theorem Rd.nil (H : Heap) : Rd H nilS [] := ⟨fun _ h => (by cases h), rfl⟩
theorem Rd.esl (H : Heap) : Rd H .esl [] := ⟨fun _ h => (by cases h), rfl⟩
theorem Rd.psl (H : Heap) (l : List V) : Rd H (.psl (l.map fun x => [x]) 1) l := by
  refine ⟨fun _ h => by (cases h), ?_⟩
  simp only [elems, if_true, List.length_map]
  congr 2
  induction l with
  | nil => rfl
  | cons x l ih => simp [ih]
theorem Rd.sl {H : Heap} {id g : Nat} {c : List V} (h : getC H id g = some c) {off n : Nat} (hn : off + n ≤ c.length) : Rd H (.sl id g off n 1) ((c.drop off).take n) := by
  refine ⟨fun _ h => by (cases h), ?_⟩
  have : ((c.drop off).take n).length = n := by simp; omega
  simp only [elems, if_true, h, Nat.mul_one, this]

theorem Rd.cases {H : Heap} {v : V} {l : List V} (h : Rd H v l) : (l = [] ∧ (v = nilS ∨ v = .esl)) ∨ (∃ es, v = .psl es 1 ∧ es.flatten = l ∧ es.length = l.length) ∨ ∃ id g off n c, v = .sl id g off n 1 ∧ getC H id g = some c ∧ (c.drop off).take n = l ∧ n = l.length := by
  obtain ⟨h1, h2⟩ := h
  unfold elems at h2
  split at h2
  · simp only [Option.some.injEq, Prod.mk.injEq] at h2; exact .inl ⟨h2.2.symm, .inl rfl⟩
  · exact absurd rfl (h1 _)
  · simp only [Option.some.injEq, Prod.mk.injEq] at h2; exact .inl ⟨h2.2.symm, .inr rfl⟩
  · rename_i es sz
    split at h2
    · rename_i hz; subst hz; simp only [Option.some.injEq, Prod.mk.injEq] at h2; exact .inr (.inl ⟨es, rfl, h2.2, h2.1⟩)
    · cases h2
  · rename_i id g off len sz
    split at h2
    · rename_i hz
      subst hz
      split at h2
      · rename_i c hc
        simp only [Nat.mul_one] at h2
        split at h2
        · simp only [Option.some.injEq, Prod.mk.injEq] at h2
          exact .inr (.inr ⟨id, g, off, len, c, rfl, hc, h2.2, h2.1⟩)
        · cases h2
      · cases h2
    · cases h2
  · cases h2

theorem Rd.len {H : Heap} {v : V} {l : List V} (h : Rd H v l) : xLen H .s v = some (.s (.int .i64 l.length)) := by
  rcases h.cases with ⟨rfl, rfl | rfl⟩ | ⟨es, rfl, _, e⟩ | ⟨id, g, off, n, c, rfl, _, _, e⟩
  · rfl
  · rfl
  · simp only [xLen, e]; rfl
  · simp only [xLen, e]; rfl

/-- The elements of a frozen slice are one cell wide. -/
def Wide1 : V → Prop
  | .psl es _ => ∀ e ∈ es, e.length = 1
  | _ => True

theorem flatten_get {es : List (List V)} (h : ∀ e ∈ es, e.length = 1) : ∀ {i : Nat} {x : V}, es.flatten[i]? = some x → es[i]? = some [x] := by
  induction es with
  | nil => intro i x hx; simp at hx
  | cons e es ih =>
    intro i x hx
    have he := h e List.mem_cons_self
    match e, he with
    | [y], _ =>
      cases i with
      | zero => simp at hx ⊢; exact hx
      | succ i => simp at hx ⊢; exact ih (fun e he => h e (List.mem_cons_of_mem _ he)) hx

theorem Rd.at {H : Heap} {v : V} {l : List V} (h : Rd H v l) (hw : Wide1 v) {i : Nat} {x : V} (hx : l[i]? = some x) : V1 (xLoad H false 1) (xIndexAddr 1 v (.s (.int .i64 i))) = some x := by
  have hi : i < l.length := (List.getElem?_eq_some_iff.1 hx).1
  have h0 : (0 : Int) ≤ (i : Int) := by omega
  rcases h.cases with ⟨rfl, _⟩ | ⟨es, rfl, e1, e2⟩ | ⟨id, g, off, n, c, rfl, hc, e1, e2⟩
  · simp at hx
  · have : es[i]? = some [x] := flatten_get hw (by rw [e1]; exact hx)
    simp only [xIndexAddr, h0, true_and, if_true, Int.toNat_natCast, this, Option.map_some, V1, xLoad, loadV]
    rfl
  · have hn : ((i : Int) < (n : Int)) := by omega
    have hcx : c[off + i]? = some x := by
      have : ((c.drop off).take n)[i]? = some x := by rw [e1]; exact hx
      rw [List.getElem?_take_of_lt (by omega), List.getElem?_drop] at this
      exact this
    have : ((c.drop (off + i)).take 1) = [x] := by
      have hlt := (List.getElem?_eq_some_iff.1 hcx).1
      rw [List.drop_eq_getElem_cons hlt]
      have := (List.getElem?_eq_some_iff.1 hcx).2
      simp [this]
    simp only [xIndexAddr, h0, hn, and_self, if_true, Int.toNat_natCast, Nat.mul_one, V1, xLoad, loadV, hc, this]
    rfl

/-- Reading goes on behind new objects. -/
theorem getC_app {H G : Heap} {id g : Nat} {c : List V} (h : getC H id g = some c) : getC (H ++ G) id g = some c := by
  unfold getC at h ⊢
  split at h
  · rename_i g' c' hh
    rw [List.getElem?_append_left (List.getElem?_eq_some_iff.1 hh).1, hh]
    exact h
  · cases h
theorem Rd.app {H : Heap} {v : V} {l : List V} (h : Rd H v l) (G : Heap) : Rd (H ++ G) v l := by
  rcases h.cases with ⟨rfl, rfl | rfl⟩ | ⟨es, rfl, e1, e2⟩ | ⟨id, g, off, n, c, rfl, hc, e1, e2⟩
  · exact Rd.nil _
  · exact Rd.esl _
  · exact ⟨h.1, h.2⟩
  · refine ⟨h.1, ?_⟩
    have : ((c.drop off).take n).length = n := by rw [e1, e2]
    simp only [elems, if_true, getC_app hc, Nat.mul_one, this, e1]
    rw [e2, if_pos rfl]

theorem getC_set {H : Heap} {id g : Nat} {c c' : List V} (h : getC H id g = some c) (g' : Nat) : getC (H.set id (.cells g' c')) id g' = some c' := by
  have : id < H.length := by
    unfold getC at h
    split at h
    · rename_i hh; exact (List.getElem?_eq_some_iff.1 hh).1
    · cases h
  simp [getC, this]
theorem getC_set_ne {H : Heap} {id j g : Nat} (ob : Ob) (h : id ≠ j) : getC (H.set j ob) id g = getC H id g := by
  unfold getC
  rw [List.getElem?_set_ne (Ne.symm h)]
theorem getC_same {H : Heap} {id g : Nat} {c : List V} (h : getC H id g = some c) : H.set id (.cells g c) = H := by
  unfold getC at h
  split at h
  · rename_i g' c' hh
    split at h
    · rename_i e
      cases h
      subst e
      obtain ⟨h1, h2⟩ := List.getElem?_eq_some_iff.1 hh
      rw [← h2]
      exact List.set_getElem_self h1
    · cases h
  · cases h
theorem set_set' (H : Heap) (id : Nat) (a b : Ob) : (H.set id a).set id b = H.set id b := List.set_set ..

theorem storeV_at {H : Heap} {id g base off : Nat} {c : List V} (hc : getC H id g = some c) (hb : base ≤ id) {v : V} (h1 : v.one = true) (hl : off < c.length) : storeV H base 1 v (.ref id g off) = some (H.set id (.cells g (c.set off v))) := by
  have hv : v.cells = [v] := by cases v <;> first | rfl | (simp [V.one] at h1; done)
  have : splice c off [v] = c.set off v := by
    unfold splice
    rw [List.set_eq_take_append_cons_drop, if_pos hl]
    simp
  have hl' : off + 1 ≤ c.length := hl
  simp only [storeV, if_pos hb, hc, hv, List.length_singleton, hl', List.all_cons, List.all_nil, h1, Bool.and_true, and_self, if_true, this]

/-! ### What expressions give, shape by shape -/
theorem xb_add (k : IntKind) (a b : Int) : xBin .add (.s (.int k a)) (.s (.int k b)) = some (.s (.int k (k.wrap (a + b)))) := by simp [xBin, binS]
theorem xb_sub (k : IntKind) (a b : Int) : xBin .sub (.s (.int k a)) (.s (.int k b)) = some (.s (.int k (k.wrap (a - b)))) := by simp [xBin, binS]
theorem xb_mul (k : IntKind) (a b : Int) : xBin .mul (.s (.int k a)) (.s (.int k b)) = some (.s (.int k (k.wrap (a * b)))) := by simp [xBin, binS]
theorem xb_eql (k : IntKind) (a b : Int) : xBin .eql (.s (.int k a)) (.s (.int k b)) = some (.s (.bool (a == b))) := by simp [xBin, binS]
theorem xb_neq (k : IntKind) (a b : Int) : xBin .neq (.s (.int k a)) (.s (.int k b)) = some (.s (.bool (a != b))) := by simp [xBin, binS]
theorem xb_lss (k : IntKind) (a b : Int) : xBin .lss (.s (.int k a)) (.s (.int k b)) = some (.s (.bool (decide (a < b)))) := by simp [xBin, binS]
theorem xb_leq (k : IntKind) (a b : Int) : xBin .leq (.s (.int k a)) (.s (.int k b)) = some (.s (.bool (decide (a ≤ b)))) := by simp [xBin, binS]
theorem xb_gtr (k : IntKind) (a b : Int) : xBin .gtr (.s (.int k a)) (.s (.int k b)) = some (.s (.bool (decide (a > b)))) := by simp [xBin, binS]
theorem xb_geq (k : IntKind) (a b : Int) : xBin .geq (.s (.int k a)) (.s (.int k b)) = some (.s (.bool (decide (a ≥ b)))) := by simp [xBin, binS]
theorem xb_and (k : IntKind) (a b : Int) : xBin .and (.s (.int k a)) (.s (.int k b)) = some (.s (.int k (k.wrap (BitVec.ofInt k.bits a &&& BitVec.ofInt k.bits b).toNat))) := by simp [xBin, binS]
theorem xb_or (k : IntKind) (a b : Int) : xBin .or (.s (.int k a)) (.s (.int k b)) = some (.s (.int k (k.wrap (BitVec.ofInt k.bits a ||| BitVec.ofInt k.bits b).toNat))) := by simp [xBin, binS]
theorem xb_xor (k : IntKind) (a b : Int) : xBin .xor (.s (.int k a)) (.s (.int k b)) = some (.s (.int k (k.wrap (BitVec.ofInt k.bits a ^^^ BitVec.ofInt k.bits b).toNat))) := by simp [xBin, binS]
theorem xb_andNot (k : IntKind) (a b : Int) : xBin .andNot (.s (.int k a)) (.s (.int k b)) = some (.s (.int k (k.wrap (BitVec.ofInt k.bits a &&& ~~~ (BitVec.ofInt k.bits b)).toNat))) := by simp [xBin, binS]
theorem xb_quo (k : IntKind) (a b : Int) : xBin .quo (.s (.int k a)) (.s (.int k b)) = if b = 0 then none else some (.s (.int k (k.wrap (a.tdiv b)))) := by by_cases h : b = 0 <;> simp [xBin, binS, h]
theorem xb_rem (k : IntKind) (a b : Int) : xBin .rem (.s (.int k a)) (.s (.int k b)) = if b = 0 then none else some (.s (.int k (a.tmod b))) := by by_cases h : b = 0 <;> simp [xBin, binS, h]
theorem xb_shl (k j : IntKind) (a b : Int) : xBin .shl (.s (.int k a)) (.s (.int j b)) = if b < 0 then none else some (.s (.int k (k.wrap (a * 2 ^ (min b.toNat k.bits))))) := by by_cases h : b < 0 <;> simp [xBin, binS, h]
theorem xb_shr (k j : IntKind) (a b : Int) : xBin .shr (.s (.int k a)) (.s (.int j b)) = if b < 0 then none else some (.s (.int k (a.fdiv (2 ^ (min b.toNat k.bits))))) := by by_cases h : b < 0 <;> simp [xBin, binS, h]
theorem xs_eql (a b : ByteArray) : xBin .eql (.s (.string a)) (.s (.string b)) = some (.s (.bool (a.data.toList == b.data.toList))) := rfl
theorem xs_neq (a b : ByteArray) : xBin .neq (.s (.string a)) (.s (.string b)) = some (.s (.bool (!(a.data.toList == b.data.toList)))) := rfl
theorem xs_lss (a b : ByteArray) : xBin .lss (.s (.string a)) (.s (.string b)) = some (.s (.bool (Op.bytesLess a.data.toList b.data.toList))) := rfl
theorem xs_add (a b : ByteArray) : xBin .add (.s (.string a)) (.s (.string b)) = if ((a.size + b.size : Nat) : Int) > IntKind.i64.max then none else some (.s (.string (a ++ b))) := by by_cases h : ((a.size + b.size : Nat) : Int) > IntKind.i64.max <;> simp only [xBin, binS, h, if_true, if_false, Option.map_some, Option.map_none]
theorem xq_b (n a b : Bool) : xEqB n (.s (.bool a)) (.s (.bool b)) = some (.s (.bool ((a == b) != n))) := rfl
theorem xn_pn (n : Bool) : xEqNil .p n (.s (.pointer none)) = some (.s (.bool (true != n))) := rfl
theorem xn_pr (n : Bool) (i g o : Nat) : xEqNil .p n (.ref i g o) = some (.s (.bool (false != n))) := rfl
theorem xn_pp (n : Bool) (cs : List V) : xEqNil .p n (.pref cs) = some (.s (.bool (false != n))) := rfl
theorem xn_sn (n : Bool) : xEqNil .s n (.s (.slice none 0 0)) = some (.s (.bool (true != n))) := rfl
theorem xn_ss (n : Bool) (i g o l z : Nat) : xEqNil .s n (.sl i g o l z) = some (.s (.bool (false != n))) := rfl
theorem xn_sp (n : Bool) (es : List (List V)) (z : Nat) : xEqNil .s n (.psl es z) = some (.s (.bool (false != n))) := rfl
theorem xn_se (n : Bool) : xEqNil .s n (.esl) = some (.s (.bool (false != n))) := rfl
theorem xn_mn (n : Bool) : xEqNil .m n (.s (.map none)) = some (.s (.bool (true != n))) := rfl
theorem xn_mm (n : Bool) (i : Nat) : xEqNil .m n (.mp i) = some (.s (.bool (false != n))) := rfl
theorem xn_fn (n : Bool) : xEqNil .f n (.s .nilFunc) = some (.s (.bool (true != n))) := rfl
theorem xn_ff (n : Bool) (i : Nat) (a b : List V) : xEqNil .f n (.fn i a b) = some (.s (.bool (false != n))) := rfl
theorem xn_fy (n : Bool) (i : Nat) : xEqNil .f n (.yld i) = some (.s (.bool (false != n))) := rfl
theorem xg (n : Bool) (ls : List Leaf) (xs ys : List V) : xEqAgg n ls (.agg xs) (.agg ys) = (eqLeaves ls xs ys).map fun b => .s (.bool (b != n)) := rfl
theorem xu_not (b : Bool) : xUn .not (.s (.bool b)) = some (.s (.bool (!b))) := rfl
theorem xu_neg (k : IntKind) (a : Int) : xUn .neg (.s (.int k a)) = some (.s (.int k (k.wrap (0 - a)))) := rfl
theorem xc_int (k j : IntKind) (a : Int) : xConv k (.s (.int j a)) = some (.s (.int k (k.wrap a))) := rfl
theorem xc_id (b : ByteArray) : xConvId (.s (.string b)) = some (.s (.string b)) := rfl
theorem xk_ref (i g o : Nat) : xNilCheck (.ref i g o) = some (.ref i g o) := rfl
theorem xk_pref (cs : List V) : xNilCheck (.pref cs) = some (.pref cs) := rfl
theorem xk_fn (f : Nat) (a b : List V) : xNilCheck (.fn f a b) = some (.fn f a b) := rfl
theorem xk_yld (i : Nat) : xNilCheck (.yld i) = some (.yld i) := rfl
theorem xa_ref (off i g o : Nat) : xFieldAddr off (.ref i g o) = some (.ref i g (o + off)) := rfl
theorem xa_pref (off : Nat) (cs : List V) : xFieldAddr off (.pref cs) = if off ≤ cs.length then some (.pref (cs.drop off)) else none := rfl
theorem xf_agg (g : Bool) (off n : Nat) (cs : List V) : xField g off n (.agg cs) = if ((cs.drop off).take n).length = n then shut g ((cs.drop off).take n) else none := rfl
theorem xi_sl (sz i g o l z : Nat) (k : IntKind) (n : Int) : xIndexAddr sz (.sl i g o l z) (.s (.int k n)) = if 0 ≤ n ∧ n < l ∧ z = sz then some (.ref i g (o + n.toNat * sz)) else none := rfl
theorem xi_psl (sz z : Nat) (es : List (List V)) (k : IntKind) (n : Int) : xIndexAddr sz (.psl es z) (.s (.int k n)) = if 0 ≤ n ∧ z = sz then (es[n.toNat]?).map .pref else none := rfl
theorem xj_str (b : ByteArray) (k : IntKind) (n : Int) : xIndexStr (.s (.string b)) (.s (.int k n)) = if 0 ≤ n then (b.data.toList[n.toNat]?).map fun c => .s (.int .u8 c.toNat) else none := rfl
theorem xe_tup (i : Nat) (vs : List V) : xExtract i (.tup vs) = vs[i]? := rfl
theorem xl_str (H : Heap) (b : ByteArray) : xLen H .p (.s (.string b)) = some (.s (.int .i64 b.size)) := rfl
theorem xl_nil (H : Heap) : xLen H .s (.s (.slice none 0 0)) = some (.s (.int .i64 0)) := rfl
theorem xl_esl (H : Heap) : xLen H .s .esl = some (.s (.int .i64 0)) := rfl
theorem xl_psl (H : Heap) (es : List (List V)) (z : Nat) : xLen H .s (.psl es z) = some (.s (.int .i64 es.length)) := rfl
theorem xl_sl (H : Heap) (i g o l z : Nat) : xLen H .s (.sl i g o l z) = some (.s (.int .i64 l)) := rfl
theorem xl_mnil (H : Heap) : xLen H .m (.s (.map none)) = some (.s (.int .i64 0)) := rfl
theorem xo_ref (H : Heap) (g : Bool) (n i j o : Nat) : xLoad H g n (.ref i j o) = match getC H i j with | some c => (if ((c.drop o).take n).length = n then shut g ((c.drop o).take n) else none) | none => none := rfl
theorem xo_pref (H : Heap) (g : Bool) (n : Nat) (cs : List V) : xLoad H g n (.pref cs) = if (cs.take n).length = n then shut g (cs.take n) else none := rfl
theorem xm (mx : Bool) (k : IntKind) (a b : Int) : xMinmax mx (.s (.int k a)) (.s (.int k b)) = some (.s (.int k (if mx then (if a < b then b else a) else (if b < a then b else a)))) := by simp [xMinmax]
theorem shut_agg (cs : List V) : shut true cs = some (.agg cs) := rfl
theorem shut_one (x : V) : shut false [x] = some x := rfl

theorem Rd.at' {H : Heap} {v : V} {l : List V} (h : Rd H v l) (hw : Wide1 v) {i : Nat} {x : V} (hx : l[i]? = some x) : ∃ a, xIndexAddr 1 v (.s (.int .i64 i)) = some a ∧ xLoad H false 1 a = some x := by
  have := h.at hw hx
  cases ha : xIndexAddr 1 v (.s (.int .i64 i)) with
  | none => rw [ha] at this; cases this
  | some a => rw [ha] at this; exact ⟨a, rfl, this⟩

/-! ### Parts of slices and texts; zeroing -/
def bndV (d : Nat) : Option V → Option Int
  | none => some d
  | some v => intOf? v
theorem bndV_none (d : Nat) : bndV d none = some (d : Int) := rfl
theorem bndV_int (d : Nat) (k : IntKind) (n : Int) : bndV d (some (.s (.int k n))) = some n := rfl
def cutSl (sz id g off len z : Nat) : Option Int → Option Int → Option V
  | some l, some h => if 0 ≤ l ∧ l ≤ h ∧ h ≤ len ∧ z = sz then some (.sl id g (off + l.toNat * sz) (h - l).toNat sz) else none
  | _, _ => none
def cutPsl (sz : Nat) (es : List (List V)) (z : Nat) : Option Int → Option Int → Option V
  | some l, some h => if 0 ≤ l ∧ l ≤ h ∧ h ≤ es.length ∧ z = sz then some (.psl ((es.drop l.toNat).take (h - l).toNat) sz) else none
  | _, _ => none
def cutNil (v : V) : Option Int → Option Int → Option V
  | some l, some h => if l = 0 ∧ h = 0 then some v else none
  | _, _ => none
def xSlice (sz : Nat) (v : V) (lo hi : Option V) : Option V :=
  match v with
  | .s (.slice none 0 0) => cutNil nilS (bndV 0 lo) (bndV 0 hi)
  | .esl => cutNil .esl (bndV 0 lo) (bndV 0 hi)
  | .psl es z => cutPsl sz es z (bndV 0 lo) (bndV es.length hi)
  | .sl id g off len z => cutSl sz id g off len z (bndV 0 lo) (bndV len hi)
  | _ => none
theorem xslice_nil (sz : Nat) (lo hi : Option V) : xSlice sz nilS lo hi = cutNil nilS (bndV 0 lo) (bndV 0 hi) := rfl
theorem xslice_esl (sz : Nat) (lo hi : Option V) : xSlice sz .esl lo hi = cutNil .esl (bndV 0 lo) (bndV 0 hi) := rfl
theorem xslice_psl (sz : Nat) (es : List (List V)) (z : Nat) (lo hi : Option V) : xSlice sz (.psl es z) lo hi = cutPsl sz es z (bndV 0 lo) (bndV es.length hi) := rfl
theorem xslice_sl (sz id g off len z : Nat) (lo hi : Option V) : xSlice sz (.sl id g off len z) lo hi = cutSl sz id g off len z (bndV 0 lo) (bndV len hi) := rfl
theorem cutSl_some (sz id g off len z : Nat) (l h : Int) : cutSl sz id g off len z (some l) (some h) = if 0 ≤ l ∧ l ≤ h ∧ h ≤ len ∧ z = sz then some (.sl id g (off + l.toNat * sz) (h - l).toNat sz) else none := rfl
theorem cutPsl_some (sz : Nat) (es : List (List V)) (z : Nat) (l h : Int) : cutPsl sz es z (some l) (some h) = if 0 ≤ l ∧ l ≤ h ∧ h ≤ es.length ∧ z = sz then some (.psl ((es.drop l.toNat).take (h - l).toNat) sz) else none := rfl
theorem cutNil_some (v : V) (l h : Int) : cutNil v (some l) (some h) = if l = 0 ∧ h = 0 then some v else none := rfl
theorem bnd_eq (fr : List V) (d : Nat) (o : Option Opd) : bndA fr d o = bndV d (o.map (ev fr)) := by cases o <;> rfl
theorem zeros {α : Type} (a b : Option Int) (v : α) : (match a, b with | some 0, some 0 => some v | _, _ => none) = (match a, b with | some l, some h => if l = 0 ∧ h = 0 then some v else none | _, _ => none) := by
  cases a with
  | none => rfl
  | some l => cases b with
    | none => split <;> first | rfl | (rename_i e1 e2; cases e2)
    | some h =>
      by_cases hl : l = 0
      · subst hl
        by_cases hh : h = 0
        · subst hh; rfl
        · simp only [hh, and_false, if_false]
          split <;> first | rfl | (rename_i e1 e2; cases e2; exact absurd rfl hh)
      · simp only [hl, false_and, if_false]
        split <;> first | rfl | (rename_i e1 e2; cases e1; exact absurd rfl hl)
theorem op_subSl (call : CallF) (base : Nat) (fr : List V) (H : Heap) (sz : Nat) (x : Opd) (lo hi : Option Opd) : evOp call base fr H (.subSl sz x lo hi none) = RH H (xSlice sz (ev fr x) (lo.map (ev fr)) (hi.map (ev fr))) := by
  simp only [evOp, bnd_eq]
  generalize ev fr x = v
  generalize lo.map (ev fr) = lo
  generalize hi.map (ev fr) = hi
  cases v <;> first | rfl | skip
  case s v =>
    cases v <;> first | rfl | skip
    rename_i a n m
    cases a <;> first | rfl | skip
    cases n <;> first | rfl | skip
    cases m <;> first | rfl | skip
    simp only [xSlice]
    cases bndV 0 lo with
    | none => rfl
    | some l => cases bndV 0 hi with
      | none => simp only [cutNil, RH]
      | some h =>
        simp only [cutNil]
        by_cases hl : l = 0
        · subst hl
          by_cases hh : h = 0
          · subst hh; rfl
          · simp only [hh, and_false, if_false]
            split <;> first | rfl | (rename_i e1 e2; cases e2; exact absurd rfl hh)
        · simp only [hl, false_and, if_false]
          split <;> first | rfl | (rename_i e1 e2; cases e1; exact absurd rfl hl)
  case esl =>
    simp only [xSlice]
    cases bndV 0 lo with
    | none => rfl
    | some l => cases bndV 0 hi with
      | none => simp only [cutNil, RH]
      | some h =>
        simp only [cutNil]
        by_cases hl : l = 0
        · subst hl
          by_cases hh : h = 0
          · subst hh; rfl
          · simp only [hh, and_false, if_false]
            split <;> first | rfl | (rename_i e1 e2; cases e2; exact absurd rfl hh)
        · simp only [hl, false_and, if_false]
          split <;> first | rfl | (rename_i e1 e2; cases e1; exact absurd rfl hl)
  case psl es z =>
    simp only [xSlice]
    cases bndV 0 lo <;> cases bndV es.length hi <;> first | rfl | (simp only [cutPsl]; split <;> rfl)
  case sl id g off len z =>
    simp only [xSlice]
    cases bndV 0 lo <;> cases bndV len hi <;> first | rfl | (simp only [cutSl]; split <;> rfl)
theorem xsub_sl (H : Heap) (sz : Nat) (x : Opd) (lo hi : Option Opd) (vs : List V) : xSub H (.subSl sz x lo hi none) (some vs) = xSlice sz (ev vs x) (lo.map (ev vs)) (hi.map (ev vs)) := by
  simp only [xSub, op_subSl]
  cases xSlice sz (ev vs x) (lo.map (ev vs)) (hi.map (ev vs)) <;> rfl
def xClear (H : Heap) (base sz : Nat) (zero : List V) (v : V) : Option Heap :=
  match v with
  | .s (.slice none 0 0) => some H
  | .esl => some H
  | .sl id g off len z => if len = 0 then some H else if base ≤ id ∧ z = sz then match getC H id g with
      | some c => if zero.length = sz ∧ off + len * sz ≤ c.length ∧ zero.all V.one then some (H.set id (.cells g (splice c off (List.replicate len zero).flatten))) else none
      | none => none
    else none
  | _ => none
theorem op_clear (call : CallF) (base : Nat) (fr : List V) (H : Heap) (sz : Nat) (zero : List V) (x : Opd) : evOp call base fr H (.clearSl sz zero x) = RS (xClear H base sz zero (ev fr x)) := by
  simp only [evOp]
  generalize ev fr x = v
  cases v <;> first | rfl | skip
  case s v =>
    cases v <;> first | rfl | skip
    rename_i a n m
    cases a <;> first | rfl | skip
    cases n <;> first | rfl | skip
    cases m <;> rfl
  case sl id g off len z =>
    simp only [xClear]
    split
    · rfl
    · split
      · cases getC H id g with
        | none => rfl
        | some c => simp only []; split <;> rfl
      · rfl
theorem clear_at {H : Heap} {id g base off len : Nat} {c zero : List V} (hc : getC H id g = some c) (hb : base ≤ id) (hz : zero.length = 1) (ho : zero.all V.one = true) (hl : off + len ≤ c.length) : xClear H base 1 zero (.sl id g off len 1) = some (H.set id (.cells g (c.take off ++ (List.replicate len zero).flatten ++ c.drop (off + len)))) := by
  simp only [xClear]
  split
  · rename_i h
    subst h
    have : c.take off ++ (List.replicate 0 zero).flatten ++ c.drop (off + 0) = c := by simp
    rw [this, getC_same hc]
  · have hf : (List.replicate len zero).flatten.length = len := by simp [hz]
    have h2 : off + len * 1 ≤ c.length := by omega
    simp only [hb, and_self, if_true, hc, hz, h2, ho, splice, hf]
theorem cast0 : ((0 : Nat) : Int) = 0 := rfl
theorem toNat0 : Int.toNat 0 = 0 := rfl

/-! ### Heaps that grow; slices that are appended to -/
def Ext (H0 H : Heap) : Prop := ∃ G, H = H0 ++ G
theorem Ext.refl (H : Heap) : Ext H H := ⟨[], by simp⟩
theorem Ext.trans {A B C : Heap} (h : Ext A B) (k : Ext B C) : Ext A C := by
  obtain ⟨G, rfl⟩ := h
  obtain ⟨K, rfl⟩ := k
  exact ⟨G ++ K, by simp⟩
theorem Ext.app (H G : Heap) : Ext H (H ++ G) := ⟨G, rfl⟩
theorem Ext.le {A B : Heap} (h : Ext A B) : A.length ≤ B.length := by obtain ⟨G, rfl⟩ := h; simp
theorem Ext.get {A B : Heap} (h : Ext A B) {i : Nat} (hi : i < A.length) : B[i]? = A[i]? := by obtain ⟨G, rfl⟩ := h; exact List.getElem?_append_left hi
theorem Ext.of_get {A B : Heap} (hl : A.length ≤ B.length) (h : ∀ i, i < A.length → B[i]? = A[i]?) : Ext A B := by
  refine ⟨B.drop A.length, ?_⟩
  refine List.ext_getElem? fun i => ?_
  by_cases hi : i < A.length
  · rw [List.getElem?_append_left hi, h i hi]
  · rw [List.getElem?_append_right (by omega), List.getElem?_drop]
    congr 1; omega
theorem Ext.set {A B : Heap} (h : Ext A B) {id : Nat} (hid : A.length ≤ id) (ob : Ob) : Ext A (B.set id ob) :=
  Ext.of_get (by rw [List.length_set]; exact h.le) fun i hi => by rw [List.getElem?_set_ne (by omega), h.get hi]
theorem Ext.take {A B : Heap} (h : Ext A B) {m : Nat} (hm : A.length ≤ m) : Ext A (B.take m) :=
  Ext.of_get (by rw [List.length_take]; have := h.le; omega) fun i hi => by rw [List.getElem?_take_of_lt (by omega), h.get hi]
theorem trim_or (m : Nat) (fr : List V) (H : Heap) : trim m fr H = H ∨ (trim m fr H = H.take m ∧ ∀ v ∈ fr, idsUnder m 8 v = true) := by
  unfold trim
  split
  · rename_i h
    simp only [Bool.and_eq_true, List.all_eq_true] at h
    exact .inr ⟨rfl, h.1⟩
  · exact .inl rfl
theorem Ext.trim {A B : Heap} (h : Ext A B) {m : Nat} (hm : A.length ≤ m) (fr : List V) : Ext A (trim m fr B) := by
  rcases trim_or m fr B with e | ⟨e, _⟩ <;> rw [e]
  · exact h
  · exact h.take hm
theorem Rd.ext {H H' : Heap} {v : V} {l : List V} (h : Rd H v l) (k : Ext H H') : Rd H' v l := by obtain ⟨G, rfl⟩ := k; exact h.app G
theorem getC_ext {H H' : Heap} {id g : Nat} {c : List V} (h : getC H id g = some c) (k : Ext H H') : getC H' id g = some c := by obtain ⟨G, rfl⟩ := k; exact getC_app h
theorem getC_lt {H : Heap} {id g : Nat} {c : List V} (h : getC H id g = some c) : id < H.length := by
  unfold getC at h
  split at h
  · rename_i hh; exact (List.getElem?_eq_some_iff.1 hh).1
  · cases h
theorem getC_new (H : Heap) (g : Nat) (c : List V) : getC (H ++ [.cells g c]) H.length g = some c := by simp [getC]
theorem frOf_mem {n : Nat} {en : Env} {s : Nat} {v : V} (hs : s < n) (h : getV en s = v) : v ∈ frOf n en := by
  unfold frOf
  rw [List.mem_map]
  exact ⟨s, by simpa using hs, h⟩

/-- A slice of the call's own, appended to: it holds these cells, and all that lay there lies there. -/
def Acc (H0 H : Heap) (v : V) (l : List V) : Prop := Ext H0 H ∧ ((l = [] ∧ v = nilS) ∨ ∃ id g, v = .sl id g 0 l.length 1 ∧ getC H id g = some l ∧ H0.length ≤ id)
theorem Acc.start (H : Heap) : Acc H H nilS [] := ⟨Ext.refl H, .inl ⟨rfl, rfl⟩⟩
theorem Acc.rd {H0 H : Heap} {v : V} {l : List V} (h : Acc H0 H v l) : Rd H v l := by
  rcases h.2 with ⟨rfl, rfl⟩ | ⟨id, g, rfl, hc, _⟩
  · exact Rd.nil H
  · have := Rd.sl hc (off := 0) (n := l.length) (by omega)
    rwa [List.drop_zero, List.take_length] at this
theorem Acc.wide {H0 H : Heap} {v : V} {l : List V} (h : Acc H0 H v l) : Wide1 v := by
  rcases h.2 with ⟨_, rfl⟩ | ⟨id, g, rfl, _, _⟩ <;> trivial
theorem Acc.trim {H0 H : Heap} {v : V} {l : List V} (h : Acc H0 H v l) {m : Nat} (hm : H0.length ≤ m) {fr : List V} (hv : v ∈ fr) : Acc H0 (trim m fr H) v l := by
  refine ⟨h.1.trim hm fr, ?_⟩
  rcases h.2 with h2 | ⟨id, g, rfl, hc, hid⟩
  · exact .inl h2
  · refine .inr ⟨id, g, rfl, ?_, hid⟩
    rcases trim_or m fr H with e | ⟨e, hu⟩ <;> rw [e]
    · exact hc
    · have := hu _ hv
      simp only [idsUnder, decide_eq_true_eq] at this
      unfold getC at hc ⊢
      rw [List.getElem?_take_of_lt this]
      exact hc
theorem elems_new {H : Heap} {x : V} : elems (H ++ [.cells 0 [x]]) 1 (.sl H.length 0 0 1 1) = some (1, [x]) := by
  simp [elems, getC]
/-- 'append(v, x)' -/
theorem Acc.append {H0 H : Heap} {v : V} {l : List V} (h : Acc H0 H v l) {base bytes : Nat} (hb : base ≤ H0.length) {x : V} (hx : x.one = true) (hs : (l.length + 1) * bytes ≤ 2 ^ 47) :
    ∃ v' H', appendV (H ++ [.cells 0 [x]]) base 1 bytes v (.sl H.length 0 0 1 1) = some (v', H') ∧ Acc H0 H' v' (l ++ [x]) := by
  have hx' : [x].all V.one = true := by simp [hx]
  rcases h.2 with ⟨rfl, rfl⟩ | ⟨id, g, rfl, hc, hid⟩
  · have hs' : 1 * bytes ≤ 2 ^ 47 := by simpa using hs
    refine ⟨.sl (H.length + 1) 0 0 1 1, H ++ [.cells 0 [x]] ++ [.cells 0 [x]], ?_, h.1.trans ⟨[.cells 0 [x], .cells 0 [x]], by simp⟩, .inr ⟨H.length + 1, 0, rfl, ?_, ?_⟩⟩
    · simp only [appendV, elems_new, hx', if_true, nilS, Nat.one_ne_zero, if_false, hs', List.length_append, List.length_cons, List.length_nil]
    · have := getC_new (H ++ [.cells 0 [x]]) 0 [x]
      simpa using this
    · have := h.1.le; omega
  · have hlt := getC_lt hc
    have hc' := getC_app hc (G := [Ob.cells 0 [x]])
    have hbi : base ≤ id := by omega
    refine ⟨.sl id (g + 1) 0 (l.length + 1) 1, (H ++ [Ob.cells 0 [x]]).set id (.cells (g + 1) (l ++ [x])), ?_, ?_, .inr ⟨id, g + 1, by simp, ?_, hid⟩⟩
    · have h2 : 0 + l.length ≤ l.length := by omega
      simp only [appendV, elems_new, hx', if_true, true_and, hbi, hc', h2, Nat.one_ne_zero, if_false, hs, List.drop_zero, Nat.mul_one, List.take_length]
    · exact (h.1.trans (Ext.app _ _)).set hid _
    · exact getC_set hc' _
/-- 'append(v, xs...)' to a slice that is full. -/
theorem append_full {H : Heap} {base bytes id g : Nat} {l xs : List V} {x : V} (hc : getC H id g = some l) (hb : base ≤ id) (hr : Rd H x xs) (ho : xs.all V.one = true) (hs : (l.length + xs.length) * bytes ≤ 2 ^ 47) :
    ∃ g', appendV H base 1 bytes (.sl id g 0 l.length 1) x = some (.sl id g' 0 (l.length + xs.length) 1, H.set id (.cells g' (l ++ xs))) := by
  have h2 : 0 + l.length ≤ l.length := by omega
  by_cases hm : xs.length = 0
  · have : xs = [] := List.eq_nil_of_length_eq_zero hm
    subst this
    refine ⟨g, ?_⟩
    simp only [appendV, hr.2, ho, if_true, true_and, hb, hc, Nat.mul_one, h2, List.length_nil, Nat.add_zero, List.append_nil, getC_same hc]
  · refine ⟨g + 1, ?_⟩
    simp only [appendV, hr.2, ho, if_true, true_and, hb, hc, h2, hm, if_false, hs, List.drop_zero, Nat.mul_one, List.take_length]

/-! ### Heaps with something new at their end -/
def obC (g : Nat) : Ob → Option (List V)
  | .cells g' c => if g' = g then some c else none
  | _ => none
theorem getC_snoc (A : Heap) (ob : Ob) (id g : Nat) : getC (A ++ [ob]) id g = if id = A.length then obC g ob else getC A id g := by
  by_cases h : id = A.length
  · subst h
    simp only [getC, List.getElem?_concat_length, if_true]
    cases ob <;> rfl
  · rw [if_neg h]
    by_cases hl : id < A.length
    · simp only [getC, List.getElem?_append_left hl]
    · have h1 : (A ++ [ob])[id]? = none := List.getElem?_eq_none (by simp; omega)
      have h2 : A[id]? = none := List.getElem?_eq_none (by omega)
      simp only [getC, h1, h2]
theorem obC_same (g : Nat) (c : List V) : obC g (.cells g c) = some c := by simp [obC]
theorem set_snoc (A : Heap) (ob x : Ob) : (A ++ [ob]).set A.length x = A ++ [x] := by simp
theorem len_snoc (A : Heap) (ob : Ob) : (A ++ [ob]).length = A.length + 1 := by simp
theorem ne_add (a b : Nat) : (a = a + (b + 1)) = False := by simp
theorem add_ne (a b : Nat) : (a + (b + 1) = a) = False := by simp
theorem Rd.one {H : Heap} {v : V} {l : List V} (h : Rd H v l) : v.one = true := by
  rcases h.cases with ⟨_, rfl | rfl⟩ | ⟨es, rfl, _⟩ | ⟨id, g, off, n, c, rfl, _⟩ <;> rfl
theorem one_int (k : IntKind) (n : Int) : V.one (.s (.int k n)) = true := rfl
theorem one_str (b : ByteArray) : V.one (.s (.string b)) = true := rfl
theorem one_bool (b : Bool) : V.one (.s (.bool b)) = true := rfl
theorem one_nilS : V.one (.s (.slice none 0 0)) = true := rfl
theorem one_ref (i g o : Nat) : V.one (.ref i g o) = true := rfl
theorem one_sl (i g o l z : Nat) : V.one (.sl i g o l z) = true := rfl
theorem one_psl (es : List (List V)) (z : Nat) : V.one (.psl es z) = true := rfl
theorem one_esl : V.one .esl = true := rfl
theorem one_mp (i : Nat) : V.one (.mp i) = true := rfl
theorem one_fn (f : Nat) (a b : List V) : V.one (.fn f a b) = true := rfl
theorem cells_agg (cs : List V) : V.cells (.agg cs) = cs := rfl
theorem cells_s (v : Value) : V.cells (.s v) = [.s v] := rfl
theorem cells_sl (i g o l z : Nat) : V.cells (.sl i g o l z) = [.sl i g o l z] := rfl
theorem cells_psl (es : List (List V)) (z : Nat) : V.cells (.psl es z) = [.psl es z] := rfl
theorem cells_ref (i g o : Nat) : V.cells (.ref i g o) = [.ref i g o] := rfl
theorem cells_esl : V.cells .esl = [.esl] := rfl
theorem cells_mp (i : Nat) : V.cells (.mp i) = [.mp i] := rfl
theorem cells_of_one {v : V} (h : v.one = true) : v.cells = [v] := by cases v <;> first | rfl | (simp [V.one] at h; done)
theorem fillA_nil (p : Nat → Option (Nat × Nat)) (c : List V) : fillA p c [] = some c := rfl
theorem fillA_one {p : Nat → Option (Nat × Nat)} {c : List V} {i off : Nat} {v : V} {rest : List (Nat × V)} (hp : p i = some (off, 1)) (h1 : v.one = true) (hl : off < c.length) : fillA p c ((i, v) :: rest) = fillA p (c.set off v) rest := by
  have : splice c off [v] = c.set off v := by
    unfold splice
    rw [List.set_eq_take_append_cons_drop, if_pos hl]
    simp
  have hl' : off + 1 ≤ c.length := hl
  simp only [fillA, hp, cells_of_one h1, List.length_singleton, hl', List.all_cons, List.all_nil, h1, Bool.and_true, and_self, if_true, this]
theorem set_snoc' (A : Heap) (ob x : Ob) (id : Nat) : (A ++ [ob]).set id x = if id = A.length then A ++ [x] else A.set id x ++ [ob] := by
  by_cases h : id = A.length
  · subst h; simp
  · rw [if_neg h]
    by_cases hl : id < A.length
    · rw [List.set_append_left _ _ hl]
    · rw [List.set_eq_of_length_le (by simp; omega), List.set_eq_of_length_le (by omega)]
theorem ne_succ' (a : Nat) : (a = a + 1) = False := by simp
theorem fnA_ex {CP : Nat → Option CFun} {f : Nat} {c : ACFun} (hf : CP f = some (.code c)) {fst args cap : List V} {k : Nat} (hk : (fst ++ args ++ cap).length = k) (hl : k ≤ c.ntmps) (hfirst : firstOk (List.range' k (c.ntmps - k)) c.body = true) {base : Nat} {H : Heap} {v : V}
    (h : ∃ H', retC c.results (evC (callW CP) itW base c.body (frOf c.ntmps (startA (fst ++ args ++ cap) 0)) H) = some (v, H')) : ∃ H', callW CP (.fn f fst cap) args base H = some (v, H') := by
  obtain ⟨H', h⟩ := h
  exact ⟨H', callW_fnA hf hk hl hfirst h⟩
theorem appendV_esl {H : Heap} {base bytes : Nat} {x : V} {xs : List V} (hr : Rd H x xs) (ho : xs.all V.one = true) (hs : xs.length * bytes ≤ 2 ^ 47) :
    appendV H base 1 bytes .esl x = if xs.length = 0 then some (.esl, H) else some (.sl H.length 0 0 xs.length 1, H ++ [.cells 0 xs]) := by
  simp only [appendV, hr.2, ho, if_true, hs]
theorem appendV_nil {H : Heap} {base bytes : Nat} {x : V} {xs : List V} (hr : Rd H x xs) (ho : xs.all V.one = true) (hs : xs.length * bytes ≤ 2 ^ 47) :
    appendV H base 1 bytes nilS x = if xs.length = 0 then some (nilS, H) else some (.sl H.length 0 0 xs.length 1, H ++ [.cells 0 xs]) := by
  simp only [appendV, nilS, hr.2, ho, if_true, hs]
theorem storeV_ref (H : Heap) (base n : Nat) (v : V) (id g off : Nat) : storeV H base n v (.ref id g off) = if base ≤ id then (match getC H id g with
      | some c => if v.cells.length = n ∧ off + n ≤ c.length ∧ v.cells.all V.one then some (H.set id (.cells g (splice c off v.cells))) else none
      | none => none) else none := rfl
end Go.AM
