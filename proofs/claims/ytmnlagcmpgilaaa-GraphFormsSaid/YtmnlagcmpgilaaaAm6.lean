/-
  Operations without calls: scalars, equality, maps.
-/
import Derived.Test.YtmnlagcmpgilaaaAm5
set_option linter.all false
namespace Go.AM
open Go.RowKit
section
variable {CC : Code → ACode → Prop} {μ μ' : Mu} {Mt Mt' : Nat → Prop} {w w' : World} {H H' : Heap} {P : Program}

/-! ### Scalars -/

theorem run_eqGuard_plain {op : BinOp} {t : TypeId} {x y : Operand} {a b : Value} (h : ∀ c d, ¬ (a = .agg c ∧ b = .agg d)) (h' : a ≠ .nilIface) : (eqGuard op t x y a b).run P w = .ok () w := by
  unfold eqGuard
  cases a <;> cases b <;> first | (exact absurd rfl h') | (exact absurd ⟨rfl, rfl⟩ (h _ _)) | (cases op <;> rfl)

theorem run_bin {op : BinOp} {t : TypeId} {x y : Operand} {a b v : Value} (h : binS op a b = some v) :
    ((do pure (.value (← (do eqGuard op t x y a b; binOp op t a b))) : Sem Next).run P w) = .ok (.value v) w := by
  have hg : (eqGuard op t x y a b).run P w = .ok () w := by
    apply run_eqGuard_plain
    · rintro c d ⟨rfl, rfl⟩; simp [binS] at h
    · rintro rfl; simp [binS] at h
  have hb : (binOp op t a b).run P w = .ok v w := by
    unfold binS at h
    split at h
    · rename_i k a k' b
      cases op <;> simp only at h
      case shl => split at h <;> simp at h; subst h; rename_i hb; simp [binOp, Op.shift, hb]
      case shr => split at h <;> simp at h; subst h; rename_i hb; simp [binOp, Op.shift, hb]
      all_goals
        split at h
        · simp at h
        · rename_i hk
          have hk : k = k' := by simpa using hk
          subst hk
          first
            | (simp only [Option.some.injEq] at h; subst h; simp [binOp, Op.intArith, Op.intBits, Op.intCmp]; done)
            | (split at h <;> simp at h; subst h; rename_i hb; simp [binOp, Op.intDiv, hb]; done)
            | (simp at h)
    · rename_i a b
      simp only [← ByteArray.toList_eq] at h
      cases op <;> simp only at h
      case add =>
        split at h
        · simp at h
        · rename_i hb
          simp only [Option.some.injEq] at h
          subst h
          simp only [binOp, Op.stringOp, if_neg hb]
          rfl
      all_goals first
        | (simp only [Option.some.injEq] at h; subst h; rfl)
        | (simp at h)
    · simp at h
  simp only [Sem.run_bind, hg, hb, Result.andThen_ok, Sem.run_pure]

theorem run_eqB {t : TypeId} {x y : Operand} {a b neg : Bool} {op : BinOp} (ho : isEqOp op = some neg) (ht : P.underlying t = some .bool) :
    ((do pure (.value (← (do eqGuard op t x y (.bool a) (.bool b); binOp op t (.bool a) (.bool b)))) : Sem Next).run P w) = .ok (.value (.bool ((a == b) != neg))) w := by
  have hg : (eqGuard op t x y (.bool a) (.bool b)).run P w = .ok () w := run_eqGuard_plain (by simp) (by simp)
  have he : (Op.equal t (.bool a) (.bool b)).run P w = .ok (a == b) w := run_equalIn_bool' w 9999 t a b ht
  simp only [Sem.run_bind, hg, Result.andThen_ok]
  cases op <;> simp [isEqOp] at ho <;> subst ho <;> simp [binOp, he]

theorem nilFor_spec {d : Option TypeDesc} {x : Operand} {k : NK} (h : nilFor d x = some k) :
    (∃ e, d = some (.pointer e) ∧ x = .const (.pointer none) ∧ k = .p) ∨ (∃ e, d = some (.slice e) ∧ x = .const (.slice none 0 0) ∧ k = .s) ∨
    (∃ a b, d = some (.map a b) ∧ x = .const (.map none) ∧ k = .m) ∨ (∃ a b c, d = some (.func a b c) ∧ x = .const .nilFunc ∧ k = .f) := by
  unfold nilFor at h
  split at h <;> simp at h <;> subst h <;> simp

theorem isNil_vr {k : NK} {x : V} {c : Value} {b : Bool} (hx : VR μ Mt w x c) (h : V.isNil k x = some b) :
    match k with
    | .p => ∃ p, c = .pointer p ∧ b = p.isNone
    | .s => ∃ p n m, c = .slice p n m ∧ b = p.isNone
    | .m => ∃ p, c = .map p ∧ b = p.isNone
    | .f => (c = .nilFunc ∧ b = true) ∨ (∃ f a d, c = .func f a d ∧ b = false) := by
  unfold V.isNil at h
  split at h <;> simp at h <;> subst h <;> cases hx <;> simp

theorem eqIn_ptr1 (d : Nat) {t e : TypeId} (hd : P.underlying t = some (.pointer e)) (p : Option Addr) : (Op.equalIn (d + 1) t (.pointer p) (.pointer none)).run P w = .ok p.isNone w := by
  cases p <;> simp only [Op.equalIn, Sem.run_bind, run_underlying hd, Result.andThen_ok] <;> rfl
theorem eqIn_ptr2 (d : Nat) {t e : TypeId} (hd : P.underlying t = some (.pointer e)) (p : Option Addr) : (Op.equalIn (d + 1) t (.pointer none) (.pointer p)).run P w = .ok p.isNone w := by
  cases p <;> simp only [Op.equalIn, Sem.run_bind, run_underlying hd, Result.andThen_ok] <;> rfl
theorem eqIn_sl1 (d : Nat) {t e : TypeId} (hd : P.underlying t = some (.slice e)) (p : Option Addr) (n m : Nat) : (Op.equalIn (d + 1) t (.slice p n m) (.slice none 0 0)).run P w = .ok p.isNone w := by
  cases p <;> simp only [Op.equalIn, Sem.run_bind, run_underlying hd, Result.andThen_ok] <;> rfl
theorem eqIn_sl2 (d : Nat) {t e : TypeId} (hd : P.underlying t = some (.slice e)) (p : Option Addr) (n m : Nat) : (Op.equalIn (d + 1) t (.slice none 0 0) (.slice p n m)).run P w = .ok p.isNone w := by
  cases p <;> simp only [Op.equalIn, Sem.run_bind, run_underlying hd, Result.andThen_ok] <;> rfl
theorem eqIn_map1 (d : Nat) {t e f : TypeId} (hd : P.underlying t = some (.map e f)) (p : Option Nat) : (Op.equalIn (d + 1) t (.map p) (.map none)).run P w = .ok p.isNone w := by
  cases p <;> simp only [Op.equalIn, Sem.run_bind, run_underlying hd, Result.andThen_ok] <;> rfl
theorem eqIn_map2 (d : Nat) {t e f : TypeId} (hd : P.underlying t = some (.map e f)) (p : Option Nat) : (Op.equalIn (d + 1) t (.map none) (.map p)).run P w = .ok p.isNone w := by
  cases p <;> simp only [Op.equalIn, Sem.run_bind, run_underlying hd, Result.andThen_ok] <;> rfl
theorem eqIn_fn0 (d : Nat) {t : TypeId} {e f : Array TypeId} {g : Bool} (hd : P.underlying t = some (.func e f g)) : (Op.equalIn (d + 1) t .nilFunc .nilFunc).run P w = .ok true w := by
  simp only [Op.equalIn, Sem.run_bind, run_underlying hd, Result.andThen_ok]; rfl
theorem eqIn_fn1 (d : Nat) {t : TypeId} {e f : Array TypeId} {g : Bool} (hd : P.underlying t = some (.func e f g)) (x : Fn) (y z : Array Value) : (Op.equalIn (d + 1) t (.func x y z) .nilFunc).run P w = .ok false w := by
  simp only [Op.equalIn, Sem.run_bind, run_underlying hd, Result.andThen_ok]; rfl
theorem eqIn_fn2 (d : Nat) {t : TypeId} {e f : Array TypeId} {g : Bool} (hd : P.underlying t = some (.func e f g)) (x : Fn) (y z : Array Value) : (Op.equalIn (d + 1) t .nilFunc (.func x y z)).run P w = .ok false w := by
  simp only [Op.equalIn, Sem.run_bind, run_underlying hd, Result.andThen_ok]; rfl

theorem run_eqNil {t : TypeId} {X Y : Operand} {k : NK} {neg b : Bool} {op : BinOp} {x : V} {c : Value} (ho : isEqOp op = some neg) (hx : VR μ Mt w x c) (hn : V.isNil k x = some b)
    (ρ : Operand → Value) (hρ : ∀ v, ρ (.const v) = v) (hk : (nilFor (P.underlying t) Y = some k ∧ ρ X = c) ∨ (nilFor (P.underlying t) X = some k ∧ ρ Y = c)) :
    ((do pure (.value (← (do eqGuard op t X Y (ρ X) (ρ Y); binOp op t (ρ X) (ρ Y)))) : Sem Next).run P w) = .ok (.value (.bool (b != neg))) w := by
  have hv := isNil_vr hx hn
  have key : ∀ (p q : Value), (∀ u v, ¬ (p = .agg u ∧ q = .agg v)) → p ≠ .nilIface → (Op.equal t p q).run P w = .ok b w → ((binOp op t p q) = (if neg then (do pure (.bool (!(← Op.equal t p q)))) else (do pure (.bool (← Op.equal t p q))))) →
      ((do pure (.value (← (do eqGuard op t X Y p q; binOp op t p q))) : Sem Next).run P w) = .ok (.value (.bool (b != neg))) w := by
    intro p q h1 h2 he hb
    simp only [Sem.run_bind, run_eqGuard_plain h1 h2, Result.andThen_ok, hb]
    cases neg <;> simp [he]
  have cases' : ∀ p q : Value, (ρ X = p ∧ ρ Y = q) → ((do pure (.value (← (do eqGuard op t X Y p q; binOp op t p q))) : Sem Next).run P w) = .ok (.value (.bool (b != neg))) w →
      ((do pure (.value (← (do eqGuard op t X Y (ρ X) (ρ Y); binOp op t (ρ X) (ρ Y)))) : Sem Next).run P w) = .ok (.value (.bool (b != neg))) w := by
    rintro p q ⟨h1, h2⟩ h; rw [h1, h2]; exact h
  rcases hk with ⟨hk, hc⟩ | ⟨hk, hc⟩
  · rcases nilFor_spec hk with ⟨e, hd, rfl, rfl⟩ | ⟨e, hd, rfl, rfl⟩ | ⟨e, f, hd, rfl, rfl⟩ | ⟨e, f, g, hd, rfl, rfl⟩
    · obtain ⟨p, rfl, rfl⟩ := hv
      refine cases' (.pointer p) (.pointer none) ⟨hc, hρ _⟩ (key _ _ (by simp) (by simp) ?_ (by cases op <;> simp [isEqOp] at ho <;> subst ho <;> rfl))
      exact eqIn_ptr1 9999 hd p
    · obtain ⟨p, n, m, rfl, rfl⟩ := hv
      refine cases' (.slice p n m) (.slice none 0 0) ⟨hc, hρ _⟩ (key _ _ (by simp) (by simp) ?_ (by cases op <;> simp [isEqOp] at ho <;> subst ho <;> rfl))
      exact eqIn_sl1 9999 hd p n m
    · obtain ⟨p, rfl, rfl⟩ := hv
      refine cases' (.map p) (.map none) ⟨hc, hρ _⟩ (key _ _ (by simp) (by simp) ?_ (by cases op <;> simp [isEqOp] at ho <;> subst ho <;> rfl))
      exact eqIn_map1 9999 hd p
    · rcases hv with ⟨rfl, rfl⟩ | ⟨f, a, d, rfl, rfl⟩
      · refine cases' .nilFunc .nilFunc ⟨hc, hρ _⟩ (key _ _ (by simp) (by simp) ?_ (by cases op <;> simp [isEqOp] at ho <;> subst ho <;> rfl))
        exact eqIn_fn0 9999 hd
      · refine cases' (.func f a d) .nilFunc ⟨hc, hρ _⟩ (key _ _ (by simp) (by simp) ?_ (by cases op <;> simp [isEqOp] at ho <;> subst ho <;> rfl))
        exact eqIn_fn1 9999 hd f a d
  · rcases nilFor_spec hk with ⟨e, hd, rfl, rfl⟩ | ⟨e, hd, rfl, rfl⟩ | ⟨e, f, hd, rfl, rfl⟩ | ⟨e, f, g, hd, rfl, rfl⟩
    · obtain ⟨p, rfl, rfl⟩ := hv
      refine cases' (.pointer none) (.pointer p) ⟨hρ _, hc⟩ (key _ _ (by simp) (by simp) ?_ (by cases op <;> simp [isEqOp] at ho <;> subst ho <;> rfl))
      exact eqIn_ptr2 9999 hd p
    · obtain ⟨p, n, m, rfl, rfl⟩ := hv
      refine cases' (.slice none 0 0) (.slice p n m) ⟨hρ _, hc⟩ (key _ _ (by simp) (by simp) ?_ (by cases op <;> simp [isEqOp] at ho <;> subst ho <;> rfl))
      exact eqIn_sl2 9999 hd p n m
    · obtain ⟨p, rfl, rfl⟩ := hv
      refine cases' (.map none) (.map p) ⟨hρ _, hc⟩ (key _ _ (by simp) (by simp) ?_ (by cases op <;> simp [isEqOp] at ho <;> subst ho <;> rfl))
      exact eqIn_map2 9999 hd p
    · rcases hv with ⟨rfl, rfl⟩ | ⟨f, a, d, rfl, rfl⟩
      · refine cases' .nilFunc .nilFunc ⟨hρ _, hc⟩ (key _ _ (by simp) (by simp) ?_ (by cases op <;> simp [isEqOp] at ho <;> subst ho <;> rfl))
        exact eqIn_fn0 9999 hd
      · refine cases' .nilFunc (.func f a d) ⟨hρ _, hc⟩ (key _ _ (by simp) (by simp) ?_ (by cases op <;> simp [isEqOp] at ho <;> subst ho <;> rfl))
        exact eqIn_fn2 9999 hd f a d

/-! ### Structs held against each other -/

/-- What a run of cells is as a value of a type. -/
def valOf (P : Program) (t : TypeId) (cs : List Value) : Value :=
  match isAggT P t with
  | some true => .agg cs.toArray
  | _ => cs.headD Go.undef

theorem run_part {t : TypeId} {n off : Nat} {cs : List Value} (hn : sizeT P t = some n) (ha : (isAggT P t).isSome = true) (hl : off + n ≤ cs.length) (h0 : isAggT P t = some false → n = 1) :
    (part t cs.toArray off).run P w = .ok (valOf P t ((cs.drop off).take n)) w := by
  unfold part
  obtain ⟨b, hb⟩ := Option.isSome_iff_exists.1 ha
  simp only [Sem.run_bind, run_isAgg hb, Result.andThen_ok, Sem.run_ite]
  cases b with
  | true =>
    simp only [if_true, run_sizeOf hn, Result.andThen_ok, Sem.run_pure, valOf, hb]
    congr 2
    apply Array.ext'
    simp
  | false =>
    have := h0 hb
    subst this
    simp only [Bool.false_eq_true, if_false, valOf, hb]
    have hlt : off < cs.length := by omega
    have e1 : cs.toArray[off]? = some cs[off] := by simp [hlt]
    rw [e1]
    simp only [Sem.run_pure]
    congr 2
    have : (cs.drop off).take 1 = [cs[off]] := by
      rw [List.drop_eq_getElem_cons hlt]; rfl
    rw [this]; rfl

theorem eqLeaves_append : ∀ {l1 l2 : List Leaf} {xs ys : List V} {b : Bool}, eqLeaves (l1 ++ l2) xs ys = some b →
    ∃ b1 b2, eqLeaves l1 (xs.take l1.length) (ys.take l1.length) = some b1 ∧ eqLeaves l2 (xs.drop l1.length) (ys.drop l1.length) = some b2 ∧ b = (b1 && b2) := by
  intro l1
  induction l1 with
  | nil => intro l2 xs ys b h; exact ⟨true, b, by simp [eqLeaves], by simpa using h, by simp⟩
  | cons l l1 ih =>
    intro l2 xs ys b h
    cases xs with
    | nil => simp [eqLeaves] at h
    | cons x xs =>
      cases ys with
      | nil => simp [eqLeaves] at h
      | cons y ys =>
        simp only [List.cons_append, eqLeaves] at h
        split at h
        · rename_i a b' ha hb
          simp at h
          obtain ⟨b1, b2, h1, h2, h3⟩ := ih hb
          exact ⟨a && b1, b2, by simp [eqLeaves, ha, h1], by simpa using h2, by rw [← h, h3, Bool.and_assoc]⟩
        · simp at h

theorem eqLeaves_length : ∀ {l : List Leaf} {xs ys : List V} {b : Bool}, eqLeaves l xs ys = some b → xs.length = l.length ∧ ys.length = l.length := by
  intro l
  induction l with
  | nil => intro xs ys b h; cases xs <;> cases ys <;> simp [eqLeaves] at h ⊢
  | cons l ls ih =>
    intro xs ys b h
    cases xs with
    | nil => simp [eqLeaves] at h
    | cons x xs =>
      cases ys with
      | nil => simp [eqLeaves] at h
      | cons y ys =>
        simp only [eqLeaves] at h
        split at h
        · rename_i a b' ha hb
          have := ih hb
          simp [this.1, this.2]
        · simp at h

theorem fieldsOf_eq {t : TypeId} {fs : Array Field} (h : P.underlying t = some (.struct fs)) : P.fieldsOf t = fs := by
  simp [Program.fieldsOf, h]

theorem eqLeaf_vr {l : Leaf} {x y : V} {b : Bool} {c d : Value} (h : eqLeaf l x y = some b) (hx : VR μ Mt w x c) (hy : VR μ Mt w y d) :
    (∃ k p q, l = .int k ∧ c = .int k p ∧ d = .int k q ∧ b = (p == q)) ∨ (∃ p q, l = .bool ∧ c = .bool p ∧ d = .bool q ∧ b = (p == q)) ∨ (∃ p q : ByteArray, l = .str ∧ c = .string p ∧ d = .string q ∧ b = (p.toList == q.toList)) := by
  unfold eqLeaf at h
  split at h
  · rename_i k j p j' q
    split at h
    · rename_i hk
      obtain ⟨rfl, rfl⟩ := hk
      simp at h
      rw [vr_s hx, vr_s hy]
      exact .inl ⟨_, p, q, rfl, rfl, rfl, h.symm⟩
    · simp at h
  · rename_i p q; simp at h; rw [vr_s hx, vr_s hy]; exact .inr (.inl ⟨p, q, rfl, rfl, rfl, h.symm⟩)
  · rename_i p q; simp only [← ByteArray.toList_eq, Option.some.injEq] at h; rw [vr_s hx, vr_s hy]; exact .inr (.inr ⟨p, q, rfl, rfl, rfl, h.symm⟩)
  · simp at h

theorem leaf_one {t : TypeId} {l : Leaf} {ls : List Leaf} (hls : ls = [l]) {xs ys : List V} {cx cy : List Value} {b : Bool} (hx : VRs μ Mt w xs cx) (hy : VRs μ Mt w ys cy) (h : eqLeaves ls xs ys = some b) :
    ∃ x y c d, xs = [x] ∧ ys = [y] ∧ cx = [c] ∧ cy = [d] ∧ VR μ Mt w x c ∧ VR μ Mt w y d ∧ eqLeaf l x y = some b ∧ (isAggT P t = some false → valOf P t cx = c ∧ valOf P t cy = d) := by
  subst hls
  have hl := eqLeaves_length h
  match xs, ys, cx, cy, hl, hx, hy, h with
  | [x], [y], [c], [d], _, hx, hy, h =>
    refine ⟨x, y, c, d, rfl, rfl, rfl, rfl, hx.2 0 x c rfl rfl, hy.2 0 y d rfl rfl, ?_, fun ha => by simp [valOf, ha]⟩
    simp only [eqLeaves] at h
    split at h
    · rename_i a b' ha hb
      simp at hb h
      subst hb
      simpa [← h] using ha
    · simp at h
  | [x], [y], [], _, _, hx, _, _ => exact absurd hx.1 (by simp)
  | [x], [y], _ :: _ :: _, _, _, hx, _, _ => exact absurd hx.1 (by simp)
  | [x], [y], _, [], _, _, hy, _ => exact absurd hy.1 (by simp)
  | [x], [y], _, _ :: _ :: _, _, _, hy, _ => exact absurd hy.1 (by simp)

mutual
theorem leaves_eq : ∀ (d : Nat) (t : TypeId) (ls : List Leaf) (m : Nat) (xs ys : List V) (cx cy : List Value) (b : Bool), leavesT P d t = some ls → d ≤ m →
    VRs μ Mt w xs cx → VRs μ Mt w ys cy → eqLeaves ls xs ys = some b → (Op.equalIn m t (valOf P t cx) (valOf P t cy)).run P w = .ok b w ∧ (isAggT P t).isSome = true ∧ (isAggT P t = some false → ls.length = 1) := by
  intro d t ls m xs ys cx cy b hl hm hx hy h
  cases d with
  | zero => simp [leavesT] at hl
  | succ d =>
    obtain ⟨m, rfl⟩ : ∃ k, m = k + 1 := ⟨m - 1, by omega⟩
    simp only [leavesT] at hl
    split at hl
    · rename_i k hk
      split at hl <;> simp at hl
      have ha : isAggT P t = some false := by simp [isAggT, hk]
      obtain ⟨x, y, c, e, rfl, rfl, rfl, rfl, h1, h2, h3, h4⟩ := leaf_one (P := P) (t := t) hl.symm hx hy h
      rw [(h4 ha).1, (h4 ha).2]
      refine ⟨?_, by simp [ha], fun _ => by rw [← hl]; rfl⟩
      rcases eqLeaf_vr h3 h1 h2 with ⟨k, p, q, _, rfl, rfl, rfl⟩ | ⟨p, q, hh, _⟩ | ⟨p, q, hh, _⟩
      · exact run_equalIn_int w m t k _ p q hk
      · cases hh
      · cases hh
    · rename_i hk
      split at hl <;> simp at hl
      have ha : isAggT P t = some false := by simp [isAggT, hk]
      obtain ⟨x, y, c, e, rfl, rfl, rfl, rfl, h1, h2, h3, h4⟩ := leaf_one (P := P) (t := t) hl.symm hx hy h
      rw [(h4 ha).1, (h4 ha).2]
      refine ⟨?_, by simp [ha], fun _ => by rw [← hl]; rfl⟩
      rcases eqLeaf_vr h3 h1 h2 with ⟨k, p, q, hh, _⟩ | ⟨p, q, _, rfl, rfl, rfl⟩ | ⟨p, q, hh, _⟩
      · cases hh
      · exact run_equalIn_bool' w m t p q hk
      · cases hh
    · rename_i hk
      split at hl <;> simp at hl
      have ha : isAggT P t = some false := by simp [isAggT, hk]
      obtain ⟨x, y, c, e, rfl, rfl, rfl, rfl, h1, h2, h3, h4⟩ := leaf_one (P := P) (t := t) hl.symm hx hy h
      rw [(h4 ha).1, (h4 ha).2]
      refine ⟨?_, by simp [ha], fun _ => by rw [← hl]; rfl⟩
      rcases eqLeaf_vr h3 h1 h2 with ⟨k, p, q, hh, _⟩ | ⟨p, q, hh, _⟩ | ⟨p, q, _, rfl, rfl, rfl⟩
      · cases hh
      · cases hh
      · exact run_equalIn_string w m t p q hk
    · rename_i fs hk
      split at hl
      · simp at hl
      · rename_i hst
        have ha : isAggT P t = some true := by simp [isAggT, hk]
        refine ⟨?_, by simp [ha], fun h => by simp [ha] at h⟩
        simp only [valOf, ha]
        have hst' : P.stoodInHeld t = false := by simpa using hst
        rw [run_equalIn_struct (P := P) w m t cx.toArray cy.toArray (by rw [fieldsOf_eq hk]; exact hk) hst', fieldsOf_eq hk]
        exact leavesFs_eq d 0 fs.toList ls m cx cy xs ys b hl (by omega) (by simpa using hx) (by simpa using hy) h
    · simp at hl
theorem leavesFs_eq : ∀ (d off : Nat) (fs : List Field) (ls : List Leaf) (m : Nat) (cx cy : List Value) (xs ys : List V) (b : Bool), leavesFs P d off fs = some ls → d ≤ m →
    VRs μ Mt w xs (cx.drop off) → VRs μ Mt w ys (cy.drop off) → eqLeaves ls xs ys = some b → (Op.eqFields m cx.toArray cy.toArray fs).run P w = .ok b w := by
  intro d off fs ls m cx cy xs ys b hl hm hx hy h
  cases d with
  | zero => simp [leavesFs] at hl
  | succ d =>
    cases fs with
    | nil =>
      simp [leavesFs] at hl
      subst hl
      have := eqLeaves_length h
      match xs, ys, this, h with
      | [], [], _, h => simp [eqLeaves] at h; subst h; rfl
    | cons f fs =>
      simp only [leavesFs] at hl
      split at hl
      · rename_i hc
        obtain ⟨hoff, hname⟩ := hc
        split at hl
        · rename_i l1 n h1 h2
          split at hl
          · rename_i hln
            split at hl
            · rename_i rest hrest
              simp at hl
              subst hl
              obtain ⟨b1, b2, e1, e2, rfl⟩ := eqLeaves_append h
              have hlen := eqLeaves_length h
              simp only [List.length_append] at hlen
              have hcx : off + n ≤ cx.length ∨ n = 0 := by
                have := hx.1; simp at this; omega
              have hxl := hx.1
              have hyl := hy.1
              simp only [List.length_drop] at hxl hyl
              obtain ⟨r1, r2, r3⟩ := leaves_eq d f.type l1 m (xs.take l1.length) (ys.take l1.length) ((cx.drop off).take n) ((cy.drop off).take n) b1 h1 (by omega) (by rw [hln]; exact hx.take n) (by rw [hln]; exact hy.take n) e1
              have r4 := leavesFs_eq d (off + n) fs rest m cx cy (xs.drop l1.length) (ys.drop l1.length) b2 hrest (by omega) (by rw [hln, ← List.drop_drop]; exact hx.drop n) (by rw [hln, ← List.drop_drop]; exact hy.drop n) e2
              simp only [Op.eqFields]
              rw [if_pos hname]
              by_cases hz : off + n ≤ cx.length ∧ off + n ≤ cy.length
              · have p1 := run_part (P := P) (w := w) (cs := cx) h2 r2 hz.1 (fun h0 => by rw [← hln]; exact r3 h0)
                have p2 := run_part (P := P) (w := w) (cs := cy) h2 r2 hz.2 (fun h0 => by rw [← hln]; exact r3 h0)
                simp only [Sem.run_bind, hoff, p1, p2, Result.andThen_ok, r1]
                cases b1
                · simp
                · simpa using r4
              · -- n = 0: no cell is looked at
                have hn0 : n = 0 := by omega
                subst hn0
                have hagg : isAggT P f.type = some true := by
                  obtain ⟨bb, hbb⟩ := Option.isSome_iff_exists.1 r2
                  cases bb
                  · have := r3 hbb; omega
                  · exact hbb
                have pp : ∀ cs : List Value, (part f.type cs.toArray f.offset).run P w = .ok (valOf P f.type []) w := by
                  intro cs
                  simp only [part, Sem.run_bind, run_isAgg hagg, Result.andThen_ok, if_true, run_sizeOf h2, Sem.run_pure, valOf, hagg]
                  congr 2
                  apply Array.ext'
                  simp
                simp only [Sem.run_bind, pp, Result.andThen_ok]
                simp only [List.take_zero] at r1
                simp only [r1, Result.andThen_ok]
                cases b1
                · simp
                · simpa using r4
            · simp at hl
          · simp at hl
        · simp at hl
      · simp at hl
end

theorem run_eqAgg {t : TypeId} {X Y : Operand} {neg b : Bool} {op : BinOp} {ls : List Leaf} {xs ys : List V} {cx cy : Array Value} {fs : Array Field} (ho : isEqOp op = some neg) (ht : P.underlying t = some (.struct fs)) (hg : P.eqGuardType P.depth t = false) (hl : leavesT P 12 t = some ls)
    (hx : VRs μ Mt w xs cx.toList) (hy : VRs μ Mt w ys cy.toList) (h : eqLeaves ls xs ys = some b) :
    ((do pure (.value (← (do eqGuard op t X Y (.agg cx) (.agg cy); binOp op t (.agg cx) (.agg cy)))) : Sem Next).run P w) = .ok (.value (.bool (b != neg))) w := by
  have he := (leaves_eq 12 t ls 10000 xs ys cx.toList cy.toList b hl (by omega) hx hy h).1
  have ha : isAggT P t = some true := by simp [isAggT, ht]
  simp only [valOf, ha, Array.toArray_toList] at he
  simp only [Sem.run_bind, run_eqGuard_agg w op t X Y cx cy hg, Result.andThen_ok]
  cases op <;> simp [isEqOp] at ho <;> subst ho
  · rw [run_eql_struct, he]; simp
  · rw [run_neq_struct, he]; simp
end
end Go.AM
