/-
  Frames told by what they hold: a list of slots, the others unknown.
-/
import Derived.Test.YtmnlagcmpgilaaaAmT
import Derived.Laws.BitsLemmas
set_option linter.all false
namespace Go.AM

abbrev Env := List (Nat × V)

def getV : Env → Nat → V
  | [], _ => .unk
  | (k, x) :: e, s => if s = k then x else getV e s

def putV (s : Nat) (v : V) : Env → Env
  | [] => [(s, v)]
  | (k, x) :: e => if s = k then (s, v) :: e else if s < k then (s, v) :: (k, x) :: e else (k, x) :: putV s v e

def killV (ks : List Nat) : Env → Env
  | [] => []
  | (k, x) :: e => if ks.contains k then killV ks e else (k, x) :: killV ks e

def frOf (n : Nat) (en : Env) : List V := (List.range n).map (getV en)

theorem getV_put (s t : Nat) (v : V) : ∀ en : Env, getV (putV s v en) t = if t = s then v else getV en t := by
  intro en
  induction en with
  | nil => rfl
  | cons p e ih =>
    obtain ⟨k, x⟩ := p
    simp only [putV]
    split
    · rename_i h; subst h; simp only [getV]; split <;> rfl
    · split
      · simp only [getV]
      · rename_i h1 h2
        simp only [getV, ih]
        by_cases h3 : t = k
        · subst h3; rw [if_pos rfl, if_neg (fun e => h1 e.symm), if_pos rfl]
        · rw [if_neg h3, if_neg h3]

theorem getV_kill (ks : List Nat) (t : Nat) : ∀ en : Env, getV (killV ks en) t = if ks.contains t then .unk else getV en t := by
  intro en
  induction en with
  | nil => simp [killV, getV]
  | cons p e ih =>
    obtain ⟨k, x⟩ := p
    simp only [killV]
    by_cases h1 : ks.contains k = true
    · rw [if_pos h1, ih]
      split
      · rfl
      · rename_i h2
        simp only [getV]
        rw [if_neg]
        rintro rfl
        exact h2 h1
    · rw [if_neg h1]
      simp only [getV, ih]
      by_cases h3 : t = k
      · subst h3; rw [if_pos rfl, if_neg h1, if_pos rfl]
      · rw [if_neg h3, if_neg h3]

theorem frOf_length (n : Nat) (en : Env) : (frOf n en).length = n := by simp [frOf]
theorem frOf_get {n : Nat} {en : Env} {s : Nat} (h : s < n) : (frOf n en).getD s .unk = getV en s := by simp [frOf, h]
theorem frOf_ext {n : Nat} {en en' : Env} (h : ∀ s, s < n → getV en s = getV en' s) : frOf n en = frOf n en' := by
  unfold frOf
  exact List.map_congr_left fun s hs => h s (by simpa using hs)
theorem fr_eq {n : Nat} {en : Env} {fr : List V} (hl : fr.length = n) (h : ∀ s, s < n → fr.getD s .unk = getV en s) : fr = frOf n en := by
  refine List.ext_getElem (by rw [hl, frOf_length]) fun i h1 h2 => ?_
  have := h i (by omega)
  simp only [frOf, List.getElem_map, List.getElem_range]
  rw [← this]
  simp [h1]
theorem frOf_set (n : Nat) (en : Env) (s : Nat) (v : V) : (frOf n en).set s v = frOf n (putV s v en) := by
  refine fr_eq (by rw [List.length_set, frOf_length]) fun t ht => ?_
  rw [getV_put]
  split
  · rename_i h; subst h; exact getD_set_same (by rw [frOf_length]; exact ht)
  · rename_i h; rw [getD_set_other (fun e => h e.symm), frOf_get ht]
theorem frOf_kill (n : Nat) (en : Env) (ks : List Nat) : killS ks (frOf n en) = frOf n (killV ks en) := by
  refine fr_eq (by rw [killS_length, frOf_length]) fun t ht => ?_
  rw [killS_getD, getV_kill]
  by_cases h : t ∈ ks
  · rw [if_pos h, if_pos (by simpa using h)]
  · rw [if_neg h, if_neg (by simpa using h), frOf_get ht]

/-- The frame at a call's beginning. -/
def startV (n : Nat) : List V → Nat → Env
  | [], k => (List.range' k (n - k)).map fun s => (s, und)
  | v :: vs, k => (k, v) :: startV n vs (k + 1)

theorem getV_start (n : Nat) : ∀ (vs : List V) (k t : Nat), k ≤ t → t < n → vs.length + k ≤ n → getV (startV n vs k) t = if t - k < vs.length then vs.getD (t - k) .unk else und := by
  intro vs
  induction vs with
  | nil =>
    intro k t h1 h2 _
    simp only [startV, List.length_nil, Nat.not_lt_zero, if_false]
    have : ∀ (m j : Nat), j ≤ t → t < j + m → getV ((List.range' j m).map fun s => (s, und)) t = und := by
      intro m
      induction m with
      | zero => intro j a b; omega
      | succ m ih =>
        intro j a b
        simp only [List.range'_succ, List.map_cons, getV]
        split
        · rfl
        · exact ih (j + 1) (by omega) (by omega)
    exact this _ k h1 (by omega)
  | cons v vs ih =>
    intro k t h1 h2 h3
    simp only [startV, getV, List.length_cons] at h3 ⊢
    split
    · rename_i h; subst h; simp
    · rename_i h
      rw [ih (k + 1) t (by omega) h2 (by omega)]
      obtain ⟨d, hd⟩ : ∃ d, t - k = d + 1 := ⟨t - k - 1, by omega⟩
      have : t - (k + 1) = d := by omega
      rw [hd, this]
      simp only [Nat.add_lt_add_iff_right, List.getD_cons_succ]

theorem start_eq {n : Nat} {vs : List V} (h : vs.length ≤ n) : vs ++ List.replicate (n - vs.length) und = frOf n (startV n vs 0) := by
  refine fr_eq (by simp; omega) fun t ht => ?_
  rw [getV_start n vs 0 t (Nat.zero_le _) ht (by omega)]
  split
  · rename_i h1; simp at h1; simp only [List.getD, List.getElem?_append_left h1, Nat.sub_zero]
  · rename_i h1
    simp at h1
    simp only [List.getD, List.getElem?_append_right h1, List.getElem?_replicate]
    rw [if_pos (by omega)]
    rfl

theorem getV_nil (s : Nat) : getV [] s = .unk := rfl
theorem getV_cons (k : Nat) (x : V) (e : Env) (s : Nat) : getV ((k, x) :: e) s = if s = k then x else getV e s := rfl
theorem putV_nil (s : Nat) (v : V) : putV s v [] = [(s, v)] := rfl
theorem putV_cons (s : Nat) (v : V) (k : Nat) (x : V) (e : Env) : putV s v ((k, x) :: e) = if s = k then (s, v) :: e else if s < k then (s, v) :: (k, x) :: e else (k, x) :: putV s v e := rfl
theorem killV_nil (ks : List Nat) : killV ks [] = [] := rfl
theorem killV_cons (ks : List Nat) (k : Nat) (x : V) (e : Env) : killV ks ((k, x) :: e) = if ks.contains k then killV ks e else (k, x) :: killV ks e := rfl

/-! ### Calls and loops as equations -/
theorem itW_eq (b : List V → Heap → Option St) (k : List Nat) (m : Nat) (fr : List V) (H : Heap) : itW b k m fr H = match b fr H with
    | some (.nrm, fr', H') => itW b k m (killS k fr') (trim m (killS k fr') H')
    | some (e, fr', H') => some (e, killS k fr', trim m (killS k fr') H')
    | none => none := by
  cases hb : b fr H with
  | none =>
    simp only []
    cases hi : itW b k m fr H with
    | none => rfl
    | some r =>
      obtain ⟨n, hn⟩ := itW_ex hi
      cases n with
      | zero => simp [iterN] at hn
      | succ n => simp [iterN, hb] at hn
  | some r =>
    obtain ⟨e, fr', H'⟩ := r
    cases e with
    | nrm =>
      simp only []
      cases hi : itW b k m (killS k fr') (trim m (killS k fr') H') with
      | some r => exact itW_go hb hi
      | none =>
        cases hj : itW b k m fr H with
        | none => rfl
        | some r =>
          obtain ⟨n, hn⟩ := itW_ex hj
          cases n with
          | zero => simp [iterN] at hn
          | succ n =>
            simp only [iterN, hb] at hn
            rw [itW_of hn] at hi
            cases hi
    | ext id => exact itW_stop (by simp) hb
    | ret => exact itW_stop (by simp) hb


/-! ### Code, construct by construct -/
def thenC (call : CallF) (it : IterF) (base : Nat) (b : ACode) : Option St → Option St
  | some (.nrm, fr, H) => evC call it base b fr H
  | r => r
def outC (id : Nat) : Option St → Option St
  | some (.ext id', fr, H) => some (if id' = id then .nrm else .ext id', fr, H)
  | r => r
def condC (call : CallF) (it : IterF) (base : Nat) (a b : ACode) (fr : List V) (H : Heap) : V → Option St
  | .s (.bool p) => bif p then evC call it base a fr H else evC call it base b fr H
  | _ => none
def rowC (H : Heap) : Option (List V) → Option St
  | some fr => some (.nrm, fr, H)
  | none => none
def opsC (chk : List (Nat × Nat)) (ops : List AOper) (kill : List Nat) : Option (List V × Heap) → Option St
  | some (fr, H) => bif chk.all (apartAt ops fr) then some (.nrm, killS kill fr, H) else none
  | none => none

section
variable {call : CallF} {it : IterF} {base : Nat}
theorem evC_skip (fr : List V) (H : Heap) : evC call it base .skip fr H = some (.nrm, fr, H) := rfl
theorem evC_exit (id : Nat) (fr : List V) (H : Heap) : evC call it base (.exit id) fr H = some (.ext id, fr, H) := rfl
theorem evC_ret (fr : List V) (H : Heap) : evC call it base .ret fr H = some (.ret, fr, H) := rfl
theorem evC_seq (a b : ACode) (fr : List V) (H : Heap) : evC call it base (.seq a b) fr H = thenC call it base b (evC call it base a fr H) := rfl
theorem evC_block (id : Nat) (c : ACode) (fr : List V) (H : Heap) : evC call it base (.block id c) fr H = outC id (evC call it base c fr H) := rfl
theorem evC_cond (c : Opd) (a b : ACode) (fr : List V) (H : Heap) : evC call it base (.cond c a b) fr H = condC call it base a b fr H (ev fr c) := by
  simp only [evC]
  cases ev fr c with
  | s v => cases v with
    | bool p => cases p <;> rfl
    | _ => rfl
  | _ => rfl
theorem evC_loop (kill : List Nat) (c : ACode) (fr : List V) (H : Heap) : evC call it base (.loop kill c) fr H = it (evC call it base c) kill H.length (killS kill fr) H := rfl
theorem evC_row (ops : List AOper) (kill outs : List Nat) (fr : List V) (H : Heap) : evC call it base (.regionE ops kill outs) fr H = rowC H (evTale (symAll ops kill outs) kill fr H) := rfl
theorem evC_ops (ops : List AOper) (chk : List (Nat × Nat)) (kill : List Nat) (fr : List V) (H : Heap) : evC call it base (.region ops chk kill) fr H = opsC chk ops kill (evOps call base ops fr H) := by
  simp only [evC]
  cases evOps call base ops fr H with
  | none => rfl
  | some p =>
    simp only [opsC]
    cases chk.all (apartAt ops p.1) <;> rfl
theorem evC_range (f : Opd) (params : List Nat) (a b : ACode) (fr : List V) (H : Heap) {k : Nat} {x y : List V} (hf : ev fr f = .fn k x y) {v : V} {H' : Heap} (hc : call (.fn k x y) [.yld H.length] base (H ++ [.loop .ready none fr params a b]) = some (v, H'))
    {fr1 : List V} {p1 : List Nat} {a1 b1 : ACode} (hH : H'[H.length]? = some (.loop .ready none fr1 p1 a1 b1)) : evC call it base (.rangeFunc f params a b) fr H = some (.nrm, fr, trim H.length fr (H'.set H.length .dead)) := by
  simp only [evC, hf, hc, hH]
theorem evC_range_exit (f : Opd) (params : List Nat) (a b : ACode) (fr : List V) (H : Heap) {k : Nat} {x y : List V} (hf : ev fr f = .fn k x y) {v : V} {H' : Heap} (hc : call (.fn k x y) [.yld H.length] base (H ++ [.loop .ready none fr params a b]) = some (v, H'))
    {e : Ex} {fr1 : List V} {p1 : List Nat} {a1 b1 : ACode} (hH : H'[H.length]? = some (.loop .done (some e) fr1 p1 a1 b1)) : evC call it base (.rangeFunc f params a b) fr H = some (e, fr, trim H.length fr (H'.set H.length .dead)) := by
  simp only [evC, hf, hc, hH]

theorem thenC_nrm (b : ACode) (fr : List V) (H : Heap) : thenC call it base b (some (.nrm, fr, H)) = evC call it base b fr H := rfl
theorem thenC_ext (b : ACode) (i : Nat) (fr : List V) (H : Heap) : thenC call it base b (some (.ext i, fr, H)) = some (.ext i, fr, H) := rfl
theorem thenC_ret (b : ACode) (fr : List V) (H : Heap) : thenC call it base b (some (.ret, fr, H)) = some (.ret, fr, H) := rfl
theorem thenC_none (b : ACode) : thenC call it base b none = none := rfl
theorem thenC_cond (b : ACode) (p : Bool) (x y : Option St) : thenC call it base b (bif p then x else y) = bif p then thenC call it base b x else thenC call it base b y := by cases p <;> rfl
theorem outC_nrm (id : Nat) (fr : List V) (H : Heap) : outC id (some (.nrm, fr, H)) = some (.nrm, fr, H) := rfl
theorem outC_ret (id : Nat) (fr : List V) (H : Heap) : outC id (some (.ret, fr, H)) = some (.ret, fr, H) := rfl
theorem outC_ext (id i : Nat) (fr : List V) (H : Heap) : outC id (some (.ext i, fr, H)) = some (if i = id then .nrm else .ext i, fr, H) := rfl
theorem outC_none (id : Nat) : outC id none = none := rfl
theorem outC_cond (id : Nat) (p : Bool) (x y : Option St) : outC id (bif p then x else y) = bif p then outC id x else outC id y := by cases p <;> rfl
theorem condC_bool (a b : ACode) (fr : List V) (H : Heap) (p : Bool) : condC call it base a b fr H (.s (.bool p)) = bif p then evC call it base a fr H else evC call it base b fr H := rfl
theorem rowC_some (H : Heap) (fr : List V) : rowC H (some fr) = some (.nrm, fr, H) := rfl
theorem rowC_cond (H : Heap) (p : Bool) (x y : Option (List V)) : rowC H (bif p then x else y) = bif p then rowC H x else rowC H y := by cases p <;> rfl
theorem opsC_some (ops : List AOper) (kill : List Nat) (fr : List V) (H : Heap) : opsC [] ops kill (some (fr, H)) = some (.nrm, killS kill fr, H) := rfl
theorem opsC_late (chk : List (Nat × Nat)) (ops : List AOper) (kill : List Nat) (fr : List V) (H : Heap) : opsC chk ops kill (some (fr, H)) = bif chk.all (apartAt ops fr) then some (.nrm, killS kill fr, H) else none := rfl
end

/-! ### A row's tale -/
def taleR (fr : List V) (H : Heap) (os : List (Nat × E)) (kill : List Nat) (r : Bool) : Option (List V) := bif r then setOuts fr H os (killS kill fr) else none
def outE (fr : List V) (H : Heap) (os : List (Nat × E)) (fr' : List V) (s : Nat) : Option V → Option (List V)
  | some v => setOuts fr H os (fr'.set s v)
  | none => none
theorem evTale_some {m : Nat} {R : List (List (Nat × Bool × E) × E)} {os : List (Nat × E)} {kill : List Nat} {fr : List V} {H : Heap} (h : m ≤ fr.length) : evTale (some (m, R, os)) kill fr H = taleR fr H os kill (R.all fun r => reqE fr H r.1 r.2) := by
  simp only [evTale, if_pos h, taleR]
  cases R.all fun r => reqE fr H r.1 r.2 <;> rfl
theorem taleR_true (fr : List V) (H : Heap) (os : List (Nat × E)) (kill : List Nat) : taleR fr H os kill true = setOuts fr H os (killS kill fr) := rfl
theorem setOuts_nil (fr : List V) (H : Heap) (fr' : List V) : setOuts fr H [] fr' = some fr' := rfl
theorem setOuts_cons (fr : List V) (H : Heap) (s : Nat) (e : E) (os : List (Nat × E)) (fr' : List V) : setOuts fr H ((s, e) :: os) fr' = outE fr H os fr' s (evE fr H e) := rfl
theorem outE_some (fr : List V) (H : Heap) (os : List (Nat × E)) (fr' : List V) (s : Nat) (v : V) : outE fr H os fr' s (some v) = setOuts fr H os (fr'.set s v) := rfl
theorem reqE_nil (fr : List V) (H : Heap) (e : E) : reqE fr H [] e = (evE fr H e).isSome := rfl
theorem reqE_cons (fr : List V) (H : Heap) (s : Nat) (b : Bool) (x : E) (G : List (Nat × Bool × E)) (e : E) : reqE fr H ((s, b, x) :: G) e = reqB (evE fr H x) b (reqE fr H G e) := rfl
theorem reqB_bool (p b r : Bool) : reqB (some (.s (.bool p))) b r = bif p == b then r else true := by cases p <;> cases b <;> cases r <;> rfl

/-! ### Expressions, operation by operation -/
def V1 (f : V → Option V) : Option V → Option V
  | some x => f x
  | none => none
def V2 (f : V → V → Option V) : Option V → Option V → Option V
  | some x, some y => f x y
  | _, _ => none
theorem V1_some (f : V → Option V) (x : V) : V1 f (some x) = f x := rfl
theorem V2_some (f : V → V → Option V) (x y : V) : V2 f (some x) (some y) = f x y := rfl
theorem evE_t (fr : List V) (H : Heap) (i : Nat) : evE fr H (.t i) = some (fr.getD i .unk) := rfl
theorem evE_c (fr : List V) (H : Heap) (v : V) : evE fr H (.c v) = some v := rfl
theorem evE_pick (fr : List V) (H : Heap) (c a b : E) : evE fr H (.pick c a b) = pickO (evE fr H c) (evE fr H a) (evE fr H b) := rfl

def xBin (op : BinOp) : V → V → Option V
  | .s a, .s b => (binS op a b).map .s
  | _, _ => none
def xEqB (neg : Bool) : V → V → Option V
  | .s (.bool a), .s (.bool b) => some (bl ((a == b) != neg))
  | _, _ => none
def xEqNil (k : NK) (neg : Bool) (x : V) : Option V := (x.isNil k).map fun b => bl (b != neg)
def xEqAgg (neg : Bool) (ls : List Leaf) : V → V → Option V
  | .agg xs, .agg ys => (eqLeaves ls xs ys).map fun b => bl (b != neg)
  | _, _ => none
def xUn (op : UnOp) (x : V) : Option V := match op, x with
  | .not, .s (.bool b) => some (bl (!b))
  | .neg, .s (.int k n) => some (.s (.int k (k.wrap (0 - n))))
  | .xor, .s (.int k n) => (binS .xor (.int k (if k.signed then -1 else k.max)) (.int k n)).map .s
  | _, _ => none
def xConv (k : IntKind) : V → Option V
  | .s (.int _ n) => some (.s (.int k (k.wrap n)))
  | _ => none
def xConvId : V → Option V
  | .s (.string b) => some (.s (.string b))
  | _ => none
def xNilCheck : V → Option V
  | .ref id g off => some (.ref id g off)
  | .pref cs => some (.pref cs)
  | .fn f a b => some (.fn f a b)
  | .yld id => some (.yld id)
  | _ => none
def xFieldAddr (off : Nat) : V → Option V
  | .ref id g o => some (.ref id g (o + off))
  | .pref cs => if off ≤ cs.length then some (.pref (cs.drop off)) else none
  | _ => none
def xField (g : Bool) (off n : Nat) : V → Option V
  | .agg cs => if ((cs.drop off).take n).length = n then shut g ((cs.drop off).take n) else none
  | _ => none
def xIndexAddr (sz : Nat) : V → V → Option V
  | .sl id g off len sz', .s (.int _ n) => if 0 ≤ n ∧ n < len ∧ sz' = sz then some (.ref id g (off + n.toNat * sz)) else none
  | .psl es sz', .s (.int _ n) => if 0 ≤ n ∧ sz' = sz then (es[n.toNat]?).map .pref else none
  | _, _ => none
def xIndexStr : V → V → Option V
  | .s (.string b), .s (.int _ n) => if 0 ≤ n then (b.data.toList[n.toNat]?).map fun c => .s (.int .u8 c.toNat) else none
  | _, _ => none
def xExtract (i : Nat) : V → Option V
  | .tup vs => vs[i]?
  | _ => none
def xLen (H : Heap) : NK → V → Option V
  | .p, .s (.string b) => some (i64 b.size)
  | .s, .s (.slice none 0 0) => some (i64 0)
  | .m, .s (.map none) => some (i64 0)
  | .s, .esl => some (i64 0)
  | .s, .psl es _ => some (i64 es.length)
  | .s, .sl _ _ _ len _ => some (i64 len)
  | .m, .mp id => match H[id]? with
    | some (.map es) => some (i64 es.length)
    | _ => none
  | _, _ => none
def xMapGet (H : Heap) (kind : TypeDesc) (zero : V) (ok : Bool) (m k : V) : Option V := (evOp (fun _ _ _ _ => none) 0 [m, k] H (.mapGet kind zero (.t 0) (.t 1) ok)).map (·.1)
def xMinmax (mx : Bool) : V → V → Option V
  | .s (.int k a), .s (.int k' b) => if k = k' then some (.s (.int k (if mx then (if a < b then b else a) else (if b < a then b else a)))) else none
  | _, _ => none
def xLoad (H : Heap) (g : Bool) (n : Nat) (a : V) : Option V := loadV H g n a
def xSub (H : Heap) (o : AOp) : Option (List V) → Option V
  | some vs => (evOp (fun _ _ _ _ => none) 0 vs H o).map (·.1)
  | none => none
def L1 (x : Option V) (xs : Option (List V)) : Option (List V) := match x, xs with
  | some v, some vs => some (v :: vs)
  | _, _ => none
theorem L1_some (v : V) (vs : List V) : L1 (some v) (some vs) = some (v :: vs) := rfl

section
variable (fr : List V) (H : Heap) (x y : E)
theorem evEs_nil : evEs fr H [] = some [] := rfl
theorem evEs_cons (xs : List E) : evEs fr H (x :: xs) = L1 (evE fr H x) (evEs fr H xs) := by
  simp only [evEs]; cases evE fr H x <;> cases evEs fr H xs <;> rfl
theorem evE_op (o : AOp) (xs : List E) : evE fr H (.op o xs) = xSub H o (evEs fr H xs) := by
  simp only [evE]
  cases evEs fr H xs with
  | none => rfl
  | some vs => simp only [xSub]; cases evOp (fun _ _ _ _ => none) 0 vs H o <;> rfl
theorem op1 {o : AOp} {f : V → Option V} (h : ∀ v, xSub H o (some [v]) = f v) : evE fr H (.op o [x]) = V1 f (evE fr H x) := by
  rw [evE_op, evEs_cons, evEs_nil]
  cases evE fr H x with
  | none => rfl
  | some v => exact h v
theorem op2 {o : AOp} {f : V → V → Option V} (h : ∀ v u, xSub H o (some [v, u]) = f v u) : evE fr H (.op o [x, y]) = V2 f (evE fr H x) (evE fr H y) := by
  rw [evE_op, evEs_cons, evEs_cons, evEs_nil]
  cases evE fr H x with
  | none => rfl
  | some v => cases evE fr H y with
    | none => rfl
    | some u => exact h v u
theorem op2L {o : AOp} {f : V → V → Option V} {c : V} (h : ∀ v, xSub H o (some [v, c]) = f v c) : evE fr H (.op o [x, .c c]) = V2 f (evE fr H x) (some c) := by
  rw [evE_op, evEs_cons, evEs_cons, evEs_nil, evE_c]
  cases evE fr H x with
  | none => rfl
  | some v => exact h v
theorem op2R {o : AOp} {f : V → V → Option V} {c : V} (h : ∀ v, xSub H o (some [c, v]) = f c v) : evE fr H (.op o [.c c, y]) = V2 f (some c) (evE fr H y) := by
  rw [evE_op, evEs_cons, evEs_cons, evEs_nil, evE_c]
  cases evE fr H y with
  | none => rfl
  | some v => exact h v
theorem evE_bin (op : BinOp) : evE fr H (.op (.bin op (.t 0) (.t 1)) [x, y]) = V2 (xBin op) (evE fr H x) (evE fr H y) := op2 _ _ _ _ fun v u => by
  cases v <;> first | rfl | (cases u <;> first | rfl | (simp only [xSub, evOp, ev, List.getD_cons_zero, List.getD_cons_succ, xBin]; cases binS op _ _ <;> rfl))
theorem evE_binL (op : BinOp) (c : V) : evE fr H (.op (.bin op (.t 0) (.c c)) [x, .c c]) = V2 (xBin op) (evE fr H x) (some c) := op2L _ _ _ fun v => by
  cases v <;> first | rfl | (cases c <;> first | rfl | (simp only [xSub, evOp, ev, List.getD_cons_zero, List.getD_cons_succ, xBin]; cases binS op _ _ <;> rfl))
theorem evE_binR (op : BinOp) (c : V) : evE fr H (.op (.bin op (.c c) (.t 1)) [.c c, y]) = V2 (xBin op) (some c) (evE fr H y) := op2R _ _ _ fun v => by
  cases c <;> first | rfl | (cases v <;> first | rfl | (simp only [xSub, evOp, ev, List.getD_cons_zero, List.getD_cons_succ, xBin]; cases binS op _ _ <;> rfl))
theorem evE_eqB (n : Bool) : evE fr H (.op (.eqB n (.t 0) (.t 1)) [x, y]) = V2 (xEqB n) (evE fr H x) (evE fr H y) := op2 _ _ _ _ fun v u => by
  cases v <;> first | rfl | (rename_i q; cases q <;> first | rfl | (cases u <;> first | rfl | (rename_i p; cases p <;> rfl)))
theorem evE_eqBL (n : Bool) (c : V) : evE fr H (.op (.eqB n (.t 0) (.c c)) [x, .c c]) = V2 (xEqB n) (evE fr H x) (some c) := op2L _ _ _ fun v => by
  cases v <;> first | rfl | (rename_i q; cases q <;> first | rfl | (cases c <;> first | rfl | (rename_i p; cases p <;> rfl)))
theorem evE_eqBR (n : Bool) (c : V) : evE fr H (.op (.eqB n (.c c) (.t 1)) [.c c, y]) = V2 (xEqB n) (some c) (evE fr H y) := op2R _ _ _ fun v => by
  cases c <;> first | rfl | (rename_i q; cases q <;> first | rfl | (cases v <;> first | rfl | (rename_i p; cases p <;> rfl)))
theorem evE_eqAgg (n : Bool) (ls : List Leaf) : evE fr H (.op (.eqAgg n ls (.t 0) (.t 1)) [x, y]) = V2 (xEqAgg n ls) (evE fr H x) (evE fr H y) := op2 _ _ _ _ fun v u => by
  cases v <;> first | rfl | (cases u <;> first | rfl | (simp only [xSub, evOp, ev, List.getD_cons_zero, List.getD_cons_succ, xEqAgg]; cases eqLeaves ls _ _ <;> rfl))
theorem evE_eqAggL (n : Bool) (ls : List Leaf) (c : V) : evE fr H (.op (.eqAgg n ls (.t 0) (.c c)) [x, .c c]) = V2 (xEqAgg n ls) (evE fr H x) (some c) := op2L _ _ _ fun v => by
  cases v <;> first | rfl | (cases c <;> first | rfl | (simp only [xSub, evOp, ev, List.getD_cons_zero, List.getD_cons_succ, xEqAgg]; cases eqLeaves ls _ _ <;> rfl))
theorem evE_eqAggR (n : Bool) (ls : List Leaf) (c : V) : evE fr H (.op (.eqAgg n ls (.c c) (.t 1)) [.c c, y]) = V2 (xEqAgg n ls) (some c) (evE fr H y) := op2R _ _ _ fun v => by
  cases c <;> first | rfl | (cases v <;> first | rfl | (simp only [xSub, evOp, ev, List.getD_cons_zero, List.getD_cons_succ, xEqAgg]; cases eqLeaves ls _ _ <;> rfl))
theorem evE_indexAddr (sz : Nat) : evE fr H (.op (.indexAddr sz (.t 0) (.t 1)) [x, y]) = V2 (xIndexAddr sz) (evE fr H x) (evE fr H y) := op2 _ _ _ _ fun v u => by
  cases v <;> first | rfl | (cases u <;> first | rfl | (rename_i q; cases q <;> first | rfl | (simp only [xSub, evOp, ev, List.getD_cons_zero, List.getD_cons_succ, xIndexAddr]; split <;> first | rfl | (split <;> rename_i e <;> simp [e]))))
theorem evE_indexAddrL (sz : Nat) (c : V) : evE fr H (.op (.indexAddr sz (.t 0) (.c c)) [x, .c c]) = V2 (xIndexAddr sz) (evE fr H x) (some c) := op2L _ _ _ fun v => by
  cases v <;> first | rfl | (cases c <;> first | rfl | (rename_i q; cases q <;> first | rfl | (simp only [xSub, evOp, ev, List.getD_cons_zero, List.getD_cons_succ, xIndexAddr]; split <;> first | rfl | (split <;> rename_i e <;> simp [e]))))
theorem evE_indexAddrR (sz : Nat) (c : V) : evE fr H (.op (.indexAddr sz (.c c) (.t 1)) [.c c, y]) = V2 (xIndexAddr sz) (some c) (evE fr H y) := op2R _ _ _ fun v => by
  cases c <;> first | rfl | (cases v <;> first | rfl | (rename_i q; cases q <;> first | rfl | (simp only [xSub, evOp, ev, List.getD_cons_zero, List.getD_cons_succ, xIndexAddr]; split <;> first | rfl | (split <;> rename_i e <;> simp [e]))))
theorem evE_indexStr  : evE fr H (.op (.indexStr (.t 0) (.t 1)) [x, y]) = V2 (xIndexStr) (evE fr H x) (evE fr H y) := op2 _ _ _ _ fun v u => by
  cases v <;> first | rfl | (rename_i q; cases q <;> first | rfl | (cases u <;> first | rfl | (rename_i p; cases p <;> first | rfl | (simp only [xSub, evOp, ev, List.getD_cons_zero, List.getD_cons_succ, xIndexStr]; split <;> first | rfl | (split <;> rename_i e <;> simp [e])))))
theorem evE_indexStrL  (c : V) : evE fr H (.op (.indexStr (.t 0) (.c c)) [x, .c c]) = V2 (xIndexStr) (evE fr H x) (some c) := op2L _ _ _ fun v => by
  cases v <;> first | rfl | (rename_i q; cases q <;> first | rfl | (cases c <;> first | rfl | (rename_i p; cases p <;> first | rfl | (simp only [xSub, evOp, ev, List.getD_cons_zero, List.getD_cons_succ, xIndexStr]; split <;> first | rfl | (split <;> rename_i e <;> simp [e])))))
theorem evE_indexStrR  (c : V) : evE fr H (.op (.indexStr (.c c) (.t 1)) [.c c, y]) = V2 (xIndexStr) (some c) (evE fr H y) := op2R _ _ _ fun v => by
  cases c <;> first | rfl | (rename_i q; cases q <;> first | rfl | (cases v <;> first | rfl | (rename_i p; cases p <;> first | rfl | (simp only [xSub, evOp, ev, List.getD_cons_zero, List.getD_cons_succ, xIndexStr]; split <;> first | rfl | (split <;> rename_i e <;> simp [e])))))
theorem evE_minmax (mx : Bool) : evE fr H (.op (.minmax mx (.t 0) (.t 1)) [x, y]) = V2 (xMinmax mx) (evE fr H x) (evE fr H y) := op2 _ _ _ _ fun v u => by
  cases v <;> first | rfl | (rename_i q; cases q <;> first | rfl | (cases u <;> first | rfl | (rename_i p; cases p <;> first | rfl | (simp only [xSub, evOp, ev, List.getD_cons_zero, List.getD_cons_succ, xMinmax]; split <;> rfl))))
theorem evE_minmaxL (mx : Bool) (c : V) : evE fr H (.op (.minmax mx (.t 0) (.c c)) [x, .c c]) = V2 (xMinmax mx) (evE fr H x) (some c) := op2L _ _ _ fun v => by
  cases v <;> first | rfl | (rename_i q; cases q <;> first | rfl | (cases c <;> first | rfl | (rename_i p; cases p <;> first | rfl | (simp only [xSub, evOp, ev, List.getD_cons_zero, List.getD_cons_succ, xMinmax]; split <;> rfl))))
theorem evE_minmaxR (mx : Bool) (c : V) : evE fr H (.op (.minmax mx (.c c) (.t 1)) [.c c, y]) = V2 (xMinmax mx) (some c) (evE fr H y) := op2R _ _ _ fun v => by
  cases c <;> first | rfl | (rename_i q; cases q <;> first | rfl | (cases v <;> first | rfl | (rename_i p; cases p <;> first | rfl | (simp only [xSub, evOp, ev, List.getD_cons_zero, List.getD_cons_succ, xMinmax]; split <;> rfl))))
theorem evE_mapGet (kd : TypeDesc) (z : V) (ok : Bool) : evE fr H (.op (.mapGet kd z (.t 0) (.t 1) ok) [x, y]) = V2 (xMapGet H kd z ok) (evE fr H x) (evE fr H y) := op2 _ _ _ _ fun v u => by
  rfl
theorem evE_mapGetL (kd : TypeDesc) (z : V) (ok : Bool) (c : V) : evE fr H (.op (.mapGet kd z (.t 0) (.c c) ok) [x, .c c]) = V2 (xMapGet H kd z ok) (evE fr H x) (some c) := op2L _ _ _ fun v => by
  rfl
theorem evE_mapGetR (kd : TypeDesc) (z : V) (ok : Bool) (c : V) : evE fr H (.op (.mapGet kd z (.c c) (.t 1) ok) [.c c, y]) = V2 (xMapGet H kd z ok) (some c) (evE fr H y) := op2R _ _ _ fun v => by
  rfl
theorem evE_nilCheck  : evE fr H (.op (.nilCheck (.t 0)) [x]) = V1 (xNilCheck) (evE fr H x) := op1 _ _ _ fun v => by
  cases v <;> rfl
theorem evE_eqNil (k : NK) (n : Bool) : evE fr H (.op (.eqNil k n (.t 0)) [x]) = V1 (xEqNil k n) (evE fr H x) := op1 _ _ _ fun v => by
  simp only [xSub, evOp, ev, List.getD_cons_zero, xEqNil]; cases V.isNil k v <;> rfl
theorem evE_un (op : UnOp) : evE fr H (.op (.un op (.t 0)) [x]) = V1 (xUn op) (evE fr H x) := op1 _ _ _ fun v => by
  cases op <;> first | (cases v <;> first | rfl | (rename_i q; cases q <;> first | rfl | (simp only [xSub, evOp, ev, List.getD_cons_zero, xUn]; cases binS _ _ _ <;> rfl)))
theorem evE_conv (k : IntKind) : evE fr H (.op (.conv k (.t 0)) [x]) = V1 (xConv k) (evE fr H x) := op1 _ _ _ fun v => by
  cases v <;> first | rfl | (rename_i q; cases q <;> rfl)
theorem evE_convId  : evE fr H (.op (.convId (.t 0)) [x]) = V1 (xConvId) (evE fr H x) := op1 _ _ _ fun v => by
  cases v <;> first | rfl | (rename_i q; cases q <;> rfl)
theorem evE_fieldAddr (off : Nat) : evE fr H (.op (.fieldAddr off (.t 0)) [x]) = V1 (xFieldAddr off) (evE fr H x) := op1 _ _ _ fun v => by
  cases v <;> first | rfl | (simp only [xSub, evOp, ev, List.getD_cons_zero, xFieldAddr]; split <;> rfl)
theorem evE_field (g : Bool) (off n : Nat) : evE fr H (.op (.field g off n (.t 0)) [x]) = V1 (xField g off n) (evE fr H x) := op1 _ _ _ fun v => by
  cases v <;> first | rfl | (simp only [xSub, evOp, ev, List.getD_cons_zero, xField]; split <;> first | rfl | (cases shut g _ <;> rfl))
theorem evE_extract (i : Nat) : evE fr H (.op (.extract (.t 0) i) [x]) = V1 (xExtract i) (evE fr H x) := op1 _ _ _ fun v => by
  cases v <;> first | rfl | (simp only [xSub, evOp, ev, List.getD_cons_zero, xExtract]; split <;> rename_i e <;> simp [e])
theorem evE_lenS (k : NK) : evE fr H (.op (.lenS k (.t 0)) [x]) = V1 (xLen H k) (evE fr H x) := op1 _ _ _ fun v => by
  cases k <;> cases v <;> first | rfl | (rename_i q; cases q <;> first | rfl | (rename_i a; cases a <;> rfl) | (rename_i a b c; cases a <;> first | rfl | (cases b <;> first | rfl | (cases c <;> rfl)))) | (rename_i j; simp only [xSub, evOp, ev, List.getD_cons_zero, xLen]; generalize H[j]? = o; cases o <;> first | rfl | (rename_i ob; cases ob <;> rfl))
theorem evE_load (g : Bool) (n : Nat) : evE fr H (.op (.load g n (.t 0)) [x]) = V1 (xLoad H g n) (evE fr H x) := op1 _ _ _ fun v => by
  simp only [xSub, evOp, ev, List.getD_cons_zero, xLoad]; cases loadV H g n v <;> rfl
theorem evE_build (z : List V) (p : List (Nat × Nat)) (ps : List (Nat × Opd)) (xs : List E) : evE fr H (.op (.build z p ps) xs) = xSub H (.build z p ps) (evEs fr H xs) := evE_op _ _ _ _
theorem evE_mkFn (f : Nat) (a b : List Opd) (xs : List E) : evE fr H (.op (.mkFn f a b) xs) = xSub H (.mkFn f a b) (evEs fr H xs) := evE_op _ _ _ _
theorem evE_subStr (a : Opd) (lo hi : Option Opd) (xs : List E) : evE fr H (.op (.subStr a lo hi) xs) = xSub H (.subStr a lo hi) (evEs fr H xs) := evE_op _ _ _ _
theorem evE_subSl (sz : Nat) (a : Opd) (lo hi mx : Option Opd) (xs : List E) : evE fr H (.op (.subSl sz a lo hi mx) xs) = xSub H (.subSl sz a lo hi mx) (evEs fr H xs) := evE_op _ _ _ _
end
theorem evTale_free {m : Nat} {os : List (Nat × E)} {kill : List Nat} {fr : List V} {H : Heap} (h : m ≤ fr.length) : evTale (some (m, [], os)) kill fr H = setOuts fr H os (killS kill fr) := by
  simp only [evTale, if_pos h, List.all_nil, if_true]
theorem free_row {m : Nat} {os : List (Nat × E)} {kill : List Nat} {n : Nat} {en : Env} {H : Heap} (h : m ≤ n) : evTale (some (m, [], os)) kill (frOf n en) H = setOuts (frOf n en) H os (frOf n (killV kill en)) := by
  rw [evTale_free (by rw [frOf_length]; exact h), frOf_kill]
theorem kept_row {m : Nat} {R : List (List (Nat × Bool × E) × E)} {os : List (Nat × E)} {kill : List Nat} {n : Nat} {en : Env} {H : Heap} (h : m ≤ n) : evTale (some (m, R, os)) kill (frOf n en) H = taleR (frOf n en) H os kill (R.all fun r => reqE (frOf n en) H r.1 r.2) := by
  rw [evTale_some (by rw [frOf_length]; exact h)]
/-! ### Loops -/
noncomputable def stepW (b : List V → Heap → Option St) (k : List Nat) (m : Nat) : Option St → Option St
  | some (.nrm, fr', H') => itW b k m (killS k fr') (trim m (killS k fr') H')
  | some (e, fr', H') => some (e, killS k fr', trim m (killS k fr') H')
  | none => none
theorem itW_step (b : List V → Heap → Option St) (k : List Nat) (m : Nat) (fr : List V) (H : Heap) : itW b k m fr H = stepW b k m (b fr H) := by
  rw [itW_eq]
  cases b fr H with
  | none => rfl
  | some r => obtain ⟨e, f, h⟩ := r; cases e <;> rfl
section
variable (b : List V → Heap → Option St) (k : List Nat) (m : Nat)
theorem stepW_nrm (fr : List V) (H : Heap) : stepW b k m (some (.nrm, fr, H)) = itW b k m (killS k fr) (trim m (killS k fr) H) := rfl
theorem stepW_ext (i : Nat) (fr : List V) (H : Heap) : stepW b k m (some (.ext i, fr, H)) = some (.ext i, killS k fr, trim m (killS k fr) H) := rfl
theorem stepW_ret (fr : List V) (H : Heap) : stepW b k m (some (.ret, fr, H)) = some (.ret, killS k fr, trim m (killS k fr) H) := rfl
theorem stepW_cond (p : Bool) (x y : Option St) : stepW b k m (bif p then x else y) = bif p then stepW b k m x else stepW b k m y := by cases p <;> rfl
end
theorem trim_self (fr : List V) (H : Heap) : trim H.length fr H = H := trim_same rfl

/-! ### Calls -/
def retC (rs : List ARes) : Option St → Option (V × Heap)
  | some (.nrm, fr, H) => (resultV rs fr H).map fun v => (v, H)
  | some (.ret, fr, H) => (resultV rs fr H).map fun v => (v, H)
  | _ => none
theorem retC_nrm (rs : List ARes) (fr : List V) (H : Heap) : retC rs (some (.nrm, fr, H)) = (resultV rs fr H).map fun v => (v, H) := rfl
theorem retC_ret (rs : List ARes) (fr : List V) (H : Heap) : retC rs (some (.ret, fr, H)) = (resultV rs fr H).map fun v => (v, H) := rfl
theorem retC_cond (rs : List ARes) (p : Bool) (x y : Option St) : retC rs (bif p then x else y) = bif p then retC rs x else retC rs y := by cases p <;> rfl
theorem resultV1 (t : ARes) (fr : List V) (H : Heap) : resultV [t] fr H = resV fr H t := by
  simp only [resultV, List.mapM_cons, List.mapM_nil]
  cases resV fr H t <;> rfl
theorem resultV2 (t u : ARes) (fr : List V) (H : Heap) : resultV [t, u] fr H = match resV fr H t, resV fr H u with | some x, some y => some (.tup [x, y]) | _, _ => none := by
  simp only [resultV, List.mapM_cons, List.mapM_nil]
  cases resV fr H t <;> cases resV fr H u <;> rfl
theorem resV_tmp (t : Nat) (fr : List V) (H : Heap) : resV fr H (.tmp t) = some (fr.getD t .unk) := rfl
theorem resV_cell (t : Nat) (g : Bool) (n : Nat) (fr : List V) (H : Heap) : resV fr H (.cell t g n) = loadV H g n (fr.getD t .unk) := rfl

/-- A function of the table, opened. -/
theorem callW_fn {CP : Nat → Option CFun} {f : Nat} {c : ACFun} (hf : CP f = some (.code c)) {fst args cap : List V} (hl : (fst ++ args ++ cap).length ≤ c.ntmps) {base : Nat} {H : Heap} {r : V × Heap}
    (h : retC c.results (evC (callW CP) itW base c.body (frOf c.ntmps (startV c.ntmps (fst ++ args ++ cap) 0)) H) = some r) : callW CP (.fn f fst cap) args base H = some r := by
  refine callW_eq ?_
  simp only [evCall, hf]
  rw [start_eq hl]
  cases he : evC (callW CP) itW base c.body (frOf c.ntmps (startV c.ntmps (fst ++ args ++ cap) 0)) H with
  | none => rw [he] at h; cases h
  | some s =>
    rw [he] at h
    obtain ⟨e, f2, H2⟩ := s
    cases e <;> exact h

/-- A call made apart. -/
theorem evOp_callP {call : CallF} {base : Nat} {fr : List V} {H : Heap} {f : Nat} {args : List Opd} {us : List V} {v : V} {H' : Heap} {u : V} (h1 : (args.map (ev fr)).mapM (frz H 12) = some us) (h2 : call (.fn f [] []) us 0 [] = some (v, H')) (h3 : frz H' 12 v = some u)
    (h4 : ((args.map (ev fr)).all (isPure 12) || u.flat2) = true) : evOp call base fr H (.callP f args) = some (u, H) := by
  simp only [evOp, h1, h2, h3, if_pos h4]
theorem startV_cons (n : Nat) (v : V) (vs : List V) (k : Nat) : startV n (v :: vs) k = (k, v) :: startV n vs (k + 1) := rfl
/-! ### Rows that touch memory, operation by operation -/
def opK (call : CallF) (base : Nat) (o : AOper) (os : List AOper) (fr : List V) (H : Heap) : Option Bool → Option (List V × Heap)
  | some true => match evOp call base fr H o.op with
    | some (v, H') => evOps call base os (put o.dst v fr) H'
    | none => none
  | some false => evOps call base os (put o.dst und fr) H
  | none => none
def resK (call : CallF) (base : Nat) (d : Option Nat) (os : List AOper) (fr : List V) : Option (V × Heap) → Option (List V × Heap)
  | some (v, H') => evOps call base os (put d v fr) H'
  | none => none
def wantV (b : Bool) : V → Option Bool
  | .s (.bool x) => some (x == b)
  | .s (.tuple _) => some false
  | _ => none
section
variable {call : CallF} {base : Nat}
theorem evOps_nil (fr : List V) (H : Heap) : evOps call base [] fr H = some (fr, H) := rfl
theorem evOps_cons (d : Option Nat) (op : AOp) (os : List AOper) (fr : List V) (H : Heap) : evOps call base (⟨d, op, none⟩ :: os) fr H = resK call base d os fr (evOp call base fr H op) := by
  simp only [evOps, want]
  cases evOp call base fr H op <;> rfl
theorem evOps_guard (d : Option Nat) (op : AOp) (t : Nat) (b : Bool) (os : List AOper) (fr : List V) (H : Heap) : evOps call base (⟨d, op, some (t, b)⟩ :: os) fr H = opK call base ⟨d, op, some (t, b)⟩ os fr H (wantV b (fr.getD t .unk)) := by
  have : want ⟨d, op, some (t, b)⟩ fr = wantV b (fr.getD t .unk) := by
    simp only [want]
    cases fr.getD t .unk with
    | s v => cases v <;> rfl
    | _ => rfl
  simp only [evOps, this]
  cases wantV b (fr.getD t .unk) with
  | none => rfl
  | some p => cases p <;> rfl
theorem opK_bool (d : Option Nat) (op : AOp) (g : Option (Nat × Bool)) (os : List AOper) (fr : List V) (H : Heap) (p : Bool) : opK call base ⟨d, op, g⟩ os fr H (some p) = bif p then resK call base d os fr (evOp call base fr H op) else evOps call base os (put d und fr) H := by
  cases p
  · rfl
  · simp only [opK]; cases evOp call base fr H op <;> rfl
theorem wantV_bool (b x : Bool) : wantV b (.s (.bool x)) = some (x == b) := rfl
theorem wantV_und (b : Bool) : wantV b und = some false := rfl
theorem resK_some (d : Option Nat) (os : List AOper) (fr : List V) (v : V) (H : Heap) : resK call base d os fr (some (v, H)) = evOps call base os (put d v fr) H := rfl
theorem put_some (d : Nat) (v : V) (n : Nat) (en : Env) : put (some d) v (frOf n en) = frOf n (putV d v en) := frOf_set n en d v
theorem put_none (v : V) (fr : List V) : put none v fr = fr := rfl
theorem resK_cond (d : Option Nat) (os : List AOper) (fr : List V) (p : Bool) (x y : Option (V × Heap)) : resK call base d os fr (bif p then x else y) = bif p then resK call base d os fr x else resK call base d os fr y := by cases p <;> rfl
theorem opsC_cond (chk : List (Nat × Nat)) (ops : List AOper) (kill : List Nat) (p : Bool) (x y : Option (List V × Heap)) : opsC chk ops kill (bif p then x else y) = bif p then opsC chk ops kill x else opsC chk ops kill y := by cases p <;> rfl
end
theorem ev_t (fr : List V) (i : Nat) : ev fr (.t i) = fr.getD i .unk := rfl
theorem ev_c (fr : List V) (v : V) : ev fr (.c v) = v := rfl
def pickR (H : Heap) (x y : V) : V → Option (V × Heap)
  | .s (.bool p) => bif p then some (x, H) else some (y, H)
  | _ => none
theorem evOp_pick (call : CallF) (base : Nat) (fr : List V) (H : Heap) (c a b : Opd) : evOp call base fr H (.pick c a b) = pickR H (ev fr a) (ev fr b) (ev fr c) := by
  simp only [evOp]
  cases ev fr c with
  | s v => cases v with
    | bool p => cases p <;> rfl
    | _ => rfl
  | _ => rfl
theorem pickR_bool (H : Heap) (x y : V) (p : Bool) : pickR H x y (.s (.bool p)) = bif p then some (x, H) else some (y, H) := rfl
theorem pickR_same (H : Heap) (x y : Bool) (p : Bool) : pickR H (.s (.bool x)) (.s (.bool y)) (.s (.bool p)) = some (.s (.bool (bif p then x else y)), H) := by cases p <;> rfl

def RH (H : Heap) : Option V → Option (V × Heap)
  | some v => some (v, H)
  | none => none
theorem RH_some (H : Heap) (v : V) : RH H (some v) = some (v, H) := rfl
def RS : Option Heap → Option (V × Heap)
  | some H => some (und, H)
  | none => none
theorem RS_some (H : Heap) : RS (some H) = some (und, H) := rfl
section
variable (call : CallF) (base : Nat) (fr : List V) (H : Heap) (x y : Opd)
theorem op_bin (op : BinOp) : evOp call base fr H (.bin op x y) = RH H (xBin op (ev fr x) (ev fr y)) := by
  simp only [evOp]
  generalize ev fr x = v
  generalize ev fr y = u
  cases v <;> first | rfl | (cases u <;> first | rfl | (simp only [xBin]; cases binS op _ _ <;> rfl))
theorem op_eqB (n : Bool) : evOp call base fr H (.eqB n x y) = RH H (xEqB n (ev fr x) (ev fr y)) := by
  simp only [evOp]
  generalize ev fr x = v
  generalize ev fr y = u
  cases v <;> first | rfl | (rename_i q; cases q <;> first | rfl | (cases u <;> first | rfl | (rename_i p; cases p <;> rfl)))
theorem op_eqAgg (n : Bool) (ls : List Leaf) : evOp call base fr H (.eqAgg n ls x y) = RH H (xEqAgg n ls (ev fr x) (ev fr y)) := by
  simp only [evOp]
  generalize ev fr x = v
  generalize ev fr y = u
  cases v <;> first | rfl | (cases u <;> first | rfl | (simp only [xEqAgg]; cases eqLeaves ls _ _ <;> rfl))
theorem op_indexAddr (sz : Nat) : evOp call base fr H (.indexAddr sz x y) = RH H (xIndexAddr sz (ev fr x) (ev fr y)) := by
  simp only [evOp]
  generalize ev fr x = v
  generalize ev fr y = u
  cases v <;> first | rfl | (cases u <;> first | rfl | (rename_i q; cases q <;> first | rfl | (simp only [xIndexAddr]; split <;> first | rfl | (split <;> rename_i e <;> simp [e, RH]))))
theorem op_indexStr  : evOp call base fr H (.indexStr x y) = RH H (xIndexStr (ev fr x) (ev fr y)) := by
  simp only [evOp]
  generalize ev fr x = v
  generalize ev fr y = u
  cases v <;> first | rfl | (rename_i q; cases q <;> first | rfl | (cases u <;> first | rfl | (rename_i p; cases p <;> first | rfl | (simp only [xIndexStr]; split <;> first | rfl | (split <;> rename_i e <;> simp [e, RH])))))
theorem op_minmax (mx : Bool) : evOp call base fr H (.minmax mx x y) = RH H (xMinmax mx (ev fr x) (ev fr y)) := by
  simp only [evOp]
  generalize ev fr x = v
  generalize ev fr y = u
  cases v <;> first | rfl | (rename_i q; cases q <;> first | rfl | (cases u <;> first | rfl | (rename_i p; cases p <;> first | rfl | (simp only [xMinmax]; split <;> rfl))))
theorem op_nilCheck  : evOp call base fr H (.nilCheck x) = RH H (xNilCheck (ev fr x)) := by
  simp only [evOp]
  generalize ev fr x = v
  cases v <;> rfl
theorem op_eqNil (k : NK) (n : Bool) : evOp call base fr H (.eqNil k n x) = RH H (xEqNil k n (ev fr x)) := by
  simp only [evOp]
  generalize ev fr x = v
  simp only [xEqNil]; cases V.isNil k v <;> rfl
theorem op_un (op : UnOp) : evOp call base fr H (.un op x) = RH H (xUn op (ev fr x)) := by
  simp only [evOp]
  generalize ev fr x = v
  cases op <;> first | (cases v <;> first | rfl | (rename_i q; cases q <;> first | rfl | (simp only [xUn]; cases binS _ _ _ <;> rfl)))
theorem op_conv (k : IntKind) : evOp call base fr H (.conv k x) = RH H (xConv k (ev fr x)) := by
  simp only [evOp]
  generalize ev fr x = v
  cases v <;> first | rfl | (rename_i q; cases q <;> rfl)
theorem op_convId  : evOp call base fr H (.convId x) = RH H (xConvId (ev fr x)) := by
  simp only [evOp]
  generalize ev fr x = v
  cases v <;> first | rfl | (rename_i q; cases q <;> rfl)
theorem op_fieldAddr (off : Nat) : evOp call base fr H (.fieldAddr off x) = RH H (xFieldAddr off (ev fr x)) := by
  simp only [evOp]
  generalize ev fr x = v
  cases v <;> first | rfl | (simp only [xFieldAddr]; split <;> rfl)
theorem op_field (g : Bool) (off n : Nat) : evOp call base fr H (.field g off n x) = RH H (xField g off n (ev fr x)) := by
  simp only [evOp]
  generalize ev fr x = v
  cases v <;> first | rfl | (simp only [xField]; split <;> first | rfl | (cases shut g _ <;> rfl))
theorem op_extract (i : Nat) : evOp call base fr H (.extract x i) = RH H (xExtract i (ev fr x)) := by
  simp only [evOp]
  generalize ev fr x = v
  cases v <;> first | rfl | (simp only [xExtract]; split <;> rename_i e <;> simp [e, RH])
theorem op_lenS (k : NK) : evOp call base fr H (.lenS k x) = RH H (xLen H k (ev fr x)) := by
  cases k <;> (simp only [evOp]; generalize ev fr x = v; cases v <;> first | rfl | (rename_i q; cases q <;> first | rfl | (rename_i a; cases a <;> rfl) | (rename_i a b c; cases a <;> first | rfl | (cases b <;> first | rfl | (cases c <;> rfl)))) | (rename_i j; simp only [xLen]; generalize H[j]? = o; cases o <;> first | rfl | (rename_i ob; cases ob <;> rfl)))
theorem op_load (g : Bool) (n : Nat) : evOp call base fr H (.load g n x) = RH H (xLoad H g n (ev fr x)) := by
  simp only [evOp]
  generalize ev fr x = v
  simp only [xLoad]; cases loadV H g n v <;> rfl
theorem op_mapGet (kd : TypeDesc) (z : V) (ok : Bool) : evOp call base fr H (.mapGet kd z x y ok) = RH H (xMapGet H kd z ok (ev fr x) (ev fr y)) := by
  have h : ∀ r, evOp call base fr H (.mapGet kd z x y ok) = some r → r.2 = H := fun r h => by obtain ⟨v, H'⟩ := r; exact (evOp_r rfl h).1
  have h2 : evOp (fun _ _ _ _ => none) 0 [ev fr x, ev fr y] H (.mapGet kd z (.t 0) (.t 1) ok) = evOp call base fr H (.mapGet kd z x y ok) := rfl
  simp only [xMapGet, h2]
  cases hr : evOp call base fr H (.mapGet kd z x y ok) with
  | none => rfl
  | some r => obtain ⟨v, H'⟩ := r; have := h _ hr; simp only at this; subst this; rfl
theorem op_move : evOp call base fr H (.move x) = some (ev fr x, H) := rfl
theorem op_alloc (z : List V) : evOp call base fr H (.alloc z) = some (.ref H.length 0 0, H ++ [.cells 0 z]) := rfl
theorem op_box : evOp call base fr H (.box x) = if (ev fr x).cells.all V.one then some (.ref H.length 0 0, H ++ [.cells 0 (ev fr x).cells]) else none := rfl
theorem op_mapNew : evOp call base fr H .mapNew = some (.mp H.length, H ++ [.map []]) := rfl
theorem op_store (n : Nat) : evOp call base fr H (.store n x y) = RS (storeV H base n (ev fr y) (ev fr x)) := by
  simp only [evOp]; cases storeV H base n (ev fr y) (ev fr x) <;> rfl
theorem op_mkFn (f : Nat) (a b : List Opd) : evOp call base fr H (.mkFn f a b) = some (.fn f (a.map (ev fr)) (b.map (ev fr)), H) := rfl
theorem op_append (sz bytes : Nat) : evOp call base fr H (.append sz bytes x y) = appendV H base sz bytes (ev fr x) (ev fr y) := rfl
theorem op_call (args : List Opd) : evOp call base fr H (.call x args) = call (ev fr x) (args.map (ev fr)) base H := rfl
theorem op_callR (args : List Opd) : evOp call base fr H (.callR x args) = call (ev fr x) (args.map (ev fr)) H.length H := rfl
theorem op_build (z : List V) (places : List (Nat × Nat)) (parts : List (Nat × Opd)) : evOp call base fr H (.build z places parts) = RH H ((fillA (places[·]?) z (parts.map fun p => (p.1, ev fr p.2))).map .agg) := by
  simp only [evOp]; cases fillA (places[·]?) z (parts.map fun p => (p.1, ev fr p.2)) <;> rfl
def mkSlV (H : Heap) (sz len : Nat) : Option (List V) → Option (V × Heap)
  | some cs => some (if len = 0 then .esl else .sl H.length 0 0 len sz, H ++ [.cells 0 cs])
  | none => none
theorem mkSlV_some (sz len : Nat) (cs : List V) : mkSlV H sz len (some cs) = some (if len = 0 then .esl else .sl H.length 0 0 len sz, H ++ [.cells 0 cs]) := rfl
theorem op_buildSl (sz len : Nat) (z : List V) (parts : List (Nat × Opd)) : evOp call base fr H (.buildSl sz len z parts) = mkSlV H sz len (fillA (fun i => some (i * sz, sz)) z (parts.map fun p => (p.1, ev fr p.2))) := by
  simp only [evOp]; cases fillA (fun i => some (i * sz, sz)) z (parts.map fun p => (p.1, ev fr p.2)) <;> rfl
end
end Go.AM
