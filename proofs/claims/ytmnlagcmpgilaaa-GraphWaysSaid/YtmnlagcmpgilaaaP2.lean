/- Texts of the proof: AmF, AmG, AmL, AmQ0, AmP, GraphS. -/
import Derived.Test.YtmnlagcmpgilaaaP0
import Derived.Test.YtmnlagcmpgilaaaP1
import Derived.Laws.BitsLemmas
import Derived.KernelRfl
import Derived.Test.YtmnlagcmpgilaaaProg
set_option linter.all false
namespace Go.AM
abbrev Env := List (Nat × V)
def getV : Env → Nat → V
  | [], _ => .unk
  | (k, x) :: e, s => if s = k then x else getV e s
def putV (s : Nat) (v : V) : Env → Env
  | [] => [(s, v)]
  | (k, x) :: e => if s = k then (s, v) :: e else if s < k then (s, v) :: (k, x) :: e else (k, x) :: putV s v e
def killV (ks : List Nat) : Env → Env
  | [] => []
  | (k, x) :: e => if ks.contains k then killV ks e else (k, x) :: killV ks e
def frOf (n : Nat) (en : Env) : List V := (List.range n).map (getV en)
theorem getV_put (s t : Nat) (v : V) : ∀ en : Env, getV (putV s v en) t = if t = s then v else getV en t := by
  intro en
  induction en with
  | nil => rfl
  | cons p e ih =>
    obtain ⟨k, x⟩ := p
    simp only [putV]
    split
    · rename_i h; subst h; simp only [getV]; split <;> rfl
    · split
      · simp only [getV]
      · rename_i h1 h2
        simp only [getV, ih]
        by_cases h3 : t = k
        · subst h3; rw [if_pos rfl, if_neg (fun e => h1 e.symm), if_pos rfl]
        · rw [if_neg h3, if_neg h3]
theorem getV_kill (ks : List Nat) (t : Nat) : ∀ en : Env, getV (killV ks en) t = if ks.contains t then .unk else getV en t := by
  intro en
  induction en with
  | nil => simp [killV, getV]
  | cons p e ih =>
    obtain ⟨k, x⟩ := p
    simp only [killV]
    by_cases h1 : ks.contains k = true
    · rw [if_pos h1, ih]
      split
      · rfl
      · rename_i h2
        simp only [getV]
        rw [if_neg]
        rintro rfl
        exact h2 h1
    · rw [if_neg h1]
      simp only [getV, ih]
      by_cases h3 : t = k
      · subst h3; rw [if_pos rfl, if_neg h1, if_pos rfl]
      · rw [if_neg h3, if_neg h3]
theorem frOf_length (n : Nat) (en : Env) : (frOf n en).length = n := by simp [frOf]
theorem frOf_get {n : Nat} {en : Env} {s : Nat} (h : s < n) : (frOf n en).getD s .unk = getV en s := by simp [frOf, h]
theorem frOf_ext {n : Nat} {en en' : Env} (h : ∀ s, s < n → getV en s = getV en' s) : frOf n en = frOf n en' := by
  unfold frOf
  exact List.map_congr_left fun s hs => h s (by simpa using hs)
theorem fr_eq {n : Nat} {en : Env} {fr : List V} (hl : fr.length = n) (h : ∀ s, s < n → fr.getD s .unk = getV en s) : fr = frOf n en := by
  refine List.ext_getElem (by rw [hl, frOf_length]) fun i h1 h2 => ?_
  have := h i (by omega)
  simp only [frOf, List.getElem_map, List.getElem_range]
  rw [← this]
  simp [h1]
theorem frOf_set (n : Nat) (en : Env) (s : Nat) (v : V) : (frOf n en).set s v = frOf n (putV s v en) := by
  refine fr_eq (by rw [List.length_set, frOf_length]) fun t ht => ?_
  rw [getV_put]
  split
  · rename_i h; subst h; exact getD_set_same (by rw [frOf_length]; exact ht)
  · rename_i h; rw [getD_set_other (fun e => h e.symm), frOf_get ht]
theorem frOf_kill (n : Nat) (en : Env) (ks : List Nat) : killS ks (frOf n en) = frOf n (killV ks en) := by
  refine fr_eq (by rw [killS_length, frOf_length]) fun t ht => ?_
  rw [killS_getD, getV_kill]
  by_cases h : t ∈ ks
  · rw [if_pos h, if_pos (by simpa using h)]
  · rw [if_neg h, if_neg (by simpa using h), frOf_get ht]
def startV (n : Nat) : List V → Nat → Env
  | [], k => (List.range' k (n - k)).map fun s => (s, und)
  | v :: vs, k => (k, v) :: startV n vs (k + 1)
theorem getV_start (n : Nat) : ∀ (vs : List V) (k t : Nat), k ≤ t → t < n → vs.length + k ≤ n → getV (startV n vs k) t = if t - k < vs.length then vs.getD (t - k) .unk else und := by
  intro vs
  induction vs with
  | nil =>
    intro k t h1 h2 _
    simp only [startV, List.length_nil, Nat.not_lt_zero, if_false]
    have : ∀ (m j : Nat), j ≤ t → t < j + m → getV ((List.range' j m).map fun s => (s, und)) t = und := by
      intro m
      induction m with
      | zero => intro j a b; omega
      | succ m ih =>
        intro j a b
        simp only [List.range'_succ, List.map_cons, getV]
        split
        · rfl
        · exact ih (j + 1) (by omega) (by omega)
    exact this _ k h1 (by omega)
  | cons v vs ih =>
    intro k t h1 h2 h3
    simp only [startV, getV, List.length_cons] at h3 ⊢
    split
    · rename_i h; subst h; simp
    · rename_i h
      rw [ih (k + 1) t (by omega) h2 (by omega)]
      obtain ⟨d, hd⟩ : ∃ d, t - k = d + 1 := ⟨t - k - 1, by omega⟩
      have : t - (k + 1) = d := by omega
      rw [hd, this]
      simp only [Nat.add_lt_add_iff_right, List.getD_cons_succ]
theorem start_eq {n : Nat} {vs : List V} (h : vs.length ≤ n) : vs ++ List.replicate (n - vs.length) und = frOf n (startV n vs 0) := by
  refine fr_eq (by simp; omega) fun t ht => ?_
  rw [getV_start n vs 0 t (Nat.zero_le _) ht (by omega)]
  split
  · rename_i h1; simp at h1; simp only [List.getD, List.getElem?_append_left h1, Nat.sub_zero]
  · rename_i h1
    simp at h1
    simp only [List.getD, List.getElem?_append_right h1, List.getElem?_replicate]
    rw [if_pos (by omega)]
    rfl
theorem getV_nil (s : Nat) : getV [] s = .unk := rfl
theorem getV_cons (k : Nat) (x : V) (e : Env) (s : Nat) : getV ((k, x) :: e) s = if s = k then x else getV e s := rfl
theorem putV_nil (s : Nat) (v : V) : putV s v [] = [(s, v)] := rfl
theorem putV_cons (s : Nat) (v : V) (k : Nat) (x : V) (e : Env) : putV s v ((k, x) :: e) = if s = k then (s, v) :: e else if s < k then (s, v) :: (k, x) :: e else (k, x) :: putV s v e := rfl
theorem killV_nil (ks : List Nat) : killV ks [] = [] := rfl
theorem killV_cons (ks : List Nat) (k : Nat) (x : V) (e : Env) : killV ks ((k, x) :: e) = if ks.contains k then killV ks e else (k, x) :: killV ks e := rfl
theorem itW_eq (b : List V → Heap → Option St) (k : List Nat) (m : Nat) (fr : List V) (H : Heap) : itW b k m fr H = match b fr H with
    | some (.nrm, fr', H') => itW b k m (killS k fr') (trim m (killS k fr') H')
    | some (e, fr', H') => some (e, killS k fr', trim m (killS k fr') H')
    | none => none := by
  cases hb : b fr H with
  | none =>
    simp only []
    cases hi : itW b k m fr H with
    | none => rfl
    | some r =>
      obtain ⟨n, hn⟩ := itW_ex hi
      cases n with
      | zero => simp [iterN] at hn
      | succ n => simp [iterN, hb] at hn
  | some r =>
    obtain ⟨e, fr', H'⟩ := r
    cases e with
    | nrm =>
      simp only []
      cases hi : itW b k m (killS k fr') (trim m (killS k fr') H') with
      | some r => exact itW_go hb hi
      | none =>
        cases hj : itW b k m fr H with
        | none => rfl
        | some r =>
          obtain ⟨n, hn⟩ := itW_ex hj
          cases n with
          | zero => simp [iterN] at hn
          | succ n =>
            simp only [iterN, hb] at hn
            rw [itW_of hn] at hi
            cases hi
    | ext id => exact itW_stop (by simp) hb
    | ret => exact itW_stop (by simp) hb
def thenC (call : CallF) (it : IterF) (base : Nat) (b : ACode) : Option St → Option St
  | some (.nrm, fr, H) => evC call it base b fr H
  | r => r
def outC (id : Nat) : Option St → Option St
  | some (.ext id', fr, H) => some (if id' = id then .nrm else .ext id', fr, H)
  | r => r
def condC (call : CallF) (it : IterF) (base : Nat) (a b : ACode) (fr : List V) (H : Heap) : V → Option St
  | .s (.bool p) => bif p then evC call it base a fr H else evC call it base b fr H
  | _ => none
def rowC (H : Heap) : Option (List V) → Option St
  | some fr => some (.nrm, fr, H)
  | none => none
def opsC (chk : List (Nat × Nat)) (ops : List AOper) (kill : List Nat) : Option (List V × Heap) → Option St
  | some (fr, H) => bif chk.all (apartAt ops fr) then some (.nrm, killS kill fr, H) else none
  | none => none
section
variable {call : CallF} {it : IterF} {base : Nat}
theorem evC_skip (fr : List V) (H : Heap) : evC call it base .skip fr H = some (.nrm, fr, H) := rfl
theorem evC_exit (id : Nat) (fr : List V) (H : Heap) : evC call it base (.exit id) fr H = some (.ext id, fr, H) := rfl
theorem evC_ret (fr : List V) (H : Heap) : evC call it base .ret fr H = some (.ret, fr, H) := rfl
theorem evC_seq (a b : ACode) (fr : List V) (H : Heap) : evC call it base (.seq a b) fr H = thenC call it base b (evC call it base a fr H) := rfl
theorem evC_block (id : Nat) (c : ACode) (fr : List V) (H : Heap) : evC call it base (.block id c) fr H = outC id (evC call it base c fr H) := rfl
theorem evC_cond (c : Opd) (a b : ACode) (fr : List V) (H : Heap) : evC call it base (.cond c a b) fr H = condC call it base a b fr H (ev fr c) := by
  simp only [evC]
  cases ev fr c with
  | s v => cases v with
    | bool p => cases p <;> rfl
    | _ => rfl
  | _ => rfl
theorem evC_loop (kill : List Nat) (c : ACode) (fr : List V) (H : Heap) : evC call it base (.loop kill c) fr H = it (evC call it base c) kill H.length (killS kill fr) H := rfl
theorem evC_row (ops : List AOper) (kill outs : List Nat) (fr : List V) (H : Heap) : evC call it base (.regionE ops kill outs) fr H = rowC H (evTale (symAll ops kill outs) kill fr H) := rfl
theorem evC_ops (ops : List AOper) (chk : List (Nat × Nat)) (kill : List Nat) (fr : List V) (H : Heap) : evC call it base (.region ops chk kill) fr H = opsC chk ops kill (evOps call base ops fr H) := by
  simp only [evC]
  cases evOps call base ops fr H with
  | none => rfl
  | some p =>
    simp only [opsC]
    cases chk.all (apartAt ops p.1) <;> rfl
theorem thenC_nrm (b : ACode) (fr : List V) (H : Heap) : thenC call it base b (some (.nrm, fr, H)) = evC call it base b fr H := rfl
theorem thenC_ext (b : ACode) (i : Nat) (fr : List V) (H : Heap) : thenC call it base b (some (.ext i, fr, H)) = some (.ext i, fr, H) := rfl
theorem thenC_ret (b : ACode) (fr : List V) (H : Heap) : thenC call it base b (some (.ret, fr, H)) = some (.ret, fr, H) := rfl
theorem thenC_none (b : ACode) : thenC call it base b none = none := rfl
theorem thenC_cond (b : ACode) (p : Bool) (x y : Option St) : thenC call it base b (bif p then x else y) = bif p then thenC call it base b x else thenC call it base b y := by cases p <;> rfl
theorem outC_nrm (id : Nat) (fr : List V) (H : Heap) : outC id (some (.nrm, fr, H)) = some (.nrm, fr, H) := rfl
theorem outC_ret (id : Nat) (fr : List V) (H : Heap) : outC id (some (.ret, fr, H)) = some (.ret, fr, H) := rfl
theorem outC_ext (id i : Nat) (fr : List V) (H : Heap) : outC id (some (.ext i, fr, H)) = some (if i = id then .nrm else .ext i, fr, H) := rfl
theorem outC_none (id : Nat) : outC id none = none := rfl
theorem outC_cond (id : Nat) (p : Bool) (x y : Option St) : outC id (bif p then x else y) = bif p then outC id x else outC id y := by cases p <;> rfl
theorem condC_bool (a b : ACode) (fr : List V) (H : Heap) (p : Bool) : condC call it base a b fr H (.s (.bool p)) = bif p then evC call it base a fr H else evC call it base b fr H := rfl
theorem rowC_some (H : Heap) (fr : List V) : rowC H (some fr) = some (.nrm, fr, H) := rfl
theorem opsC_some (ops : List AOper) (kill : List Nat) (fr : List V) (H : Heap) : opsC [] ops kill (some (fr, H)) = some (.nrm, killS kill fr, H) := rfl
end
def taleR (fr : List V) (H : Heap) (os : List (Nat × E)) (kill : List Nat) (r : Bool) : Option (List V) := bif r then setOuts fr H os (killS kill fr) else none
def outE (fr : List V) (H : Heap) (os : List (Nat × E)) (fr' : List V) (s : Nat) : Option V → Option (List V)
  | some v => setOuts fr H os (fr'.set s v)
  | none => none
theorem evTale_some {m : Nat} {R : List (List (Nat × Bool × E) × E)} {os : List (Nat × E)} {kill : List Nat} {fr : List V} {H : Heap} (h : m ≤ fr.length) : evTale (some (m, R, os)) kill fr H = taleR fr H os kill (R.all fun r => reqE fr H r.1 r.2) := by
  simp only [evTale, if_pos h, taleR]
  cases R.all fun r => reqE fr H r.1 r.2 <;> rfl
theorem taleR_true (fr : List V) (H : Heap) (os : List (Nat × E)) (kill : List Nat) : taleR fr H os kill true = setOuts fr H os (killS kill fr) := rfl
theorem setOuts_nil (fr : List V) (H : Heap) (fr' : List V) : setOuts fr H [] fr' = some fr' := rfl
theorem setOuts_cons (fr : List V) (H : Heap) (s : Nat) (e : E) (os : List (Nat × E)) (fr' : List V) : setOuts fr H ((s, e) :: os) fr' = outE fr H os fr' s (evE fr H e) := rfl
theorem outE_some (fr : List V) (H : Heap) (os : List (Nat × E)) (fr' : List V) (s : Nat) (v : V) : outE fr H os fr' s (some v) = setOuts fr H os (fr'.set s v) := rfl
theorem reqE_nil (fr : List V) (H : Heap) (e : E) : reqE fr H [] e = (evE fr H e).isSome := rfl
theorem reqE_cons (fr : List V) (H : Heap) (s : Nat) (b : Bool) (x : E) (G : List (Nat × Bool × E)) (e : E) : reqE fr H ((s, b, x) :: G) e = reqB (evE fr H x) b (reqE fr H G e) := rfl
theorem reqB_bool (p b r : Bool) : reqB (some (.s (.bool p))) b r = bif p == b then r else true := by cases p <;> cases b <;> cases r <;> rfl
def V1 (f : V → Option V) : Option V → Option V
  | some x => f x
  | none => none
def V2 (f : V → V → Option V) : Option V → Option V → Option V
  | some x, some y => f x y
  | _, _ => none
theorem V1_some (f : V → Option V) (x : V) : V1 f (some x) = f x := rfl
theorem V2_some (f : V → V → Option V) (x y : V) : V2 f (some x) (some y) = f x y := rfl
theorem evE_t (fr : List V) (H : Heap) (i : Nat) : evE fr H (.t i) = some (fr.getD i .unk) := rfl
theorem evE_c (fr : List V) (H : Heap) (v : V) : evE fr H (.c v) = some v := rfl
theorem evE_pick (fr : List V) (H : Heap) (c a b : E) : evE fr H (.pick c a b) = pickO (evE fr H c) (evE fr H a) (evE fr H b) := rfl
def xBin (op : BinOp) : V → V → Option V
  | .s a, .s b => (binS op a b).map .s
  | _, _ => none
def xEqB (neg : Bool) : V → V → Option V
  | .s (.bool a), .s (.bool b) => some (bl ((a == b) != neg))
  | _, _ => none
def xEqNil (k : NK) (neg : Bool) (x : V) : Option V := (x.isNil k).map fun b => bl (b != neg)
def xEqAgg (neg : Bool) (ls : List Leaf) : V → V → Option V
  | .agg xs, .agg ys => (eqLeaves ls xs ys).map fun b => bl (b != neg)
  | _, _ => none
def xUn (op : UnOp) (x : V) : Option V := match op, x with
  | .not, .s (.bool b) => some (bl (!b))
  | .neg, .s (.int k n) => some (.s (.int k (k.wrap (0 - n))))
  | .xor, .s (.int k n) => (binS .xor (.int k (if k.signed then -1 else k.max)) (.int k n)).map .s
  | _, _ => none
def xConv (k : IntKind) : V → Option V
  | .s (.int _ n) => some (.s (.int k (k.wrap n)))
  | _ => none
def xConvId : V → Option V
  | .s (.string b) => some (.s (.string b))
  | _ => none
def xNilCheck : V → Option V
  | .ref id g off => some (.ref id g off)
  | .pref cs => some (.pref cs)
  | .fn f a b => some (.fn f a b)
  | .yld id => some (.yld id)
  | _ => none
def xFieldAddr (off : Nat) : V → Option V
  | .ref id g o => some (.ref id g (o + off))
  | .pref cs => if off ≤ cs.length then some (.pref (cs.drop off)) else none
  | _ => none
def xField (g : Bool) (off n : Nat) : V → Option V
  | .agg cs => if ((cs.drop off).take n).length = n then shut g ((cs.drop off).take n) else none
  | _ => none
def xIndexAddr (sz : Nat) : V → V → Option V
  | .sl id g off len sz', .s (.int _ n) => if 0 ≤ n ∧ n < len ∧ sz' = sz then some (.ref id g (off + n.toNat * sz)) else none
  | .psl es sz', .s (.int _ n) => if 0 ≤ n ∧ sz' = sz then (es[n.toNat]?).map .pref else none
  | _, _ => none
def xIndexStr : V → V → Option V
  | .s (.string b), .s (.int _ n) => if 0 ≤ n then (b.data.toList[n.toNat]?).map fun c => .s (.int .u8 c.toNat) else none
  | _, _ => none
def xExtract (i : Nat) : V → Option V
  | .tup vs => vs[i]?
  | _ => none
def xLen (H : Heap) : NK → V → Option V
  | .p, .s (.string b) => some (i64 b.size)
  | .s, .s (.slice none 0 0) => some (i64 0)
  | .m, .s (.map none) => some (i64 0)
  | .s, .esl => some (i64 0)
  | .s, .psl es _ => some (i64 es.length)
  | .s, .sl _ _ _ len _ => some (i64 len)
  | .m, .mp id => match H[id]? with
    | some (.map es) => some (i64 es.length)
    | _ => none
  | _, _ => none
def xMapGet (H : Heap) (kind : TypeDesc) (zero : V) (ok : Bool) (m k : V) : Option V := (evOp (fun _ _ _ _ => none) 0 [m, k] H (.mapGet kind zero (.t 0) (.t 1) ok)).map (·.1)
def xMinmax (mx : Bool) : V → V → Option V
  | .s (.int k a), .s (.int k' b) => if k = k' then some (.s (.int k (if mx then (if a < b then b else a) else (if b < a then b else a)))) else none
  | _, _ => none
def xLoad (H : Heap) (g : Bool) (n : Nat) (a : V) : Option V := loadV H g n a
def xSub (H : Heap) (o : AOp) : Option (List V) → Option V
  | some vs => (evOp (fun _ _ _ _ => none) 0 vs H o).map (·.1)
  | none => none
def L1 (x : Option V) (xs : Option (List V)) : Option (List V) := match x, xs with
  | some v, some vs => some (v :: vs)
  | _, _ => none
theorem L1_some (v : V) (vs : List V) : L1 (some v) (some vs) = some (v :: vs) := rfl
section
variable (fr : List V) (H : Heap) (x y : E)
theorem evEs_nil : evEs fr H [] = some [] := rfl
theorem evEs_cons (xs : List E) : evEs fr H (x :: xs) = L1 (evE fr H x) (evEs fr H xs) := by
  simp only [evEs]; cases evE fr H x <;> cases evEs fr H xs <;> rfl
theorem evE_op (o : AOp) (xs : List E) : evE fr H (.op o xs) = xSub H o (evEs fr H xs) := by
  simp only [evE]
  cases evEs fr H xs with
  | none => rfl
  | some vs => simp only [xSub]; cases evOp (fun _ _ _ _ => none) 0 vs H o <;> rfl
theorem op1 {o : AOp} {f : V → Option V} (h : ∀ v, xSub H o (some [v]) = f v) : evE fr H (.op o [x]) = V1 f (evE fr H x) := by
  rw [evE_op, evEs_cons, evEs_nil]
  cases evE fr H x with
  | none => rfl
  | some v => exact h v
theorem op2 {o : AOp} {f : V → V → Option V} (h : ∀ v u, xSub H o (some [v, u]) = f v u) : evE fr H (.op o [x, y]) = V2 f (evE fr H x) (evE fr H y) := by
  rw [evE_op, evEs_cons, evEs_cons, evEs_nil]
  cases evE fr H x with
  | none => rfl
  | some v => cases evE fr H y with
    | none => rfl
    | some u => exact h v u
theorem op2L {o : AOp} {f : V → V → Option V} {c : V} (h : ∀ v, xSub H o (some [v, c]) = f v c) : evE fr H (.op o [x, .c c]) = V2 f (evE fr H x) (some c) := by
  rw [evE_op, evEs_cons, evEs_cons, evEs_nil, evE_c]
  cases evE fr H x with
  | none => rfl
  | some v => exact h v
theorem op2R {o : AOp} {f : V → V → Option V} {c : V} (h : ∀ v, xSub H o (some [c, v]) = f c v) : evE fr H (.op o [.c c, y]) = V2 f (some c) (evE fr H y) := by
  rw [evE_op, evEs_cons, evEs_cons, evEs_nil, evE_c]
  cases evE fr H y with
  | none => rfl
  | some v => exact h v
theorem evE_bin (op : BinOp) : evE fr H (.op (.bin op (.t 0) (.t 1)) [x, y]) = V2 (xBin op) (evE fr H x) (evE fr H y) := op2 _ _ _ _ fun v u => by
  cases v <;> first | rfl | (cases u <;> first | rfl | (simp only [xSub, evOp, ev, List.getD_cons_zero, List.getD_cons_succ, xBin]; cases binS op _ _ <;> rfl))
theorem evE_binL (op : BinOp) (c : V) : evE fr H (.op (.bin op (.t 0) (.c c)) [x, .c c]) = V2 (xBin op) (evE fr H x) (some c) := op2L _ _ _ fun v => by
  cases v <;> first | rfl | (cases c <;> first | rfl | (simp only [xSub, evOp, ev, List.getD_cons_zero, List.getD_cons_succ, xBin]; cases binS op _ _ <;> rfl))
theorem evE_binR (op : BinOp) (c : V) : evE fr H (.op (.bin op (.c c) (.t 1)) [.c c, y]) = V2 (xBin op) (some c) (evE fr H y) := op2R _ _ _ fun v => by
  cases c <;> first | rfl | (cases v <;> first | rfl | (simp only [xSub, evOp, ev, List.getD_cons_zero, List.getD_cons_succ, xBin]; cases binS op _ _ <;> rfl))
theorem evE_eqB (n : Bool) : evE fr H (.op (.eqB n (.t 0) (.t 1)) [x, y]) = V2 (xEqB n) (evE fr H x) (evE fr H y) := op2 _ _ _ _ fun v u => by
  cases v <;> first | rfl | (rename_i q; cases q <;> first | rfl | (cases u <;> first | rfl | (rename_i p; cases p <;> rfl)))
theorem evE_eqBL (n : Bool) (c : V) : evE fr H (.op (.eqB n (.t 0) (.c c)) [x, .c c]) = V2 (xEqB n) (evE fr H x) (some c) := op2L _ _ _ fun v => by
  cases v <;> first | rfl | (rename_i q; cases q <;> first | rfl | (cases c <;> first | rfl | (rename_i p; cases p <;> rfl)))
theorem evE_eqBR (n : Bool) (c : V) : evE fr H (.op (.eqB n (.c c) (.t 1)) [.c c, y]) = V2 (xEqB n) (some c) (evE fr H y) := op2R _ _ _ fun v => by
  cases c <;> first | rfl | (rename_i q; cases q <;> first | rfl | (cases v <;> first | rfl | (rename_i p; cases p <;> rfl)))
theorem evE_eqAgg (n : Bool) (ls : List Leaf) : evE fr H (.op (.eqAgg n ls (.t 0) (.t 1)) [x, y]) = V2 (xEqAgg n ls) (evE fr H x) (evE fr H y) := op2 _ _ _ _ fun v u => by
  cases v <;> first | rfl | (cases u <;> first | rfl | (simp only [xSub, evOp, ev, List.getD_cons_zero, List.getD_cons_succ, xEqAgg]; cases eqLeaves ls _ _ <;> rfl))
theorem evE_eqAggL (n : Bool) (ls : List Leaf) (c : V) : evE fr H (.op (.eqAgg n ls (.t 0) (.c c)) [x, .c c]) = V2 (xEqAgg n ls) (evE fr H x) (some c) := op2L _ _ _ fun v => by
  cases v <;> first | rfl | (cases c <;> first | rfl | (simp only [xSub, evOp, ev, List.getD_cons_zero, List.getD_cons_succ, xEqAgg]; cases eqLeaves ls _ _ <;> rfl))
theorem evE_eqAggR (n : Bool) (ls : List Leaf) (c : V) : evE fr H (.op (.eqAgg n ls (.c c) (.t 1)) [.c c, y]) = V2 (xEqAgg n ls) (some c) (evE fr H y) := op2R _ _ _ fun v => by
  cases c <;> first | rfl | (cases v <;> first | rfl | (simp only [xSub, evOp, ev, List.getD_cons_zero, List.getD_cons_succ, xEqAgg]; cases eqLeaves ls _ _ <;> rfl))
theorem evE_indexAddr (sz : Nat) : evE fr H (.op (.indexAddr sz (.t 0) (.t 1)) [x, y]) = V2 (xIndexAddr sz) (evE fr H x) (evE fr H y) := op2 _ _ _ _ fun v u => by
  cases v <;> first | rfl | (cases u <;> first | rfl | (rename_i q; cases q <;> first | rfl | (simp only [xSub, evOp, ev, List.getD_cons_zero, List.getD_cons_succ, xIndexAddr]; split <;> first | rfl | (split <;> rename_i e <;> simp [e]))))
theorem evE_indexAddrL (sz : Nat) (c : V) : evE fr H (.op (.indexAddr sz (.t 0) (.c c)) [x, .c c]) = V2 (xIndexAddr sz) (evE fr H x) (some c) := op2L _ _ _ fun v => by
  cases v <;> first | rfl | (cases c <;> first | rfl | (rename_i q; cases q <;> first | rfl | (simp only [xSub, evOp, ev, List.getD_cons_zero, List.getD_cons_succ, xIndexAddr]; split <;> first | rfl | (split <;> rename_i e <;> simp [e]))))
theorem evE_indexAddrR (sz : Nat) (c : V) : evE fr H (.op (.indexAddr sz (.c c) (.t 1)) [.c c, y]) = V2 (xIndexAddr sz) (some c) (evE fr H y) := op2R _ _ _ fun v => by
  cases c <;> first | rfl | (cases v <;> first | rfl | (rename_i q; cases q <;> first | rfl | (simp only [xSub, evOp, ev, List.getD_cons_zero, List.getD_cons_succ, xIndexAddr]; split <;> first | rfl | (split <;> rename_i e <;> simp [e]))))
theorem evE_indexStr  : evE fr H (.op (.indexStr (.t 0) (.t 1)) [x, y]) = V2 (xIndexStr) (evE fr H x) (evE fr H y) := op2 _ _ _ _ fun v u => by
  cases v <;> first | rfl | (rename_i q; cases q <;> first | rfl | (cases u <;> first | rfl | (rename_i p; cases p <;> first | rfl | (simp only [xSub, evOp, ev, List.getD_cons_zero, List.getD_cons_succ, xIndexStr]; split <;> first | rfl | (split <;> rename_i e <;> simp [e])))))
theorem evE_indexStrL  (c : V) : evE fr H (.op (.indexStr (.t 0) (.c c)) [x, .c c]) = V2 (xIndexStr) (evE fr H x) (some c) := op2L _ _ _ fun v => by
  cases v <;> first | rfl | (rename_i q; cases q <;> first | rfl | (cases c <;> first | rfl | (rename_i p; cases p <;> first | rfl | (simp only [xSub, evOp, ev, List.getD_cons_zero, List.getD_cons_succ, xIndexStr]; split <;> first | rfl | (split <;> rename_i e <;> simp [e])))))
theorem evE_indexStrR  (c : V) : evE fr H (.op (.indexStr (.c c) (.t 1)) [.c c, y]) = V2 (xIndexStr) (some c) (evE fr H y) := op2R _ _ _ fun v => by
  cases c <;> first | rfl | (rename_i q; cases q <;> first | rfl | (cases v <;> first | rfl | (rename_i p; cases p <;> first | rfl | (simp only [xSub, evOp, ev, List.getD_cons_zero, List.getD_cons_succ, xIndexStr]; split <;> first | rfl | (split <;> rename_i e <;> simp [e])))))
theorem evE_minmax (mx : Bool) : evE fr H (.op (.minmax mx (.t 0) (.t 1)) [x, y]) = V2 (xMinmax mx) (evE fr H x) (evE fr H y) := op2 _ _ _ _ fun v u => by
  cases v <;> first | rfl | (rename_i q; cases q <;> first | rfl | (cases u <;> first | rfl | (rename_i p; cases p <;> first | rfl | (simp only [xSub, evOp, ev, List.getD_cons_zero, List.getD_cons_succ, xMinmax]; split <;> rfl))))
theorem evE_minmaxL (mx : Bool) (c : V) : evE fr H (.op (.minmax mx (.t 0) (.c c)) [x, .c c]) = V2 (xMinmax mx) (evE fr H x) (some c) := op2L _ _ _ fun v => by
  cases v <;> first | rfl | (rename_i q; cases q <;> first | rfl | (cases c <;> first | rfl | (rename_i p; cases p <;> first | rfl | (simp only [xSub, evOp, ev, List.getD_cons_zero, List.getD_cons_succ, xMinmax]; split <;> rfl))))
theorem evE_minmaxR (mx : Bool) (c : V) : evE fr H (.op (.minmax mx (.c c) (.t 1)) [.c c, y]) = V2 (xMinmax mx) (some c) (evE fr H y) := op2R _ _ _ fun v => by
  cases c <;> first | rfl | (rename_i q; cases q <;> first | rfl | (cases v <;> first | rfl | (rename_i p; cases p <;> first | rfl | (simp only [xSub, evOp, ev, List.getD_cons_zero, List.getD_cons_succ, xMinmax]; split <;> rfl))))
theorem evE_mapGet (kd : TypeDesc) (z : V) (ok : Bool) : evE fr H (.op (.mapGet kd z (.t 0) (.t 1) ok) [x, y]) = V2 (xMapGet H kd z ok) (evE fr H x) (evE fr H y) := op2 _ _ _ _ fun v u => by
  rfl
theorem evE_mapGetL (kd : TypeDesc) (z : V) (ok : Bool) (c : V) : evE fr H (.op (.mapGet kd z (.t 0) (.c c) ok) [x, .c c]) = V2 (xMapGet H kd z ok) (evE fr H x) (some c) := op2L _ _ _ fun v => by
  rfl
theorem evE_mapGetR (kd : TypeDesc) (z : V) (ok : Bool) (c : V) : evE fr H (.op (.mapGet kd z (.c c) (.t 1) ok) [.c c, y]) = V2 (xMapGet H kd z ok) (some c) (evE fr H y) := op2R _ _ _ fun v => by
  rfl
theorem evE_nilCheck  : evE fr H (.op (.nilCheck (.t 0)) [x]) = V1 (xNilCheck) (evE fr H x) := op1 _ _ _ fun v => by
  cases v <;> rfl
theorem evE_eqNil (k : NK) (n : Bool) : evE fr H (.op (.eqNil k n (.t 0)) [x]) = V1 (xEqNil k n) (evE fr H x) := op1 _ _ _ fun v => by
  simp only [xSub, evOp, ev, List.getD_cons_zero, xEqNil]; cases V.isNil k v <;> rfl
theorem evE_un (op : UnOp) : evE fr H (.op (.un op (.t 0)) [x]) = V1 (xUn op) (evE fr H x) := op1 _ _ _ fun v => by
  cases op <;> first | (cases v <;> first | rfl | (rename_i q; cases q <;> first | rfl | (simp only [xSub, evOp, ev, List.getD_cons_zero, xUn]; cases binS _ _ _ <;> rfl)))
theorem evE_conv (k : IntKind) : evE fr H (.op (.conv k (.t 0)) [x]) = V1 (xConv k) (evE fr H x) := op1 _ _ _ fun v => by
  cases v <;> first | rfl | (rename_i q; cases q <;> rfl)
theorem evE_convId  : evE fr H (.op (.convId (.t 0)) [x]) = V1 (xConvId) (evE fr H x) := op1 _ _ _ fun v => by
  cases v <;> first | rfl | (rename_i q; cases q <;> rfl)
theorem evE_fieldAddr (off : Nat) : evE fr H (.op (.fieldAddr off (.t 0)) [x]) = V1 (xFieldAddr off) (evE fr H x) := op1 _ _ _ fun v => by
  cases v <;> first | rfl | (simp only [xSub, evOp, ev, List.getD_cons_zero, xFieldAddr]; split <;> rfl)
theorem evE_field (g : Bool) (off n : Nat) : evE fr H (.op (.field g off n (.t 0)) [x]) = V1 (xField g off n) (evE fr H x) := op1 _ _ _ fun v => by
  cases v <;> first | rfl | (simp only [xSub, evOp, ev, List.getD_cons_zero, xField]; split <;> first | rfl | (cases shut g _ <;> rfl))
theorem evE_extract (i : Nat) : evE fr H (.op (.extract (.t 0) i) [x]) = V1 (xExtract i) (evE fr H x) := op1 _ _ _ fun v => by
  cases v <;> first | rfl | (simp only [xSub, evOp, ev, List.getD_cons_zero, xExtract]; split <;> rename_i e <;> simp [e])
theorem evE_lenS (k : NK) : evE fr H (.op (.lenS k (.t 0)) [x]) = V1 (xLen H k) (evE fr H x) := op1 _ _ _ fun v => by
  cases k <;> cases v <;> first | rfl | (rename_i q; cases q <;> first | rfl | (rename_i a; cases a <;> rfl) | (rename_i a b c; cases a <;> first | rfl | (cases b <;> first | rfl | (cases c <;> rfl)))) | (rename_i j; simp only [xSub, evOp, ev, List.getD_cons_zero, xLen]; generalize H[j]? = o; cases o <;> first | rfl | (rename_i ob; cases ob <;> rfl))
theorem evE_load (g : Bool) (n : Nat) : evE fr H (.op (.load g n (.t 0)) [x]) = V1 (xLoad H g n) (evE fr H x) := op1 _ _ _ fun v => by
  simp only [xSub, evOp, ev, List.getD_cons_zero, xLoad]; cases loadV H g n v <;> rfl
theorem evE_build (z : List V) (p : List (Nat × Nat)) (ps : List (Nat × Opd)) (xs : List E) : evE fr H (.op (.build z p ps) xs) = xSub H (.build z p ps) (evEs fr H xs) := evE_op _ _ _ _
theorem evE_mkFn (f : Nat) (a b : List Opd) (xs : List E) : evE fr H (.op (.mkFn f a b) xs) = xSub H (.mkFn f a b) (evEs fr H xs) := evE_op _ _ _ _
theorem evE_subStr (a : Opd) (lo hi : Option Opd) (xs : List E) : evE fr H (.op (.subStr a lo hi) xs) = xSub H (.subStr a lo hi) (evEs fr H xs) := evE_op _ _ _ _
theorem evE_subSl (sz : Nat) (a : Opd) (lo hi mx : Option Opd) (xs : List E) : evE fr H (.op (.subSl sz a lo hi mx) xs) = xSub H (.subSl sz a lo hi mx) (evEs fr H xs) := evE_op _ _ _ _
end
theorem evTale_free {m : Nat} {os : List (Nat × E)} {kill : List Nat} {fr : List V} {H : Heap} (h : m ≤ fr.length) : evTale (some (m, [], os)) kill fr H = setOuts fr H os (killS kill fr) := by
  simp only [evTale, if_pos h, List.all_nil, if_true]
theorem free_row {m : Nat} {os : List (Nat × E)} {kill : List Nat} {n : Nat} {en : Env} {H : Heap} (h : m ≤ n) : evTale (some (m, [], os)) kill (frOf n en) H = setOuts (frOf n en) H os (frOf n (killV kill en)) := by
  rw [evTale_free (by rw [frOf_length]; exact h), frOf_kill]
theorem kept_row {m : Nat} {R : List (List (Nat × Bool × E) × E)} {os : List (Nat × E)} {kill : List Nat} {n : Nat} {en : Env} {H : Heap} (h : m ≤ n) : evTale (some (m, R, os)) kill (frOf n en) H = taleR (frOf n en) H os kill (R.all fun r => reqE (frOf n en) H r.1 r.2) := by
  rw [evTale_some (by rw [frOf_length]; exact h)]
noncomputable def stepW (b : List V → Heap → Option St) (k : List Nat) (m : Nat) : Option St → Option St
  | some (.nrm, fr', H') => itW b k m (killS k fr') (trim m (killS k fr') H')
  | some (e, fr', H') => some (e, killS k fr', trim m (killS k fr') H')
  | none => none
theorem itW_step (b : List V → Heap → Option St) (k : List Nat) (m : Nat) (fr : List V) (H : Heap) : itW b k m fr H = stepW b k m (b fr H) := by
  rw [itW_eq]
  cases b fr H with
  | none => rfl
  | some r => obtain ⟨e, f, h⟩ := r; cases e <;> rfl
section
variable (b : List V → Heap → Option St) (k : List Nat) (m : Nat)
theorem stepW_nrm (fr : List V) (H : Heap) : stepW b k m (some (.nrm, fr, H)) = itW b k m (killS k fr) (trim m (killS k fr) H) := rfl
theorem stepW_ext (i : Nat) (fr : List V) (H : Heap) : stepW b k m (some (.ext i, fr, H)) = some (.ext i, killS k fr, trim m (killS k fr) H) := rfl
theorem stepW_ret (fr : List V) (H : Heap) : stepW b k m (some (.ret, fr, H)) = some (.ret, killS k fr, trim m (killS k fr) H) := rfl
theorem stepW_cond (p : Bool) (x y : Option St) : stepW b k m (bif p then x else y) = bif p then stepW b k m x else stepW b k m y := by cases p <;> rfl
end
theorem trim_self (fr : List V) (H : Heap) : trim H.length fr H = H := trim_same rfl
def retC (rs : List ARes) : Option St → Option (V × Heap)
  | some (.nrm, fr, H) => (resultV rs fr H).map fun v => (v, H)
  | some (.ret, fr, H) => (resultV rs fr H).map fun v => (v, H)
  | _ => none
theorem retC_nrm (rs : List ARes) (fr : List V) (H : Heap) : retC rs (some (.nrm, fr, H)) = (resultV rs fr H).map fun v => (v, H) := rfl
theorem retC_ret (rs : List ARes) (fr : List V) (H : Heap) : retC rs (some (.ret, fr, H)) = (resultV rs fr H).map fun v => (v, H) := rfl
theorem retC_cond (rs : List ARes) (p : Bool) (x y : Option St) : retC rs (bif p then x else y) = bif p then retC rs x else retC rs y := by cases p <;> rfl
theorem resultV1 (t : ARes) (fr : List V) (H : Heap) : resultV [t] fr H = resV fr H t := by
  simp only [resultV, List.mapM_cons, List.mapM_nil]
  cases resV fr H t <;> rfl
theorem resultV2 (t u : ARes) (fr : List V) (H : Heap) : resultV [t, u] fr H = match resV fr H t, resV fr H u with | some x, some y => some (.tup [x, y]) | _, _ => none := by
  simp only [resultV, List.mapM_cons, List.mapM_nil]
  cases resV fr H t <;> cases resV fr H u <;> rfl
theorem resV_tmp (t : Nat) (fr : List V) (H : Heap) : resV fr H (.tmp t) = some (fr.getD t .unk) := rfl
theorem resV_cell (t : Nat) (g : Bool) (n : Nat) (fr : List V) (H : Heap) : resV fr H (.cell t g n) = loadV H g n (fr.getD t .unk) := rfl
theorem callW_fn {CP : Nat → Option CFun} {f : Nat} {c : ACFun} (hf : CP f = some (.code c)) {fst args cap : List V} (hl : (fst ++ args ++ cap).length ≤ c.ntmps) {base : Nat} {H : Heap} {r : V × Heap}
    (h : retC c.results (evC (callW CP) itW base c.body (frOf c.ntmps (startV c.ntmps (fst ++ args ++ cap) 0)) H) = some r) : callW CP (.fn f fst cap) args base H = some r := by
  refine callW_eq ?_
  simp only [evCall, hf]
  rw [start_eq hl]
  cases he : evC (callW CP) itW base c.body (frOf c.ntmps (startV c.ntmps (fst ++ args ++ cap) 0)) H with
  | none => rw [he] at h; cases h
  | some s =>
    rw [he] at h
    obtain ⟨e, f2, H2⟩ := s
    cases e <;> exact h
theorem startV_cons (n : Nat) (v : V) (vs : List V) (k : Nat) : startV n (v :: vs) k = (k, v) :: startV n vs (k + 1) := rfl
def opK (call : CallF) (base : Nat) (o : AOper) (os : List AOper) (fr : List V) (H : Heap) : Option Bool → Option (List V × Heap)
  | some true => match evOp call base fr H o.op with
    | some (v, H') => evOps call base os (put o.dst v fr) H'
    | none => none
  | some false => evOps call base os (put o.dst und fr) H
  | none => none
def resK (call : CallF) (base : Nat) (d : Option Nat) (os : List AOper) (fr : List V) : Option (V × Heap) → Option (List V × Heap)
  | some (v, H') => evOps call base os (put d v fr) H'
  | none => none
def wantV (b : Bool) : V → Option Bool
  | .s (.bool x) => some (x == b)
  | .s (.tuple _) => some false
  | _ => none
section
variable {call : CallF} {base : Nat}
theorem evOps_nil (fr : List V) (H : Heap) : evOps call base [] fr H = some (fr, H) := rfl
theorem evOps_cons (d : Option Nat) (op : AOp) (os : List AOper) (fr : List V) (H : Heap) : evOps call base (⟨d, op, none⟩ :: os) fr H = resK call base d os fr (evOp call base fr H op) := by
  simp only [evOps, want]
  cases evOp call base fr H op <;> rfl
theorem evOps_guard (d : Option Nat) (op : AOp) (t : Nat) (b : Bool) (os : List AOper) (fr : List V) (H : Heap) : evOps call base (⟨d, op, some (t, b)⟩ :: os) fr H = opK call base ⟨d, op, some (t, b)⟩ os fr H (wantV b (fr.getD t .unk)) := by
  have : want ⟨d, op, some (t, b)⟩ fr = wantV b (fr.getD t .unk) := by
    simp only [want]
    cases fr.getD t .unk with
    | s v => cases v <;> rfl
    | _ => rfl
  simp only [evOps, this]
  cases wantV b (fr.getD t .unk) with
  | none => rfl
  | some p => cases p <;> rfl
theorem opK_bool (d : Option Nat) (op : AOp) (g : Option (Nat × Bool)) (os : List AOper) (fr : List V) (H : Heap) (p : Bool) : opK call base ⟨d, op, g⟩ os fr H (some p) = bif p then resK call base d os fr (evOp call base fr H op) else evOps call base os (put d und fr) H := by
  cases p
  · rfl
  · simp only [opK]; cases evOp call base fr H op <;> rfl
theorem wantV_bool (b x : Bool) : wantV b (.s (.bool x)) = some (x == b) := rfl
theorem wantV_und (b : Bool) : wantV b und = some false := rfl
theorem resK_some (d : Option Nat) (os : List AOper) (fr : List V) (v : V) (H : Heap) : resK call base d os fr (some (v, H)) = evOps call base os (put d v fr) H := rfl
theorem put_some (d : Nat) (v : V) (n : Nat) (en : Env) : put (some d) v (frOf n en) = frOf n (putV d v en) := frOf_set n en d v
theorem put_none (v : V) (fr : List V) : put none v fr = fr := rfl
theorem resK_cond (d : Option Nat) (os : List AOper) (fr : List V) (p : Bool) (x y : Option (V × Heap)) : resK call base d os fr (bif p then x else y) = bif p then resK call base d os fr x else resK call base d os fr y := by cases p <;> rfl
theorem opsC_cond (chk : List (Nat × Nat)) (ops : List AOper) (kill : List Nat) (p : Bool) (x y : Option (List V × Heap)) : opsC chk ops kill (bif p then x else y) = bif p then opsC chk ops kill x else opsC chk ops kill y := by cases p <;> rfl
end
theorem ev_t (fr : List V) (i : Nat) : ev fr (.t i) = fr.getD i .unk := rfl
theorem ev_c (fr : List V) (v : V) : ev fr (.c v) = v := rfl
def pickR (H : Heap) (x y : V) : V → Option (V × Heap)
  | .s (.bool p) => bif p then some (x, H) else some (y, H)
  | _ => none
theorem evOp_pick (call : CallF) (base : Nat) (fr : List V) (H : Heap) (c a b : Opd) : evOp call base fr H (.pick c a b) = pickR H (ev fr a) (ev fr b) (ev fr c) := by
  simp only [evOp]
  cases ev fr c with
  | s v => cases v with
    | bool p => cases p <;> rfl
    | _ => rfl
  | _ => rfl
theorem pickR_bool (H : Heap) (x y : V) (p : Bool) : pickR H x y (.s (.bool p)) = bif p then some (x, H) else some (y, H) := rfl
theorem pickR_same (H : Heap) (x y : Bool) (p : Bool) : pickR H (.s (.bool x)) (.s (.bool y)) (.s (.bool p)) = some (.s (.bool (bif p then x else y)), H) := by cases p <;> rfl
def RH (H : Heap) : Option V → Option (V × Heap)
  | some v => some (v, H)
  | none => none
theorem RH_some (H : Heap) (v : V) : RH H (some v) = some (v, H) := rfl
def RS : Option Heap → Option (V × Heap)
  | some H => some (und, H)
  | none => none
theorem RS_some (H : Heap) : RS (some H) = some (und, H) := rfl
section
variable (call : CallF) (base : Nat) (fr : List V) (H : Heap) (x y : Opd)
theorem op_bin (op : BinOp) : evOp call base fr H (.bin op x y) = RH H (xBin op (ev fr x) (ev fr y)) := by
  simp only [evOp]
  generalize ev fr x = v
  generalize ev fr y = u
  cases v <;> first | rfl | (cases u <;> first | rfl | (simp only [xBin]; cases binS op _ _ <;> rfl))
theorem op_eqB (n : Bool) : evOp call base fr H (.eqB n x y) = RH H (xEqB n (ev fr x) (ev fr y)) := by
  simp only [evOp]
  generalize ev fr x = v
  generalize ev fr y = u
  cases v <;> first | rfl | (rename_i q; cases q <;> first | rfl | (cases u <;> first | rfl | (rename_i p; cases p <;> rfl)))
theorem op_eqAgg (n : Bool) (ls : List Leaf) : evOp call base fr H (.eqAgg n ls x y) = RH H (xEqAgg n ls (ev fr x) (ev fr y)) := by
  simp only [evOp]
  generalize ev fr x = v
  generalize ev fr y = u
  cases v <;> first | rfl | (cases u <;> first | rfl | (simp only [xEqAgg]; cases eqLeaves ls _ _ <;> rfl))
theorem op_indexAddr (sz : Nat) : evOp call base fr H (.indexAddr sz x y) = RH H (xIndexAddr sz (ev fr x) (ev fr y)) := by
  simp only [evOp]
  generalize ev fr x = v
  generalize ev fr y = u
  cases v <;> first | rfl | (cases u <;> first | rfl | (rename_i q; cases q <;> first | rfl | (simp only [xIndexAddr]; split <;> first | rfl | (split <;> rename_i e <;> simp [e, RH]))))
theorem op_indexStr  : evOp call base fr H (.indexStr x y) = RH H (xIndexStr (ev fr x) (ev fr y)) := by
  simp only [evOp]
  generalize ev fr x = v
  generalize ev fr y = u
  cases v <;> first | rfl | (rename_i q; cases q <;> first | rfl | (cases u <;> first | rfl | (rename_i p; cases p <;> first | rfl | (simp only [xIndexStr]; split <;> first | rfl | (split <;> rename_i e <;> simp [e, RH])))))
theorem op_minmax (mx : Bool) : evOp call base fr H (.minmax mx x y) = RH H (xMinmax mx (ev fr x) (ev fr y)) := by
  simp only [evOp]
  generalize ev fr x = v
  generalize ev fr y = u
  cases v <;> first | rfl | (rename_i q; cases q <;> first | rfl | (cases u <;> first | rfl | (rename_i p; cases p <;> first | rfl | (simp only [xMinmax]; split <;> rfl))))
theorem op_nilCheck  : evOp call base fr H (.nilCheck x) = RH H (xNilCheck (ev fr x)) := by
  simp only [evOp]
  generalize ev fr x = v
  cases v <;> rfl
theorem op_eqNil (k : NK) (n : Bool) : evOp call base fr H (.eqNil k n x) = RH H (xEqNil k n (ev fr x)) := by
  simp only [evOp]
  generalize ev fr x = v
  simp only [xEqNil]; cases V.isNil k v <;> rfl
theorem op_un (op : UnOp) : evOp call base fr H (.un op x) = RH H (xUn op (ev fr x)) := by
  simp only [evOp]
  generalize ev fr x = v
  cases op <;> first | (cases v <;> first | rfl | (rename_i q; cases q <;> first | rfl | (simp only [xUn]; cases binS _ _ _ <;> rfl)))
theorem op_conv (k : IntKind) : evOp call base fr H (.conv k x) = RH H (xConv k (ev fr x)) := by
  simp only [evOp]
  generalize ev fr x = v
  cases v <;> first | rfl | (rename_i q; cases q <;> rfl)
theorem op_convId  : evOp call base fr H (.convId x) = RH H (xConvId (ev fr x)) := by
  simp only [evOp]
  generalize ev fr x = v
  cases v <;> first | rfl | (rename_i q; cases q <;> rfl)
theorem op_fieldAddr (off : Nat) : evOp call base fr H (.fieldAddr off x) = RH H (xFieldAddr off (ev fr x)) := by
  simp only [evOp]
  generalize ev fr x = v
  cases v <;> first | rfl | (simp only [xFieldAddr]; split <;> rfl)
theorem op_field (g : Bool) (off n : Nat) : evOp call base fr H (.field g off n x) = RH H (xField g off n (ev fr x)) := by
  simp only [evOp]
  generalize ev fr x = v
  cases v <;> first | rfl | (simp only [xField]; split <;> first | rfl | (cases shut g _ <;> rfl))
theorem op_extract (i : Nat) : evOp call base fr H (.extract x i) = RH H (xExtract i (ev fr x)) := by
  simp only [evOp]
  generalize ev fr x = v
  cases v <;> first | rfl | (simp only [xExtract]; split <;> rename_i e <;> simp [e, RH])
theorem op_lenS (k : NK) : evOp call base fr H (.lenS k x) = RH H (xLen H k (ev fr x)) := by
  cases k <;> (simp only [evOp]; generalize ev fr x = v; cases v <;> first | rfl | (rename_i q; cases q <;> first | rfl | (rename_i a; cases a <;> rfl) | (rename_i a b c; cases a <;> first | rfl | (cases b <;> first | rfl | (cases c <;> rfl)))) | (rename_i j; simp only [xLen]; generalize H[j]? = o; cases o <;> first | rfl | (rename_i ob; cases ob <;> rfl)))
theorem op_load (g : Bool) (n : Nat) : evOp call base fr H (.load g n x) = RH H (xLoad H g n (ev fr x)) := by
  simp only [evOp]
  generalize ev fr x = v
  simp only [xLoad]; cases loadV H g n v <;> rfl
theorem op_mapGet (kd : TypeDesc) (z : V) (ok : Bool) : evOp call base fr H (.mapGet kd z x y ok) = RH H (xMapGet H kd z ok (ev fr x) (ev fr y)) := by
  have h : ∀ r, evOp call base fr H (.mapGet kd z x y ok) = some r → r.2 = H := fun r h => by obtain ⟨v, H'⟩ := r; exact (evOp_r rfl h).1
  have h2 : evOp (fun _ _ _ _ => none) 0 [ev fr x, ev fr y] H (.mapGet kd z (.t 0) (.t 1) ok) = evOp call base fr H (.mapGet kd z x y ok) := rfl
  simp only [xMapGet, h2]
  cases hr : evOp call base fr H (.mapGet kd z x y ok) with
  | none => rfl
  | some r => obtain ⟨v, H'⟩ := r; have := h _ hr; simp only at this; subst this; rfl
theorem op_move : evOp call base fr H (.move x) = some (ev fr x, H) := rfl
theorem op_alloc (z : List V) : evOp call base fr H (.alloc z) = some (.ref H.length 0 0, H ++ [.cells 0 z]) := rfl
theorem op_box : evOp call base fr H (.box x) = if (ev fr x).cells.all V.one then some (.ref H.length 0 0, H ++ [.cells 0 (ev fr x).cells]) else none := rfl
theorem op_mapNew : evOp call base fr H .mapNew = some (.mp H.length, H ++ [.map []]) := rfl
theorem op_store (n : Nat) : evOp call base fr H (.store n x y) = RS (storeV H base n (ev fr y) (ev fr x)) := by
  simp only [evOp]; cases storeV H base n (ev fr y) (ev fr x) <;> rfl
theorem op_mkFn (f : Nat) (a b : List Opd) : evOp call base fr H (.mkFn f a b) = some (.fn f (a.map (ev fr)) (b.map (ev fr)), H) := rfl
theorem op_append (sz bytes : Nat) : evOp call base fr H (.append sz bytes x y) = appendV H base sz bytes (ev fr x) (ev fr y) := rfl
theorem op_call (args : List Opd) : evOp call base fr H (.call x args) = call (ev fr x) (args.map (ev fr)) base H := rfl
theorem op_callR (args : List Opd) : evOp call base fr H (.callR x args) = call (ev fr x) (args.map (ev fr)) H.length H := rfl
theorem op_build (z : List V) (places : List (Nat × Nat)) (parts : List (Nat × Opd)) : evOp call base fr H (.build z places parts) = RH H ((fillA (places[·]?) z (parts.map fun p => (p.1, ev fr p.2))).map .agg) := by
  simp only [evOp]; cases fillA (places[·]?) z (parts.map fun p => (p.1, ev fr p.2)) <;> rfl
def mkSlV (H : Heap) (sz len : Nat) : Option (List V) → Option (V × Heap)
  | some cs => some (if len = 0 then .esl else .sl H.length 0 0 len sz, H ++ [.cells 0 cs])
  | none => none
theorem mkSlV_some (sz len : Nat) (cs : List V) : mkSlV H sz len (some cs) = some (if len = 0 then .esl else .sl H.length 0 0 len sz, H ++ [.cells 0 cs]) := rfl
theorem op_buildSl (sz len : Nat) (z : List V) (parts : List (Nat × Opd)) : evOp call base fr H (.buildSl sz len z parts) = mkSlV H sz len (fillA (fun i => some (i * sz, sz)) z (parts.map fun p => (p.1, ev fr p.2))) := by
  simp only [evOp]; cases fillA (fun i => some (i * sz, sz)) z (parts.map fun p => (p.1, ev fr p.2)) <;> rfl
end
end Go.AM
namespace Go.AM
section
variable {call : CallF} {it : IterF} {base : Nat}
def AgD (D : List Nat) (f g : List V) : Prop := f.length = g.length ∧ ∀ s, s ∉ D → f.getD s .unk = g.getD s .unk
def readsIn (o : AOper) (D : List Nat) : Bool := o.reads.any D.contains
def less (D : List Nat) (d : Option Nat) : List Nat := match d with
  | some d => D.filter (· != d)
  | none => D
def indep : List Nat → List AOper → Option (List Nat)
  | D, [] => some D
  | D, o :: os => if readsIn o D then none else indep (less D o.dst) os
theorem put_ag {D : List Nat} {f g : List V} (h : AgD D f g) (d : Option Nat) (v : V) : AgD (less D d) (put d v f) (put d v g) := by
  cases d with
  | none => exact h
  | some d =>
    refine ⟨by simp only [put, List.length_set]; exact h.1, fun s hs => ?_⟩
    simp only [put]
    by_cases e : s = d
    · subst e
      by_cases hl : s < f.length
      · rw [getD_set_same hl, getD_set_same (h.1 ▸ hl)]
      · rw [List.set_eq_of_length_le (by omega), List.set_eq_of_length_le (by have := h.1; omega)]
        simp [List.getD, hl, h.1 ▸ hl]
    · rw [getD_set_other (fun e' => e e'.symm), getD_set_other (fun e' => e e'.symm)]
      refine h.2 s fun hD => hs ?_
      simp only [less, List.mem_filter, bne_iff_ne, ne_eq]
      exact ⟨hD, e⟩
theorem evOps_ag : ∀ (ops : List AOper) (D D' : List Nat) (f g : List V) (H : Heap), indep D ops = some D' → AgD D f g →
    (evOps call base ops f H = none ∧ evOps call base ops g H = none) ∨ ∃ f' g' H', evOps call base ops f H = some (f', H') ∧ evOps call base ops g H = some (g', H') ∧ AgD D' f' g' := by
  intro ops
  induction ops with
  | nil => intro D D' f g H h ha; cases h; exact .inr ⟨f, g, H, rfl, rfl, ha⟩
  | cons o os ih =>
    intro D D' f g H h ha
    simp only [indep] at h
    split at h
    · cases h
    · rename_i hr
      have hrd : ∀ s ∈ o.reads, f.getD s .unk = g.getD s .unk := fun s hs => ha.2 s fun hD => hr (by
        unfold readsIn; rw [List.any_eq_true]; exact ⟨s, hs, by simpa using hD⟩)
      have hw := reads_want hrd
      have hc : evOp call base f H o.op = evOp call base g H o.op := evOp_congr _ fun x hx => reads_opd hx hrd
      simp only [evOps, hw, hc]
      cases want o g with
      | none => exact .inl ⟨rfl, rfl⟩
      | some b =>
        cases b with
        | false => exact ih _ _ _ _ _ h (put_ag ha _ _)
        | true =>
          simp only []
          cases evOp call base g H o.op with
          | none => exact .inl ⟨rfl, rfl⟩
          | some r => obtain ⟨v, H'⟩ := r; exact ih _ _ _ _ _ h (put_ag ha _ _)
theorem kill_ag {D ks : List Nat} {f g : List V} (h : AgD D f g) (hk : D.all ks.contains = true) : killS ks f = killS ks g := by
  refine List.ext_getElem (by rw [killS_length, killS_length, h.1]) fun i h1 h2 => ?_
  have e : (killS ks f).getD i .unk = (killS ks g).getD i .unk := by
    rw [killS_getD, killS_getD]
    split
    · rfl
    · rename_i hi
      refine h.2 i fun hD => hi ?_
      rw [List.all_eq_true] at hk
      simpa using hk i hD
  simpa [List.getD, h1, h2] using e
def firstOk (D : List Nat) : ACode → Bool
  | .seq a _ => firstOk D a
  | .region ops [] kill => match indep D ops with
    | some D' => D'.all kill.contains
    | none => false
  | .cond c a b => (c.slots.all fun s => !D.contains s) && firstOk D a && firstOk D b
  | .block _ c => firstOk D c
  | .loop kill _ => D.all kill.contains
  | _ => false
theorem firstOk_eq {D : List Nat} : ∀ (c : ACode) {f g : List V} (H : Heap), firstOk D c = true → AgD D f g → evC call it base c f H = evC call it base c g H := by
  intro c
  induction c with
  | seq a b iha _ => intro f g H h ha; simp only [evC, iha H h ha]
  | block id c ih => intro f g H h ha; simp only [evC, ih H h ha]
  | cond o a b iha ihb =>
    intro f g H h ha
    simp only [firstOk, Bool.and_eq_true] at h
    have : ev f o = ev g o := by
      cases o with
      | c v => rfl
      | t s => exact ha.2 s (by simpa [Opd.slots] using h.1.1)
    simp only [evC, this, iha H h.1.2 ha, ihb H h.2 ha]
  | loop kill c _ => intro f g H h ha; simp only [evC, kill_ag ha h]
  | region ops chk kill =>
    intro f g H h ha
    cases chk with
    | cons _ _ => cases h
    | nil =>
      simp only [firstOk] at h
      split at h
      · rename_i D' hD
        rcases evOps_ag (call := call) (base := base) ops D D' f g H hD ha with ⟨e1, e2⟩ | ⟨f', g', H', e1, e2, ha'⟩
        · simp only [evC, e1, e2]
        · simp only [evC, e1, e2, kill_ag ha' h]
          rfl
      · cases h
  | _ => intro f g H h; cases h
end
def startA : List V → Nat → Env
  | [], _ => []
  | v :: vs, k => (k, v) :: startA vs (k + 1)
theorem startA_nil (k : Nat) : startA [] k = [] := rfl
theorem startA_cons (v : V) (vs : List V) (k : Nat) : startA (v :: vs) k = (k, v) :: startA vs (k + 1) := rfl
theorem getV_startA : ∀ (vs : List V) (k t : Nat), k ≤ t → t < k + vs.length → getV (startA vs k) t = vs.getD (t - k) .unk := by
  intro vs
  induction vs with
  | nil => intro k t h1 h2; simp at h2; omega
  | cons v vs ih =>
    intro k t h1 h2
    simp only [startA, getV, List.length_cons] at h2 ⊢
    split
    · rename_i h; subst h; simp
    · rw [ih (k + 1) t (by omega) (by omega)]
      obtain ⟨d, hd⟩ : ∃ d, t - k = d + 1 := ⟨t - k - 1, by omega⟩
      have : t - (k + 1) = d := by omega
      rw [hd, this]; rfl
theorem callW_fnA {CP : Nat → Option CFun} {f : Nat} {c : ACFun} (hf : CP f = some (.code c)) {fst args cap : List V} {k : Nat} (hk : (fst ++ args ++ cap).length = k) (hl : k ≤ c.ntmps) (hfirst : firstOk (List.range' k (c.ntmps - k)) c.body = true) {base : Nat} {H : Heap} {r : V × Heap}
    (h : retC c.results (evC (callW CP) itW base c.body (frOf c.ntmps (startA (fst ++ args ++ cap) 0)) H) = some r) : callW CP (.fn f fst cap) args base H = some r := by
  refine callW_fn hf (by omega) ?_
  rw [firstOk_eq c.body H hfirst (g := frOf c.ntmps (startA (fst ++ args ++ cap) 0))]
  · exact h
  · refine ⟨by rw [frOf_length, frOf_length], fun s hs => ?_⟩
    by_cases hn : s < c.ntmps
    · rw [frOf_get hn, frOf_get hn]
      have hs' : s < k := by
        apply Nat.lt_of_not_le
        intro h
        apply hs
        rw [List.mem_range']
        exact ⟨s - k, by omega, by omega⟩
      rw [getV_start _ _ 0 s (Nat.zero_le _) hn (by omega), if_pos (by omega), getV_startA _ 0 s (Nat.zero_le _) (by omega)]
    · simp [frOf, List.getD, hn]
section
variable (call : CallF) (it : IterF) (base : Nat)
def segC (b : List AOper) (kill : List Nat) (H : Heap) : Option (List V) → Option St → Option St
  | some f, _ => evC call it base (.region b [] kill) f H
  | none, o => o
def segL (H : Heap) : Option (List V) → Option St → Option St
  | some f, _ => some (.nrm, f, H)
  | none, o => o
def origRow (ops : List AOper) (kill : List Nat) (f : List V) (H : Heap) : Option St := evC call it base (.region ops [] kill) f H
theorem segC_some (b : List AOper) (kill : List Nat) (H : Heap) (f : List V) (o : Option St) : segC call it base b kill H (some f) o = evC call it base (.region b [] kill) f H := rfl
theorem segL_some (H : Heap) (f : List V) (o : Option St) : segL H (some f) o = some (.nrm, f, H) := rfl
def cutOk (k : List Nat) (b : List AOper) (kill : List Nat) : Bool := match indep k b with
  | some D => D.all kill.contains
  | none => false
theorem evOps_app : ∀ (a b : List AOper) (f : List V) (H : Heap), evOps call base (a ++ b) f H = match evOps call base a f H with
    | some (f', H') => evOps call base b f' H'
    | none => none := by
  intro a
  induction a with
  | nil => intro b f H; rfl
  | cons o os ih =>
    intro b f H
    simp only [List.cons_append, evOps]
    cases want o f with
    | none => rfl
    | some p =>
      cases p with
      | false => exact ih _ _ _
      | true =>
        simp only []
        cases evOp call base f H o.op with
        | none => rfl
        | some r => exact ih _ _ _
theorem ag_kill (k : List Nat) (f : List V) : AgD k f (killS k f) := ⟨(killS_length k f).symm, fun s hs => by rw [killS_getD, if_neg hs]⟩
theorem region_ag {k kill : List Nat} {b : List AOper} (h : cutOk k b kill = true) (f : List V) (H : Heap) : evC call it base (.region b [] kill) f H = evC call it base (.region b [] kill) (killS k f) H := by
  refine firstOk_eq (D := k) (.region b [] kill) H ?_ (ag_kill k f)
  unfold cutOk at h
  simp only [firstOk]
  exact h
theorem row_op (c d : List AOper) {kc kill : List Nat} (h : cutOk kc d kill = true) (f : List V) (H : Heap) : evC call it base (.region (c ++ d) [] kill) f H = thenC call it base (.region d [] kill) (evC call it base (.region c [] kc) f H) := by
  have e1 : evC call it base (.region (c ++ d) [] kill) f H = match evOps call base c f H with
      | some (f', H') => evC call it base (.region d [] kill) f' H'
      | none => none := by
    simp only [evC, evOps_app]
    cases evOps call base c f H <;> rfl
  rw [e1, evC_ops]
  cases evOps call base c f H with
  | none => rfl
  | some r =>
    obtain ⟨f', H'⟩ := r
    simp only [opsC_some, thenC_nrm]
    exact region_ag call it base h f' H'
theorem row_seg (a b : List AOper) {ka oa kill : List Nat} (h : cutOk ka b kill = true) (f : List V) (H : Heap) : evC call it base (.region (a ++ b) [] kill) f H = segC call it base b kill H (evTale (symAll a ka oa) ka f H) (origRow call it base (a ++ b) kill f H) := by
  cases ht : evTale (symAll a ka oa) ka f H with
  | none => rfl
  | some f2 =>
    obtain ⟨f1, h1, h2⟩ := evTale_ev (call := call) (base := base) ht
    have e1 : evC call it base (.region (a ++ b) [] kill) f H = evC call it base (.region b [] kill) f1 H := by
      simp only [evC, evOps_app, h1]
      cases evOps call base b f1 H <;> rfl
    rw [e1, segC_some, ← h2, region_ag call it base h]
theorem row_last (a : List AOper) {oa kill : List Nat} (f : List V) (H : Heap) : evC call it base (.region a [] kill) f H = segL H (evTale (symAll a kill oa) kill f H) (origRow call it base a kill f H) := by
  cases ht : evTale (symAll a kill oa) kill f H with
  | none => rfl
  | some f2 =>
    obtain ⟨f1, h1, h2⟩ := evTale_ev (call := call) (base := base) ht
    simp only [segL_some, evC, h1, h2, List.all_nil, if_true]
theorem row_ops (ops : List AOper) (chk : List (Nat × Nat)) (kill : List Nat) (f : List V) (H : Heap) : evC call it base (.region ops chk kill) f H = opsC chk ops kill (evOps call base ops f H) := evC_ops ops chk kill f H
end
end Go.AM
namespace Go.AM
theorem wrap_pos {n : Nat} (h : n + 1 < 2 ^ 63) : IntKind.i64.wrap ((n : Int) + 1) = ((n + 1 : Nat) : Int) := by rw [IntKind.wrap_i64]; omega
def Rd (H : Heap) (v : V) (l : List V) : Prop := (∀ b, v ≠ .s (.string b)) ∧ elems H 1 v = some (l.length, l)
theorem Rd.nil (H : Heap) : Rd H nilS [] := ⟨fun _ h => (by cases h), rfl⟩
theorem Rd.esl (H : Heap) : Rd H .esl [] := ⟨fun _ h => (by cases h), rfl⟩
theorem Rd.psl (H : Heap) (l : List V) : Rd H (.psl (l.map fun x => [x]) 1) l := by
  refine ⟨fun _ h => by (cases h), ?_⟩
  simp only [elems, if_true, List.length_map]
  congr 2
  induction l with
  | nil => rfl
  | cons x l ih => simp [ih]
theorem Rd.sl {H : Heap} {id g : Nat} {c : List V} (h : getC H id g = some c) {off n : Nat} (hn : off + n ≤ c.length) : Rd H (.sl id g off n 1) ((c.drop off).take n) := by
  refine ⟨fun _ h => by (cases h), ?_⟩
  have : ((c.drop off).take n).length = n := by simp; omega
  simp only [elems, if_true, h, Nat.mul_one, this]
theorem Rd.cases {H : Heap} {v : V} {l : List V} (h : Rd H v l) : (l = [] ∧ (v = nilS ∨ v = .esl)) ∨ (∃ es, v = .psl es 1 ∧ es.flatten = l ∧ es.length = l.length) ∨ ∃ id g off n c, v = .sl id g off n 1 ∧ getC H id g = some c ∧ (c.drop off).take n = l ∧ n = l.length := by
  obtain ⟨h1, h2⟩ := h
  unfold elems at h2
  split at h2
  · simp only [Option.some.injEq, Prod.mk.injEq] at h2; exact .inl ⟨h2.2.symm, .inl rfl⟩
  · exact absurd rfl (h1 _)
  · simp only [Option.some.injEq, Prod.mk.injEq] at h2; exact .inl ⟨h2.2.symm, .inr rfl⟩
  · rename_i es sz
    split at h2
    · rename_i hz; subst hz; simp only [Option.some.injEq, Prod.mk.injEq] at h2; exact .inr (.inl ⟨es, rfl, h2.2, h2.1⟩)
    · cases h2
  · rename_i id g off len sz
    split at h2
    · rename_i hz
      subst hz
      split at h2
      · rename_i c hc
        simp only [Nat.mul_one] at h2
        split at h2
        · simp only [Option.some.injEq, Prod.mk.injEq] at h2
          exact .inr (.inr ⟨id, g, off, len, c, rfl, hc, h2.2, h2.1⟩)
        · cases h2
      · cases h2
    · cases h2
  · cases h2
theorem Rd.len {H : Heap} {v : V} {l : List V} (h : Rd H v l) : xLen H .s v = some (.s (.int .i64 l.length)) := by
  rcases h.cases with ⟨rfl, rfl | rfl⟩ | ⟨es, rfl, _, e⟩ | ⟨id, g, off, n, c, rfl, _, _, e⟩
  · rfl
  · rfl
  · simp only [xLen, e]; rfl
  · simp only [xLen, e]; rfl
def Wide1 : V → Prop
  | .psl es _ => ∀ e ∈ es, e.length = 1
  | _ => True
theorem flatten_get {es : List (List V)} (h : ∀ e ∈ es, e.length = 1) : ∀ {i : Nat} {x : V}, es.flatten[i]? = some x → es[i]? = some [x] := by
  induction es with
  | nil => intro i x hx; simp at hx
  | cons e es ih =>
    intro i x hx
    have he := h e List.mem_cons_self
    match e, he with
    | [y], _ =>
      cases i with
      | zero => simp at hx ⊢; exact hx
      | succ i => simp at hx ⊢; exact ih (fun e he => h e (List.mem_cons_of_mem _ he)) hx
theorem Rd.at {H : Heap} {v : V} {l : List V} (h : Rd H v l) (hw : Wide1 v) {i : Nat} {x : V} (hx : l[i]? = some x) : V1 (xLoad H false 1) (xIndexAddr 1 v (.s (.int .i64 i))) = some x := by
  have hi : i < l.length := (List.getElem?_eq_some_iff.1 hx).1
  have h0 : (0 : Int) ≤ (i : Int) := by omega
  rcases h.cases with ⟨rfl, _⟩ | ⟨es, rfl, e1, e2⟩ | ⟨id, g, off, n, c, rfl, hc, e1, e2⟩
  · simp at hx
  · have : es[i]? = some [x] := flatten_get hw (by rw [e1]; exact hx)
    simp only [xIndexAddr, h0, true_and, if_true, Int.toNat_natCast, this, Option.map_some, V1, xLoad, loadV]
    rfl
  · have hn : ((i : Int) < (n : Int)) := by omega
    have hcx : c[off + i]? = some x := by
      have : ((c.drop off).take n)[i]? = some x := by rw [e1]; exact hx
      rw [List.getElem?_take_of_lt (by omega), List.getElem?_drop] at this
      exact this
    have : ((c.drop (off + i)).take 1) = [x] := by
      have hlt := (List.getElem?_eq_some_iff.1 hcx).1
      rw [List.drop_eq_getElem_cons hlt]
      have := (List.getElem?_eq_some_iff.1 hcx).2
      simp [this]
    simp only [xIndexAddr, h0, hn, and_self, if_true, Int.toNat_natCast, Nat.mul_one, V1, xLoad, loadV, hc, this]
    rfl
theorem getC_app {H G : Heap} {id g : Nat} {c : List V} (h : getC H id g = some c) : getC (H ++ G) id g = some c := by
  unfold getC at h ⊢
  split at h
  · rename_i g' c' hh
    rw [List.getElem?_append_left (List.getElem?_eq_some_iff.1 hh).1, hh]
    exact h
  · cases h
theorem Rd.app {H : Heap} {v : V} {l : List V} (h : Rd H v l) (G : Heap) : Rd (H ++ G) v l := by
  rcases h.cases with ⟨rfl, rfl | rfl⟩ | ⟨es, rfl, e1, e2⟩ | ⟨id, g, off, n, c, rfl, hc, e1, e2⟩
  · exact Rd.nil _
  · exact Rd.esl _
  · exact ⟨h.1, h.2⟩
  · refine ⟨h.1, ?_⟩
    have : ((c.drop off).take n).length = n := by rw [e1, e2]
    simp only [elems, if_true, getC_app hc, Nat.mul_one, this, e1]
    rw [e2, if_pos rfl]
theorem getC_set {H : Heap} {id g : Nat} {c c' : List V} (h : getC H id g = some c) (g' : Nat) : getC (H.set id (.cells g' c')) id g' = some c' := by
  have : id < H.length := by
    unfold getC at h
    split at h
    · rename_i hh; exact (List.getElem?_eq_some_iff.1 hh).1
    · cases h
  simp [getC, this]
theorem getC_same {H : Heap} {id g : Nat} {c : List V} (h : getC H id g = some c) : H.set id (.cells g c) = H := by
  unfold getC at h
  split at h
  · rename_i g' c' hh
    split at h
    · rename_i e
      cases h
      subst e
      obtain ⟨h1, h2⟩ := List.getElem?_eq_some_iff.1 hh
      rw [← h2]
      exact List.set_getElem_self h1
    · cases h
  · cases h
theorem set_set' (H : Heap) (id : Nat) (a b : Ob) : (H.set id a).set id b = H.set id b := List.set_set ..
theorem storeV_at {H : Heap} {id g base off : Nat} {c : List V} (hc : getC H id g = some c) (hb : base ≤ id) {v : V} (h1 : v.one = true) (hl : off < c.length) : storeV H base 1 v (.ref id g off) = some (H.set id (.cells g (c.set off v))) := by
  have hv : v.cells = [v] := by cases v <;> first | rfl | (simp [V.one] at h1; done)
  have : splice c off [v] = c.set off v := by
    unfold splice
    rw [List.set_eq_take_append_cons_drop, if_pos hl]
    simp
  have hl' : off + 1 ≤ c.length := hl
  simp only [storeV, if_pos hb, hc, hv, List.length_singleton, hl', List.all_cons, List.all_nil, h1, Bool.and_true, and_self, if_true, this]
theorem xb_add (k : IntKind) (a b : Int) : xBin .add (.s (.int k a)) (.s (.int k b)) = some (.s (.int k (k.wrap (a + b)))) := by simp [xBin, binS]
theorem xb_sub (k : IntKind) (a b : Int) : xBin .sub (.s (.int k a)) (.s (.int k b)) = some (.s (.int k (k.wrap (a - b)))) := by simp [xBin, binS]
theorem xb_mul (k : IntKind) (a b : Int) : xBin .mul (.s (.int k a)) (.s (.int k b)) = some (.s (.int k (k.wrap (a * b)))) := by simp [xBin, binS]
theorem xb_eql (k : IntKind) (a b : Int) : xBin .eql (.s (.int k a)) (.s (.int k b)) = some (.s (.bool (a == b))) := by simp [xBin, binS]
theorem xb_neq (k : IntKind) (a b : Int) : xBin .neq (.s (.int k a)) (.s (.int k b)) = some (.s (.bool (a != b))) := by simp [xBin, binS]
theorem xb_lss (k : IntKind) (a b : Int) : xBin .lss (.s (.int k a)) (.s (.int k b)) = some (.s (.bool (decide (a < b)))) := by simp [xBin, binS]
theorem xb_leq (k : IntKind) (a b : Int) : xBin .leq (.s (.int k a)) (.s (.int k b)) = some (.s (.bool (decide (a ≤ b)))) := by simp [xBin, binS]
theorem xb_gtr (k : IntKind) (a b : Int) : xBin .gtr (.s (.int k a)) (.s (.int k b)) = some (.s (.bool (decide (a > b)))) := by simp [xBin, binS]
theorem xb_geq (k : IntKind) (a b : Int) : xBin .geq (.s (.int k a)) (.s (.int k b)) = some (.s (.bool (decide (a ≥ b)))) := by simp [xBin, binS]
theorem xb_and (k : IntKind) (a b : Int) : xBin .and (.s (.int k a)) (.s (.int k b)) = some (.s (.int k (k.wrap (BitVec.ofInt k.bits a &&& BitVec.ofInt k.bits b).toNat))) := by simp [xBin, binS]
theorem xb_or (k : IntKind) (a b : Int) : xBin .or (.s (.int k a)) (.s (.int k b)) = some (.s (.int k (k.wrap (BitVec.ofInt k.bits a ||| BitVec.ofInt k.bits b).toNat))) := by simp [xBin, binS]
theorem xb_xor (k : IntKind) (a b : Int) : xBin .xor (.s (.int k a)) (.s (.int k b)) = some (.s (.int k (k.wrap (BitVec.ofInt k.bits a ^^^ BitVec.ofInt k.bits b).toNat))) := by simp [xBin, binS]
theorem xb_andNot (k : IntKind) (a b : Int) : xBin .andNot (.s (.int k a)) (.s (.int k b)) = some (.s (.int k (k.wrap (BitVec.ofInt k.bits a &&& ~~~ (BitVec.ofInt k.bits b)).toNat))) := by simp [xBin, binS]
theorem xb_quo (k : IntKind) (a b : Int) : xBin .quo (.s (.int k a)) (.s (.int k b)) = if b = 0 then none else some (.s (.int k (k.wrap (a.tdiv b)))) := by by_cases h : b = 0 <;> simp [xBin, binS, h]
theorem xb_rem (k : IntKind) (a b : Int) : xBin .rem (.s (.int k a)) (.s (.int k b)) = if b = 0 then none else some (.s (.int k (a.tmod b))) := by by_cases h : b = 0 <;> simp [xBin, binS, h]
theorem xb_shl (k j : IntKind) (a b : Int) : xBin .shl (.s (.int k a)) (.s (.int j b)) = if b < 0 then none else some (.s (.int k (k.wrap (a * 2 ^ (min b.toNat k.bits))))) := by by_cases h : b < 0 <;> simp [xBin, binS, h]
theorem xb_shr (k j : IntKind) (a b : Int) : xBin .shr (.s (.int k a)) (.s (.int j b)) = if b < 0 then none else some (.s (.int k (a.fdiv (2 ^ (min b.toNat k.bits))))) := by by_cases h : b < 0 <;> simp [xBin, binS, h]
theorem xs_eql (a b : ByteArray) : xBin .eql (.s (.string a)) (.s (.string b)) = some (.s (.bool (a.data.toList == b.data.toList))) := rfl
theorem xs_neq (a b : ByteArray) : xBin .neq (.s (.string a)) (.s (.string b)) = some (.s (.bool (!(a.data.toList == b.data.toList)))) := rfl
theorem xs_lss (a b : ByteArray) : xBin .lss (.s (.string a)) (.s (.string b)) = some (.s (.bool (Op.bytesLess a.data.toList b.data.toList))) := rfl
theorem xs_add (a b : ByteArray) : xBin .add (.s (.string a)) (.s (.string b)) = if ((a.size + b.size : Nat) : Int) > IntKind.i64.max then none else some (.s (.string (a ++ b))) := by by_cases h : ((a.size + b.size : Nat) : Int) > IntKind.i64.max <;> simp only [xBin, binS, h, if_true, if_false, Option.map_some, Option.map_none]
theorem xq_b (n a b : Bool) : xEqB n (.s (.bool a)) (.s (.bool b)) = some (.s (.bool ((a == b) != n))) := rfl
theorem xn_pn (n : Bool) : xEqNil .p n (.s (.pointer none)) = some (.s (.bool (true != n))) := rfl
theorem xn_pr (n : Bool) (i g o : Nat) : xEqNil .p n (.ref i g o) = some (.s (.bool (false != n))) := rfl
theorem xn_pp (n : Bool) (cs : List V) : xEqNil .p n (.pref cs) = some (.s (.bool (false != n))) := rfl
theorem xn_sn (n : Bool) : xEqNil .s n (.s (.slice none 0 0)) = some (.s (.bool (true != n))) := rfl
theorem xn_ss (n : Bool) (i g o l z : Nat) : xEqNil .s n (.sl i g o l z) = some (.s (.bool (false != n))) := rfl
theorem xn_sp (n : Bool) (es : List (List V)) (z : Nat) : xEqNil .s n (.psl es z) = some (.s (.bool (false != n))) := rfl
theorem xn_se (n : Bool) : xEqNil .s n (.esl) = some (.s (.bool (false != n))) := rfl
theorem xn_mn (n : Bool) : xEqNil .m n (.s (.map none)) = some (.s (.bool (true != n))) := rfl
theorem xn_mm (n : Bool) (i : Nat) : xEqNil .m n (.mp i) = some (.s (.bool (false != n))) := rfl
theorem xn_fn (n : Bool) : xEqNil .f n (.s .nilFunc) = some (.s (.bool (true != n))) := rfl
theorem xn_ff (n : Bool) (i : Nat) (a b : List V) : xEqNil .f n (.fn i a b) = some (.s (.bool (false != n))) := rfl
theorem xn_fy (n : Bool) (i : Nat) : xEqNil .f n (.yld i) = some (.s (.bool (false != n))) := rfl
theorem xg (n : Bool) (ls : List Leaf) (xs ys : List V) : xEqAgg n ls (.agg xs) (.agg ys) = (eqLeaves ls xs ys).map fun b => .s (.bool (b != n)) := rfl
theorem xu_not (b : Bool) : xUn .not (.s (.bool b)) = some (.s (.bool (!b))) := rfl
theorem xu_neg (k : IntKind) (a : Int) : xUn .neg (.s (.int k a)) = some (.s (.int k (k.wrap (0 - a)))) := rfl
theorem xc_int (k j : IntKind) (a : Int) : xConv k (.s (.int j a)) = some (.s (.int k (k.wrap a))) := rfl
theorem xc_id (b : ByteArray) : xConvId (.s (.string b)) = some (.s (.string b)) := rfl
theorem xk_ref (i g o : Nat) : xNilCheck (.ref i g o) = some (.ref i g o) := rfl
theorem xk_pref (cs : List V) : xNilCheck (.pref cs) = some (.pref cs) := rfl
theorem xk_fn (f : Nat) (a b : List V) : xNilCheck (.fn f a b) = some (.fn f a b) := rfl
theorem xk_yld (i : Nat) : xNilCheck (.yld i) = some (.yld i) := rfl
theorem xa_ref (off i g o : Nat) : xFieldAddr off (.ref i g o) = some (.ref i g (o + off)) := rfl
theorem xa_pref (off : Nat) (cs : List V) : xFieldAddr off (.pref cs) = if off ≤ cs.length then some (.pref (cs.drop off)) else none := rfl
theorem xf_agg (g : Bool) (off n : Nat) (cs : List V) : xField g off n (.agg cs) = if ((cs.drop off).take n).length = n then shut g ((cs.drop off).take n) else none := rfl
theorem xi_sl (sz i g o l z : Nat) (k : IntKind) (n : Int) : xIndexAddr sz (.sl i g o l z) (.s (.int k n)) = if 0 ≤ n ∧ n < l ∧ z = sz then some (.ref i g (o + n.toNat * sz)) else none := rfl
theorem xi_psl (sz z : Nat) (es : List (List V)) (k : IntKind) (n : Int) : xIndexAddr sz (.psl es z) (.s (.int k n)) = if 0 ≤ n ∧ z = sz then (es[n.toNat]?).map .pref else none := rfl
theorem xj_str (b : ByteArray) (k : IntKind) (n : Int) : xIndexStr (.s (.string b)) (.s (.int k n)) = if 0 ≤ n then (b.data.toList[n.toNat]?).map fun c => .s (.int .u8 c.toNat) else none := rfl
theorem xe_tup (i : Nat) (vs : List V) : xExtract i (.tup vs) = vs[i]? := rfl
theorem xl_str (H : Heap) (b : ByteArray) : xLen H .p (.s (.string b)) = some (.s (.int .i64 b.size)) := rfl
theorem xl_nil (H : Heap) : xLen H .s (.s (.slice none 0 0)) = some (.s (.int .i64 0)) := rfl
theorem xl_esl (H : Heap) : xLen H .s .esl = some (.s (.int .i64 0)) := rfl
theorem xl_psl (H : Heap) (es : List (List V)) (z : Nat) : xLen H .s (.psl es z) = some (.s (.int .i64 es.length)) := rfl
theorem xl_sl (H : Heap) (i g o l z : Nat) : xLen H .s (.sl i g o l z) = some (.s (.int .i64 l)) := rfl
theorem xl_mnil (H : Heap) : xLen H .m (.s (.map none)) = some (.s (.int .i64 0)) := rfl
theorem xo_ref (H : Heap) (g : Bool) (n i j o : Nat) : xLoad H g n (.ref i j o) = match getC H i j with | some c => (if ((c.drop o).take n).length = n then shut g ((c.drop o).take n) else none) | none => none := rfl
theorem xo_pref (H : Heap) (g : Bool) (n : Nat) (cs : List V) : xLoad H g n (.pref cs) = if (cs.take n).length = n then shut g (cs.take n) else none := rfl
theorem xm (mx : Bool) (k : IntKind) (a b : Int) : xMinmax mx (.s (.int k a)) (.s (.int k b)) = some (.s (.int k (if mx then (if a < b then b else a) else (if b < a then b else a)))) := by simp [xMinmax]
theorem shut_agg (cs : List V) : shut true cs = some (.agg cs) := rfl
theorem shut_one (x : V) : shut false [x] = some x := rfl
theorem Rd.at' {H : Heap} {v : V} {l : List V} (h : Rd H v l) (hw : Wide1 v) {i : Nat} {x : V} (hx : l[i]? = some x) : ∃ a, xIndexAddr 1 v (.s (.int .i64 i)) = some a ∧ xLoad H false 1 a = some x := by
  have := h.at hw hx
  cases ha : xIndexAddr 1 v (.s (.int .i64 i)) with
  | none => rw [ha] at this; cases this
  | some a => rw [ha] at this; exact ⟨a, rfl, this⟩
def bndV (d : Nat) : Option V → Option Int
  | none => some d
  | some v => intOf? v
theorem bndV_none (d : Nat) : bndV d none = some (d : Int) := rfl
theorem bndV_int (d : Nat) (k : IntKind) (n : Int) : bndV d (some (.s (.int k n))) = some n := rfl
def cutSl (sz id g off len z : Nat) : Option Int → Option Int → Option V
  | some l, some h => if 0 ≤ l ∧ l ≤ h ∧ h ≤ len ∧ z = sz then some (.sl id g (off + l.toNat * sz) (h - l).toNat sz) else none
  | _, _ => none
def cutPsl (sz : Nat) (es : List (List V)) (z : Nat) : Option Int → Option Int → Option V
  | some l, some h => if 0 ≤ l ∧ l ≤ h ∧ h ≤ es.length ∧ z = sz then some (.psl ((es.drop l.toNat).take (h - l).toNat) sz) else none
  | _, _ => none
def cutNil (v : V) : Option Int → Option Int → Option V
  | some l, some h => if l = 0 ∧ h = 0 then some v else none
  | _, _ => none
def xSlice (sz : Nat) (v : V) (lo hi : Option V) : Option V :=
  match v with
  | .s (.slice none 0 0) => cutNil nilS (bndV 0 lo) (bndV 0 hi)
  | .esl => cutNil .esl (bndV 0 lo) (bndV 0 hi)
  | .psl es z => cutPsl sz es z (bndV 0 lo) (bndV es.length hi)
  | .sl id g off len z => cutSl sz id g off len z (bndV 0 lo) (bndV len hi)
  | _ => none
theorem xslice_nil (sz : Nat) (lo hi : Option V) : xSlice sz nilS lo hi = cutNil nilS (bndV 0 lo) (bndV 0 hi) := rfl
theorem xslice_esl (sz : Nat) (lo hi : Option V) : xSlice sz .esl lo hi = cutNil .esl (bndV 0 lo) (bndV 0 hi) := rfl
theorem xslice_psl (sz : Nat) (es : List (List V)) (z : Nat) (lo hi : Option V) : xSlice sz (.psl es z) lo hi = cutPsl sz es z (bndV 0 lo) (bndV es.length hi) := rfl
theorem xslice_sl (sz id g off len z : Nat) (lo hi : Option V) : xSlice sz (.sl id g off len z) lo hi = cutSl sz id g off len z (bndV 0 lo) (bndV len hi) := rfl
theorem cutSl_some (sz id g off len z : Nat) (l h : Int) : cutSl sz id g off len z (some l) (some h) = if 0 ≤ l ∧ l ≤ h ∧ h ≤ len ∧ z = sz then some (.sl id g (off + l.toNat * sz) (h - l).toNat sz) else none := rfl
theorem cutPsl_some (sz : Nat) (es : List (List V)) (z : Nat) (l h : Int) : cutPsl sz es z (some l) (some h) = if 0 ≤ l ∧ l ≤ h ∧ h ≤ es.length ∧ z = sz then some (.psl ((es.drop l.toNat).take (h - l).toNat) sz) else none := rfl
theorem cutNil_some (v : V) (l h : Int) : cutNil v (some l) (some h) = if l = 0 ∧ h = 0 then some v else none := rfl
theorem bnd_eq (fr : List V) (d : Nat) (o : Option Opd) : bndA fr d o = bndV d (o.map (ev fr)) := by cases o <;> rfl
theorem op_subSl (call : CallF) (base : Nat) (fr : List V) (H : Heap) (sz : Nat) (x : Opd) (lo hi : Option Opd) : evOp call base fr H (.subSl sz x lo hi none) = RH H (xSlice sz (ev fr x) (lo.map (ev fr)) (hi.map (ev fr))) := by
  simp only [evOp, bnd_eq]
  generalize ev fr x = v
  generalize lo.map (ev fr) = lo
  generalize hi.map (ev fr) = hi
  cases v <;> first | rfl | skip
  case s v =>
    cases v <;> first | rfl | skip
    rename_i a n m
    cases a <;> first | rfl | skip
    cases n <;> first | rfl | skip
    cases m <;> first | rfl | skip
    simp only [xSlice]
    cases bndV 0 lo with
    | none => rfl
    | some l => cases bndV 0 hi with
      | none => simp only [cutNil, RH]
      | some h =>
        simp only [cutNil]
        by_cases hl : l = 0
        · subst hl
          by_cases hh : h = 0
          · subst hh; rfl
          · simp only [hh, and_false, if_false]
            split <;> first | rfl | (rename_i e1 e2; cases e2; exact absurd rfl hh)
        · simp only [hl, false_and, if_false]
          split <;> first | rfl | (rename_i e1 e2; cases e1; exact absurd rfl hl)
  case esl =>
    simp only [xSlice]
    cases bndV 0 lo with
    | none => rfl
    | some l => cases bndV 0 hi with
      | none => simp only [cutNil, RH]
      | some h =>
        simp only [cutNil]
        by_cases hl : l = 0
        · subst hl
          by_cases hh : h = 0
          · subst hh; rfl
          · simp only [hh, and_false, if_false]
            split <;> first | rfl | (rename_i e1 e2; cases e2; exact absurd rfl hh)
        · simp only [hl, false_and, if_false]
          split <;> first | rfl | (rename_i e1 e2; cases e1; exact absurd rfl hl)
  case psl es z =>
    simp only [xSlice]
    cases bndV 0 lo <;> cases bndV es.length hi <;> first | rfl | (simp only [cutPsl]; split <;> rfl)
  case sl id g off len z =>
    simp only [xSlice]
    cases bndV 0 lo <;> cases bndV len hi <;> first | rfl | (simp only [cutSl]; split <;> rfl)
theorem xsub_sl (H : Heap) (sz : Nat) (x : Opd) (lo hi : Option Opd) (vs : List V) : xSub H (.subSl sz x lo hi none) (some vs) = xSlice sz (ev vs x) (lo.map (ev vs)) (hi.map (ev vs)) := by
  simp only [xSub, op_subSl]
  cases xSlice sz (ev vs x) (lo.map (ev vs)) (hi.map (ev vs)) <;> rfl
def xClear (H : Heap) (base sz : Nat) (zero : List V) (v : V) : Option Heap :=
  match v with
  | .s (.slice none 0 0) => some H
  | .esl => some H
  | .sl id g off len z => if len = 0 then some H else if base ≤ id ∧ z = sz then match getC H id g with
      | some c => if zero.length = sz ∧ off + len * sz ≤ c.length ∧ zero.all V.one then some (H.set id (.cells g (splice c off (List.replicate len zero).flatten))) else none
      | none => none
    else none
  | _ => none
theorem op_clear (call : CallF) (base : Nat) (fr : List V) (H : Heap) (sz : Nat) (zero : List V) (x : Opd) : evOp call base fr H (.clearSl sz zero x) = RS (xClear H base sz zero (ev fr x)) := by
  simp only [evOp]
  generalize ev fr x = v
  cases v <;> first | rfl | skip
  case s v =>
    cases v <;> first | rfl | skip
    rename_i a n m
    cases a <;> first | rfl | skip
    cases n <;> first | rfl | skip
    cases m <;> rfl
  case sl id g off len z =>
    simp only [xClear]
    split
    · rfl
    · split
      · cases getC H id g with
        | none => rfl
        | some c => simp only []; split <;> rfl
      · rfl
theorem clear_at {H : Heap} {id g base off len : Nat} {c zero : List V} (hc : getC H id g = some c) (hb : base ≤ id) (hz : zero.length = 1) (ho : zero.all V.one = true) (hl : off + len ≤ c.length) : xClear H base 1 zero (.sl id g off len 1) = some (H.set id (.cells g (c.take off ++ (List.replicate len zero).flatten ++ c.drop (off + len)))) := by
  simp only [xClear]
  split
  · rename_i h
    subst h
    have : c.take off ++ (List.replicate 0 zero).flatten ++ c.drop (off + 0) = c := by simp
    rw [this, getC_same hc]
  · have hf : (List.replicate len zero).flatten.length = len := by simp [hz]
    have h2 : off + len * 1 ≤ c.length := by omega
    simp only [hb, and_self, if_true, hc, hz, h2, ho, splice, hf]
theorem cast0 : ((0 : Nat) : Int) = 0 := rfl
theorem toNat0 : Int.toNat 0 = 0 := rfl
def Ext (H0 H : Heap) : Prop := ∃ G, H = H0 ++ G
theorem Ext.refl (H : Heap) : Ext H H := ⟨[], by simp⟩
theorem Ext.trans {A B C : Heap} (h : Ext A B) (k : Ext B C) : Ext A C := by
  obtain ⟨G, rfl⟩ := h
  obtain ⟨K, rfl⟩ := k
  exact ⟨G ++ K, by simp⟩
theorem Ext.app (H G : Heap) : Ext H (H ++ G) := ⟨G, rfl⟩
theorem Ext.le {A B : Heap} (h : Ext A B) : A.length ≤ B.length := by obtain ⟨G, rfl⟩ := h; simp
theorem Ext.get {A B : Heap} (h : Ext A B) {i : Nat} (hi : i < A.length) : B[i]? = A[i]? := by obtain ⟨G, rfl⟩ := h; exact List.getElem?_append_left hi
theorem Ext.of_get {A B : Heap} (hl : A.length ≤ B.length) (h : ∀ i, i < A.length → B[i]? = A[i]?) : Ext A B := by
  refine ⟨B.drop A.length, ?_⟩
  refine List.ext_getElem? fun i => ?_
  by_cases hi : i < A.length
  · rw [List.getElem?_append_left hi, h i hi]
  · rw [List.getElem?_append_right (by omega), List.getElem?_drop]
    congr 1; omega
theorem Ext.set {A B : Heap} (h : Ext A B) {id : Nat} (hid : A.length ≤ id) (ob : Ob) : Ext A (B.set id ob) :=
  Ext.of_get (by rw [List.length_set]; exact h.le) fun i hi => by rw [List.getElem?_set_ne (by omega), h.get hi]
theorem Ext.take {A B : Heap} (h : Ext A B) {m : Nat} (hm : A.length ≤ m) : Ext A (B.take m) :=
  Ext.of_get (by rw [List.length_take]; have := h.le; omega) fun i hi => by rw [List.getElem?_take_of_lt (by omega), h.get hi]
theorem trim_or (m : Nat) (fr : List V) (H : Heap) : trim m fr H = H ∨ (trim m fr H = H.take m ∧ ∀ v ∈ fr, idsUnder m 8 v = true) := by
  unfold trim
  split
  · rename_i h
    simp only [Bool.and_eq_true, List.all_eq_true] at h
    exact .inr ⟨rfl, h.1⟩
  · exact .inl rfl
theorem Ext.trim {A B : Heap} (h : Ext A B) {m : Nat} (hm : A.length ≤ m) (fr : List V) : Ext A (trim m fr B) := by
  rcases trim_or m fr B with e | ⟨e, _⟩ <;> rw [e]
  · exact h
  · exact h.take hm
theorem Rd.ext {H H' : Heap} {v : V} {l : List V} (h : Rd H v l) (k : Ext H H') : Rd H' v l := by obtain ⟨G, rfl⟩ := k; exact h.app G
theorem getC_ext {H H' : Heap} {id g : Nat} {c : List V} (h : getC H id g = some c) (k : Ext H H') : getC H' id g = some c := by obtain ⟨G, rfl⟩ := k; exact getC_app h
theorem getC_lt {H : Heap} {id g : Nat} {c : List V} (h : getC H id g = some c) : id < H.length := by
  unfold getC at h
  split at h
  · rename_i hh; exact (List.getElem?_eq_some_iff.1 hh).1
  · cases h
theorem getC_new (H : Heap) (g : Nat) (c : List V) : getC (H ++ [.cells g c]) H.length g = some c := by simp [getC]
theorem frOf_mem {n : Nat} {en : Env} {s : Nat} {v : V} (hs : s < n) (h : getV en s = v) : v ∈ frOf n en := by
  unfold frOf
  rw [List.mem_map]
  exact ⟨s, by simpa using hs, h⟩
def Acc (H0 H : Heap) (v : V) (l : List V) : Prop := Ext H0 H ∧ ((l = [] ∧ v = nilS) ∨ ∃ id g, v = .sl id g 0 l.length 1 ∧ getC H id g = some l ∧ H0.length ≤ id)
theorem Acc.start (H : Heap) : Acc H H nilS [] := ⟨Ext.refl H, .inl ⟨rfl, rfl⟩⟩
theorem Acc.rd {H0 H : Heap} {v : V} {l : List V} (h : Acc H0 H v l) : Rd H v l := by
  rcases h.2 with ⟨rfl, rfl⟩ | ⟨id, g, rfl, hc, _⟩
  · exact Rd.nil H
  · have := Rd.sl hc (off := 0) (n := l.length) (by omega)
    rwa [List.drop_zero, List.take_length] at this
theorem Acc.wide {H0 H : Heap} {v : V} {l : List V} (h : Acc H0 H v l) : Wide1 v := by
  rcases h.2 with ⟨_, rfl⟩ | ⟨id, g, rfl, _, _⟩ <;> trivial
theorem Acc.trim {H0 H : Heap} {v : V} {l : List V} (h : Acc H0 H v l) {m : Nat} (hm : H0.length ≤ m) {fr : List V} (hv : v ∈ fr) : Acc H0 (trim m fr H) v l := by
  refine ⟨h.1.trim hm fr, ?_⟩
  rcases h.2 with h2 | ⟨id, g, rfl, hc, hid⟩
  · exact .inl h2
  · refine .inr ⟨id, g, rfl, ?_, hid⟩
    rcases trim_or m fr H with e | ⟨e, hu⟩ <;> rw [e]
    · exact hc
    · have := hu _ hv
      simp only [idsUnder, decide_eq_true_eq] at this
      unfold getC at hc ⊢
      rw [List.getElem?_take_of_lt this]
      exact hc
theorem elems_new {H : Heap} {x : V} : elems (H ++ [.cells 0 [x]]) 1 (.sl H.length 0 0 1 1) = some (1, [x]) := by
  simp [elems, getC]
theorem Acc.append {H0 H : Heap} {v : V} {l : List V} (h : Acc H0 H v l) {base bytes : Nat} (hb : base ≤ H0.length) {x : V} (hx : x.one = true) (hs : (l.length + 1) * bytes ≤ 2 ^ 47) :
    ∃ v' H', appendV (H ++ [.cells 0 [x]]) base 1 bytes v (.sl H.length 0 0 1 1) = some (v', H') ∧ Acc H0 H' v' (l ++ [x]) := by
  have hx' : [x].all V.one = true := by simp [hx]
  rcases h.2 with ⟨rfl, rfl⟩ | ⟨id, g, rfl, hc, hid⟩
  · have hs' : 1 * bytes ≤ 2 ^ 47 := by simpa using hs
    refine ⟨.sl (H.length + 1) 0 0 1 1, H ++ [.cells 0 [x]] ++ [.cells 0 [x]], ?_, h.1.trans ⟨[.cells 0 [x], .cells 0 [x]], by simp⟩, .inr ⟨H.length + 1, 0, rfl, ?_, ?_⟩⟩
    · simp only [appendV, elems_new, hx', if_true, nilS, Nat.one_ne_zero, if_false, hs', List.length_append, List.length_cons, List.length_nil]
    · have := getC_new (H ++ [.cells 0 [x]]) 0 [x]
      simpa using this
    · have := h.1.le; omega
  · have hlt := getC_lt hc
    have hc' := getC_app hc (G := [Ob.cells 0 [x]])
    have hbi : base ≤ id := by omega
    refine ⟨.sl id (g + 1) 0 (l.length + 1) 1, (H ++ [Ob.cells 0 [x]]).set id (.cells (g + 1) (l ++ [x])), ?_, ?_, .inr ⟨id, g + 1, by simp, ?_, hid⟩⟩
    · have h2 : 0 + l.length ≤ l.length := by omega
      simp only [appendV, elems_new, hx', if_true, true_and, hbi, hc', h2, Nat.one_ne_zero, if_false, hs, List.drop_zero, Nat.mul_one, List.take_length]
    · exact (h.1.trans (Ext.app _ _)).set hid _
    · exact getC_set hc' _
theorem append_full {H : Heap} {base bytes id g : Nat} {l xs : List V} {x : V} (hc : getC H id g = some l) (hb : base ≤ id) (hr : Rd H x xs) (ho : xs.all V.one = true) (hs : (l.length + xs.length) * bytes ≤ 2 ^ 47) :
    ∃ g', appendV H base 1 bytes (.sl id g 0 l.length 1) x = some (.sl id g' 0 (l.length + xs.length) 1, H.set id (.cells g' (l ++ xs))) := by
  have h2 : 0 + l.length ≤ l.length := by omega
  by_cases hm : xs.length = 0
  · have : xs = [] := List.eq_nil_of_length_eq_zero hm
    subst this
    refine ⟨g, ?_⟩
    simp only [appendV, hr.2, ho, if_true, true_and, hb, hc, Nat.mul_one, h2, List.length_nil, Nat.add_zero, List.append_nil, getC_same hc]
  · refine ⟨g + 1, ?_⟩
    simp only [appendV, hr.2, ho, if_true, true_and, hb, hc, h2, hm, if_false, hs, List.drop_zero, Nat.mul_one, List.take_length]
def obC (g : Nat) : Ob → Option (List V)
  | .cells g' c => if g' = g then some c else none
  | _ => none
theorem getC_snoc (A : Heap) (ob : Ob) (id g : Nat) : getC (A ++ [ob]) id g = if id = A.length then obC g ob else getC A id g := by
  by_cases h : id = A.length
  · subst h
    simp only [getC, List.getElem?_concat_length, if_true]
    cases ob <;> rfl
  · rw [if_neg h]
    by_cases hl : id < A.length
    · simp only [getC, List.getElem?_append_left hl]
    · have h1 : (A ++ [ob])[id]? = none := List.getElem?_eq_none (by simp; omega)
      have h2 : A[id]? = none := List.getElem?_eq_none (by omega)
      simp only [getC, h1, h2]
theorem obC_same (g : Nat) (c : List V) : obC g (.cells g c) = some c := by simp [obC]
theorem set_snoc (A : Heap) (ob x : Ob) : (A ++ [ob]).set A.length x = A ++ [x] := by simp
theorem len_snoc (A : Heap) (ob : Ob) : (A ++ [ob]).length = A.length + 1 := by simp
theorem ne_add (a b : Nat) : (a = a + (b + 1)) = False := by simp
theorem add_ne (a b : Nat) : (a + (b + 1) = a) = False := by simp
theorem Rd.one {H : Heap} {v : V} {l : List V} (h : Rd H v l) : v.one = true := by
  rcases h.cases with ⟨_, rfl | rfl⟩ | ⟨es, rfl, _⟩ | ⟨id, g, off, n, c, rfl, _⟩ <;> rfl
theorem one_int (k : IntKind) (n : Int) : V.one (.s (.int k n)) = true := rfl
theorem one_str (b : ByteArray) : V.one (.s (.string b)) = true := rfl
theorem one_bool (b : Bool) : V.one (.s (.bool b)) = true := rfl
theorem one_nilS : V.one (.s (.slice none 0 0)) = true := rfl
theorem one_ref (i g o : Nat) : V.one (.ref i g o) = true := rfl
theorem one_sl (i g o l z : Nat) : V.one (.sl i g o l z) = true := rfl
theorem one_psl (es : List (List V)) (z : Nat) : V.one (.psl es z) = true := rfl
theorem one_esl : V.one .esl = true := rfl
theorem one_mp (i : Nat) : V.one (.mp i) = true := rfl
theorem one_fn (f : Nat) (a b : List V) : V.one (.fn f a b) = true := rfl
theorem cells_agg (cs : List V) : V.cells (.agg cs) = cs := rfl
theorem cells_s (v : Value) : V.cells (.s v) = [.s v] := rfl
theorem cells_sl (i g o l z : Nat) : V.cells (.sl i g o l z) = [.sl i g o l z] := rfl
theorem cells_psl (es : List (List V)) (z : Nat) : V.cells (.psl es z) = [.psl es z] := rfl
theorem cells_ref (i g o : Nat) : V.cells (.ref i g o) = [.ref i g o] := rfl
theorem cells_esl : V.cells .esl = [.esl] := rfl
theorem cells_mp (i : Nat) : V.cells (.mp i) = [.mp i] := rfl
theorem cells_of_one {v : V} (h : v.one = true) : v.cells = [v] := by cases v <;> first | rfl | (simp [V.one] at h; done)
theorem fillA_nil (p : Nat → Option (Nat × Nat)) (c : List V) : fillA p c [] = some c := rfl
theorem set_snoc' (A : Heap) (ob x : Ob) (id : Nat) : (A ++ [ob]).set id x = if id = A.length then A ++ [x] else A.set id x ++ [ob] := by
  by_cases h : id = A.length
  · subst h; simp
  · rw [if_neg h]
    by_cases hl : id < A.length
    · rw [List.set_append_left _ _ hl]
    · rw [List.set_eq_of_length_le (by simp; omega), List.set_eq_of_length_le (by omega)]
theorem appendV_esl {H : Heap} {base bytes : Nat} {x : V} {xs : List V} (hr : Rd H x xs) (ho : xs.all V.one = true) (hs : xs.length * bytes ≤ 2 ^ 47) :
    appendV H base 1 bytes .esl x = if xs.length = 0 then some (.esl, H) else some (.sl H.length 0 0 xs.length 1, H ++ [.cells 0 xs]) := by
  simp only [appendV, hr.2, ho, if_true, hs]
theorem appendV_nil {H : Heap} {base bytes : Nat} {x : V} {xs : List V} (hr : Rd H x xs) (ho : xs.all V.one = true) (hs : xs.length * bytes ≤ 2 ^ 47) :
    appendV H base 1 bytes nilS x = if xs.length = 0 then some (nilS, H) else some (.sl H.length 0 0 xs.length 1, H ++ [.cells 0 xs]) := by
  simp only [appendV, nilS, hr.2, ho, if_true, hs]
theorem storeV_ref (H : Heap) (base n : Nat) (v : V) (id g off : Nat) : storeV H base n v (.ref id g off) = if base ≤ id then (match getC H id g with
      | some c => if v.cells.length = n ∧ off + n ≤ c.length ∧ v.cells.all V.one then some (H.set id (.cells g (splice c off v.cells))) else none
      | none => none) else none := rfl
end Go.AM
namespace Go.AM
open Go.RowKit
def intsOf : List V → Option (List Int)
  | [] => some []
  | .s (.int .i64 n) :: l => (intsOf l).map (n :: ·)
  | _ :: _ => none
def iV (n : Int) : V := .s (.int .i64 n)
theorem intsOf_eq : ∀ {l : List V} {zs : List Int}, intsOf l = some zs → l = zs.map iV := by
  intro l
  induction l with
  | nil => intro zs h; cases h; rfl
  | cons x l ih =>
    intro zs h
    unfold intsOf at h
    split at h
    · rename_i e; cases e
    · rename_i n l' e
      cases e
      rw [Option.map_eq_some_iff] at h
      obtain ⟨ys, h1, rfl⟩ := h
      rw [ih h1]; rfl
    · cases h
theorem intsOf_map : ∀ zs : List Int, intsOf (zs.map iV) = some zs := by
  intro zs
  induction zs with
  | nil => rfl
  | cons z zs ih => simp [iV, intsOf]; exact ih
def sortZ (zs : List Int) : List Int := zs.mergeSort fun x y => decide (x ≤ y)
def sortG : List V → Nat → Heap → Option (V × Heap)
  | [.s (.slice none 0 0)], _, H => some (und, H)
  | [.esl], _, H => some (und, H)
  | [.sl id g off n z], base, H =>
    if n = 0 then some (und, H) else if base ≤ id ∧ z = 1 ∧ n < 4611686018427387904 then
      match getC H id g with
      | some c => match intsOf ((c.drop off).take n) with
        | some zs => if off + n ≤ c.length then some (und, H.set id (.cells g (splice c off ((sortZ zs).map iV)))) else none
        | none => none
      | none => none
    else none
  | _, _, _ => none
end Go.AM
namespace Go.AM
def am0 := And.intro @evC_skip (And.intro @evC_exit (And.intro @evC_ret (And.intro @evC_seq (And.intro @evC_block (And.intro @evC_cond (And.intro @evC_loop (And.intro @evC_row (And.intro @thenC_nrm (And.intro @thenC_ext (And.intro @thenC_ret (And.intro @thenC_none (And.intro @thenC_cond (And.intro @outC_nrm (And.intro @outC_ret (And.intro @outC_ext (And.intro @outC_none (And.intro @outC_cond (And.intro @condC_bool (And.intro @rowC_some (And.intro @opsC_some (And.intro @Bool.not_true (And.intro @Bool.not_false (And.intro @Bool.and_false (And.intro @Bool.false_and (And.intro @taleR_true (And.intro @setOuts_nil (And.intro @setOuts_cons (And.intro @outE_some (And.intro @reqE_nil (And.intro @reqE_cons (And.intro @reqB_bool (And.intro @Bool.and_true (And.intro @Bool.true_and (And.intro @V1_some (And.intro @V2_some (And.intro @evE_t (And.intro @evE_c (And.intro @evE_pick (@pickO_bool)))))))))))))))))))))))))))))))))))))))
def am1 := And.intro @pickO_true (And.intro @pickO_false (And.intro @evE_bin (And.intro @evE_binL (And.intro @evE_binR (And.intro @evE_eqB (And.intro @evE_eqBL (And.intro @evE_eqBR (And.intro @evE_eqAgg (And.intro @evE_eqAggL (And.intro @evE_eqAggR (And.intro @evE_indexAddr (And.intro @evE_indexAddrL (And.intro @evE_indexAddrR (And.intro @evE_indexStr (And.intro @evE_indexStrL (And.intro @evE_indexStrR (And.intro @evE_minmax (And.intro @evE_minmaxL (And.intro @evE_minmaxR (And.intro @evE_mapGet (And.intro @evE_mapGetL (And.intro @evE_mapGetR (And.intro @evE_nilCheck (And.intro @evE_eqNil (And.intro @evE_un (And.intro @evE_conv (And.intro @evE_convId (And.intro @evE_fieldAddr (And.intro @evE_field (And.intro @evE_extract (And.intro @evE_lenS (And.intro @evE_load (And.intro @evE_build (And.intro @evE_mkFn (And.intro @evE_subStr (And.intro @evE_subSl (And.intro @evEs_nil (And.intro @evEs_cons (@L1_some)))))))))))))))))))))))))))))))))))))))
def am2 := And.intro @frOf_get (And.intro @frOf_set (And.intro @frOf_kill (And.intro @getV_cons (And.intro @getV_nil (And.intro @putV_cons (And.intro @putV_nil (And.intro @killV_cons (And.intro @killV_nil (And.intro @startV_cons (And.intro @not_true_eq_false (And.intro @not_false_eq_true (And.intro @Bool.or_false (And.intro @Bool.false_or (And.intro @Bool.or_true (And.intro @Bool.true_or (And.intro @Bool.false_eq_true (And.intro @decide_true (And.intro @decide_false (And.intro @Int.toNat_natCast (And.intro @Int.natCast_nonneg (And.intro @Bool.cond_true_left (And.intro @Bool.cond_false_right (And.intro @Bool.cond_false_left (And.intro @Bool.cond_true_right (And.intro @free_row (And.intro @kept_row (And.intro @stepW_nrm (And.intro @stepW_ext (And.intro @stepW_ret (And.intro @stepW_cond (And.intro @trim_self (And.intro @retC_nrm (And.intro @retC_ret (And.intro @retC_cond (And.intro @resultV1 (And.intro @resultV2 (And.intro @resV_tmp (And.intro @resV_cell (@evOps_nil)))))))))))))))))))))))))))))))))))))))
def am3 := And.intro @evOps_cons (And.intro @evOps_guard (And.intro @opK_bool (And.intro @wantV_bool (And.intro @wantV_und (And.intro @resK_some (And.intro @put_some (And.intro @put_none (And.intro @resK_cond (And.intro @opsC_cond (And.intro @ev_t (And.intro @ev_c (And.intro @beq_true (And.intro @beq_false (And.intro @op_bin (And.intro @op_eqB (And.intro @op_eqAgg (And.intro @op_indexAddr (And.intro @op_indexStr (And.intro @op_minmax (And.intro @op_nilCheck (And.intro @op_eqNil (And.intro @op_un (And.intro @op_conv (And.intro @op_convId (And.intro @op_fieldAddr (And.intro @op_field (And.intro @op_extract (And.intro @op_lenS (And.intro @op_load (And.intro @op_mapGet (And.intro @op_move (And.intro @op_alloc (And.intro @op_box (And.intro @op_mapNew (And.intro @op_store (And.intro @op_mkFn (And.intro @op_append (And.intro @op_call (@op_callR)))))))))))))))))))))))))))))))))))))))
def am4 := And.intro @op_build (And.intro @op_buildSl (And.intro @mkSlV_some (And.intro @RH_some (And.intro @RS_some (And.intro @evOp_pick (And.intro @pickR_bool (And.intro @pickR_same (And.intro @Bool.bne_false (And.intro @Bool.bne_true (And.intro @xb_add (And.intro @xb_sub (And.intro @xb_mul (And.intro @xb_eql (And.intro @xb_neq (And.intro @xb_lss (And.intro @xb_leq (And.intro @xb_gtr (And.intro @xb_geq (And.intro @xb_and (And.intro @xb_or (And.intro @xb_xor (And.intro @xb_andNot (And.intro @xb_quo (And.intro @xb_rem (And.intro @xb_shl (And.intro @xb_shr (And.intro @xs_eql (And.intro @xs_neq (And.intro @xs_lss (And.intro @xs_add (And.intro @xq_b (And.intro @xn_pn (And.intro @xn_pr (And.intro @xn_pp (And.intro @xn_sn (And.intro @xn_ss (And.intro @xn_sp (And.intro @xn_se (@xn_mn)))))))))))))))))))))))))))))))))))))))
def am5 := And.intro @xn_mm (And.intro @xn_fn (And.intro @xn_ff (And.intro @xn_fy (And.intro @xg (And.intro @xu_not (And.intro @xu_neg (And.intro @xc_int (And.intro @xc_id (And.intro @xk_ref (And.intro @xk_pref (And.intro @xk_fn (And.intro @xk_yld (And.intro @xa_ref (And.intro @xa_pref (And.intro @xf_agg (And.intro @xi_sl (And.intro @xi_psl (And.intro @xj_str (And.intro @xe_tup (And.intro @xl_str (And.intro @xl_nil (And.intro @xl_esl (And.intro @xl_psl (And.intro @xl_sl (And.intro @xl_mnil (And.intro @xo_ref (And.intro @xo_pref (And.intro @xm (And.intro @shut_agg (And.intro @shut_one (And.intro @Nat.le_refl (And.intro @and_self (And.intro @and_true (And.intro @true_and (And.intro @Nat.zero_add (And.intro @Nat.mul_one (And.intro @Nat.add_zero (And.intro @set_set' (@bndV_none)))))))))))))))))))))))))))))))))))))))
def am6 := And.intro @bndV_int (And.intro @xslice_nil (And.intro @xslice_esl (And.intro @xslice_psl (And.intro @xslice_sl (And.intro @cutSl_some (And.intro @cutPsl_some (And.intro @cutNil_some (And.intro @op_subSl (And.intro @xsub_sl (And.intro @op_clear (And.intro @Int.sub_zero (And.intro @Int.le_refl (And.intro @cast0 (And.intro @toNat0 (And.intro @getC_snoc (And.intro @obC_same (And.intro @len_snoc (And.intro @ne_add (And.intro @add_ne (And.intro @one_int (And.intro @one_str (And.intro @one_bool (And.intro @one_nilS (And.intro @one_ref (And.intro @one_sl (And.intro @one_psl (And.intro @one_esl (And.intro @one_mp (And.intro @one_fn (And.intro @cells_agg (And.intro @cells_s (And.intro @cells_sl (And.intro @cells_psl (And.intro @cells_ref (And.intro @cells_esl (And.intro @cells_mp (And.intro @fillA_nil (And.intro @startA_nil (@startA_cons)))))))))))))))))))))))))))))))))))))))
def am7 := And.intro @segC_some (And.intro @segL_some (And.intro @set_snoc' (And.intro @storeV_ref (@Nat.add_assoc))))
def al0 := @Bool.cond_self
def al1 := @List.all_cons
def al2 := @List.all_nil
def al3 := @Option.isSome_some
def al4 := @Option.map_some
def al5 := @ne_eq
def al6 := @if_false
def al7 := @if_true
def al8 := @List.contains_cons
def al9 := @List.contains_nil
def al10 := @cond_true
def al11 := @cond_false
def al12 := @List.nil_append
def al13 := @List.append_nil
def al14 := @List.cons_append
def al15 := @List.map_cons
def al16 := @List.map_nil
def al17 := @beq_self_eq_true
def al18 := @bne_self_eq_false
def al19 := @List.getElem?_cons_zero
def al20 := @List.getElem?_cons_succ
def al21 := @List.drop_zero
def al22 := @List.drop_succ_cons
def al23 := @List.take_succ_cons
def al24 := @List.take_zero
def al25 := @List.take_nil
def al26 := @List.drop_nil
def al27 := @List.length_cons
def al28 := @List.length_nil
def al29 := @Option.map_none
def al30 := @List.getD_cons_zero
def al31 := @List.getD_cons_succ
def al32 := @List.length_set
def al33 := @List.set_cons_zero
def al34 := @List.set_cons_succ
end Go.AM
set_option maxRecDepth 100000
namespace Go.Proofs.Ytmnlagcmpgilaaa
open Go.AM
abbrev k_gnomonlaw07_great : Nat := 9
def s_gnomonlaw07_great_r0_k : List Nat := [1, 2, 3, 4, 5, 6, 7, 8, 9, 10, 11, 12, 13, 14, 15, 16, 17, 18, 19, 20, 21, 22, 23, 24, 25, 26, 27, 28]
theorem s_gnomonlaw07_great_r0_kT : killV s_gnomonlaw07_great_r0_k (startV 29 [] 1) = [] := by kernel_rfl
theorem s_gnomonlaw07_great_r0_kA0 : s_gnomonlaw07_great_r0_k.contains 0 = false := by kernel_rfl
def s_gnomonlaw07_great_r0 : List AOper := [
  ⟨some 2, (.move (.c (.s (.bool false)))), none⟩]
theorem s_gnomonlaw07_great_r0_tale (fr : List V) (H : Heap) : evTale (symAll s_gnomonlaw07_great_r0 s_gnomonlaw07_great_r0_k []) s_gnomonlaw07_great_r0_k fr H = evTale (some (3, [], [])) s_gnomonlaw07_great_r0_k fr H := tale_row (items := [.cc (.s (.bool false))]) (by kernel_rfl) fr H
def s_gnomonlaw07_great_r1 : List AOper := [
  ⟨some 5, (.move (.t 0)), none⟩,
  ⟨some 6, (.lenS .s (.t 5)), none⟩,
  ⟨some 7, (.bin .gtr (.t 6) (.c (.s (.int .i64 200)))), none⟩]
theorem s_gnomonlaw07_great_r1_tale (fr : List V) (H : Heap) : evTale (symAll s_gnomonlaw07_great_r1 [5, 6] [7]) [5, 6] fr H = evTale (some (8, [], [(7, (.op (.bin .gtr (.t 0) (.c (.s (.int .i64 200)))) [(.op (.lenS .s (.t 0)) [(.t 0)]), (.c (.s (.int .i64 200)))]))])) [5, 6] fr H := tale_row (items := [.tt 0, .sub 0 [0] [], .sub 0 [] []]) (by kernel_rfl) fr H
def s_gnomonlaw07_great_r2 : List AOper := [
  ⟨some 2, (.move (.c (.s (.bool true)))), none⟩]
theorem s_gnomonlaw07_great_r2_tale (fr : List V) (H : Heap) : evTale (symAll s_gnomonlaw07_great_r2 [0, 7] [2]) [0, 7] fr H = evTale (some (3, [], [(2, (.c (.s (.bool true))))])) [0, 7] fr H := tale_row (items := [.cc (.s (.bool true))]) (by kernel_rfl) fr H
def s_gnomonlaw07_great_r3 : List AOper := [
  ⟨some 3, (.move (.c (.s (.int .i64 0)))), none⟩]
theorem s_gnomonlaw07_great_r3_tale (fr : List V) (H : Heap) : evTale (symAll s_gnomonlaw07_great_r3 [7] [3]) [7] fr H = evTale (some (4, [], [(3, (.c (.s (.int .i64 0))))])) [7] fr H := tale_row (items := [.cc (.s (.int .i64 0))]) (by kernel_rfl) fr H
def s_gnomonlaw07_great_r4 : List AOper := [
  ⟨some 4, (.move (.c (.s (.int .i64 0)))), none⟩]
theorem s_gnomonlaw07_great_r4_tale (fr : List V) (H : Heap) : evTale (symAll s_gnomonlaw07_great_r4 [] [4]) [] fr H = evTale (some (5, [], [(4, (.c (.s (.int .i64 0))))])) [] fr H := tale_row (items := [.cc (.s (.int .i64 0))]) (by kernel_rfl) fr H
def s_gnomonlaw07_great_r5 : List AOper := [
  ⟨some 8, (.move (.t 4)), none⟩,
  ⟨some 9, (.move (.t 0)), none⟩,
  ⟨some 10, (.lenS .s (.t 9)), none⟩,
  ⟨some 11, (.bin .lss (.t 8) (.t 10)), none⟩]
theorem s_gnomonlaw07_great_r5_tale (fr : List V) (H : Heap) : evTale (symAll s_gnomonlaw07_great_r5 [8, 9, 10] [11]) [8, 9, 10] fr H = evTale (some (12, [], [(11, (.op (.bin .lss (.t 0) (.t 1)) [(.t 4), (.op (.lenS .s (.t 0)) [(.t 0)])]))])) [8, 9, 10] fr H := tale_row (items := [.tt 4, .tt 0, .sub 0 [1] [], .sub 0 [] []]) (by kernel_rfl) fr H
def s_gnomonlaw07_great_r6 : List AOper := [
  ⟨some 14, (.move (.t 0)), none⟩,
  ⟨some 15, (.move (.t 4)), none⟩,
  ⟨some 16, (.indexAddr 1 (.t 14) (.t 15)), none⟩,
  ⟨some 17, (.load false 1 (.t 16)), none⟩,
  ⟨some 18, (.lenS .s (.t 17)), none⟩,
  ⟨some 19, (.bin .gtr (.t 18) (.c (.s (.int .i64 3000)))), none⟩]
theorem s_gnomonlaw07_great_r6_tale (fr : List V) (H : Heap) : evTale (symAll s_gnomonlaw07_great_r6 [11, 14, 15, 16, 17, 18] [19]) [11, 14, 15, 16, 17, 18] fr H = evTale (some (20, [], [(19, (.op (.bin .gtr (.t 0) (.c (.s (.int .i64 3000)))) [(.op (.lenS .s (.t 0)) [(.op (.load false 1 (.t 0)) [(.op (.indexAddr 1 (.t 0) (.t 1)) [(.t 0), (.t 4)])])]), (.c (.s (.int .i64 3000)))]))])) [11, 14, 15, 16, 17, 18] fr H := tale_row (items := [.tt 0, .tt 4, .sub 0 [0, 0, 0] [], .sub 0 [0, 0] [], .sub 0 [0] [], .sub 0 [] []]) (by kernel_rfl) fr H
def s_gnomonlaw07_great_r7 : List AOper := [
  ⟨some 2, (.move (.c (.s (.bool true)))), none⟩]
theorem s_gnomonlaw07_great_r7_tale (fr : List V) (H : Heap) : evTale (symAll s_gnomonlaw07_great_r7 [0, 3, 4, 19] [2]) [0, 3, 4, 19] fr H = evTale (some (3, [], [(2, (.c (.s (.bool true))))])) [0, 3, 4, 19] fr H := tale_row (items := [.cc (.s (.bool true))]) (by kernel_rfl) fr H
def s_gnomonlaw07_great_r8 : List AOper := [
  ⟨some 20, (.move (.t 3)), none⟩,
  ⟨some 21, (.move (.t 0)), none⟩,
  ⟨some 22, (.move (.t 4)), none⟩,
  ⟨some 23, (.indexAddr 1 (.t 21) (.t 22)), none⟩,
  ⟨some 24, (.load false 1 (.t 23)), none⟩,
  ⟨some 25, (.lenS .s (.t 24)), none⟩,
  ⟨some 26, (.bin .add (.t 20) (.t 25)), none⟩,
  ⟨some 3, (.move (.t 26)), none⟩]
theorem s_gnomonlaw07_great_r8_tale (fr : List V) (H : Heap) : evTale (symAll s_gnomonlaw07_great_r8 [19, 20, 21, 22, 23, 24, 25, 26] [3]) [19, 20, 21, 22, 23, 24, 25, 26] fr H = evTale (some (27, [], [(3, (.op (.bin .add (.t 0) (.t 1)) [(.t 3), (.op (.lenS .s (.t 0)) [(.op (.load false 1 (.t 0)) [(.op (.indexAddr 1 (.t 0) (.t 1)) [(.t 0), (.t 4)])])])]))])) [19, 20, 21, 22, 23, 24, 25, 26] fr H := tale_row (items := [.tt 3, .tt 0, .tt 4, .sub 0 [1, 0, 0] [], .sub 0 [1, 0] [], .sub 0 [1] [], .sub 0 [] [], .sub 0 [] []]) (by kernel_rfl) fr H
def s_gnomonlaw07_great_r9 : List AOper := [
  ⟨some 12, (.move (.t 4)), none⟩,
  ⟨some 13, (.bin .add (.t 12) (.c (.s (.int .i64 1)))), none⟩,
  ⟨some 4, (.move (.t 13)), none⟩]
theorem s_gnomonlaw07_great_r9_tale (fr : List V) (H : Heap) : evTale (symAll s_gnomonlaw07_great_r9 [12, 13] [4]) [12, 13] fr H = evTale (some (14, [], [(4, (.op (.bin .add (.t 0) (.c (.s (.int .i64 1)))) [(.t 4), (.c (.s (.int .i64 1)))]))])) [12, 13] fr H := tale_row (items := [.tt 4, .sub 0 [] [], .sub 0 [] []]) (by kernel_rfl) fr H
def s_gnomonlaw07_great_l0_b : ACode :=
  (.seq (.seq (.regionE s_gnomonlaw07_great_r5 [8, 9, 10] [11])
  (.cond (.t 11)
  .skip
  (.exit 0)))
  (.seq (.block 1
  (.seq (.seq (.regionE s_gnomonlaw07_great_r6 [11, 14, 15, 16, 17, 18] [19])
  (.cond (.t 19)
  (.seq (.regionE s_gnomonlaw07_great_r7 [0, 3, 4, 19] [2])
  .ret)
  .skip))
  (.regionE s_gnomonlaw07_great_r8 [19, 20, 21, 22, 23, 24, 25, 26] [3])))
  (.regionE s_gnomonlaw07_great_r9 [12, 13] [4])))
def s_gnomonlaw07_great_l0 : ACode := s_gnomonlaw07_great_l0_b
theorem s_gnomonlaw07_great_l0_ev (call : CallF) (it : IterF) (base : Nat) (fr : List V) (H : Heap) : evC call it base s_gnomonlaw07_great_l0 fr H = evC call it base s_gnomonlaw07_great_l0_b fr H := rfl
def s_gnomonlaw07_great_r10 : List AOper := [
  ⟨some 27, (.move (.t 3)), none⟩,
  ⟨some 28, (.bin .gtr (.t 27) (.c (.s (.int .i64 3000)))), none⟩,
  ⟨some 2, (.move (.t 28)), none⟩]
theorem s_gnomonlaw07_great_r10_tale (fr : List V) (H : Heap) : evTale (symAll s_gnomonlaw07_great_r10 [0, 3, 4, 11, 27, 28] [2]) [0, 3, 4, 11, 27, 28] fr H = evTale (some (29, [], [(2, (.op (.bin .gtr (.t 0) (.c (.s (.int .i64 3000)))) [(.t 3), (.c (.s (.int .i64 3000)))]))])) [0, 3, 4, 11, 27, 28] fr H := tale_row (items := [.tt 3, .sub 0 [] [], .sub 0 [] []]) (by kernel_rfl) fr H
def s_gnomonlaw07_great : ACFun := { ntmps := 29, results := [(.tmp 2)], body :=
  (.seq (.regionE s_gnomonlaw07_great_r0 s_gnomonlaw07_great_r0_k [])
  (.seq (.seq (.regionE s_gnomonlaw07_great_r1 [5, 6] [7])
  (.cond (.t 7)
  (.seq (.regionE s_gnomonlaw07_great_r2 [0, 7] [2])
  .ret)
  .skip))
  (.seq (.regionE s_gnomonlaw07_great_r3 [7] [3])
  (.seq (.seq (.regionE s_gnomonlaw07_great_r4 [] [4])
  (.block 0
  (.loop [] s_gnomonlaw07_great_l0)))
  (.seq (.regionE s_gnomonlaw07_great_r10 [0, 3, 4, 11, 27, 28] [2])
  .ret))))) }
abbrev k_graph_Norm : Nat := 12
def s_graph_Norm_r0_k : List Nat := [0, 2, 3, 4, 5, 6, 7, 8, 9, 10, 11, 12, 13, 14, 15, 16, 17, 18, 19, 20, 21, 22, 23, 24, 25, 26, 27, 28, 29]
theorem s_graph_Norm_r0_k_kA0 : s_graph_Norm_r0_k.contains 0 = true := by kernel_rfl
theorem s_graph_Norm_r0_k_kA1 : s_graph_Norm_r0_k.contains 1 = false := by kernel_rfl
theorem s_graph_Norm_r0_k_kA2 : s_graph_Norm_r0_k.contains 2 = true := by kernel_rfl
def s_graph_Norm_r0t1 : List AOper := [⟨some 2, (.move (.c (.s (.slice none 0 0)))), none⟩]
def s_graph_Norm_r0p0 : List AOper := [⟨some 1, (.box (.t 0)), none⟩]
def s_graph_Norm_r0 : List AOper := s_graph_Norm_r0p0 ++ s_graph_Norm_r0t1
theorem s_graph_Norm_r0_x (call : CallF) (it : IterF) (base : Nat) (f : List V) (H : Heap) : evC call it base (.region s_graph_Norm_r0 [] s_graph_Norm_r0_k) f H = thenC call it base (.region s_graph_Norm_r0t1 [] s_graph_Norm_r0_k) (opsC [] s_graph_Norm_r0p0 [0, 2, 3, 4, 5, 6, 7, 8, 9, 10, 11, 12, 13, 14, 15, 16, 17, 18, 19, 20, 21, 22, 23, 24, 25, 26, 27, 28, 29] (evOps call base [⟨some 1, (.box (.t 0)), none⟩] f H)) := (row_op call it base s_graph_Norm_r0p0 s_graph_Norm_r0t1 (kc := [0, 2, 3, 4, 5, 6, 7, 8, 9, 10, 11, 12, 13, 14, 15, 16, 17, 18, 19, 20, 21, 22, 23, 24, 25, 26, 27, 28, 29]) (by kernel_rfl) f H).trans (by rw [row_ops]; rfl)
theorem s_graph_Norm_r0t1_tale (fr : List V) (H : Heap) : evTale (symAll s_graph_Norm_r0t1 s_graph_Norm_r0_k []) s_graph_Norm_r0_k fr H = evTale (some (3, [], [])) s_graph_Norm_r0_k fr H := tale_row (items := [.cc (.s (.slice none 0 0))]) (by kernel_rfl) fr H
theorem s_graph_Norm_r0t1_x (call : CallF) (it : IterF) (base : Nat) (f : List V) (H : Heap) : evC call it base (.region s_graph_Norm_r0t1 [] s_graph_Norm_r0_k) f H = segL H (evTale (symAll s_graph_Norm_r0t1 s_graph_Norm_r0_k []) s_graph_Norm_r0_k f H) (origRow call it base s_graph_Norm_r0t1 s_graph_Norm_r0_k f H) := row_last call it base _ f H
def s_graph_Norm_r1t2 : List AOper := [⟨some 3, (.move (.t 9)), none⟩]
def s_graph_Norm_r1p1 : List AOper := [⟨some 9, (.mkSl [(.s (.slice none 0 0))] 1 24 (.t 8) (.t 8)), none⟩]
def s_graph_Norm_r1t1 : List AOper := s_graph_Norm_r1p1 ++ s_graph_Norm_r1t2
def s_graph_Norm_r1p0 : List AOper := [⟨some 7, (.load false 1 (.t 1)), none⟩, ⟨some 8, (.lenS .s (.t 7)), none⟩]
def s_graph_Norm_r1 : List AOper := s_graph_Norm_r1p0 ++ s_graph_Norm_r1t1
theorem s_graph_Norm_r1p0_tale (fr : List V) (H : Heap) : evTale (symAll s_graph_Norm_r1p0 [7] [8]) [7] fr H = evTale (some (9, [], [(8, (.op (.lenS .s (.t 0)) [(.op (.load false 1 (.t 0)) [(.t 1)])]))])) [7] fr H := tale_row (items := [.sub 0 [0] [], .sub 0 [] []]) (by kernel_rfl) fr H
theorem s_graph_Norm_r1_x (call : CallF) (it : IterF) (base : Nat) (f : List V) (H : Heap) : evC call it base (.region s_graph_Norm_r1 [] [7, 8, 9]) f H = segC call it base s_graph_Norm_r1t1 [7, 8, 9] H (evTale (symAll s_graph_Norm_r1p0 [7] [8]) [7] f H) (origRow call it base s_graph_Norm_r1 [7, 8, 9] f H) := row_seg call it base s_graph_Norm_r1p0 s_graph_Norm_r1t1 (by kernel_rfl) f H
theorem s_graph_Norm_r1t1_x (call : CallF) (it : IterF) (base : Nat) (f : List V) (H : Heap) : evC call it base (.region s_graph_Norm_r1t1 [] [7, 8, 9]) f H = thenC call it base (.region s_graph_Norm_r1t2 [] [7, 8, 9]) (opsC [] s_graph_Norm_r1p1 [8] (evOps call base [⟨some 9, (.mkSl [(.s (.slice none 0 0))] 1 24 (.t 8) (.t 8)), none⟩] f H)) := (row_op call it base s_graph_Norm_r1p1 s_graph_Norm_r1t2 (kc := [8]) (by kernel_rfl) f H).trans (by rw [row_ops]; rfl)
theorem s_graph_Norm_r1t2_tale (fr : List V) (H : Heap) : evTale (symAll s_graph_Norm_r1t2 [7, 8, 9] [3]) [7, 8, 9] fr H = evTale (some (4, [], [(3, (.t 9))])) [7, 8, 9] fr H := tale_row (items := [.tt 9]) (by kernel_rfl) fr H
theorem s_graph_Norm_r1t2_x (call : CallF) (it : IterF) (base : Nat) (f : List V) (H : Heap) : evC call it base (.region s_graph_Norm_r1t2 [] [7, 8, 9]) f H = segL H (evTale (symAll s_graph_Norm_r1t2 [7, 8, 9] [3]) [7, 8, 9] f H) (origRow call it base s_graph_Norm_r1t2 [7, 8, 9] f H) := row_last call it base _ f H
def s_graph_Norm_r2 : List AOper := [
  ⟨some 10, (.load false 1 (.t 1)), none⟩,
  ⟨some 11, (.lenS .s (.t 10)), none⟩,
  ⟨some 12, (.move (.c (.s (.int .i64 0)))), none⟩]
theorem s_graph_Norm_r2_tale (fr : List V) (H : Heap) : evTale (symAll s_graph_Norm_r2 [] [10, 11, 12]) [] fr H = evTale (some (13, [], [(10, (.op (.load false 1 (.t 0)) [(.t 1)])), (11, (.op (.lenS .s (.t 0)) [(.op (.load false 1 (.t 0)) [(.t 1)])])), (12, (.c (.s (.int .i64 0))))])) [] fr H := tale_row (items := [.sub 0 [] [], .sub 1 [] [], .cc (.s (.int .i64 0))]) (by kernel_rfl) fr H
def s_graph_Norm_r3 : List AOper := [
  ⟨some 13, (.bin .lss (.t 12) (.t 11)), none⟩]
theorem s_graph_Norm_r3_tale (fr : List V) (H : Heap) : evTale (symAll s_graph_Norm_r3 [] [13]) [] fr H = evTale (some (14, [], [(13, (.op (.bin .lss (.t 0) (.t 1)) [(.t 12), (.t 11)]))])) [] fr H := tale_row (items := [.sub 0 [] []]) (by kernel_rfl) fr H
def s_graph_Norm_r4 : List AOper := [
  ⟨some 14, (.move (.t 12)), none⟩,
  ⟨some 15, (.indexAddr 1 (.t 10) (.t 12)), none⟩,
  ⟨some 16, (.load false 1 (.t 15)), none⟩,
  ⟨some 4, (.move (.t 14)), none⟩,
  ⟨some 5, (.move (.t 16)), none⟩]
theorem s_graph_Norm_r4_tale (fr : List V) (H : Heap) : evTale (symAll s_graph_Norm_r4 [13, 14, 15, 16] [4, 5]) [13, 14, 15, 16] fr H = evTale (some (17, [], [(4, (.t 12)), (5, (.op (.load false 1 (.t 0)) [(.op (.indexAddr 1 (.t 0) (.t 1)) [(.t 10), (.t 12)])]))])) [13, 14, 15, 16] fr H := tale_row (items := [.tt 12, .sub 1 [0] [], .sub 1 [] [], .tt 12, .sub 1 [] []]) (by kernel_rfl) fr H
def s_graph_Norm_r5t4 : List AOper := [⟨some 6, (.move (.t 20)), none⟩]
def s_graph_Norm_r5p3 : List AOper := [⟨some 20, (.call (.c (.fn 26 [] [])) [(.t 18), (.t 19)]), none⟩]
def s_graph_Norm_r5t3 : List AOper := s_graph_Norm_r5p3 ++ s_graph_Norm_r5t4
def s_graph_Norm_r5p2 : List AOper := [⟨some 19, (.mkFn 28 [] [(.t 1)]), none⟩]
def s_graph_Norm_r5t2 : List AOper := s_graph_Norm_r5p2 ++ s_graph_Norm_r5t3
def s_graph_Norm_r5p1 : List AOper := [⟨some 18, (.call (.c (.fn 27 [] [])) [(.t 17)]), none⟩]
def s_graph_Norm_r5t1 : List AOper := s_graph_Norm_r5p1 ++ s_graph_Norm_r5t2
def s_graph_Norm_r5p0 : List AOper := [⟨some 17, (.move (.t 5)), none⟩]
def s_graph_Norm_r5 : List AOper := s_graph_Norm_r5p0 ++ s_graph_Norm_r5t1
theorem s_graph_Norm_r5p0_tale (fr : List V) (H : Heap) : evTale (symAll s_graph_Norm_r5p0 [5] [17]) [5] fr H = evTale (some (18, [], [(17, (.t 5))])) [5] fr H := tale_row (items := [.tt 5]) (by kernel_rfl) fr H
theorem s_graph_Norm_r5_x (call : CallF) (it : IterF) (base : Nat) (f : List V) (H : Heap) : evC call it base (.region s_graph_Norm_r5 [] [5, 17, 18, 19, 20]) f H = segC call it base s_graph_Norm_r5t1 [5, 17, 18, 19, 20] H (evTale (symAll s_graph_Norm_r5p0 [5] [17]) [5] f H) (origRow call it base s_graph_Norm_r5 [5, 17, 18, 19, 20] f H) := row_seg call it base s_graph_Norm_r5p0 s_graph_Norm_r5t1 (by kernel_rfl) f H
theorem s_graph_Norm_r5t1_x (call : CallF) (it : IterF) (base : Nat) (f : List V) (H : Heap) : evC call it base (.region s_graph_Norm_r5t1 [] [5, 17, 18, 19, 20]) f H = thenC call it base (.region s_graph_Norm_r5t2 [] [5, 17, 18, 19, 20]) (opsC [] s_graph_Norm_r5p1 [17] (evOps call base [⟨some 18, (.call (.c (.fn 27 [] [])) [(.t 17)]), none⟩] f H)) := (row_op call it base s_graph_Norm_r5p1 s_graph_Norm_r5t2 (kc := [17]) (by kernel_rfl) f H).trans (by rw [row_ops]; rfl)
theorem s_graph_Norm_r5p2_tale (fr : List V) (H : Heap) : evTale (symAll s_graph_Norm_r5p2 [] [19]) [] fr H = evTale (some (20, [], [(19, (.op (.mkFn 28 [] [(.t 0)]) [(.t 1)]))])) [] fr H := tale_row (items := [.sub 0 [] []]) (by kernel_rfl) fr H
theorem s_graph_Norm_r5t2_x (call : CallF) (it : IterF) (base : Nat) (f : List V) (H : Heap) : evC call it base (.region s_graph_Norm_r5t2 [] [5, 17, 18, 19, 20]) f H = segC call it base s_graph_Norm_r5t3 [5, 17, 18, 19, 20] H (evTale (symAll s_graph_Norm_r5p2 [] [19]) [] f H) (origRow call it base s_graph_Norm_r5t2 [5, 17, 18, 19, 20] f H) := row_seg call it base s_graph_Norm_r5p2 s_graph_Norm_r5t3 (by kernel_rfl) f H
theorem s_graph_Norm_r5t3_x (call : CallF) (it : IterF) (base : Nat) (f : List V) (H : Heap) : evC call it base (.region s_graph_Norm_r5t3 [] [5, 17, 18, 19, 20]) f H = thenC call it base (.region s_graph_Norm_r5t4 [] [5, 17, 18, 19, 20]) (opsC [] s_graph_Norm_r5p3 [18, 19] (evOps call base [⟨some 20, (.call (.c (.fn 26 [] [])) [(.t 18), (.t 19)]), none⟩] f H)) := (row_op call it base s_graph_Norm_r5p3 s_graph_Norm_r5t4 (kc := [18, 19]) (by kernel_rfl) f H).trans (by rw [row_ops]; rfl)
theorem s_graph_Norm_r5t4_tale (fr : List V) (H : Heap) : evTale (symAll s_graph_Norm_r5t4 [5, 17, 18, 19, 20] [6]) [5, 17, 18, 19, 20] fr H = evTale (some (7, [], [(6, (.t 20))])) [5, 17, 18, 19, 20] fr H := tale_row (items := [.tt 20]) (by kernel_rfl) fr H
theorem s_graph_Norm_r5t4_x (call : CallF) (it : IterF) (base : Nat) (f : List V) (H : Heap) : evC call it base (.region s_graph_Norm_r5t4 [] [5, 17, 18, 19, 20]) f H = segL H (evTale (symAll s_graph_Norm_r5t4 [5, 17, 18, 19, 20] [6]) [5, 17, 18, 19, 20] f H) (origRow call it base s_graph_Norm_r5t4 [5, 17, 18, 19, 20] f H) := row_last call it base _ f H
def s_graph_Norm_r6t1 : List AOper := [⟨some 22, (.call (.c (.fn 29 [] [])) [(.t 21)]), none⟩]
def s_graph_Norm_r6p0 : List AOper := [⟨some 21, (.move (.t 6)), none⟩]
def s_graph_Norm_r6 : List AOper := s_graph_Norm_r6p0 ++ s_graph_Norm_r6t1
theorem s_graph_Norm_r6p0_tale (fr : List V) (H : Heap) : evTale (symAll s_graph_Norm_r6p0 [] [21]) [] fr H = evTale (some (22, [], [(21, (.t 6))])) [] fr H := tale_row (items := [.tt 6]) (by kernel_rfl) fr H
theorem s_graph_Norm_r6_x (call : CallF) (it : IterF) (base : Nat) (f : List V) (H : Heap) : evC call it base (.region s_graph_Norm_r6 [] [21, 22]) f H = segC call it base s_graph_Norm_r6t1 [21, 22] H (evTale (symAll s_graph_Norm_r6p0 [] [21]) [] f H) (origRow call it base s_graph_Norm_r6 [21, 22] f H) := row_seg call it base s_graph_Norm_r6p0 s_graph_Norm_r6t1 (by kernel_rfl) f H
theorem s_graph_Norm_r6t1_x (call : CallF) (it : IterF) (base : Nat) (f : List V) (H : Heap) : evC call it base (.region s_graph_Norm_r6t1 [] [21, 22]) f H = opsC [] s_graph_Norm_r6t1 [21, 22] (evOps call base [⟨some 22, (.call (.c (.fn 29 [] [])) [(.t 21)]), none⟩] f H) := row_ops call it base _ _ _ f H
def s_graph_Norm_r7t3 : List AOper := [⟨none, (.store 1 (.t 27) (.t 26)), none⟩]
def s_graph_Norm_r7p2 : List AOper := [⟨some 27, (.indexAddr 1 (.t 23) (.t 24)), none⟩]
def s_graph_Norm_r7t2 : List AOper := s_graph_Norm_r7p2 ++ s_graph_Norm_r7t3
def s_graph_Norm_r7p1 : List AOper := [⟨some 26, (.call (.c (.fn 30 [] [])) [(.t 25)]), none⟩]
def s_graph_Norm_r7t1 : List AOper := s_graph_Norm_r7p1 ++ s_graph_Norm_r7t2
def s_graph_Norm_r7p0 : List AOper := [⟨some 23, (.move (.t 3)), none⟩, ⟨some 24, (.move (.t 4)), none⟩, ⟨some 25, (.move (.t 6)), none⟩]
def s_graph_Norm_r7 : List AOper := s_graph_Norm_r7p0 ++ s_graph_Norm_r7t1
theorem s_graph_Norm_r7p0_tale (fr : List V) (H : Heap) : evTale (symAll s_graph_Norm_r7p0 [4, 6] [23, 24, 25]) [4, 6] fr H = evTale (some (26, [], [(23, (.t 3)), (24, (.t 4)), (25, (.t 6))])) [4, 6] fr H := tale_row (items := [.tt 3, .tt 4, .tt 6]) (by kernel_rfl) fr H
theorem s_graph_Norm_r7_x (call : CallF) (it : IterF) (base : Nat) (f : List V) (H : Heap) : evC call it base (.region s_graph_Norm_r7 [] [4, 6, 23, 24, 25, 26, 27]) f H = segC call it base s_graph_Norm_r7t1 [4, 6, 23, 24, 25, 26, 27] H (evTale (symAll s_graph_Norm_r7p0 [4, 6] [23, 24, 25]) [4, 6] f H) (origRow call it base s_graph_Norm_r7 [4, 6, 23, 24, 25, 26, 27] f H) := row_seg call it base s_graph_Norm_r7p0 s_graph_Norm_r7t1 (by kernel_rfl) f H
theorem s_graph_Norm_r7t1_x (call : CallF) (it : IterF) (base : Nat) (f : List V) (H : Heap) : evC call it base (.region s_graph_Norm_r7t1 [] [4, 6, 23, 24, 25, 26, 27]) f H = thenC call it base (.region s_graph_Norm_r7t2 [] [4, 6, 23, 24, 25, 26, 27]) (opsC [] s_graph_Norm_r7p1 [25] (evOps call base [⟨some 26, (.call (.c (.fn 30 [] [])) [(.t 25)]), none⟩] f H)) := (row_op call it base s_graph_Norm_r7p1 s_graph_Norm_r7t2 (kc := [25]) (by kernel_rfl) f H).trans (by rw [row_ops]; rfl)
theorem s_graph_Norm_r7p2_tale (fr : List V) (H : Heap) : evTale (symAll s_graph_Norm_r7p2 [23, 24] [27]) [23, 24] fr H = evTale (some (28, [], [(27, (.op (.indexAddr 1 (.t 0) (.t 1)) [(.t 23), (.t 24)]))])) [23, 24] fr H := tale_row (items := [.sub 0 [] []]) (by kernel_rfl) fr H
theorem s_graph_Norm_r7t2_x (call : CallF) (it : IterF) (base : Nat) (f : List V) (H : Heap) : evC call it base (.region s_graph_Norm_r7t2 [] [4, 6, 23, 24, 25, 26, 27]) f H = segC call it base s_graph_Norm_r7t3 [4, 6, 23, 24, 25, 26, 27] H (evTale (symAll s_graph_Norm_r7p2 [23, 24] [27]) [23, 24] f H) (origRow call it base s_graph_Norm_r7t2 [4, 6, 23, 24, 25, 26, 27] f H) := row_seg call it base s_graph_Norm_r7p2 s_graph_Norm_r7t3 (by kernel_rfl) f H
theorem s_graph_Norm_r7t3_x (call : CallF) (it : IterF) (base : Nat) (f : List V) (H : Heap) : evC call it base (.region s_graph_Norm_r7t3 [] [4, 6, 23, 24, 25, 26, 27]) f H = opsC [] s_graph_Norm_r7t3 [4, 6, 23, 24, 25, 26, 27] (evOps call base [⟨none, (.store 1 (.t 27) (.t 26)), none⟩] f H) := row_ops call it base _ _ _ f H
def s_graph_Norm_r8 : List AOper := [
  ⟨some 28, (.bin .add (.t 12) (.c (.s (.int .i64 1)))), none⟩,
  ⟨some 12, (.move (.t 28)), none⟩]
theorem s_graph_Norm_r8_tale (fr : List V) (H : Heap) : evTale (symAll s_graph_Norm_r8 [28] [12]) [28] fr H = evTale (some (29, [], [(12, (.op (.bin .add (.t 0) (.c (.s (.int .i64 1)))) [(.t 12), (.c (.s (.int .i64 1)))]))])) [28] fr H := tale_row (items := [.sub 0 [] [], .sub 0 [] []]) (by kernel_rfl) fr H
def s_graph_Norm_l0_b : ACode :=
  (.seq (.regionE s_graph_Norm_r3 [] [13])
  (.seq (.cond (.t 13)
  .skip
  (.exit 0))
  (.seq (.block 1
  (.seq (.regionE s_graph_Norm_r4 [13, 14, 15, 16] [4, 5])
  (.seq (.region s_graph_Norm_r5 [] [5, 17, 18, 19, 20])
  (.seq (.region s_graph_Norm_r6 [] [21, 22])
  (.region s_graph_Norm_r7 [] [4, 6, 23, 24, 25, 26, 27])))))
  (.regionE s_graph_Norm_r8 [28] [12]))))
def s_graph_Norm_l0 : ACode := s_graph_Norm_l0_b
theorem s_graph_Norm_l0_ev (call : CallF) (it : IterF) (base : Nat) (fr : List V) (H : Heap) : evC call it base s_graph_Norm_l0 fr H = evC call it base s_graph_Norm_l0_b fr H := rfl
def s_graph_Norm_r9 : List AOper := [
  ⟨some 29, (.move (.t 3)), none⟩,
  ⟨some 2, (.move (.t 29)), none⟩]
theorem s_graph_Norm_r9_tale (fr : List V) (H : Heap) : evTale (symAll s_graph_Norm_r9 [1, 3, 10, 11, 12, 13, 29] [2]) [1, 3, 10, 11, 12, 13, 29] fr H = evTale (some (30, [], [(2, (.t 3))])) [1, 3, 10, 11, 12, 13, 29] fr H := tale_row (items := [.tt 3, .tt 3]) (by kernel_rfl) fr H
def s_graph_Norm : ACFun := { ntmps := 30, results := [(.tmp 2)], body :=
  (.seq (.region s_graph_Norm_r0 [] s_graph_Norm_r0_k)
  (.seq (.region s_graph_Norm_r1 [] [7, 8, 9])
  (.seq (.seq (.regionE s_graph_Norm_r2 [] [10, 11, 12])
  (.block 0
  (.loop [] s_graph_Norm_l0)))
  (.seq (.regionE s_graph_Norm_r9 [1, 3, 10, 11, 12, 13, 29] [2])
  .ret)))) }
theorem s_graph_Norm_first : firstOk (List.range' 1 (s_graph_Norm.ntmps - 1)) s_graph_Norm.body = true := by kernel_rfl
abbrev k_graph_Back : Nat := 13
def s_graph_Back_r0_k : List Nat := [1, 2, 3, 4, 5, 6, 7, 8, 9, 10, 11, 12, 13, 14, 15, 16, 17, 18, 19, 20, 21, 22, 23, 24, 25, 26, 27, 28, 29, 30, 31, 32, 33, 34, 35, 36, 37]
def s_graph_Back_r0 : List AOper := [
  ⟨some 2, (.move (.c (.s (.slice none 0 0)))), none⟩]
def s_graph_Back_r1t2 : List AOper := [⟨some 3, (.move (.t 10)), none⟩]
def s_graph_Back_r1p1 : List AOper := [⟨some 10, (.mkSl [(.s (.slice none 0 0))] 1 24 (.t 9) (.t 9)), none⟩]
def s_graph_Back_r1t1 : List AOper := s_graph_Back_r1p1 ++ s_graph_Back_r1t2
def s_graph_Back_r1p0 : List AOper := [⟨some 8, (.move (.t 0)), none⟩, ⟨some 9, (.lenS .s (.t 8)), none⟩]
def s_graph_Back_r1 : List AOper := s_graph_Back_r1p0 ++ s_graph_Back_r1t1
def s_graph_Back_r2t2 : List AOper := [⟨some 13, (.lenS .s (.t 12)), none⟩, ⟨some 14, (.move (.c (.s (.int .i64 0)))), none⟩]
def s_graph_Back_r2p1 : List AOper := [⟨some 12, (.call (.c (.fn 12 [] [])) [(.t 11)]), none⟩]
def s_graph_Back_r2t1 : List AOper := s_graph_Back_r2p1 ++ s_graph_Back_r2t2
def s_graph_Back_r2p0 : List AOper := [⟨some 11, (.move (.t 0)), none⟩]
def s_graph_Back_r2 : List AOper := s_graph_Back_r2p0 ++ s_graph_Back_r2t1
def s_graph_Back_r3 : List AOper := [
  ⟨some 15, (.bin .lss (.t 14) (.t 13)), none⟩]
def s_graph_Back_r4 : List AOper := [
  ⟨some 16, (.move (.t 14)), none⟩,
  ⟨some 17, (.indexAddr 1 (.t 12) (.t 14)), none⟩,
  ⟨some 18, (.load false 1 (.t 17)), none⟩,
  ⟨some 4, (.move (.t 16)), none⟩,
  ⟨some 5, (.move (.t 18)), none⟩]
def s_graph_Back_r5 : List AOper := [
  ⟨some 19, (.move (.t 5)), none⟩,
  ⟨some 20, (.lenS .s (.t 19)), none⟩,
  ⟨some 21, (.move (.c (.s (.int .i64 0)))), none⟩]
def s_graph_Back_r6 : List AOper := [
  ⟨some 22, (.bin .lss (.t 21) (.t 20)), none⟩]
def s_graph_Back_r7 : List AOper := [
  ⟨some 23, (.indexAddr 1 (.t 19) (.t 21)), none⟩,
  ⟨some 24, (.load false 1 (.t 23)), none⟩,
  ⟨some 7, (.move (.t 24)), none⟩]
def s_graph_Back_r8t4 : List AOper := [⟨none, (.store 1 (.t 34) (.t 33)), none⟩]
def s_graph_Back_r8p3 : List AOper := [⟨some 34, (.indexAddr 1 (.t 25) (.t 26)), none⟩]
def s_graph_Back_r8t3 : List AOper := s_graph_Back_r8p3 ++ s_graph_Back_r8t4
def s_graph_Back_r8p2 : List AOper := [⟨some 33, (.append 1 8 (.t 30) (.t 32)), none⟩]
def s_graph_Back_r8t2 : List AOper := s_graph_Back_r8p2 ++ s_graph_Back_r8t3
def s_graph_Back_r8p1 : List AOper := [⟨some 32, (.buildSl 1 1 [(.s (.int .i64 0))] [(0, (.t 31))]), none⟩]
def s_graph_Back_r8t1 : List AOper := s_graph_Back_r8p1 ++ s_graph_Back_r8t2
def s_graph_Back_r8p0 : List AOper := [⟨some 25, (.move (.t 3)), none⟩, ⟨some 26, (.move (.t 7)), none⟩, ⟨some 27, (.move (.t 3)), none⟩, ⟨some 28, (.move (.t 7)), none⟩, ⟨some 29, (.indexAddr 1 (.t 27) (.t 28)), none⟩, ⟨some 30, (.load false 1 (.t 29)), none⟩, ⟨some 31, (.move (.t 4)), none⟩]
def s_graph_Back_r8 : List AOper := s_graph_Back_r8p0 ++ s_graph_Back_r8t1
def s_graph_Back_r9 : List AOper := [
  ⟨some 35, (.bin .add (.t 21) (.c (.s (.int .i64 1)))), none⟩,
  ⟨some 21, (.move (.t 35)), none⟩]
def s_graph_Back_l0_b : ACode :=
  (.seq (.regionE s_graph_Back_r6 [] [22])
  (.seq (.cond (.t 22)
  .skip
  (.exit 2))
  (.seq (.block 3
  (.seq (.regionE s_graph_Back_r7 [22, 23, 24] [7])
  (.region s_graph_Back_r8 [] [7, 25, 26, 27, 28, 29, 30, 31, 32, 33, 34])))
  (.regionE s_graph_Back_r9 [35] [21]))))
def s_graph_Back_l0 : ACode := s_graph_Back_l0_b
def s_graph_Back_r10 : List AOper := [
  ⟨some 36, (.bin .add (.t 14) (.c (.s (.int .i64 1)))), none⟩,
  ⟨some 14, (.move (.t 36)), none⟩]
def s_graph_Back_l1_b : ACode :=
  (.seq (.regionE s_graph_Back_r3 [] [15])
  (.seq (.cond (.t 15)
  .skip
  (.exit 0))
  (.seq (.block 1
  (.seq (.regionE s_graph_Back_r4 [15, 16, 17, 18] [4, 5])
  (.seq (.regionE s_graph_Back_r5 [5] [19, 20, 21])
  (.block 2
  (.loop [] s_graph_Back_l0)))))
  (.regionE s_graph_Back_r10 [4, 19, 20, 21, 22, 36] [14]))))
def s_graph_Back_l1 : ACode := s_graph_Back_l1_b
def s_graph_Back_r11 : List AOper := [
  ⟨some 37, (.move (.t 3)), none⟩,
  ⟨some 2, (.move (.t 37)), none⟩]
def s_graph_Back : ACFun := { ntmps := 38, results := [(.tmp 2)], body :=
  (.seq (.regionE s_graph_Back_r0 s_graph_Back_r0_k [])
  (.seq (.region s_graph_Back_r1 [] [8, 9, 10])
  (.seq (.seq (.region s_graph_Back_r2 [] [0, 11])
  (.block 0
  (.loop [] s_graph_Back_l1)))
  (.seq (.regionE s_graph_Back_r11 [3, 12, 13, 14, 15, 37] [2])
  .ret)))) }
abbrev k_gnomonref07_Norm : Nat := 15
def s_gnomonref07_Norm_r0_k : List Nat := [1, 2, 3, 4, 5, 6, 7, 8, 9, 10, 11, 12, 13, 14, 15, 16, 17, 18, 19, 20, 21, 22, 23, 24, 25, 26, 27, 28, 29, 30, 31, 32, 33, 34, 35, 36, 37, 38, 39, 40, 41, 42, 43, 44, 45, 46, 47, 48, 49, 50, 51, 52, 53, 54, 55]
theorem s_gnomonref07_Norm_r0_kT : killV s_gnomonref07_Norm_r0_k (startV 56 [] 1) = [] := by kernel_rfl
theorem s_gnomonref07_Norm_r0_kA0 : s_gnomonref07_Norm_r0_k.contains 0 = false := by kernel_rfl
def s_gnomonref07_Norm_r0 : List AOper := [
  ⟨some 2, (.move (.c (.s (.slice none 0 0)))), none⟩]
theorem s_gnomonref07_Norm_r0_tale (fr : List V) (H : Heap) : evTale (symAll s_gnomonref07_Norm_r0 s_gnomonref07_Norm_r0_k []) s_gnomonref07_Norm_r0_k fr H = evTale (some (3, [], [])) s_gnomonref07_Norm_r0_k fr H := tale_row (items := [.cc (.s (.slice none 0 0))]) (by kernel_rfl) fr H
def s_gnomonref07_Norm_r1 : List AOper := [
  ⟨some 3, (.move (.c (.s (.slice none 0 0)))), none⟩]
theorem s_gnomonref07_Norm_r1_tale (fr : List V) (H : Heap) : evTale (symAll s_gnomonref07_Norm_r1 [] [3]) [] fr H = evTale (some (4, [], [(3, (.c (.s (.slice none 0 0))))])) [] fr H := tale_row (items := [.cc (.s (.slice none 0 0))]) (by kernel_rfl) fr H
def s_gnomonref07_Norm_r2 : List AOper := [
  ⟨some 4, (.move (.c (.s (.int .i64 0)))), none⟩]
theorem s_gnomonref07_Norm_r2_tale (fr : List V) (H : Heap) : evTale (symAll s_gnomonref07_Norm_r2 [] [4]) [] fr H = evTale (some (5, [], [(4, (.c (.s (.int .i64 0))))])) [] fr H := tale_row (items := [.cc (.s (.int .i64 0))]) (by kernel_rfl) fr H
def s_gnomonref07_Norm_r3 : List AOper := [
  ⟨some 7, (.move (.t 4)), none⟩,
  ⟨some 8, (.move (.t 0)), none⟩,
  ⟨some 9, (.lenS .s (.t 8)), none⟩,
  ⟨some 10, (.bin .lss (.t 7) (.t 9)), none⟩]
theorem s_gnomonref07_Norm_r3_tale (fr : List V) (H : Heap) : evTale (symAll s_gnomonref07_Norm_r3 [7, 8, 9] [10]) [7, 8, 9] fr H = evTale (some (11, [], [(10, (.op (.bin .lss (.t 0) (.t 1)) [(.t 4), (.op (.lenS .s (.t 0)) [(.t 0)])]))])) [7, 8, 9] fr H := tale_row (items := [.tt 4, .tt 0, .sub 0 [1] [], .sub 0 [] []]) (by kernel_rfl) fr H
def s_gnomonref07_Norm_r4 : List AOper := [
  ⟨some 5, (.move (.c (.s (.slice none 0 0)))), none⟩]
theorem s_gnomonref07_Norm_r4_tale (fr : List V) (H : Heap) : evTale (symAll s_gnomonref07_Norm_r4 [10] [5]) [10] fr H = evTale (some (6, [], [(5, (.c (.s (.slice none 0 0))))])) [10] fr H := tale_row (items := [.cc (.s (.slice none 0 0))]) (by kernel_rfl) fr H
def s_gnomonref07_Norm_r5 : List AOper := [
  ⟨some 6, (.move (.c (.s (.int .i64 0)))), none⟩]
theorem s_gnomonref07_Norm_r5_tale (fr : List V) (H : Heap) : evTale (symAll s_gnomonref07_Norm_r5 [] [6]) [] fr H = evTale (some (7, [], [(6, (.c (.s (.int .i64 0))))])) [] fr H := tale_row (items := [.cc (.s (.int .i64 0))]) (by kernel_rfl) fr H
def s_gnomonref07_Norm_r6 : List AOper := [
  ⟨some 13, (.move (.t 6)), none⟩,
  ⟨some 14, (.move (.t 0)), none⟩,
  ⟨some 15, (.move (.t 4)), none⟩,
  ⟨some 16, (.indexAddr 1 (.t 14) (.t 15)), none⟩,
  ⟨some 17, (.load false 1 (.t 16)), none⟩,
  ⟨some 18, (.lenS .s (.t 17)), none⟩,
  ⟨some 19, (.bin .lss (.t 13) (.t 18)), none⟩]
theorem s_gnomonref07_Norm_r6_tale (fr : List V) (H : Heap) : evTale (symAll s_gnomonref07_Norm_r6 [13, 14, 15, 16, 17, 18] [19]) [13, 14, 15, 16, 17, 18] fr H = evTale (some (20, [], [(19, (.op (.bin .lss (.t 0) (.t 1)) [(.t 6), (.op (.lenS .s (.t 0)) [(.op (.load false 1 (.t 0)) [(.op (.indexAddr 1 (.t 0) (.t 1)) [(.t 0), (.t 4)])])])]))])) [13, 14, 15, 16, 17, 18] fr H := tale_row (items := [.tt 6, .tt 0, .tt 4, .sub 0 [1, 0, 0] [], .sub 0 [1, 0] [], .sub 0 [1] [], .sub 0 [] []]) (by kernel_rfl) fr H
def s_gnomonref07_Norm_r7 : List AOper := [
  ⟨some 22, (.move (.t 0)), none⟩,
  ⟨some 23, (.move (.t 4)), none⟩,
  ⟨some 24, (.indexAddr 1 (.t 22) (.t 23)), none⟩,
  ⟨some 25, (.load false 1 (.t 24)), none⟩,
  ⟨some 26, (.move (.t 6)), none⟩,
  ⟨some 27, (.indexAddr 1 (.t 25) (.t 26)), none⟩,
  ⟨some 28, (.load false 1 (.t 27)), none⟩,
  ⟨some 29, (.bin .geq (.t 28) (.c (.s (.int .i64 0)))), none⟩,
  ⟨some 30, (.move (.t 29)), none⟩,
  ⟨some 31, (.move (.t 0)), some (30, true)⟩,
  ⟨some 32, (.move (.t 4)), some (30, true)⟩,
  ⟨some 33, (.indexAddr 1 (.t 31) (.t 32)), some (30, true)⟩,
  ⟨some 34, (.load false 1 (.t 33)), some (30, true)⟩,
  ⟨some 35, (.move (.t 6)), some (30, true)⟩,
  ⟨some 36, (.indexAddr 1 (.t 34) (.t 35)), some (30, true)⟩,
  ⟨some 37, (.load false 1 (.t 36)), some (30, true)⟩,
  ⟨some 38, (.move (.t 0)), some (30, true)⟩,
  ⟨some 39, (.lenS .s (.t 38)), some (30, true)⟩,
  ⟨some 40, (.bin .lss (.t 37) (.t 39)), some (30, true)⟩,
  ⟨some 41, (.pick (.t 30) (.t 40) (.c (.s (.bool false)))), none⟩]
theorem s_gnomonref07_Norm_r7_tale (fr : List V) (H : Heap) : evTale (symAll s_gnomonref07_Norm_r7 [19, 22, 23, 24, 25, 26, 27, 28, 29, 30, 31, 32, 33, 34, 35, 36, 37, 38, 39, 40] [41]) [19, 22, 23, 24, 25, 26, 27, 28, 29, 30, 31, 32, 33, 34, 35, 36, 37, 38, 39, 40] fr H = evTale (some (42, [], [(41, (.pick (.op (.bin .geq (.t 0) (.c (.s (.int .i64 0)))) [(.op (.load false 1 (.t 0)) [(.op (.indexAddr 1 (.t 0) (.t 1)) [(.op (.load false 1 (.t 0)) [(.op (.indexAddr 1 (.t 0) (.t 1)) [(.t 0), (.t 4)])]), (.t 6)])]), (.c (.s (.int .i64 0)))]) (.op (.bin .lss (.t 0) (.t 1)) [(.op (.load false 1 (.t 0)) [(.op (.indexAddr 1 (.t 0) (.t 1)) [(.op (.load false 1 (.t 0)) [(.op (.indexAddr 1 (.t 0) (.t 1)) [(.t 0), (.t 4)])]), (.t 6)])]), (.op (.lenS .s (.t 0)) [(.t 0)])]) (.c (.s (.bool false)))))])) [19, 22, 23, 24, 25, 26, 27, 28, 29, 30, 31, 32, 33, 34, 35, 36, 37, 38, 39, 40] fr H := tale_row (items := [.tt 0, .tt 4, .sub 0 [0, 0, 0, 0, 0] [], .sub 0 [0, 0, 0, 0] [], .tt 6, .sub 0 [0, 0, 0] [], .sub 0 [0, 0] [], .sub 0 [0] [], .sub 0 [0] [], .sub 0 [1, 0, 0, 0, 0, 0] [30], .sub 0 [1, 0, 0, 0, 0, 1] [30], .sub 0 [1, 0, 0, 0, 0] [30], .sub 0 [1, 0, 0, 0] [30], .sub 0 [1, 0, 0, 1] [30], .sub 0 [1, 0, 0] [30], .sub 0 [1, 0] [30], .sub 0 [1, 0, 0, 0, 0, 0] [30], .sub 0 [1, 1] [30], .sub 0 [1] [30], .sub 0 [] []]) (by kernel_rfl) fr H
def s_gnomonref07_Norm_r8t2 : List AOper := [⟨some 5, (.move (.t 50)), none⟩]
def s_gnomonref07_Norm_r8p1 : List AOper := [⟨some 50, (.call (.c (.fn 31 [] [])) [(.t 42), (.t 49)]), none⟩]
def s_gnomonref07_Norm_r8t1 : List AOper := s_gnomonref07_Norm_r8p1 ++ s_gnomonref07_Norm_r8t2
def s_gnomonref07_Norm_r8p0 : List AOper := [⟨some 42, (.move (.t 5)), none⟩, ⟨some 43, (.move (.t 0)), none⟩, ⟨some 44, (.move (.t 4)), none⟩, ⟨some 45, (.indexAddr 1 (.t 43) (.t 44)), none⟩, ⟨some 46, (.load false 1 (.t 45)), none⟩, ⟨some 47, (.move (.t 6)), none⟩, ⟨some 48, (.indexAddr 1 (.t 46) (.t 47)), none⟩, ⟨some 49, (.load false 1 (.t 48)), none⟩]
def s_gnomonref07_Norm_r8 : List AOper := s_gnomonref07_Norm_r8p0 ++ s_gnomonref07_Norm_r8t1
theorem s_gnomonref07_Norm_r8p0_tale (fr : List V) (H : Heap) : evTale (symAll s_gnomonref07_Norm_r8p0 [5, 41, 43, 44, 45, 46, 47, 48] [42, 49]) [5, 41, 43, 44, 45, 46, 47, 48] fr H = evTale (some (50, [], [(42, (.t 5)), (49, (.op (.load false 1 (.t 0)) [(.op (.indexAddr 1 (.t 0) (.t 1)) [(.op (.load false 1 (.t 0)) [(.op (.indexAddr 1 (.t 0) (.t 1)) [(.t 0), (.t 4)])]), (.t 6)])]))])) [5, 41, 43, 44, 45, 46, 47, 48] fr H := tale_row (items := [.tt 5, .tt 0, .tt 4, .sub 1 [0, 0, 0] [], .sub 1 [0, 0] [], .tt 6, .sub 1 [0] [], .sub 1 [] []]) (by kernel_rfl) fr H
theorem s_gnomonref07_Norm_r8_x (call : CallF) (it : IterF) (base : Nat) (f : List V) (H : Heap) : evC call it base (.region s_gnomonref07_Norm_r8 [] [41, 42, 43, 44, 45, 46, 47, 48, 49, 50]) f H = segC call it base s_gnomonref07_Norm_r8t1 [41, 42, 43, 44, 45, 46, 47, 48, 49, 50] H (evTale (symAll s_gnomonref07_Norm_r8p0 [5, 41, 43, 44, 45, 46, 47, 48] [42, 49]) [5, 41, 43, 44, 45, 46, 47, 48] f H) (origRow call it base s_gnomonref07_Norm_r8 [41, 42, 43, 44, 45, 46, 47, 48, 49, 50] f H) := row_seg call it base s_gnomonref07_Norm_r8p0 s_gnomonref07_Norm_r8t1 (by kernel_rfl) f H
theorem s_gnomonref07_Norm_r8t1_x (call : CallF) (it : IterF) (base : Nat) (f : List V) (H : Heap) : evC call it base (.region s_gnomonref07_Norm_r8t1 [] [41, 42, 43, 44, 45, 46, 47, 48, 49, 50]) f H = thenC call it base (.region s_gnomonref07_Norm_r8t2 [] [41, 42, 43, 44, 45, 46, 47, 48, 49, 50]) (opsC [] s_gnomonref07_Norm_r8p1 [42, 49] (evOps call base [⟨some 50, (.call (.c (.fn 31 [] [])) [(.t 42), (.t 49)]), none⟩] f H)) := (row_op call it base s_gnomonref07_Norm_r8p1 s_gnomonref07_Norm_r8t2 (kc := [42, 49]) (by kernel_rfl) f H).trans (by rw [row_ops]; rfl)
theorem s_gnomonref07_Norm_r8t2_tale (fr : List V) (H : Heap) : evTale (symAll s_gnomonref07_Norm_r8t2 [41, 42, 43, 44, 45, 46, 47, 48, 49, 50] [5]) [41, 42, 43, 44, 45, 46, 47, 48, 49, 50] fr H = evTale (some (6, [], [(5, (.t 50))])) [41, 42, 43, 44, 45, 46, 47, 48, 49, 50] fr H := tale_row (items := [.tt 50]) (by kernel_rfl) fr H
theorem s_gnomonref07_Norm_r8t2_x (call : CallF) (it : IterF) (base : Nat) (f : List V) (H : Heap) : evC call it base (.region s_gnomonref07_Norm_r8t2 [] [41, 42, 43, 44, 45, 46, 47, 48, 49, 50]) f H = segL H (evTale (symAll s_gnomonref07_Norm_r8t2 [41, 42, 43, 44, 45, 46, 47, 48, 49, 50] [5]) [41, 42, 43, 44, 45, 46, 47, 48, 49, 50] f H) (origRow call it base s_gnomonref07_Norm_r8t2 [41, 42, 43, 44, 45, 46, 47, 48, 49, 50] f H) := row_last call it base _ f H
def s_gnomonref07_Norm_r9 : List AOper := [
  ⟨some 20, (.move (.t 6)), none⟩,
  ⟨some 21, (.bin .add (.t 20) (.c (.s (.int .i64 1)))), none⟩,
  ⟨some 6, (.move (.t 21)), none⟩]
theorem s_gnomonref07_Norm_r9_tale (fr : List V) (H : Heap) : evTale (symAll s_gnomonref07_Norm_r9 [20, 21, 41] [6]) [20, 21, 41] fr H = evTale (some (22, [], [(6, (.op (.bin .add (.t 0) (.c (.s (.int .i64 1)))) [(.t 6), (.c (.s (.int .i64 1)))]))])) [20, 21, 41] fr H := tale_row (items := [.tt 6, .sub 0 [] [], .sub 0 [] []]) (by kernel_rfl) fr H
def s_gnomonref07_Norm_l0_b : ACode :=
  (.seq (.seq (.regionE s_gnomonref07_Norm_r6 [13, 14, 15, 16, 17, 18] [19])
  (.cond (.t 19)
  .skip
  (.exit 2)))
  (.seq (.block 3
  (.seq (.regionE s_gnomonref07_Norm_r7 [19, 22, 23, 24, 25, 26, 27, 28, 29, 30, 31, 32, 33, 34, 35, 36, 37, 38, 39, 40] [41])
  (.cond (.t 41)
  (.region s_gnomonref07_Norm_r8 [] [41, 42, 43, 44, 45, 46, 47, 48, 49, 50])
  .skip)))
  (.regionE s_gnomonref07_Norm_r9 [20, 21, 41] [6])))
def s_gnomonref07_Norm_l0 : ACode := s_gnomonref07_Norm_l0_b
theorem s_gnomonref07_Norm_l0_ev (call : CallF) (it : IterF) (base : Nat) (fr : List V) (H : Heap) : evC call it base s_gnomonref07_Norm_l0 fr H = evC call it base s_gnomonref07_Norm_l0_b fr H := rfl
def s_gnomonref07_Norm_r10t3 : List AOper := [⟨some 3, (.move (.t 54)), none⟩]
def s_gnomonref07_Norm_r10p2 : List AOper := [⟨some 54, (.append 1 24 (.t 51) (.t 53)), none⟩]
def s_gnomonref07_Norm_r10t2 : List AOper := s_gnomonref07_Norm_r10p2 ++ s_gnomonref07_Norm_r10t3
def s_gnomonref07_Norm_r10p1 : List AOper := [⟨some 53, (.buildSl 1 1 [(.s (.slice none 0 0))] [(0, (.t 52))]), none⟩]
def s_gnomonref07_Norm_r10t1 : List AOper := s_gnomonref07_Norm_r10p1 ++ s_gnomonref07_Norm_r10t2
def s_gnomonref07_Norm_r10p0 : List AOper := [⟨some 51, (.move (.t 3)), none⟩, ⟨some 52, (.move (.t 5)), none⟩]
def s_gnomonref07_Norm_r10 : List AOper := s_gnomonref07_Norm_r10p0 ++ s_gnomonref07_Norm_r10t1
theorem s_gnomonref07_Norm_r10p0_tale (fr : List V) (H : Heap) : evTale (symAll s_gnomonref07_Norm_r10p0 [3, 5, 6, 19] [51, 52]) [3, 5, 6, 19] fr H = evTale (some (53, [], [(51, (.t 3)), (52, (.t 5))])) [3, 5, 6, 19] fr H := tale_row (items := [.tt 3, .tt 5]) (by kernel_rfl) fr H
theorem s_gnomonref07_Norm_r10_x (call : CallF) (it : IterF) (base : Nat) (f : List V) (H : Heap) : evC call it base (.region s_gnomonref07_Norm_r10 [] [5, 6, 19, 51, 52, 53, 54]) f H = segC call it base s_gnomonref07_Norm_r10t1 [5, 6, 19, 51, 52, 53, 54] H (evTale (symAll s_gnomonref07_Norm_r10p0 [3, 5, 6, 19] [51, 52]) [3, 5, 6, 19] f H) (origRow call it base s_gnomonref07_Norm_r10 [5, 6, 19, 51, 52, 53, 54] f H) := row_seg call it base s_gnomonref07_Norm_r10p0 s_gnomonref07_Norm_r10t1 (by kernel_rfl) f H
theorem s_gnomonref07_Norm_r10t1_x (call : CallF) (it : IterF) (base : Nat) (f : List V) (H : Heap) : evC call it base (.region s_gnomonref07_Norm_r10t1 [] [5, 6, 19, 51, 52, 53, 54]) f H = thenC call it base (.region s_gnomonref07_Norm_r10t2 [] [5, 6, 19, 51, 52, 53, 54]) (opsC [] s_gnomonref07_Norm_r10p1 [52] (evOps call base [⟨some 53, (.buildSl 1 1 [(.s (.slice none 0 0))] [(0, (.t 52))]), none⟩] f H)) := (row_op call it base s_gnomonref07_Norm_r10p1 s_gnomonref07_Norm_r10t2 (kc := [52]) (by kernel_rfl) f H).trans (by rw [row_ops]; rfl)
theorem s_gnomonref07_Norm_r10t2_x (call : CallF) (it : IterF) (base : Nat) (f : List V) (H : Heap) : evC call it base (.region s_gnomonref07_Norm_r10t2 [] [5, 6, 19, 51, 52, 53, 54]) f H = thenC call it base (.region s_gnomonref07_Norm_r10t3 [] [5, 6, 19, 51, 52, 53, 54]) (opsC [] s_gnomonref07_Norm_r10p2 [51, 53] (evOps call base [⟨some 54, (.append 1 24 (.t 51) (.t 53)), none⟩] f H)) := (row_op call it base s_gnomonref07_Norm_r10p2 s_gnomonref07_Norm_r10t3 (kc := [51, 53]) (by kernel_rfl) f H).trans (by rw [row_ops]; rfl)
theorem s_gnomonref07_Norm_r10t3_tale (fr : List V) (H : Heap) : evTale (symAll s_gnomonref07_Norm_r10t3 [5, 6, 19, 51, 52, 53, 54] [3]) [5, 6, 19, 51, 52, 53, 54] fr H = evTale (some (4, [], [(3, (.t 54))])) [5, 6, 19, 51, 52, 53, 54] fr H := tale_row (items := [.tt 54]) (by kernel_rfl) fr H
theorem s_gnomonref07_Norm_r10t3_x (call : CallF) (it : IterF) (base : Nat) (f : List V) (H : Heap) : evC call it base (.region s_gnomonref07_Norm_r10t3 [] [5, 6, 19, 51, 52, 53, 54]) f H = segL H (evTale (symAll s_gnomonref07_Norm_r10t3 [5, 6, 19, 51, 52, 53, 54] [3]) [5, 6, 19, 51, 52, 53, 54] f H) (origRow call it base s_gnomonref07_Norm_r10t3 [5, 6, 19, 51, 52, 53, 54] f H) := row_last call it base _ f H
def s_gnomonref07_Norm_r11 : List AOper := [
  ⟨some 11, (.move (.t 4)), none⟩,
  ⟨some 12, (.bin .add (.t 11) (.c (.s (.int .i64 1)))), none⟩,
  ⟨some 4, (.move (.t 12)), none⟩]
theorem s_gnomonref07_Norm_r11_tale (fr : List V) (H : Heap) : evTale (symAll s_gnomonref07_Norm_r11 [11, 12] [4]) [11, 12] fr H = evTale (some (13, [], [(4, (.op (.bin .add (.t 0) (.c (.s (.int .i64 1)))) [(.t 4), (.c (.s (.int .i64 1)))]))])) [11, 12] fr H := tale_row (items := [.tt 4, .sub 0 [] [], .sub 0 [] []]) (by kernel_rfl) fr H
def s_gnomonref07_Norm_l1_b : ACode :=
  (.seq (.seq (.regionE s_gnomonref07_Norm_r3 [7, 8, 9] [10])
  (.cond (.t 10)
  .skip
  (.exit 0)))
  (.seq (.block 1
  (.seq (.regionE s_gnomonref07_Norm_r4 [10] [5])
  (.seq (.seq (.regionE s_gnomonref07_Norm_r5 [] [6])
  (.block 2
  (.loop [] s_gnomonref07_Norm_l0)))
  (.region s_gnomonref07_Norm_r10 [] [5, 6, 19, 51, 52, 53, 54]))))
  (.regionE s_gnomonref07_Norm_r11 [11, 12] [4])))
def s_gnomonref07_Norm_l1 : ACode := s_gnomonref07_Norm_l1_b
theorem s_gnomonref07_Norm_l1_ev (call : CallF) (it : IterF) (base : Nat) (fr : List V) (H : Heap) : evC call it base s_gnomonref07_Norm_l1 fr H = evC call it base s_gnomonref07_Norm_l1_b fr H := rfl
def s_gnomonref07_Norm_r12 : List AOper := [
  ⟨some 55, (.move (.t 3)), none⟩,
  ⟨some 2, (.move (.t 55)), none⟩]
theorem s_gnomonref07_Norm_r12_tale (fr : List V) (H : Heap) : evTale (symAll s_gnomonref07_Norm_r12 [0, 3, 4, 10, 55] [2]) [0, 3, 4, 10, 55] fr H = evTale (some (56, [], [(2, (.t 3))])) [0, 3, 4, 10, 55] fr H := tale_row (items := [.tt 3, .tt 3]) (by kernel_rfl) fr H
def s_gnomonref07_Norm : ACFun := { ntmps := 56, results := [(.tmp 2)], body :=
  (.seq (.regionE s_gnomonref07_Norm_r0 s_gnomonref07_Norm_r0_k [])
  (.seq (.regionE s_gnomonref07_Norm_r1 [] [3])
  (.seq (.seq (.regionE s_gnomonref07_Norm_r2 [] [4])
  (.block 0
  (.loop [] s_gnomonref07_Norm_l1)))
  (.seq (.regionE s_gnomonref07_Norm_r12 [0, 3, 4, 10, 55] [2])
  .ret)))) }
abbrev k_gnomonref01_Same : Nat := 22
def s_gnomonref01_Same_r0_k : List Nat := [2, 3, 4, 5, 6, 7, 8, 9, 10, 11, 12, 13, 14, 15, 16, 17, 18, 19, 20, 21, 22, 23, 24, 25]
theorem s_gnomonref01_Same_r0_kT : killV s_gnomonref01_Same_r0_k (startV 26 [] 2) = [] := by kernel_rfl
theorem s_gnomonref01_Same_r0_kA0 : s_gnomonref01_Same_r0_k.contains 0 = false := by kernel_rfl
theorem s_gnomonref01_Same_r0_kA1 : s_gnomonref01_Same_r0_k.contains 1 = false := by kernel_rfl
def s_gnomonref01_Same_r0 : List AOper := [
  ⟨some 4, (.move (.c (.s (.bool false)))), none⟩]
theorem s_gnomonref01_Same_r0_tale (fr : List V) (H : Heap) : evTale (symAll s_gnomonref01_Same_r0 s_gnomonref01_Same_r0_k []) s_gnomonref01_Same_r0_k fr H = evTale (some (5, [], [])) s_gnomonref01_Same_r0_k fr H := tale_row (items := [.cc (.s (.bool false))]) (by kernel_rfl) fr H
def s_gnomonref01_Same_r1 : List AOper := [
  ⟨some 6, (.move (.t 0)), none⟩,
  ⟨some 7, (.lenS .s (.t 6)), none⟩,
  ⟨some 8, (.move (.t 1)), none⟩,
  ⟨some 9, (.lenS .s (.t 8)), none⟩,
  ⟨some 10, (.bin .neq (.t 7) (.t 9)), none⟩]
theorem s_gnomonref01_Same_r1_tale (fr : List V) (H : Heap) : evTale (symAll s_gnomonref01_Same_r1 [6, 7, 8, 9] [10]) [6, 7, 8, 9] fr H = evTale (some (11, [], [(10, (.op (.bin .neq (.t 0) (.t 1)) [(.op (.lenS .s (.t 0)) [(.t 0)]), (.op (.lenS .s (.t 0)) [(.t 1)])]))])) [6, 7, 8, 9] fr H := tale_row (items := [.tt 0, .sub 0 [0] [], .tt 1, .sub 0 [1] [], .sub 0 [] []]) (by kernel_rfl) fr H
def s_gnomonref01_Same_r2 : List AOper := [
  ⟨some 4, (.move (.c (.s (.bool false)))), none⟩]
theorem s_gnomonref01_Same_r2_tale (fr : List V) (H : Heap) : evTale (symAll s_gnomonref01_Same_r2 [0, 1, 10] [4]) [0, 1, 10] fr H = evTale (some (5, [], [(4, (.c (.s (.bool false))))])) [0, 1, 10] fr H := tale_row (items := [.cc (.s (.bool false))]) (by kernel_rfl) fr H
def s_gnomonref01_Same_r3 : List AOper := [
  ⟨some 5, (.move (.c (.s (.int .i64 0)))), none⟩]
theorem s_gnomonref01_Same_r3_tale (fr : List V) (H : Heap) : evTale (symAll s_gnomonref01_Same_r3 [10] [5]) [10] fr H = evTale (some (6, [], [(5, (.c (.s (.int .i64 0))))])) [10] fr H := tale_row (items := [.cc (.s (.int .i64 0))]) (by kernel_rfl) fr H
def s_gnomonref01_Same_r4 : List AOper := [
  ⟨some 11, (.move (.t 5)), none⟩,
  ⟨some 12, (.move (.t 0)), none⟩,
  ⟨some 13, (.lenS .s (.t 12)), none⟩,
  ⟨some 14, (.bin .lss (.t 11) (.t 13)), none⟩]
theorem s_gnomonref01_Same_r4_tale (fr : List V) (H : Heap) : evTale (symAll s_gnomonref01_Same_r4 [11, 12, 13] [14]) [11, 12, 13] fr H = evTale (some (15, [], [(14, (.op (.bin .lss (.t 0) (.t 1)) [(.t 5), (.op (.lenS .s (.t 0)) [(.t 0)])]))])) [11, 12, 13] fr H := tale_row (items := [.tt 5, .tt 0, .sub 0 [1] [], .sub 0 [] []]) (by kernel_rfl) fr H
def s_gnomonref01_Same_r5 : List AOper := [
  ⟨some 17, (.move (.t 0)), none⟩,
  ⟨some 18, (.move (.t 5)), none⟩,
  ⟨some 19, (.indexAddr 1 (.t 17) (.t 18)), none⟩,
  ⟨some 20, (.load false 1 (.t 19)), none⟩,
  ⟨some 21, (.move (.t 1)), none⟩,
  ⟨some 22, (.move (.t 5)), none⟩,
  ⟨some 23, (.indexAddr 1 (.t 21) (.t 22)), none⟩,
  ⟨some 24, (.load false 1 (.t 23)), none⟩,
  ⟨some 25, (.bin .neq (.t 20) (.t 24)), none⟩]
theorem s_gnomonref01_Same_r5_tale (fr : List V) (H : Heap) : evTale (symAll s_gnomonref01_Same_r5 [14, 17, 18, 19, 20, 21, 22, 23, 24] [25]) [14, 17, 18, 19, 20, 21, 22, 23, 24] fr H = evTale (some (26, [], [(25, (.op (.bin .neq (.t 0) (.t 1)) [(.op (.load false 1 (.t 0)) [(.op (.indexAddr 1 (.t 0) (.t 1)) [(.t 0), (.t 5)])]), (.op (.load false 1 (.t 0)) [(.op (.indexAddr 1 (.t 0) (.t 1)) [(.t 1), (.t 5)])])]))])) [14, 17, 18, 19, 20, 21, 22, 23, 24] fr H := tale_row (items := [.tt 0, .tt 5, .sub 0 [0, 0] [], .sub 0 [0] [], .tt 1, .tt 5, .sub 0 [1, 0] [], .sub 0 [1] [], .sub 0 [] []]) (by kernel_rfl) fr H
def s_gnomonref01_Same_r6 : List AOper := [
  ⟨some 4, (.move (.c (.s (.bool false)))), none⟩]
theorem s_gnomonref01_Same_r6_tale (fr : List V) (H : Heap) : evTale (symAll s_gnomonref01_Same_r6 [0, 1, 5, 25] [4]) [0, 1, 5, 25] fr H = evTale (some (5, [], [(4, (.c (.s (.bool false))))])) [0, 1, 5, 25] fr H := tale_row (items := [.cc (.s (.bool false))]) (by kernel_rfl) fr H
def s_gnomonref01_Same_r7 : List AOper := [
  ⟨some 15, (.move (.t 5)), none⟩,
  ⟨some 16, (.bin .add (.t 15) (.c (.s (.int .i64 1)))), none⟩,
  ⟨some 5, (.move (.t 16)), none⟩]
theorem s_gnomonref01_Same_r7_tale (fr : List V) (H : Heap) : evTale (symAll s_gnomonref01_Same_r7 [15, 16, 25] [5]) [15, 16, 25] fr H = evTale (some (17, [], [(5, (.op (.bin .add (.t 0) (.c (.s (.int .i64 1)))) [(.t 5), (.c (.s (.int .i64 1)))]))])) [15, 16, 25] fr H := tale_row (items := [.tt 5, .sub 0 [] [], .sub 0 [] []]) (by kernel_rfl) fr H
def s_gnomonref01_Same_l0_b : ACode :=
  (.seq (.seq (.regionE s_gnomonref01_Same_r4 [11, 12, 13] [14])
  (.cond (.t 14)
  .skip
  (.exit 0)))
  (.seq (.block 1
  (.seq (.regionE s_gnomonref01_Same_r5 [14, 17, 18, 19, 20, 21, 22, 23, 24] [25])
  (.cond (.t 25)
  (.seq (.regionE s_gnomonref01_Same_r6 [0, 1, 5, 25] [4])
  .ret)
  .skip)))
  (.regionE s_gnomonref01_Same_r7 [15, 16, 25] [5])))
def s_gnomonref01_Same_l0 : ACode := s_gnomonref01_Same_l0_b
theorem s_gnomonref01_Same_l0_ev (call : CallF) (it : IterF) (base : Nat) (fr : List V) (H : Heap) : evC call it base s_gnomonref01_Same_l0 fr H = evC call it base s_gnomonref01_Same_l0_b fr H := rfl
def s_gnomonref01_Same_r8 : List AOper := [
  ⟨some 4, (.move (.c (.s (.bool true)))), none⟩]
theorem s_gnomonref01_Same_r8_tale (fr : List V) (H : Heap) : evTale (symAll s_gnomonref01_Same_r8 [0, 1, 5, 14] [4]) [0, 1, 5, 14] fr H = evTale (some (5, [], [(4, (.c (.s (.bool true))))])) [0, 1, 5, 14] fr H := tale_row (items := [.cc (.s (.bool true))]) (by kernel_rfl) fr H
def s_gnomonref01_Same : ACFun := { ntmps := 26, results := [(.tmp 4)], body :=
  (.seq (.regionE s_gnomonref01_Same_r0 s_gnomonref01_Same_r0_k [])
  (.seq (.seq (.regionE s_gnomonref01_Same_r1 [6, 7, 8, 9] [10])
  (.cond (.t 10)
  (.seq (.regionE s_gnomonref01_Same_r2 [0, 1, 10] [4])
  .ret)
  .skip))
  (.seq (.seq (.regionE s_gnomonref01_Same_r3 [10] [5])
  (.block 0
  (.loop [] s_gnomonref01_Same_l0)))
  (.seq (.regionE s_gnomonref01_Same_r8 [0, 1, 5, 14] [4])
  .ret)))) }
abbrev k_slices_DeleteFunc_int_int : Nat := 26
def s_slices_DeleteFunc_int_int_r0_k : List Nat := [2, 3, 4, 5, 6, 7, 8, 9, 10, 11, 12, 13, 14, 15, 16, 17, 18, 19, 20, 21, 22, 23, 24, 25, 26, 27, 28, 29, 30, 31, 32, 33, 34, 35, 36, 37, 38, 39, 40, 41]
theorem s_slices_DeleteFunc_int_int_r0_kT : killV s_slices_DeleteFunc_int_int_r0_k (startV 42 [] 2) = [] := by kernel_rfl
theorem s_slices_DeleteFunc_int_int_r0_kA0 : s_slices_DeleteFunc_int_int_r0_k.contains 0 = false := by kernel_rfl
theorem s_slices_DeleteFunc_int_int_r0_kA1 : s_slices_DeleteFunc_int_int_r0_k.contains 1 = false := by kernel_rfl
def s_slices_DeleteFunc_int_int_r0 : List AOper := [
  ⟨some 4, (.move (.c (.s (.slice none 0 0)))), none⟩]
theorem s_slices_DeleteFunc_int_int_r0_tale (fr : List V) (H : Heap) : evTale (symAll s_slices_DeleteFunc_int_int_r0 s_slices_DeleteFunc_int_int_r0_k []) s_slices_DeleteFunc_int_int_r0_k fr H = evTale (some (5, [], [])) s_slices_DeleteFunc_int_int_r0_k fr H := tale_row (items := [.cc (.s (.slice none 0 0))]) (by kernel_rfl) fr H
def s_slices_DeleteFunc_int_int_r1t2 : List AOper := [⟨some 5, (.move (.t 10)), none⟩]
def s_slices_DeleteFunc_int_int_r1p1 : List AOper := [⟨some 10, (.call (.c (.fn 33 [] [])) [(.t 8), (.t 9)]), none⟩]
def s_slices_DeleteFunc_int_int_r1t1 : List AOper := s_slices_DeleteFunc_int_int_r1p1 ++ s_slices_DeleteFunc_int_int_r1t2
def s_slices_DeleteFunc_int_int_r1p0 : List AOper := [⟨some 8, (.move (.t 0)), none⟩, ⟨some 9, (.move (.t 1)), none⟩]
def s_slices_DeleteFunc_int_int_r1 : List AOper := s_slices_DeleteFunc_int_int_r1p0 ++ s_slices_DeleteFunc_int_int_r1t1
theorem s_slices_DeleteFunc_int_int_r1p0_tale (fr : List V) (H : Heap) : evTale (symAll s_slices_DeleteFunc_int_int_r1p0 [] [8, 9]) [] fr H = evTale (some (10, [], [(8, (.t 0)), (9, (.t 1))])) [] fr H := tale_row (items := [.tt 0, .tt 1]) (by kernel_rfl) fr H
theorem s_slices_DeleteFunc_int_int_r1_x (call : CallF) (it : IterF) (base : Nat) (f : List V) (H : Heap) : evC call it base (.region s_slices_DeleteFunc_int_int_r1 [] [8, 9, 10]) f H = segC call it base s_slices_DeleteFunc_int_int_r1t1 [8, 9, 10] H (evTale (symAll s_slices_DeleteFunc_int_int_r1p0 [] [8, 9]) [] f H) (origRow call it base s_slices_DeleteFunc_int_int_r1 [8, 9, 10] f H) := row_seg call it base s_slices_DeleteFunc_int_int_r1p0 s_slices_DeleteFunc_int_int_r1t1 (by kernel_rfl) f H
theorem s_slices_DeleteFunc_int_int_r1t1_x (call : CallF) (it : IterF) (base : Nat) (f : List V) (H : Heap) : evC call it base (.region s_slices_DeleteFunc_int_int_r1t1 [] [8, 9, 10]) f H = thenC call it base (.region s_slices_DeleteFunc_int_int_r1t2 [] [8, 9, 10]) (opsC [] s_slices_DeleteFunc_int_int_r1p1 [8, 9] (evOps call base [⟨some 10, (.call (.c (.fn 33 [] [])) [(.t 8), (.t 9)]), none⟩] f H)) := (row_op call it base s_slices_DeleteFunc_int_int_r1p1 s_slices_DeleteFunc_int_int_r1t2 (kc := [8, 9]) (by kernel_rfl) f H).trans (by rw [row_ops]; rfl)
theorem s_slices_DeleteFunc_int_int_r1t2_tale (fr : List V) (H : Heap) : evTale (symAll s_slices_DeleteFunc_int_int_r1t2 [8, 9, 10] [5]) [8, 9, 10] fr H = evTale (some (6, [], [(5, (.t 10))])) [8, 9, 10] fr H := tale_row (items := [.tt 10]) (by kernel_rfl) fr H
theorem s_slices_DeleteFunc_int_int_r1t2_x (call : CallF) (it : IterF) (base : Nat) (f : List V) (H : Heap) : evC call it base (.region s_slices_DeleteFunc_int_int_r1t2 [] [8, 9, 10]) f H = segL H (evTale (symAll s_slices_DeleteFunc_int_int_r1t2 [8, 9, 10] [5]) [8, 9, 10] f H) (origRow call it base s_slices_DeleteFunc_int_int_r1t2 [8, 9, 10] f H) := row_last call it base _ f H
def s_slices_DeleteFunc_int_int_r2 : List AOper := [
  ⟨some 11, (.move (.t 5)), none⟩,
  ⟨some 12, (.bin .eql (.t 11) (.c (.s (.int .i64 (-1))))), none⟩]
theorem s_slices_DeleteFunc_int_int_r2_tale (fr : List V) (H : Heap) : evTale (symAll s_slices_DeleteFunc_int_int_r2 [11] [12]) [11] fr H = evTale (some (13, [], [(12, (.op (.bin .eql (.t 0) (.c (.s (.int .i64 (-1))))) [(.t 5), (.c (.s (.int .i64 (-1))))]))])) [11] fr H := tale_row (items := [.tt 5, .sub 0 [] []]) (by kernel_rfl) fr H
def s_slices_DeleteFunc_int_int_r3 : List AOper := [
  ⟨some 13, (.move (.t 0)), none⟩,
  ⟨some 4, (.move (.t 13)), none⟩]
theorem s_slices_DeleteFunc_int_int_r3_tale (fr : List V) (H : Heap) : evTale (symAll s_slices_DeleteFunc_int_int_r3 [0, 1, 5, 12, 13] [4]) [0, 1, 5, 12, 13] fr H = evTale (some (14, [], [(4, (.t 0))])) [0, 1, 5, 12, 13] fr H := tale_row (items := [.tt 0, .tt 0]) (by kernel_rfl) fr H
def s_slices_DeleteFunc_int_int_r4 : List AOper := [
  ⟨some 14, (.move (.t 5)), none⟩,
  ⟨some 15, (.bin .add (.t 14) (.c (.s (.int .i64 1)))), none⟩,
  ⟨some 6, (.move (.t 15)), none⟩]
theorem s_slices_DeleteFunc_int_int_r4_tale (fr : List V) (H : Heap) : evTale (symAll s_slices_DeleteFunc_int_int_r4 [12, 14, 15] [6]) [12, 14, 15] fr H = evTale (some (16, [], [(6, (.op (.bin .add (.t 0) (.c (.s (.int .i64 1)))) [(.t 5), (.c (.s (.int .i64 1)))]))])) [12, 14, 15] fr H := tale_row (items := [.tt 5, .sub 0 [] [], .sub 0 [] []]) (by kernel_rfl) fr H
def s_slices_DeleteFunc_int_int_r5 : List AOper := [
  ⟨some 16, (.move (.t 6)), none⟩,
  ⟨some 17, (.move (.t 0)), none⟩,
  ⟨some 18, (.lenS .s (.t 17)), none⟩,
  ⟨some 19, (.bin .lss (.t 16) (.t 18)), none⟩]
theorem s_slices_DeleteFunc_int_int_r5_tale (fr : List V) (H : Heap) : evTale (symAll s_slices_DeleteFunc_int_int_r5 [16, 17, 18] [19]) [16, 17, 18] fr H = evTale (some (20, [], [(19, (.op (.bin .lss (.t 0) (.t 1)) [(.t 6), (.op (.lenS .s (.t 0)) [(.t 0)])]))])) [16, 17, 18] fr H := tale_row (items := [.tt 6, .tt 0, .sub 0 [1] [], .sub 0 [] []]) (by kernel_rfl) fr H
def s_slices_DeleteFunc_int_int_r6 : List AOper := [
  ⟨some 22, (.move (.t 0)), none⟩,
  ⟨some 23, (.move (.t 6)), none⟩,
  ⟨some 24, (.indexAddr 1 (.t 22) (.t 23)), none⟩,
  ⟨some 25, (.load false 1 (.t 24)), none⟩,
  ⟨some 7, (.move (.t 25)), none⟩]
theorem s_slices_DeleteFunc_int_int_r6_tale (fr : List V) (H : Heap) : evTale (symAll s_slices_DeleteFunc_int_int_r6 [19, 22, 23, 24, 25] [7]) [19, 22, 23, 24, 25] fr H = evTale (some (26, [], [(7, (.op (.load false 1 (.t 0)) [(.op (.indexAddr 1 (.t 0) (.t 1)) [(.t 0), (.t 6)])]))])) [19, 22, 23, 24, 25] fr H := tale_row (items := [.tt 0, .tt 6, .sub 0 [0] [], .sub 0 [] [], .sub 0 [] []]) (by kernel_rfl) fr H
def s_slices_DeleteFunc_int_int_r7t2 : List AOper := [⟨some 29, (.un .not (.t 28)), none⟩]
def s_slices_DeleteFunc_int_int_r7p1 : List AOper := [⟨some 28, (.call (.t 26) [(.t 27)]), none⟩]
def s_slices_DeleteFunc_int_int_r7t1 : List AOper := s_slices_DeleteFunc_int_int_r7p1 ++ s_slices_DeleteFunc_int_int_r7t2
def s_slices_DeleteFunc_int_int_r7p0 : List AOper := [⟨some 26, (.move (.t 1)), none⟩, ⟨some 27, (.move (.t 7)), none⟩]
def s_slices_DeleteFunc_int_int_r7 : List AOper := s_slices_DeleteFunc_int_int_r7p0 ++ s_slices_DeleteFunc_int_int_r7t1
theorem s_slices_DeleteFunc_int_int_r7p0_tale (fr : List V) (H : Heap) : evTale (symAll s_slices_DeleteFunc_int_int_r7p0 [] [26, 27]) [] fr H = evTale (some (28, [], [(26, (.t 1)), (27, (.t 7))])) [] fr H := tale_row (items := [.tt 1, .tt 7]) (by kernel_rfl) fr H
theorem s_slices_DeleteFunc_int_int_r7_x (call : CallF) (it : IterF) (base : Nat) (f : List V) (H : Heap) : evC call it base (.region s_slices_DeleteFunc_int_int_r7 [] [26, 27, 28]) f H = segC call it base s_slices_DeleteFunc_int_int_r7t1 [26, 27, 28] H (evTale (symAll s_slices_DeleteFunc_int_int_r7p0 [] [26, 27]) [] f H) (origRow call it base s_slices_DeleteFunc_int_int_r7 [26, 27, 28] f H) := row_seg call it base s_slices_DeleteFunc_int_int_r7p0 s_slices_DeleteFunc_int_int_r7t1 (by kernel_rfl) f H
theorem s_slices_DeleteFunc_int_int_r7t1_x (call : CallF) (it : IterF) (base : Nat) (f : List V) (H : Heap) : evC call it base (.region s_slices_DeleteFunc_int_int_r7t1 [] [26, 27, 28]) f H = thenC call it base (.region s_slices_DeleteFunc_int_int_r7t2 [] [26, 27, 28]) (opsC [] s_slices_DeleteFunc_int_int_r7p1 [26, 27] (evOps call base [⟨some 28, (.call (.t 26) [(.t 27)]), none⟩] f H)) := (row_op call it base s_slices_DeleteFunc_int_int_r7p1 s_slices_DeleteFunc_int_int_r7t2 (kc := [26, 27]) (by kernel_rfl) f H).trans (by rw [row_ops]; rfl)
theorem s_slices_DeleteFunc_int_int_r7t2_tale (fr : List V) (H : Heap) : evTale (symAll s_slices_DeleteFunc_int_int_r7t2 [26, 27, 28] [29]) [26, 27, 28] fr H = evTale (some (30, [], [(29, (.op (.un .not (.t 0)) [(.t 28)]))])) [26, 27, 28] fr H := tale_row (items := [.sub 0 [] []]) (by kernel_rfl) fr H
theorem s_slices_DeleteFunc_int_int_r7t2_x (call : CallF) (it : IterF) (base : Nat) (f : List V) (H : Heap) : evC call it base (.region s_slices_DeleteFunc_int_int_r7t2 [] [26, 27, 28]) f H = segL H (evTale (symAll s_slices_DeleteFunc_int_int_r7t2 [26, 27, 28] [29]) [26, 27, 28] f H) (origRow call it base s_slices_DeleteFunc_int_int_r7t2 [26, 27, 28] f H) := row_last call it base _ f H
def s_slices_DeleteFunc_int_int_r8t1 : List AOper := [⟨none, (.store 1 (.t 33) (.t 32)), none⟩]
def s_slices_DeleteFunc_int_int_r8p0 : List AOper := [⟨some 30, (.move (.t 0)), none⟩, ⟨some 31, (.move (.t 5)), none⟩, ⟨some 32, (.move (.t 7)), none⟩, ⟨some 33, (.indexAddr 1 (.t 30) (.t 31)), none⟩]
def s_slices_DeleteFunc_int_int_r8 : List AOper := s_slices_DeleteFunc_int_int_r8p0 ++ s_slices_DeleteFunc_int_int_r8t1
theorem s_slices_DeleteFunc_int_int_r8p0_tale (fr : List V) (H : Heap) : evTale (symAll s_slices_DeleteFunc_int_int_r8p0 [7, 29, 30, 31] [32, 33]) [7, 29, 30, 31] fr H = evTale (some (34, [], [(32, (.t 7)), (33, (.op (.indexAddr 1 (.t 0) (.t 1)) [(.t 0), (.t 5)]))])) [7, 29, 30, 31] fr H := tale_row (items := [.tt 0, .tt 5, .tt 7, .sub 1 [] []]) (by kernel_rfl) fr H
theorem s_slices_DeleteFunc_int_int_r8_x (call : CallF) (it : IterF) (base : Nat) (f : List V) (H : Heap) : evC call it base (.region s_slices_DeleteFunc_int_int_r8 [] [7, 29, 30, 31, 32, 33]) f H = segC call it base s_slices_DeleteFunc_int_int_r8t1 [7, 29, 30, 31, 32, 33] H (evTale (symAll s_slices_DeleteFunc_int_int_r8p0 [7, 29, 30, 31] [32, 33]) [7, 29, 30, 31] f H) (origRow call it base s_slices_DeleteFunc_int_int_r8 [7, 29, 30, 31, 32, 33] f H) := row_seg call it base s_slices_DeleteFunc_int_int_r8p0 s_slices_DeleteFunc_int_int_r8t1 (by kernel_rfl) f H
theorem s_slices_DeleteFunc_int_int_r8t1_x (call : CallF) (it : IterF) (base : Nat) (f : List V) (H : Heap) : evC call it base (.region s_slices_DeleteFunc_int_int_r8t1 [] [7, 29, 30, 31, 32, 33]) f H = opsC [] s_slices_DeleteFunc_int_int_r8t1 [7, 29, 30, 31, 32, 33] (evOps call base [⟨none, (.store 1 (.t 33) (.t 32)), none⟩] f H) := row_ops call it base _ _ _ f H
def s_slices_DeleteFunc_int_int_r9 : List AOper := [
  ⟨some 34, (.move (.t 5)), none⟩,
  ⟨some 35, (.bin .add (.t 34) (.c (.s (.int .i64 1)))), none⟩,
  ⟨some 5, (.move (.t 35)), none⟩]
theorem s_slices_DeleteFunc_int_int_r9_tale (fr : List V) (H : Heap) : evTale (symAll s_slices_DeleteFunc_int_int_r9 [34, 35] [5]) [34, 35] fr H = evTale (some (36, [], [(5, (.op (.bin .add (.t 0) (.c (.s (.int .i64 1)))) [(.t 5), (.c (.s (.int .i64 1)))]))])) [34, 35] fr H := tale_row (items := [.tt 5, .sub 0 [] [], .sub 0 [] []]) (by kernel_rfl) fr H
def s_slices_DeleteFunc_int_int_r10 : List AOper := [
  ⟨some 20, (.move (.t 6)), none⟩,
  ⟨some 21, (.bin .add (.t 20) (.c (.s (.int .i64 1)))), none⟩,
  ⟨some 6, (.move (.t 21)), none⟩]
theorem s_slices_DeleteFunc_int_int_r10_tale (fr : List V) (H : Heap) : evTale (symAll s_slices_DeleteFunc_int_int_r10 [7, 20, 21, 29] [6]) [7, 20, 21, 29] fr H = evTale (some (22, [], [(6, (.op (.bin .add (.t 0) (.c (.s (.int .i64 1)))) [(.t 6), (.c (.s (.int .i64 1)))]))])) [7, 20, 21, 29] fr H := tale_row (items := [.tt 6, .sub 0 [] [], .sub 0 [] []]) (by kernel_rfl) fr H
def s_slices_DeleteFunc_int_int_l0_b : ACode :=
  (.seq (.seq (.regionE s_slices_DeleteFunc_int_int_r5 [16, 17, 18] [19])
  (.cond (.t 19)
  .skip
  (.exit 0)))
  (.seq (.block 1
  (.seq (.regionE s_slices_DeleteFunc_int_int_r6 [19, 22, 23, 24, 25] [7])
  (.seq (.region s_slices_DeleteFunc_int_int_r7 [] [26, 27, 28])
  (.cond (.t 29)
  (.seq (.region s_slices_DeleteFunc_int_int_r8 [] [7, 29, 30, 31, 32, 33])
  (.regionE s_slices_DeleteFunc_int_int_r9 [34, 35] [5]))
  .skip))))
  (.regionE s_slices_DeleteFunc_int_int_r10 [7, 20, 21, 29] [6])))
def s_slices_DeleteFunc_int_int_l0 : ACode := s_slices_DeleteFunc_int_int_l0_b
theorem s_slices_DeleteFunc_int_int_l0_ev (call : CallF) (it : IterF) (base : Nat) (fr : List V) (H : Heap) : evC call it base s_slices_DeleteFunc_int_int_l0 fr H = evC call it base s_slices_DeleteFunc_int_int_l0_b fr H := rfl
def s_slices_DeleteFunc_int_int_r11t1 : List AOper := [⟨none, (.clearSl 1 [(.s (.int .i64 0))] (.t 38)), none⟩]
def s_slices_DeleteFunc_int_int_r11p0 : List AOper := [⟨some 36, (.move (.t 0)), none⟩, ⟨some 37, (.move (.t 5)), none⟩, ⟨some 38, (.subSl 1 (.t 36) (some (.t 37)) none none), none⟩]
def s_slices_DeleteFunc_int_int_r11 : List AOper := s_slices_DeleteFunc_int_int_r11p0 ++ s_slices_DeleteFunc_int_int_r11t1
theorem s_slices_DeleteFunc_int_int_r11p0_tale (fr : List V) (H : Heap) : evTale (symAll s_slices_DeleteFunc_int_int_r11p0 [1, 6, 19, 36, 37] [38]) [1, 6, 19, 36, 37] fr H = evTale (some (39, [], [(38, (.op (.subSl 1 (.t 0) (some (.t 1)) none none) [(.t 0), (.t 5)]))])) [1, 6, 19, 36, 37] fr H := tale_row (items := [.tt 0, .tt 5, .sub 0 [] []]) (by kernel_rfl) fr H
theorem s_slices_DeleteFunc_int_int_r11_x (call : CallF) (it : IterF) (base : Nat) (f : List V) (H : Heap) : evC call it base (.region s_slices_DeleteFunc_int_int_r11 [] [1, 6, 19, 36, 37, 38]) f H = segC call it base s_slices_DeleteFunc_int_int_r11t1 [1, 6, 19, 36, 37, 38] H (evTale (symAll s_slices_DeleteFunc_int_int_r11p0 [1, 6, 19, 36, 37] [38]) [1, 6, 19, 36, 37] f H) (origRow call it base s_slices_DeleteFunc_int_int_r11 [1, 6, 19, 36, 37, 38] f H) := row_seg call it base s_slices_DeleteFunc_int_int_r11p0 s_slices_DeleteFunc_int_int_r11t1 (by kernel_rfl) f H
theorem s_slices_DeleteFunc_int_int_r11t1_x (call : CallF) (it : IterF) (base : Nat) (f : List V) (H : Heap) : evC call it base (.region s_slices_DeleteFunc_int_int_r11t1 [] [1, 6, 19, 36, 37, 38]) f H = opsC [] s_slices_DeleteFunc_int_int_r11t1 [1, 6, 19, 36, 37, 38] (evOps call base [⟨none, (.clearSl 1 [(.s (.int .i64 0))] (.t 38)), none⟩] f H) := row_ops call it base _ _ _ f H
def s_slices_DeleteFunc_int_int_r12 : List AOper := [
  ⟨some 39, (.move (.t 0)), none⟩,
  ⟨some 40, (.move (.t 5)), none⟩,
  ⟨some 41, (.subSl 1 (.t 39) none (some (.t 40)) none), none⟩,
  ⟨some 4, (.move (.t 41)), none⟩]
theorem s_slices_DeleteFunc_int_int_r12_tale (fr : List V) (H : Heap) : evTale (symAll s_slices_DeleteFunc_int_int_r12 [0, 5, 39, 40, 41] [4]) [0, 5, 39, 40, 41] fr H = evTale (some (42, [], [(4, (.op (.subSl 1 (.t 0) none (some (.t 1)) none) [(.t 0), (.t 5)]))])) [0, 5, 39, 40, 41] fr H := tale_row (items := [.tt 0, .tt 5, .sub 0 [] [], .sub 0 [] []]) (by kernel_rfl) fr H
def s_slices_DeleteFunc_int_int : ACFun := { ntmps := 42, results := [(.tmp 4)], body :=
  (.seq (.regionE s_slices_DeleteFunc_int_int_r0 s_slices_DeleteFunc_int_int_r0_k [])
  (.seq (.region s_slices_DeleteFunc_int_int_r1 [] [8, 9, 10])
  (.seq (.seq (.regionE s_slices_DeleteFunc_int_int_r2 [11] [12])
  (.cond (.t 12)
  (.seq (.regionE s_slices_DeleteFunc_int_int_r3 [0, 1, 5, 12, 13] [4])
  .ret)
  .skip))
  (.seq (.seq (.regionE s_slices_DeleteFunc_int_int_r4 [12, 14, 15] [6])
  (.block 0
  (.loop [] s_slices_DeleteFunc_int_int_l0)))
  (.seq (.region s_slices_DeleteFunc_int_int_r11 [] [1, 6, 19, 36, 37, 38])
  (.seq (.regionE s_slices_DeleteFunc_int_int_r12 [0, 5, 39, 40, 41] [4])
  .ret)))))) }
abbrev k_slices_Clone_int_int : Nat := 27
def s_slices_Clone_int_int_r0_k : List Nat := [1, 2, 3, 4, 5, 6, 7]
theorem s_slices_Clone_int_int_r0_kT : killV s_slices_Clone_int_int_r0_k (startV 8 [] 1) = [] := by kernel_rfl
theorem s_slices_Clone_int_int_r0_kA0 : s_slices_Clone_int_int_r0_k.contains 0 = false := by kernel_rfl
def s_slices_Clone_int_int_r0 : List AOper := [
  ⟨some 2, (.move (.c (.s (.slice none 0 0)))), none⟩]
theorem s_slices_Clone_int_int_r0_tale (fr : List V) (H : Heap) : evTale (symAll s_slices_Clone_int_int_r0 s_slices_Clone_int_int_r0_k []) s_slices_Clone_int_int_r0_k fr H = evTale (some (3, [], [])) s_slices_Clone_int_int_r0_k fr H := tale_row (items := [.cc (.s (.slice none 0 0))]) (by kernel_rfl) fr H
def s_slices_Clone_int_int_r1 : List AOper := [
  ⟨some 3, (.move (.t 0)), none⟩,
  ⟨some 4, (.eqNil .s false (.t 3)), none⟩]
theorem s_slices_Clone_int_int_r1_tale (fr : List V) (H : Heap) : evTale (symAll s_slices_Clone_int_int_r1 [3] [4]) [3] fr H = evTale (some (5, [], [(4, (.op (.eqNil .s false (.t 0)) [(.t 0)]))])) [3] fr H := tale_row (items := [.tt 0, .sub 0 [] []]) (by kernel_rfl) fr H
def s_slices_Clone_int_int_r2 : List AOper := [
  ⟨some 2, (.move (.c (.s (.slice none 0 0)))), none⟩]
theorem s_slices_Clone_int_int_r2_tale (fr : List V) (H : Heap) : evTale (symAll s_slices_Clone_int_int_r2 [0, 4] [2]) [0, 4] fr H = evTale (some (3, [], [(2, (.c (.s (.slice none 0 0))))])) [0, 4] fr H := tale_row (items := [.cc (.s (.slice none 0 0))]) (by kernel_rfl) fr H
def s_slices_Clone_int_int_r3t3 : List AOper := [⟨some 2, (.move (.t 7)), none⟩]
def s_slices_Clone_int_int_r3p2 : List AOper := [⟨some 7, (.append 1 8 (.t 5) (.t 6)), none⟩]
def s_slices_Clone_int_int_r3t2 : List AOper := s_slices_Clone_int_int_r3p2 ++ s_slices_Clone_int_int_r3t3
def s_slices_Clone_int_int_r3p1 : List AOper := [⟨some 6, (.move (.t 0)), none⟩]
def s_slices_Clone_int_int_r3t1 : List AOper := s_slices_Clone_int_int_r3p1 ++ s_slices_Clone_int_int_r3t2
def s_slices_Clone_int_int_r3p0 : List AOper := [⟨some 5, (.buildSl 1 0 [] []), none⟩]
def s_slices_Clone_int_int_r3 : List AOper := s_slices_Clone_int_int_r3p0 ++ s_slices_Clone_int_int_r3t1
theorem s_slices_Clone_int_int_r3_x (call : CallF) (it : IterF) (base : Nat) (f : List V) (H : Heap) : evC call it base (.region s_slices_Clone_int_int_r3 [] [0, 4, 5, 6, 7]) f H = thenC call it base (.region s_slices_Clone_int_int_r3t1 [] [0, 4, 5, 6, 7]) (opsC [] s_slices_Clone_int_int_r3p0 [4] (evOps call base [⟨some 5, (.buildSl 1 0 [] []), none⟩] f H)) := (row_op call it base s_slices_Clone_int_int_r3p0 s_slices_Clone_int_int_r3t1 (kc := [4]) (by kernel_rfl) f H).trans (by rw [row_ops]; rfl)
theorem s_slices_Clone_int_int_r3p1_tale (fr : List V) (H : Heap) : evTale (symAll s_slices_Clone_int_int_r3p1 [0] [6]) [0] fr H = evTale (some (7, [], [(6, (.t 0))])) [0] fr H := tale_row (items := [.tt 0]) (by kernel_rfl) fr H
theorem s_slices_Clone_int_int_r3t1_x (call : CallF) (it : IterF) (base : Nat) (f : List V) (H : Heap) : evC call it base (.region s_slices_Clone_int_int_r3t1 [] [0, 4, 5, 6, 7]) f H = segC call it base s_slices_Clone_int_int_r3t2 [0, 4, 5, 6, 7] H (evTale (symAll s_slices_Clone_int_int_r3p1 [0] [6]) [0] f H) (origRow call it base s_slices_Clone_int_int_r3t1 [0, 4, 5, 6, 7] f H) := row_seg call it base s_slices_Clone_int_int_r3p1 s_slices_Clone_int_int_r3t2 (by kernel_rfl) f H
theorem s_slices_Clone_int_int_r3t2_x (call : CallF) (it : IterF) (base : Nat) (f : List V) (H : Heap) : evC call it base (.region s_slices_Clone_int_int_r3t2 [] [0, 4, 5, 6, 7]) f H = thenC call it base (.region s_slices_Clone_int_int_r3t3 [] [0, 4, 5, 6, 7]) (opsC [] s_slices_Clone_int_int_r3p2 [5, 6] (evOps call base [⟨some 7, (.append 1 8 (.t 5) (.t 6)), none⟩] f H)) := (row_op call it base s_slices_Clone_int_int_r3p2 s_slices_Clone_int_int_r3t3 (kc := [5, 6]) (by kernel_rfl) f H).trans (by rw [row_ops]; rfl)
theorem s_slices_Clone_int_int_r3t3_tale (fr : List V) (H : Heap) : evTale (symAll s_slices_Clone_int_int_r3t3 [0, 4, 5, 6, 7] [2]) [0, 4, 5, 6, 7] fr H = evTale (some (3, [], [(2, (.t 7))])) [0, 4, 5, 6, 7] fr H := tale_row (items := [.tt 7]) (by kernel_rfl) fr H
theorem s_slices_Clone_int_int_r3t3_x (call : CallF) (it : IterF) (base : Nat) (f : List V) (H : Heap) : evC call it base (.region s_slices_Clone_int_int_r3t3 [] [0, 4, 5, 6, 7]) f H = segL H (evTale (symAll s_slices_Clone_int_int_r3t3 [0, 4, 5, 6, 7] [2]) [0, 4, 5, 6, 7] f H) (origRow call it base s_slices_Clone_int_int_r3t3 [0, 4, 5, 6, 7] f H) := row_last call it base _ f H
def s_slices_Clone_int_int : ACFun := { ntmps := 8, results := [(.tmp 2)], body :=
  (.seq (.regionE s_slices_Clone_int_int_r0 s_slices_Clone_int_int_r0_k [])
  (.seq (.seq (.regionE s_slices_Clone_int_int_r1 [3] [4])
  (.cond (.t 4)
  (.seq (.regionE s_slices_Clone_int_int_r2 [0, 4] [2])
  .ret)
  .skip))
  (.seq (.region s_slices_Clone_int_int_r3 [] [0, 4, 5, 6, 7])
  .ret))) }
abbrev k_graph_Norm_1 : Nat := 28
def s_graph_Norm_1_r0_k : List Nat := [2, 3, 4, 5, 6, 7, 8, 9, 10, 11]
theorem s_graph_Norm_1_r0_kT : killV s_graph_Norm_1_r0_k (startV 12 [] 2) = [] := by kernel_rfl
theorem s_graph_Norm_1_r0_kA0 : s_graph_Norm_1_r0_k.contains 0 = false := by kernel_rfl
theorem s_graph_Norm_1_r0_kA1 : s_graph_Norm_1_r0_k.contains 1 = false := by kernel_rfl
def s_graph_Norm_1_r0 : List AOper := [
  ⟨some 3, (.move (.c (.s (.bool false)))), none⟩]
theorem s_graph_Norm_1_r0_tale (fr : List V) (H : Heap) : evTale (symAll s_graph_Norm_1_r0 s_graph_Norm_1_r0_k []) s_graph_Norm_1_r0_k fr H = evTale (some (4, [], [])) s_graph_Norm_1_r0_k fr H := tale_row (items := [.cc (.s (.bool false))]) (by kernel_rfl) fr H
def s_graph_Norm_1_r1 : List AOper := [
  ⟨some 4, (.move (.t 0)), none⟩,
  ⟨some 5, (.bin .lss (.t 4) (.c (.s (.int .i64 0)))), none⟩,
  ⟨some 6, (.move (.t 5)), none⟩,
  ⟨some 7, (.move (.t 0)), some (6, false)⟩,
  ⟨some 8, (.load false 1 (.t 1)), some (6, false)⟩,
  ⟨some 9, (.lenS .s (.t 8)), some (6, false)⟩,
  ⟨some 10, (.bin .geq (.t 7) (.t 9)), some (6, false)⟩,
  ⟨some 11, (.pick (.t 6) (.c (.s (.bool true))) (.t 10)), none⟩,
  ⟨some 3, (.move (.t 11)), none⟩]
theorem s_graph_Norm_1_r1_tale (fr : List V) (H : Heap) : evTale (symAll s_graph_Norm_1_r1 [0, 1, 4, 5, 6, 7, 8, 9, 10, 11] [3]) [0, 1, 4, 5, 6, 7, 8, 9, 10, 11] fr H = evTale (some (12, [], [(3, (.pick (.op (.bin .lss (.t 0) (.c (.s (.int .i64 0)))) [(.t 0), (.c (.s (.int .i64 0)))]) (.c (.s (.bool true))) (.op (.bin .geq (.t 0) (.t 1)) [(.t 0), (.op (.lenS .s (.t 0)) [(.op (.load false 1 (.t 0)) [(.t 1)])])])))])) [0, 1, 4, 5, 6, 7, 8, 9, 10, 11] fr H := tale_row (items := [.tt 0, .sub 0 [0] [], .sub 0 [0] [], .sub 0 [2, 0] [6], .sub 0 [2, 1, 0] [6], .sub 0 [2, 1] [6], .sub 0 [2] [6], .sub 0 [] [], .sub 0 [] []]) (by kernel_rfl) fr H
def s_graph_Norm_1 : ACFun := { ntmps := 12, results := [(.tmp 3)], body :=
  (.seq (.regionE s_graph_Norm_1_r0 s_graph_Norm_1_r0_k [])
  (.seq (.regionE s_graph_Norm_1_r1 [0, 1, 4, 5, 6, 7, 8, 9, 10, 11] [3])
  .ret)) }
abbrev k_slices_Compact_int_int : Nat := 30
def s_slices_Compact_int_int_r0_k : List Nat := [1, 2, 3, 4, 5, 6, 7, 8, 9, 10, 11, 12, 13, 14, 15, 16, 17, 18, 19, 20, 21, 22, 23, 24, 25, 26, 27, 28, 29, 30, 31, 32, 33, 34, 35, 36, 37, 38, 39, 40, 41, 42, 43, 44, 45, 46, 47, 48, 49, 50, 51, 52, 53, 54, 55, 56, 57, 58, 59, 60]
theorem s_slices_Compact_int_int_r0_kT : killV s_slices_Compact_int_int_r0_k (startV 61 [] 1) = [] := by kernel_rfl
theorem s_slices_Compact_int_int_r0_kA0 : s_slices_Compact_int_int_r0_k.contains 0 = false := by kernel_rfl
def s_slices_Compact_int_int_r0 : List AOper := [
  ⟨some 2, (.move (.c (.s (.slice none 0 0)))), none⟩]
theorem s_slices_Compact_int_int_r0_tale (fr : List V) (H : Heap) : evTale (symAll s_slices_Compact_int_int_r0 s_slices_Compact_int_int_r0_k []) s_slices_Compact_int_int_r0_k fr H = evTale (some (3, [], [])) s_slices_Compact_int_int_r0_k fr H := tale_row (items := [.cc (.s (.slice none 0 0))]) (by kernel_rfl) fr H
def s_slices_Compact_int_int_r1 : List AOper := [
  ⟨some 6, (.move (.t 0)), none⟩,
  ⟨some 7, (.lenS .s (.t 6)), none⟩,
  ⟨some 8, (.bin .lss (.t 7) (.c (.s (.int .i64 2)))), none⟩]
theorem s_slices_Compact_int_int_r1_tale (fr : List V) (H : Heap) : evTale (symAll s_slices_Compact_int_int_r1 [6, 7] [8]) [6, 7] fr H = evTale (some (9, [], [(8, (.op (.bin .lss (.t 0) (.c (.s (.int .i64 2)))) [(.op (.lenS .s (.t 0)) [(.t 0)]), (.c (.s (.int .i64 2)))]))])) [6, 7] fr H := tale_row (items := [.tt 0, .sub 0 [0] [], .sub 0 [] []]) (by kernel_rfl) fr H
def s_slices_Compact_int_int_r2 : List AOper := [
  ⟨some 9, (.move (.t 0)), none⟩,
  ⟨some 2, (.move (.t 9)), none⟩]
theorem s_slices_Compact_int_int_r2_tale (fr : List V) (H : Heap) : evTale (symAll s_slices_Compact_int_int_r2 [0, 8, 9] [2]) [0, 8, 9] fr H = evTale (some (10, [], [(2, (.t 0))])) [0, 8, 9] fr H := tale_row (items := [.tt 0, .tt 0]) (by kernel_rfl) fr H
def s_slices_Compact_int_int_r3 : List AOper := [
  ⟨some 3, (.move (.c (.s (.int .i64 1)))), none⟩]
theorem s_slices_Compact_int_int_r3_tale (fr : List V) (H : Heap) : evTale (symAll s_slices_Compact_int_int_r3 [8] [3]) [8] fr H = evTale (some (4, [], [(3, (.c (.s (.int .i64 1))))])) [8] fr H := tale_row (items := [.cc (.s (.int .i64 1))]) (by kernel_rfl) fr H
def s_slices_Compact_int_int_r4 : List AOper := [
  ⟨some 10, (.move (.t 3)), none⟩,
  ⟨some 11, (.move (.t 0)), none⟩,
  ⟨some 12, (.lenS .s (.t 11)), none⟩,
  ⟨some 13, (.bin .lss (.t 10) (.t 12)), none⟩]
theorem s_slices_Compact_int_int_r4_tale (fr : List V) (H : Heap) : evTale (symAll s_slices_Compact_int_int_r4 [10, 11, 12] [13]) [10, 11, 12] fr H = evTale (some (14, [], [(13, (.op (.bin .lss (.t 0) (.t 1)) [(.t 3), (.op (.lenS .s (.t 0)) [(.t 0)])]))])) [10, 11, 12] fr H := tale_row (items := [.tt 3, .tt 0, .sub 0 [1] [], .sub 0 [] []]) (by kernel_rfl) fr H
def s_slices_Compact_int_int_r5 : List AOper := [
  ⟨some 16, (.move (.t 0)), none⟩,
  ⟨some 17, (.move (.t 3)), none⟩,
  ⟨some 18, (.indexAddr 1 (.t 16) (.t 17)), none⟩,
  ⟨some 19, (.load false 1 (.t 18)), none⟩,
  ⟨some 20, (.move (.t 0)), none⟩,
  ⟨some 21, (.move (.t 3)), none⟩,
  ⟨some 22, (.bin .sub (.t 21) (.c (.s (.int .i64 1)))), none⟩,
  ⟨some 23, (.indexAddr 1 (.t 20) (.t 22)), none⟩,
  ⟨some 24, (.load false 1 (.t 23)), none⟩,
  ⟨some 25, (.bin .eql (.t 19) (.t 24)), none⟩]
theorem s_slices_Compact_int_int_r5_tale (fr : List V) (H : Heap) : evTale (symAll s_slices_Compact_int_int_r5 [13, 16, 17, 18, 19, 20, 21, 22, 23, 24] [25]) [13, 16, 17, 18, 19, 20, 21, 22, 23, 24] fr H = evTale (some (26, [], [(25, (.op (.bin .eql (.t 0) (.t 1)) [(.op (.load false 1 (.t 0)) [(.op (.indexAddr 1 (.t 0) (.t 1)) [(.t 0), (.t 3)])]), (.op (.load false 1 (.t 0)) [(.op (.indexAddr 1 (.t 0) (.t 1)) [(.t 0), (.op (.bin .sub (.t 0) (.c (.s (.int .i64 1)))) [(.t 3), (.c (.s (.int .i64 1)))])])])]))])) [13, 16, 17, 18, 19, 20, 21, 22, 23, 24] fr H := tale_row (items := [.tt 0, .tt 3, .sub 0 [0, 0] [], .sub 0 [0] [], .tt 0, .tt 3, .sub 0 [1, 0, 1] [], .sub 0 [1, 0] [], .sub 0 [1] [], .sub 0 [] []]) (by kernel_rfl) fr H
def s_slices_Compact_int_int_r6 : List AOper := [
  ⟨some 26, (.move (.t 0)), none⟩,
  ⟨some 27, (.move (.t 3)), none⟩,
  ⟨some 28, (.subSl 1 (.t 26) (some (.t 27)) none none), none⟩,
  ⟨some 4, (.move (.t 28)), none⟩]
theorem s_slices_Compact_int_int_r6_tale (fr : List V) (H : Heap) : evTale (symAll s_slices_Compact_int_int_r6 [25, 26, 27, 28] [4]) [25, 26, 27, 28] fr H = evTale (some (29, [], [(4, (.op (.subSl 1 (.t 0) (some (.t 1)) none none) [(.t 0), (.t 3)]))])) [25, 26, 27, 28] fr H := tale_row (items := [.tt 0, .tt 3, .sub 0 [] [], .sub 0 [] []]) (by kernel_rfl) fr H
def s_slices_Compact_int_int_r7 : List AOper := [
  ⟨some 5, (.move (.c (.s (.int .i64 1)))), none⟩]
theorem s_slices_Compact_int_int_r7_tale (fr : List V) (H : Heap) : evTale (symAll s_slices_Compact_int_int_r7 [] [5]) [] fr H = evTale (some (6, [], [(5, (.c (.s (.int .i64 1))))])) [] fr H := tale_row (items := [.cc (.s (.int .i64 1))]) (by kernel_rfl) fr H
def s_slices_Compact_int_int_r8 : List AOper := [
  ⟨some 29, (.move (.t 5)), none⟩,
  ⟨some 30, (.move (.t 4)), none⟩,
  ⟨some 31, (.lenS .s (.t 30)), none⟩,
  ⟨some 32, (.bin .lss (.t 29) (.t 31)), none⟩]
theorem s_slices_Compact_int_int_r8_tale (fr : List V) (H : Heap) : evTale (symAll s_slices_Compact_int_int_r8 [29, 30, 31] [32]) [29, 30, 31] fr H = evTale (some (33, [], [(32, (.op (.bin .lss (.t 0) (.t 1)) [(.t 5), (.op (.lenS .s (.t 0)) [(.t 4)])]))])) [29, 30, 31] fr H := tale_row (items := [.tt 5, .tt 4, .sub 0 [1] [], .sub 0 [] []]) (by kernel_rfl) fr H
def s_slices_Compact_int_int_r9 : List AOper := [
  ⟨some 35, (.move (.t 4)), none⟩,
  ⟨some 36, (.move (.t 5)), none⟩,
  ⟨some 37, (.indexAddr 1 (.t 35) (.t 36)), none⟩,
  ⟨some 38, (.load false 1 (.t 37)), none⟩,
  ⟨some 39, (.move (.t 4)), none⟩,
  ⟨some 40, (.move (.t 5)), none⟩,
  ⟨some 41, (.bin .sub (.t 40) (.c (.s (.int .i64 1)))), none⟩,
  ⟨some 42, (.indexAddr 1 (.t 39) (.t 41)), none⟩,
  ⟨some 43, (.load false 1 (.t 42)), none⟩,
  ⟨some 44, (.bin .neq (.t 38) (.t 43)), none⟩]
theorem s_slices_Compact_int_int_r9_tale (fr : List V) (H : Heap) : evTale (symAll s_slices_Compact_int_int_r9 [32, 35, 36, 37, 38, 39, 40, 41, 42, 43] [44]) [32, 35, 36, 37, 38, 39, 40, 41, 42, 43] fr H = evTale (some (45, [], [(44, (.op (.bin .neq (.t 0) (.t 1)) [(.op (.load false 1 (.t 0)) [(.op (.indexAddr 1 (.t 0) (.t 1)) [(.t 4), (.t 5)])]), (.op (.load false 1 (.t 0)) [(.op (.indexAddr 1 (.t 0) (.t 1)) [(.t 4), (.op (.bin .sub (.t 0) (.c (.s (.int .i64 1)))) [(.t 5), (.c (.s (.int .i64 1)))])])])]))])) [32, 35, 36, 37, 38, 39, 40, 41, 42, 43] fr H := tale_row (items := [.tt 4, .tt 5, .sub 0 [0, 0] [], .sub 0 [0] [], .tt 4, .tt 5, .sub 0 [1, 0, 1] [], .sub 0 [1, 0] [], .sub 0 [1] [], .sub 0 [] []]) (by kernel_rfl) fr H
def s_slices_Compact_int_int_r10t1 : List AOper := [⟨none, (.store 1 (.t 51) (.t 50)), none⟩]
def s_slices_Compact_int_int_r10p0 : List AOper := [⟨some 45, (.move (.t 0)), none⟩, ⟨some 46, (.move (.t 3)), none⟩, ⟨some 47, (.move (.t 4)), none⟩, ⟨some 48, (.move (.t 5)), none⟩, ⟨some 49, (.indexAddr 1 (.t 47) (.t 48)), none⟩, ⟨some 50, (.load false 1 (.t 49)), none⟩, ⟨some 51, (.indexAddr 1 (.t 45) (.t 46)), none⟩]
def s_slices_Compact_int_int_r10 : List AOper := s_slices_Compact_int_int_r10p0 ++ s_slices_Compact_int_int_r10t1
theorem s_slices_Compact_int_int_r10p0_tale (fr : List V) (H : Heap) : evTale (symAll s_slices_Compact_int_int_r10p0 [44, 45, 46, 47, 48, 49] [50, 51]) [44, 45, 46, 47, 48, 49] fr H = evTale (some (52, [], [(50, (.op (.load false 1 (.t 0)) [(.op (.indexAddr 1 (.t 0) (.t 1)) [(.t 4), (.t 5)])])), (51, (.op (.indexAddr 1 (.t 0) (.t 1)) [(.t 0), (.t 3)]))])) [44, 45, 46, 47, 48, 49] fr H := tale_row (items := [.tt 0, .tt 3, .tt 4, .tt 5, .sub 0 [0] [], .sub 0 [] [], .sub 1 [] []]) (by kernel_rfl) fr H
theorem s_slices_Compact_int_int_r10_x (call : CallF) (it : IterF) (base : Nat) (f : List V) (H : Heap) : evC call it base (.region s_slices_Compact_int_int_r10 [] [44, 45, 46, 47, 48, 49, 50, 51]) f H = segC call it base s_slices_Compact_int_int_r10t1 [44, 45, 46, 47, 48, 49, 50, 51] H (evTale (symAll s_slices_Compact_int_int_r10p0 [44, 45, 46, 47, 48, 49] [50, 51]) [44, 45, 46, 47, 48, 49] f H) (origRow call it base s_slices_Compact_int_int_r10 [44, 45, 46, 47, 48, 49, 50, 51] f H) := row_seg call it base s_slices_Compact_int_int_r10p0 s_slices_Compact_int_int_r10t1 (by kernel_rfl) f H
theorem s_slices_Compact_int_int_r10t1_x (call : CallF) (it : IterF) (base : Nat) (f : List V) (H : Heap) : evC call it base (.region s_slices_Compact_int_int_r10t1 [] [44, 45, 46, 47, 48, 49, 50, 51]) f H = opsC [] s_slices_Compact_int_int_r10t1 [44, 45, 46, 47, 48, 49, 50, 51] (evOps call base [⟨none, (.store 1 (.t 51) (.t 50)), none⟩] f H) := row_ops call it base _ _ _ f H
def s_slices_Compact_int_int_r11 : List AOper := [
  ⟨some 52, (.move (.t 3)), none⟩,
  ⟨some 53, (.bin .add (.t 52) (.c (.s (.int .i64 1)))), none⟩,
  ⟨some 3, (.move (.t 53)), none⟩]
theorem s_slices_Compact_int_int_r11_tale (fr : List V) (H : Heap) : evTale (symAll s_slices_Compact_int_int_r11 [52, 53] [3]) [52, 53] fr H = evTale (some (54, [], [(3, (.op (.bin .add (.t 0) (.c (.s (.int .i64 1)))) [(.t 3), (.c (.s (.int .i64 1)))]))])) [52, 53] fr H := tale_row (items := [.tt 3, .sub 0 [] [], .sub 0 [] []]) (by kernel_rfl) fr H
def s_slices_Compact_int_int_r12 : List AOper := [
  ⟨some 33, (.move (.t 5)), none⟩,
  ⟨some 34, (.bin .add (.t 33) (.c (.s (.int .i64 1)))), none⟩,
  ⟨some 5, (.move (.t 34)), none⟩]
theorem s_slices_Compact_int_int_r12_tale (fr : List V) (H : Heap) : evTale (symAll s_slices_Compact_int_int_r12 [33, 34, 44] [5]) [33, 34, 44] fr H = evTale (some (35, [], [(5, (.op (.bin .add (.t 0) (.c (.s (.int .i64 1)))) [(.t 5), (.c (.s (.int .i64 1)))]))])) [33, 34, 44] fr H := tale_row (items := [.tt 5, .sub 0 [] [], .sub 0 [] []]) (by kernel_rfl) fr H
def s_slices_Compact_int_int_l0_b : ACode :=
  (.seq (.seq (.regionE s_slices_Compact_int_int_r8 [29, 30, 31] [32])
  (.cond (.t 32)
  .skip
  (.exit 2)))
  (.seq (.block 3
  (.seq (.regionE s_slices_Compact_int_int_r9 [32, 35, 36, 37, 38, 39, 40, 41, 42, 43] [44])
  (.cond (.t 44)
  (.seq (.region s_slices_Compact_int_int_r10 [] [44, 45, 46, 47, 48, 49, 50, 51])
  (.regionE s_slices_Compact_int_int_r11 [52, 53] [3]))
  .skip)))
  (.regionE s_slices_Compact_int_int_r12 [33, 34, 44] [5])))
def s_slices_Compact_int_int_l0 : ACode := s_slices_Compact_int_int_l0_b
theorem s_slices_Compact_int_int_l0_ev (call : CallF) (it : IterF) (base : Nat) (fr : List V) (H : Heap) : evC call it base s_slices_Compact_int_int_l0 fr H = evC call it base s_slices_Compact_int_int_l0_b fr H := rfl
def s_slices_Compact_int_int_r13t1 : List AOper := [⟨none, (.clearSl 1 [(.s (.int .i64 0))] (.t 56)), none⟩]
def s_slices_Compact_int_int_r13p0 : List AOper := [⟨some 54, (.move (.t 0)), none⟩, ⟨some 55, (.move (.t 3)), none⟩, ⟨some 56, (.subSl 1 (.t 54) (some (.t 55)) none none), none⟩]
def s_slices_Compact_int_int_r13 : List AOper := s_slices_Compact_int_int_r13p0 ++ s_slices_Compact_int_int_r13t1
theorem s_slices_Compact_int_int_r13p0_tale (fr : List V) (H : Heap) : evTale (symAll s_slices_Compact_int_int_r13p0 [4, 5, 32, 54, 55] [56]) [4, 5, 32, 54, 55] fr H = evTale (some (57, [], [(56, (.op (.subSl 1 (.t 0) (some (.t 1)) none none) [(.t 0), (.t 3)]))])) [4, 5, 32, 54, 55] fr H := tale_row (items := [.tt 0, .tt 3, .sub 0 [] []]) (by kernel_rfl) fr H
theorem s_slices_Compact_int_int_r13_x (call : CallF) (it : IterF) (base : Nat) (f : List V) (H : Heap) : evC call it base (.region s_slices_Compact_int_int_r13 [] [4, 5, 32, 54, 55, 56]) f H = segC call it base s_slices_Compact_int_int_r13t1 [4, 5, 32, 54, 55, 56] H (evTale (symAll s_slices_Compact_int_int_r13p0 [4, 5, 32, 54, 55] [56]) [4, 5, 32, 54, 55] f H) (origRow call it base s_slices_Compact_int_int_r13 [4, 5, 32, 54, 55, 56] f H) := row_seg call it base s_slices_Compact_int_int_r13p0 s_slices_Compact_int_int_r13t1 (by kernel_rfl) f H
theorem s_slices_Compact_int_int_r13t1_x (call : CallF) (it : IterF) (base : Nat) (f : List V) (H : Heap) : evC call it base (.region s_slices_Compact_int_int_r13t1 [] [4, 5, 32, 54, 55, 56]) f H = opsC [] s_slices_Compact_int_int_r13t1 [4, 5, 32, 54, 55, 56] (evOps call base [⟨none, (.clearSl 1 [(.s (.int .i64 0))] (.t 56)), none⟩] f H) := row_ops call it base _ _ _ f H
def s_slices_Compact_int_int_r14 : List AOper := [
  ⟨some 57, (.move (.t 0)), none⟩,
  ⟨some 58, (.move (.t 3)), none⟩,
  ⟨some 59, (.subSl 1 (.t 57) none (some (.t 58)) none), none⟩,
  ⟨some 2, (.move (.t 59)), none⟩]
theorem s_slices_Compact_int_int_r14_tale (fr : List V) (H : Heap) : evTale (symAll s_slices_Compact_int_int_r14 [0, 3, 57, 58, 59] [2]) [0, 3, 57, 58, 59] fr H = evTale (some (60, [], [(2, (.op (.subSl 1 (.t 0) none (some (.t 1)) none) [(.t 0), (.t 3)]))])) [0, 3, 57, 58, 59] fr H := tale_row (items := [.tt 0, .tt 3, .sub 0 [] [], .sub 0 [] []]) (by kernel_rfl) fr H
def s_slices_Compact_int_int_r15 : List AOper := [
  ⟨some 14, (.move (.t 3)), none⟩,
  ⟨some 15, (.bin .add (.t 14) (.c (.s (.int .i64 1)))), none⟩,
  ⟨some 3, (.move (.t 15)), none⟩]
theorem s_slices_Compact_int_int_r15_tale (fr : List V) (H : Heap) : evTale (symAll s_slices_Compact_int_int_r15 [14, 15, 25] [3]) [14, 15, 25] fr H = evTale (some (16, [], [(3, (.op (.bin .add (.t 0) (.c (.s (.int .i64 1)))) [(.t 3), (.c (.s (.int .i64 1)))]))])) [14, 15, 25] fr H := tale_row (items := [.tt 3, .sub 0 [] [], .sub 0 [] []]) (by kernel_rfl) fr H
def s_slices_Compact_int_int_l1_b : ACode :=
  (.seq (.seq (.regionE s_slices_Compact_int_int_r4 [10, 11, 12] [13])
  (.cond (.t 13)
  .skip
  (.exit 0)))
  (.seq (.block 1
  (.seq (.regionE s_slices_Compact_int_int_r5 [13, 16, 17, 18, 19, 20, 21, 22, 23, 24] [25])
  (.cond (.t 25)
  (.seq (.regionE s_slices_Compact_int_int_r6 [25, 26, 27, 28] [4])
  (.seq (.seq (.regionE s_slices_Compact_int_int_r7 [] [5])
  (.block 2
  (.loop [] s_slices_Compact_int_int_l0)))
  (.seq (.region s_slices_Compact_int_int_r13 [] [4, 5, 32, 54, 55, 56])
  (.seq (.regionE s_slices_Compact_int_int_r14 [0, 3, 57, 58, 59] [2])
  .ret))))
  .skip)))
  (.regionE s_slices_Compact_int_int_r15 [14, 15, 25] [3])))
def s_slices_Compact_int_int_l1 : ACode := s_slices_Compact_int_int_l1_b
theorem s_slices_Compact_int_int_l1_ev (call : CallF) (it : IterF) (base : Nat) (fr : List V) (H : Heap) : evC call it base s_slices_Compact_int_int_l1 fr H = evC call it base s_slices_Compact_int_int_l1_b fr H := rfl
def s_slices_Compact_int_int_r16 : List AOper := [
  ⟨some 60, (.move (.t 0)), none⟩,
  ⟨some 2, (.move (.t 60)), none⟩]
theorem s_slices_Compact_int_int_r16_tale (fr : List V) (H : Heap) : evTale (symAll s_slices_Compact_int_int_r16 [0, 3, 13, 60] [2]) [0, 3, 13, 60] fr H = evTale (some (61, [], [(2, (.t 0))])) [0, 3, 13, 60] fr H := tale_row (items := [.tt 0, .tt 0]) (by kernel_rfl) fr H
def s_slices_Compact_int_int : ACFun := { ntmps := 61, results := [(.tmp 2)], body :=
  (.seq (.regionE s_slices_Compact_int_int_r0 s_slices_Compact_int_int_r0_k [])
  (.seq (.seq (.regionE s_slices_Compact_int_int_r1 [6, 7] [8])
  (.cond (.t 8)
  (.seq (.regionE s_slices_Compact_int_int_r2 [0, 8, 9] [2])
  .ret)
  .skip))
  (.seq (.seq (.regionE s_slices_Compact_int_int_r3 [8] [3])
  (.block 0
  (.loop [] s_slices_Compact_int_int_l1)))
  (.seq (.regionE s_slices_Compact_int_int_r16 [0, 3, 13, 60] [2])
  .ret)))) }
abbrev k_gnomonref01_Add : Nat := 31
def s_gnomonref01_Add_r0_k : List Nat := [2, 3, 4, 5, 6, 7, 8, 9, 10, 11, 12, 13, 14, 15, 16, 17, 18, 19, 20, 21, 22, 23, 24, 25, 26, 27, 28, 29, 30, 31, 32, 33, 34, 35, 36, 37, 38, 39, 40, 41]
theorem s_gnomonref01_Add_r0_kT : killV s_gnomonref01_Add_r0_k (startV 42 [] 2) = [] := by kernel_rfl
theorem s_gnomonref01_Add_r0_kA0 : s_gnomonref01_Add_r0_k.contains 0 = false := by kernel_rfl
theorem s_gnomonref01_Add_r0_kA1 : s_gnomonref01_Add_r0_k.contains 1 = false := by kernel_rfl
def s_gnomonref01_Add_r0 : List AOper := [
  ⟨some 4, (.move (.c (.s (.slice none 0 0)))), none⟩]
theorem s_gnomonref01_Add_r0_tale (fr : List V) (H : Heap) : evTale (symAll s_gnomonref01_Add_r0 s_gnomonref01_Add_r0_k []) s_gnomonref01_Add_r0_k fr H = evTale (some (5, [], [])) s_gnomonref01_Add_r0_k fr H := tale_row (items := [.cc (.s (.slice none 0 0))]) (by kernel_rfl) fr H
def s_gnomonref01_Add_r1t4 : List AOper := [⟨some 13, (.pick (.t 9) (.c (.s (.bool true))) (.t 12)), none⟩]
def s_gnomonref01_Add_r1p3 : List AOper := [⟨some 12, (.call (.c (.fn 39 [] [])) [(.t 10), (.t 11)]), some (9, false)⟩]
def s_gnomonref01_Add_r1t3 : List AOper := s_gnomonref01_Add_r1p3 ++ s_gnomonref01_Add_r1t4
def s_gnomonref01_Add_r1p2 : List AOper := [⟨some 11, (.move (.t 1)), some (9, false)⟩]
def s_gnomonref01_Add_r1t2 : List AOper := s_gnomonref01_Add_r1p2 ++ s_gnomonref01_Add_r1t3
def s_gnomonref01_Add_r1p1 : List AOper := [⟨some 10, (.move (.t 0)), some (9, false)⟩]
def s_gnomonref01_Add_r1t1 : List AOper := s_gnomonref01_Add_r1p1 ++ s_gnomonref01_Add_r1t2
def s_gnomonref01_Add_r1p0 : List AOper := [⟨some 7, (.move (.t 1)), none⟩, ⟨some 8, (.bin .lss (.t 7) (.c (.s (.int .i64 0)))), none⟩, ⟨some 9, (.move (.t 8)), none⟩]
def s_gnomonref01_Add_r1 : List AOper := s_gnomonref01_Add_r1p0 ++ s_gnomonref01_Add_r1t1
theorem s_gnomonref01_Add_r1p0_tale (fr : List V) (H : Heap) : evTale (symAll s_gnomonref01_Add_r1p0 [7, 8] [9]) [7, 8] fr H = evTale (some (10, [], [(9, (.op (.bin .lss (.t 0) (.c (.s (.int .i64 0)))) [(.t 1), (.c (.s (.int .i64 0)))]))])) [7, 8] fr H := tale_row (items := [.tt 1, .sub 0 [] [], .sub 0 [] []]) (by kernel_rfl) fr H
theorem s_gnomonref01_Add_r1_x (call : CallF) (it : IterF) (base : Nat) (f : List V) (H : Heap) : evC call it base (.region s_gnomonref01_Add_r1 [] [7, 8, 9, 10, 11, 12]) f H = segC call it base s_gnomonref01_Add_r1t1 [7, 8, 9, 10, 11, 12] H (evTale (symAll s_gnomonref01_Add_r1p0 [7, 8] [9]) [7, 8] f H) (origRow call it base s_gnomonref01_Add_r1 [7, 8, 9, 10, 11, 12] f H) := row_seg call it base s_gnomonref01_Add_r1p0 s_gnomonref01_Add_r1t1 (by kernel_rfl) f H
theorem s_gnomonref01_Add_r1t1_x (call : CallF) (it : IterF) (base : Nat) (f : List V) (H : Heap) : evC call it base (.region s_gnomonref01_Add_r1t1 [] [7, 8, 9, 10, 11, 12]) f H = thenC call it base (.region s_gnomonref01_Add_r1t2 [] [7, 8, 9, 10, 11, 12]) (opsC [] s_gnomonref01_Add_r1p1 [] (evOps call base [⟨some 10, (.move (.t 0)), some (9, false)⟩] f H)) := (row_op call it base s_gnomonref01_Add_r1p1 s_gnomonref01_Add_r1t2 (kc := []) (by kernel_rfl) f H).trans (by rw [row_ops]; rfl)
theorem s_gnomonref01_Add_r1t2_x (call : CallF) (it : IterF) (base : Nat) (f : List V) (H : Heap) : evC call it base (.region s_gnomonref01_Add_r1t2 [] [7, 8, 9, 10, 11, 12]) f H = thenC call it base (.region s_gnomonref01_Add_r1t3 [] [7, 8, 9, 10, 11, 12]) (opsC [] s_gnomonref01_Add_r1p2 [] (evOps call base [⟨some 11, (.move (.t 1)), some (9, false)⟩] f H)) := (row_op call it base s_gnomonref01_Add_r1p2 s_gnomonref01_Add_r1t3 (kc := []) (by kernel_rfl) f H).trans (by rw [row_ops]; rfl)
theorem s_gnomonref01_Add_r1t3_x (call : CallF) (it : IterF) (base : Nat) (f : List V) (H : Heap) : evC call it base (.region s_gnomonref01_Add_r1t3 [] [7, 8, 9, 10, 11, 12]) f H = thenC call it base (.region s_gnomonref01_Add_r1t4 [] [7, 8, 9, 10, 11, 12]) (opsC [] s_gnomonref01_Add_r1p3 [10, 11] (evOps call base [⟨some 12, (.call (.c (.fn 39 [] [])) [(.t 10), (.t 11)]), some (9, false)⟩] f H)) := (row_op call it base s_gnomonref01_Add_r1p3 s_gnomonref01_Add_r1t4 (kc := [10, 11]) (by kernel_rfl) f H).trans (by rw [row_ops]; rfl)
theorem s_gnomonref01_Add_r1t4_tale (fr : List V) (H : Heap) : evTale (symAll s_gnomonref01_Add_r1t4 [7, 8, 9, 10, 11, 12] [13]) [7, 8, 9, 10, 11, 12] fr H = evTale (some (14, [], [(13, (.pick (.t 9) (.c (.s (.bool true))) (.t 12)))])) [7, 8, 9, 10, 11, 12] fr H := tale_row (items := [.sub 0 [] []]) (by kernel_rfl) fr H
theorem s_gnomonref01_Add_r1t4_x (call : CallF) (it : IterF) (base : Nat) (f : List V) (H : Heap) : evC call it base (.region s_gnomonref01_Add_r1t4 [] [7, 8, 9, 10, 11, 12]) f H = segL H (evTale (symAll s_gnomonref01_Add_r1t4 [7, 8, 9, 10, 11, 12] [13]) [7, 8, 9, 10, 11, 12] f H) (origRow call it base s_gnomonref01_Add_r1t4 [7, 8, 9, 10, 11, 12] f H) := row_last call it base _ f H
def s_gnomonref01_Add_r2 : List AOper := [
  ⟨some 14, (.move (.t 0)), none⟩,
  ⟨some 4, (.move (.t 14)), none⟩]
theorem s_gnomonref01_Add_r2_tale (fr : List V) (H : Heap) : evTale (symAll s_gnomonref01_Add_r2 [0, 1, 13, 14] [4]) [0, 1, 13, 14] fr H = evTale (some (15, [], [(4, (.t 0))])) [0, 1, 13, 14] fr H := tale_row (items := [.tt 0, .tt 0]) (by kernel_rfl) fr H
def s_gnomonref01_Add_r3 : List AOper := [
  ⟨some 5, (.move (.c (.s (.int .i64 0)))), none⟩]
theorem s_gnomonref01_Add_r3_tale (fr : List V) (H : Heap) : evTale (symAll s_gnomonref01_Add_r3 [13] [5]) [13] fr H = evTale (some (6, [], [(5, (.c (.s (.int .i64 0))))])) [13] fr H := tale_row (items := [.cc (.s (.int .i64 0))]) (by kernel_rfl) fr H
def s_gnomonref01_Add_r4 : List AOper := [
  ⟨some 15, (.move (.t 5)), none⟩,
  ⟨some 16, (.move (.t 0)), none⟩,
  ⟨some 17, (.lenS .s (.t 16)), none⟩,
  ⟨some 18, (.bin .lss (.t 15) (.t 17)), none⟩,
  ⟨some 19, (.move (.t 18)), none⟩,
  ⟨some 20, (.move (.t 0)), some (19, true)⟩,
  ⟨some 21, (.move (.t 5)), some (19, true)⟩,
  ⟨some 22, (.indexAddr 1 (.t 20) (.t 21)), some (19, true)⟩,
  ⟨some 23, (.load false 1 (.t 22)), some (19, true)⟩,
  ⟨some 24, (.move (.t 1)), some (19, true)⟩,
  ⟨some 25, (.bin .lss (.t 23) (.t 24)), some (19, true)⟩,
  ⟨some 26, (.pick (.t 19) (.t 25) (.c (.s (.bool false)))), none⟩]
theorem s_gnomonref01_Add_r4_tale (fr : List V) (H : Heap) : evTale (symAll s_gnomonref01_Add_r4 [15, 16, 17, 18, 19, 20, 21, 22, 23, 24, 25] [26]) [15, 16, 17, 18, 19, 20, 21, 22, 23, 24, 25] fr H = evTale (some (27, [], [(26, (.pick (.op (.bin .lss (.t 0) (.t 1)) [(.t 5), (.op (.lenS .s (.t 0)) [(.t 0)])]) (.op (.bin .lss (.t 0) (.t 1)) [(.op (.load false 1 (.t 0)) [(.op (.indexAddr 1 (.t 0) (.t 1)) [(.t 0), (.t 5)])]), (.t 1)]) (.c (.s (.bool false)))))])) [15, 16, 17, 18, 19, 20, 21, 22, 23, 24, 25] fr H := tale_row (items := [.tt 5, .tt 0, .sub 0 [0, 1] [], .sub 0 [0] [], .sub 0 [0] [], .sub 0 [1, 0, 0, 0] [19], .sub 0 [1, 0, 0, 1] [19], .sub 0 [1, 0, 0] [19], .sub 0 [1, 0] [19], .sub 0 [1, 1] [19], .sub 0 [1] [19], .sub 0 [] []]) (by kernel_rfl) fr H
def s_gnomonref01_Add_r5 : List AOper := [
  ⟨some 27, (.move (.t 5)), none⟩,
  ⟨some 28, (.bin .add (.t 27) (.c (.s (.int .i64 1)))), none⟩,
  ⟨some 5, (.move (.t 28)), none⟩]
theorem s_gnomonref01_Add_r5_tale (fr : List V) (H : Heap) : evTale (symAll s_gnomonref01_Add_r5 [26, 27, 28] [5]) [26, 27, 28] fr H = evTale (some (29, [], [(5, (.op (.bin .add (.t 0) (.c (.s (.int .i64 1)))) [(.t 5), (.c (.s (.int .i64 1)))]))])) [26, 27, 28] fr H := tale_row (items := [.tt 5, .sub 0 [] [], .sub 0 [] []]) (by kernel_rfl) fr H
def s_gnomonref01_Add_l0_b : ACode :=
  (.seq (.seq (.regionE s_gnomonref01_Add_r4 [15, 16, 17, 18, 19, 20, 21, 22, 23, 24, 25] [26])
  (.cond (.t 26)
  .skip
  (.exit 0)))
  (.block 1
  (.regionE s_gnomonref01_Add_r5 [26, 27, 28] [5])))
def s_gnomonref01_Add_l0 : ACode := s_gnomonref01_Add_l0_b
theorem s_gnomonref01_Add_l0_ev (call : CallF) (it : IterF) (base : Nat) (fr : List V) (H : Heap) : evC call it base s_gnomonref01_Add_l0 fr H = evC call it base s_gnomonref01_Add_l0_b fr H := rfl
def s_gnomonref01_Add_r6t2 : List AOper := [⟨some 6, (.move (.t 32)), none⟩]
def s_gnomonref01_Add_r6p1 : List AOper := [⟨some 32, (.append 1 8 (.c (.s (.slice none 0 0))) (.t 31)), none⟩]
def s_gnomonref01_Add_r6t1 : List AOper := s_gnomonref01_Add_r6p1 ++ s_gnomonref01_Add_r6t2
def s_gnomonref01_Add_r6p0 : List AOper := [⟨some 29, (.move (.t 0)), none⟩, ⟨some 30, (.move (.t 5)), none⟩, ⟨some 31, (.subSl 1 (.t 29) none (some (.t 30)) none), none⟩]
def s_gnomonref01_Add_r6 : List AOper := s_gnomonref01_Add_r6p0 ++ s_gnomonref01_Add_r6t1
theorem s_gnomonref01_Add_r6p0_tale (fr : List V) (H : Heap) : evTale (symAll s_gnomonref01_Add_r6p0 [26, 29, 30] [31]) [26, 29, 30] fr H = evTale (some (32, [], [(31, (.op (.subSl 1 (.t 0) none (some (.t 1)) none) [(.t 0), (.t 5)]))])) [26, 29, 30] fr H := tale_row (items := [.tt 0, .tt 5, .sub 0 [] []]) (by kernel_rfl) fr H
theorem s_gnomonref01_Add_r6_x (call : CallF) (it : IterF) (base : Nat) (f : List V) (H : Heap) : evC call it base (.region s_gnomonref01_Add_r6 [] [26, 29, 30, 31, 32]) f H = segC call it base s_gnomonref01_Add_r6t1 [26, 29, 30, 31, 32] H (evTale (symAll s_gnomonref01_Add_r6p0 [26, 29, 30] [31]) [26, 29, 30] f H) (origRow call it base s_gnomonref01_Add_r6 [26, 29, 30, 31, 32] f H) := row_seg call it base s_gnomonref01_Add_r6p0 s_gnomonref01_Add_r6t1 (by kernel_rfl) f H
theorem s_gnomonref01_Add_r6t1_x (call : CallF) (it : IterF) (base : Nat) (f : List V) (H : Heap) : evC call it base (.region s_gnomonref01_Add_r6t1 [] [26, 29, 30, 31, 32]) f H = thenC call it base (.region s_gnomonref01_Add_r6t2 [] [26, 29, 30, 31, 32]) (opsC [] s_gnomonref01_Add_r6p1 [31] (evOps call base [⟨some 32, (.append 1 8 (.c (.s (.slice none 0 0))) (.t 31)), none⟩] f H)) := (row_op call it base s_gnomonref01_Add_r6p1 s_gnomonref01_Add_r6t2 (kc := [31]) (by kernel_rfl) f H).trans (by rw [row_ops]; rfl)
theorem s_gnomonref01_Add_r6t2_tale (fr : List V) (H : Heap) : evTale (symAll s_gnomonref01_Add_r6t2 [26, 29, 30, 31, 32] [6]) [26, 29, 30, 31, 32] fr H = evTale (some (7, [], [(6, (.t 32))])) [26, 29, 30, 31, 32] fr H := tale_row (items := [.tt 32]) (by kernel_rfl) fr H
theorem s_gnomonref01_Add_r6t2_x (call : CallF) (it : IterF) (base : Nat) (f : List V) (H : Heap) : evC call it base (.region s_gnomonref01_Add_r6t2 [] [26, 29, 30, 31, 32]) f H = segL H (evTale (symAll s_gnomonref01_Add_r6t2 [26, 29, 30, 31, 32] [6]) [26, 29, 30, 31, 32] f H) (origRow call it base s_gnomonref01_Add_r6t2 [26, 29, 30, 31, 32] f H) := row_last call it base _ f H
def s_gnomonref01_Add_r7t3 : List AOper := [⟨some 6, (.move (.t 36)), none⟩]
def s_gnomonref01_Add_r7p2 : List AOper := [⟨some 36, (.append 1 8 (.t 33) (.t 35)), none⟩]
def s_gnomonref01_Add_r7t2 : List AOper := s_gnomonref01_Add_r7p2 ++ s_gnomonref01_Add_r7t3
def s_gnomonref01_Add_r7p1 : List AOper := [⟨some 35, (.buildSl 1 1 [(.s (.int .i64 0))] [(0, (.t 34))]), none⟩]
def s_gnomonref01_Add_r7t1 : List AOper := s_gnomonref01_Add_r7p1 ++ s_gnomonref01_Add_r7t2
def s_gnomonref01_Add_r7p0 : List AOper := [⟨some 33, (.move (.t 6)), none⟩, ⟨some 34, (.move (.t 1)), none⟩]
def s_gnomonref01_Add_r7 : List AOper := s_gnomonref01_Add_r7p0 ++ s_gnomonref01_Add_r7t1
theorem s_gnomonref01_Add_r7p0_tale (fr : List V) (H : Heap) : evTale (symAll s_gnomonref01_Add_r7p0 [1, 6] [33, 34]) [1, 6] fr H = evTale (some (35, [], [(33, (.t 6)), (34, (.t 1))])) [1, 6] fr H := tale_row (items := [.tt 6, .tt 1]) (by kernel_rfl) fr H
theorem s_gnomonref01_Add_r7_x (call : CallF) (it : IterF) (base : Nat) (f : List V) (H : Heap) : evC call it base (.region s_gnomonref01_Add_r7 [] [1, 33, 34, 35, 36]) f H = segC call it base s_gnomonref01_Add_r7t1 [1, 33, 34, 35, 36] H (evTale (symAll s_gnomonref01_Add_r7p0 [1, 6] [33, 34]) [1, 6] f H) (origRow call it base s_gnomonref01_Add_r7 [1, 33, 34, 35, 36] f H) := row_seg call it base s_gnomonref01_Add_r7p0 s_gnomonref01_Add_r7t1 (by kernel_rfl) f H
theorem s_gnomonref01_Add_r7t1_x (call : CallF) (it : IterF) (base : Nat) (f : List V) (H : Heap) : evC call it base (.region s_gnomonref01_Add_r7t1 [] [1, 33, 34, 35, 36]) f H = thenC call it base (.region s_gnomonref01_Add_r7t2 [] [1, 33, 34, 35, 36]) (opsC [] s_gnomonref01_Add_r7p1 [34] (evOps call base [⟨some 35, (.buildSl 1 1 [(.s (.int .i64 0))] [(0, (.t 34))]), none⟩] f H)) := (row_op call it base s_gnomonref01_Add_r7p1 s_gnomonref01_Add_r7t2 (kc := [34]) (by kernel_rfl) f H).trans (by rw [row_ops]; rfl)
theorem s_gnomonref01_Add_r7t2_x (call : CallF) (it : IterF) (base : Nat) (f : List V) (H : Heap) : evC call it base (.region s_gnomonref01_Add_r7t2 [] [1, 33, 34, 35, 36]) f H = thenC call it base (.region s_gnomonref01_Add_r7t3 [] [1, 33, 34, 35, 36]) (opsC [] s_gnomonref01_Add_r7p2 [33, 35] (evOps call base [⟨some 36, (.append 1 8 (.t 33) (.t 35)), none⟩] f H)) := (row_op call it base s_gnomonref01_Add_r7p2 s_gnomonref01_Add_r7t3 (kc := [33, 35]) (by kernel_rfl) f H).trans (by rw [row_ops]; rfl)
theorem s_gnomonref01_Add_r7t3_tale (fr : List V) (H : Heap) : evTale (symAll s_gnomonref01_Add_r7t3 [1, 33, 34, 35, 36] [6]) [1, 33, 34, 35, 36] fr H = evTale (some (7, [], [(6, (.t 36))])) [1, 33, 34, 35, 36] fr H := tale_row (items := [.tt 36]) (by kernel_rfl) fr H
theorem s_gnomonref01_Add_r7t3_x (call : CallF) (it : IterF) (base : Nat) (f : List V) (H : Heap) : evC call it base (.region s_gnomonref01_Add_r7t3 [] [1, 33, 34, 35, 36]) f H = segL H (evTale (symAll s_gnomonref01_Add_r7t3 [1, 33, 34, 35, 36] [6]) [1, 33, 34, 35, 36] f H) (origRow call it base s_gnomonref01_Add_r7t3 [1, 33, 34, 35, 36] f H) := row_last call it base _ f H
def s_gnomonref01_Add_r8t2 : List AOper := [⟨some 4, (.move (.t 41)), none⟩]
def s_gnomonref01_Add_r8p1 : List AOper := [⟨some 41, (.append 1 8 (.t 37) (.t 40)), none⟩]
def s_gnomonref01_Add_r8t1 : List AOper := s_gnomonref01_Add_r8p1 ++ s_gnomonref01_Add_r8t2
def s_gnomonref01_Add_r8p0 : List AOper := [⟨some 37, (.move (.t 6)), none⟩, ⟨some 38, (.move (.t 0)), none⟩, ⟨some 39, (.move (.t 5)), none⟩, ⟨some 40, (.subSl 1 (.t 38) (some (.t 39)) none none), none⟩]
def s_gnomonref01_Add_r8 : List AOper := s_gnomonref01_Add_r8p0 ++ s_gnomonref01_Add_r8t1
theorem s_gnomonref01_Add_r8p0_tale (fr : List V) (H : Heap) : evTale (symAll s_gnomonref01_Add_r8p0 [0, 5, 6, 38, 39] [37, 40]) [0, 5, 6, 38, 39] fr H = evTale (some (41, [], [(37, (.t 6)), (40, (.op (.subSl 1 (.t 0) (some (.t 1)) none none) [(.t 0), (.t 5)]))])) [0, 5, 6, 38, 39] fr H := tale_row (items := [.tt 6, .tt 0, .tt 5, .sub 1 [] []]) (by kernel_rfl) fr H
theorem s_gnomonref01_Add_r8_x (call : CallF) (it : IterF) (base : Nat) (f : List V) (H : Heap) : evC call it base (.region s_gnomonref01_Add_r8 [] [0, 5, 6, 37, 38, 39, 40, 41]) f H = segC call it base s_gnomonref01_Add_r8t1 [0, 5, 6, 37, 38, 39, 40, 41] H (evTale (symAll s_gnomonref01_Add_r8p0 [0, 5, 6, 38, 39] [37, 40]) [0, 5, 6, 38, 39] f H) (origRow call it base s_gnomonref01_Add_r8 [0, 5, 6, 37, 38, 39, 40, 41] f H) := row_seg call it base s_gnomonref01_Add_r8p0 s_gnomonref01_Add_r8t1 (by kernel_rfl) f H
theorem s_gnomonref01_Add_r8t1_x (call : CallF) (it : IterF) (base : Nat) (f : List V) (H : Heap) : evC call it base (.region s_gnomonref01_Add_r8t1 [] [0, 5, 6, 37, 38, 39, 40, 41]) f H = thenC call it base (.region s_gnomonref01_Add_r8t2 [] [0, 5, 6, 37, 38, 39, 40, 41]) (opsC [] s_gnomonref01_Add_r8p1 [37, 40] (evOps call base [⟨some 41, (.append 1 8 (.t 37) (.t 40)), none⟩] f H)) := (row_op call it base s_gnomonref01_Add_r8p1 s_gnomonref01_Add_r8t2 (kc := [37, 40]) (by kernel_rfl) f H).trans (by rw [row_ops]; rfl)
theorem s_gnomonref01_Add_r8t2_tale (fr : List V) (H : Heap) : evTale (symAll s_gnomonref01_Add_r8t2 [0, 5, 6, 37, 38, 39, 40, 41] [4]) [0, 5, 6, 37, 38, 39, 40, 41] fr H = evTale (some (5, [], [(4, (.t 41))])) [0, 5, 6, 37, 38, 39, 40, 41] fr H := tale_row (items := [.tt 41]) (by kernel_rfl) fr H
theorem s_gnomonref01_Add_r8t2_x (call : CallF) (it : IterF) (base : Nat) (f : List V) (H : Heap) : evC call it base (.region s_gnomonref01_Add_r8t2 [] [0, 5, 6, 37, 38, 39, 40, 41]) f H = segL H (evTale (symAll s_gnomonref01_Add_r8t2 [0, 5, 6, 37, 38, 39, 40, 41] [4]) [0, 5, 6, 37, 38, 39, 40, 41] f H) (origRow call it base s_gnomonref01_Add_r8t2 [0, 5, 6, 37, 38, 39, 40, 41] f H) := row_last call it base _ f H
def s_gnomonref01_Add : ACFun := { ntmps := 42, results := [(.tmp 4)], body :=
  (.seq (.regionE s_gnomonref01_Add_r0 s_gnomonref01_Add_r0_k [])
  (.seq (.seq (.region s_gnomonref01_Add_r1 [] [7, 8, 9, 10, 11, 12])
  (.cond (.t 13)
  (.seq (.regionE s_gnomonref01_Add_r2 [0, 1, 13, 14] [4])
  .ret)
  .skip))
  (.seq (.regionE s_gnomonref01_Add_r3 [13] [5])
  (.seq (.block 0
  (.loop [] s_gnomonref01_Add_l0))
  (.seq (.region s_gnomonref01_Add_r6 [] [26, 29, 30, 31, 32])
  (.seq (.region s_gnomonref01_Add_r7 [] [1, 33, 34, 35, 36])
  (.seq (.region s_gnomonref01_Add_r8 [] [0, 5, 6, 37, 38, 39, 40, 41])
  .ret))))))) }
abbrev k_slices_IndexFunc_int_int : Nat := 33
def s_slices_IndexFunc_int_int_r0_k : List Nat := [2, 3, 4, 5, 6, 7, 8, 9, 10, 11, 12, 13, 14, 15, 16, 17, 18]
theorem s_slices_IndexFunc_int_int_r0_kT : killV s_slices_IndexFunc_int_int_r0_k (startV 19 [] 2) = [] := by kernel_rfl
theorem s_slices_IndexFunc_int_int_r0_kA0 : s_slices_IndexFunc_int_int_r0_k.contains 0 = false := by kernel_rfl
theorem s_slices_IndexFunc_int_int_r0_kA1 : s_slices_IndexFunc_int_int_r0_k.contains 1 = false := by kernel_rfl
def s_slices_IndexFunc_int_int_r0 : List AOper := [
  ⟨some 4, (.move (.c (.s (.int .i64 0)))), none⟩]
theorem s_slices_IndexFunc_int_int_r0_tale (fr : List V) (H : Heap) : evTale (symAll s_slices_IndexFunc_int_int_r0 s_slices_IndexFunc_int_int_r0_k []) s_slices_IndexFunc_int_int_r0_k fr H = evTale (some (5, [], [])) s_slices_IndexFunc_int_int_r0_k fr H := tale_row (items := [.cc (.s (.int .i64 0))]) (by kernel_rfl) fr H
def s_slices_IndexFunc_int_int_r1 : List AOper := [
  ⟨some 6, (.move (.t 0)), none⟩,
  ⟨some 7, (.lenS .s (.t 6)), none⟩,
  ⟨some 8, (.move (.c (.s (.int .i64 0)))), none⟩]
theorem s_slices_IndexFunc_int_int_r1_tale (fr : List V) (H : Heap) : evTale (symAll s_slices_IndexFunc_int_int_r1 [6] [7, 8]) [6] fr H = evTale (some (9, [], [(7, (.op (.lenS .s (.t 0)) [(.t 0)])), (8, (.c (.s (.int .i64 0))))])) [6] fr H := tale_row (items := [.tt 0, .sub 0 [] [], .cc (.s (.int .i64 0))]) (by kernel_rfl) fr H
def s_slices_IndexFunc_int_int_r2 : List AOper := [
  ⟨some 9, (.bin .lss (.t 8) (.t 7)), none⟩]
theorem s_slices_IndexFunc_int_int_r2_tale (fr : List V) (H : Heap) : evTale (symAll s_slices_IndexFunc_int_int_r2 [] [9]) [] fr H = evTale (some (10, [], [(9, (.op (.bin .lss (.t 0) (.t 1)) [(.t 8), (.t 7)]))])) [] fr H := tale_row (items := [.sub 0 [] []]) (by kernel_rfl) fr H
def s_slices_IndexFunc_int_int_r3 : List AOper := [
  ⟨some 10, (.move (.t 8)), none⟩,
  ⟨some 5, (.move (.t 10)), none⟩]
theorem s_slices_IndexFunc_int_int_r3_tale (fr : List V) (H : Heap) : evTale (symAll s_slices_IndexFunc_int_int_r3 [9, 10] [5]) [9, 10] fr H = evTale (some (11, [], [(5, (.t 8))])) [9, 10] fr H := tale_row (items := [.tt 8, .tt 8]) (by kernel_rfl) fr H
def s_slices_IndexFunc_int_int_r4t1 : List AOper := [⟨some 16, (.call (.t 11) [(.t 15)]), none⟩]
def s_slices_IndexFunc_int_int_r4p0 : List AOper := [⟨some 11, (.move (.t 1)), none⟩, ⟨some 12, (.move (.t 0)), none⟩, ⟨some 13, (.move (.t 5)), none⟩, ⟨some 14, (.indexAddr 1 (.t 12) (.t 13)), none⟩, ⟨some 15, (.load false 1 (.t 14)), none⟩]
def s_slices_IndexFunc_int_int_r4 : List AOper := s_slices_IndexFunc_int_int_r4p0 ++ s_slices_IndexFunc_int_int_r4t1
theorem s_slices_IndexFunc_int_int_r4p0_tale (fr : List V) (H : Heap) : evTale (symAll s_slices_IndexFunc_int_int_r4p0 [12, 13, 14] [11, 15]) [12, 13, 14] fr H = evTale (some (16, [], [(11, (.t 1)), (15, (.op (.load false 1 (.t 0)) [(.op (.indexAddr 1 (.t 0) (.t 1)) [(.t 0), (.t 5)])]))])) [12, 13, 14] fr H := tale_row (items := [.tt 1, .tt 0, .tt 5, .sub 1 [0] [], .sub 1 [] []]) (by kernel_rfl) fr H
theorem s_slices_IndexFunc_int_int_r4_x (call : CallF) (it : IterF) (base : Nat) (f : List V) (H : Heap) : evC call it base (.region s_slices_IndexFunc_int_int_r4 [] [11, 12, 13, 14, 15]) f H = segC call it base s_slices_IndexFunc_int_int_r4t1 [11, 12, 13, 14, 15] H (evTale (symAll s_slices_IndexFunc_int_int_r4p0 [12, 13, 14] [11, 15]) [12, 13, 14] f H) (origRow call it base s_slices_IndexFunc_int_int_r4 [11, 12, 13, 14, 15] f H) := row_seg call it base s_slices_IndexFunc_int_int_r4p0 s_slices_IndexFunc_int_int_r4t1 (by kernel_rfl) f H
theorem s_slices_IndexFunc_int_int_r4t1_x (call : CallF) (it : IterF) (base : Nat) (f : List V) (H : Heap) : evC call it base (.region s_slices_IndexFunc_int_int_r4t1 [] [11, 12, 13, 14, 15]) f H = opsC [] s_slices_IndexFunc_int_int_r4t1 [11, 12, 13, 14, 15] (evOps call base [⟨some 16, (.call (.t 11) [(.t 15)]), none⟩] f H) := row_ops call it base _ _ _ f H
def s_slices_IndexFunc_int_int_r5 : List AOper := [
  ⟨some 17, (.move (.t 5)), none⟩,
  ⟨some 4, (.move (.t 17)), none⟩]
theorem s_slices_IndexFunc_int_int_r5_tale (fr : List V) (H : Heap) : evTale (symAll s_slices_IndexFunc_int_int_r5 [0, 1, 5, 7, 8, 16, 17] [4]) [0, 1, 5, 7, 8, 16, 17] fr H = evTale (some (18, [], [(4, (.t 5))])) [0, 1, 5, 7, 8, 16, 17] fr H := tale_row (items := [.tt 5, .tt 5]) (by kernel_rfl) fr H
def s_slices_IndexFunc_int_int_r6 : List AOper := [
  ⟨some 18, (.bin .add (.t 8) (.c (.s (.int .i64 1)))), none⟩,
  ⟨some 8, (.move (.t 18)), none⟩]
theorem s_slices_IndexFunc_int_int_r6_tale (fr : List V) (H : Heap) : evTale (symAll s_slices_IndexFunc_int_int_r6 [5, 16, 18] [8]) [5, 16, 18] fr H = evTale (some (19, [], [(8, (.op (.bin .add (.t 0) (.c (.s (.int .i64 1)))) [(.t 8), (.c (.s (.int .i64 1)))]))])) [5, 16, 18] fr H := tale_row (items := [.sub 0 [] [], .sub 0 [] []]) (by kernel_rfl) fr H
def s_slices_IndexFunc_int_int_l0_b : ACode :=
  (.seq (.regionE s_slices_IndexFunc_int_int_r2 [] [9])
  (.seq (.cond (.t 9)
  .skip
  (.exit 0))
  (.seq (.block 1
  (.seq (.regionE s_slices_IndexFunc_int_int_r3 [9, 10] [5])
  (.seq (.region s_slices_IndexFunc_int_int_r4 [] [11, 12, 13, 14, 15])
  (.cond (.t 16)
  (.seq (.regionE s_slices_IndexFunc_int_int_r5 [0, 1, 5, 7, 8, 16, 17] [4])
  .ret)
  .skip))))
  (.regionE s_slices_IndexFunc_int_int_r6 [5, 16, 18] [8]))))
def s_slices_IndexFunc_int_int_l0 : ACode := s_slices_IndexFunc_int_int_l0_b
theorem s_slices_IndexFunc_int_int_l0_ev (call : CallF) (it : IterF) (base : Nat) (fr : List V) (H : Heap) : evC call it base s_slices_IndexFunc_int_int_l0 fr H = evC call it base s_slices_IndexFunc_int_int_l0_b fr H := rfl
def s_slices_IndexFunc_int_int_r7 : List AOper := [
  ⟨some 4, (.move (.c (.s (.int .i64 (-1))))), none⟩]
theorem s_slices_IndexFunc_int_int_r7_tale (fr : List V) (H : Heap) : evTale (symAll s_slices_IndexFunc_int_int_r7 [0, 1, 7, 8, 9] [4]) [0, 1, 7, 8, 9] fr H = evTale (some (5, [], [(4, (.c (.s (.int .i64 (-1)))))])) [0, 1, 7, 8, 9] fr H := tale_row (items := [.cc (.s (.int .i64 (-1)))]) (by kernel_rfl) fr H
def s_slices_IndexFunc_int_int : ACFun := { ntmps := 19, results := [(.tmp 4)], body :=
  (.seq (.regionE s_slices_IndexFunc_int_int_r0 s_slices_IndexFunc_int_int_r0_k [])
  (.seq (.seq (.regionE s_slices_IndexFunc_int_int_r1 [6] [7, 8])
  (.block 0
  (.loop [] s_slices_IndexFunc_int_int_l0)))
  (.seq (.regionE s_slices_IndexFunc_int_int_r7 [0, 1, 7, 8, 9] [4])
  .ret))) }
abbrev k_gnomonref01_Has : Nat := 39
def s_gnomonref01_Has_r0_k : List Nat := [2, 3, 4, 5, 6, 7, 8, 9, 10, 11, 12, 13, 14, 15, 16, 17]
theorem s_gnomonref01_Has_r0_kT : killV s_gnomonref01_Has_r0_k (startV 18 [] 2) = [] := by kernel_rfl
theorem s_gnomonref01_Has_r0_kA0 : s_gnomonref01_Has_r0_k.contains 0 = false := by kernel_rfl
theorem s_gnomonref01_Has_r0_kA1 : s_gnomonref01_Has_r0_k.contains 1 = false := by kernel_rfl
def s_gnomonref01_Has_r0 : List AOper := [
  ⟨some 4, (.move (.c (.s (.bool false)))), none⟩]
theorem s_gnomonref01_Has_r0_tale (fr : List V) (H : Heap) : evTale (symAll s_gnomonref01_Has_r0 s_gnomonref01_Has_r0_k []) s_gnomonref01_Has_r0_k fr H = evTale (some (5, [], [])) s_gnomonref01_Has_r0_k fr H := tale_row (items := [.cc (.s (.bool false))]) (by kernel_rfl) fr H
def s_gnomonref01_Has_r1 : List AOper := [
  ⟨some 5, (.move (.c (.s (.int .i64 0)))), none⟩]
theorem s_gnomonref01_Has_r1_tale (fr : List V) (H : Heap) : evTale (symAll s_gnomonref01_Has_r1 [] [5]) [] fr H = evTale (some (6, [], [(5, (.c (.s (.int .i64 0))))])) [] fr H := tale_row (items := [.cc (.s (.int .i64 0))]) (by kernel_rfl) fr H
def s_gnomonref01_Has_r2 : List AOper := [
  ⟨some 6, (.move (.t 5)), none⟩,
  ⟨some 7, (.move (.t 0)), none⟩,
  ⟨some 8, (.lenS .s (.t 7)), none⟩,
  ⟨some 9, (.bin .lss (.t 6) (.t 8)), none⟩]
theorem s_gnomonref01_Has_r2_tale (fr : List V) (H : Heap) : evTale (symAll s_gnomonref01_Has_r2 [6, 7, 8] [9]) [6, 7, 8] fr H = evTale (some (10, [], [(9, (.op (.bin .lss (.t 0) (.t 1)) [(.t 5), (.op (.lenS .s (.t 0)) [(.t 0)])]))])) [6, 7, 8] fr H := tale_row (items := [.tt 5, .tt 0, .sub 0 [1] [], .sub 0 [] []]) (by kernel_rfl) fr H
def s_gnomonref01_Has_r3 : List AOper := [
  ⟨some 12, (.move (.t 0)), none⟩,
  ⟨some 13, (.move (.t 5)), none⟩,
  ⟨some 14, (.indexAddr 1 (.t 12) (.t 13)), none⟩,
  ⟨some 15, (.load false 1 (.t 14)), none⟩,
  ⟨some 16, (.move (.t 1)), none⟩,
  ⟨some 17, (.bin .eql (.t 15) (.t 16)), none⟩]
theorem s_gnomonref01_Has_r3_tale (fr : List V) (H : Heap) : evTale (symAll s_gnomonref01_Has_r3 [9, 12, 13, 14, 15, 16] [17]) [9, 12, 13, 14, 15, 16] fr H = evTale (some (18, [], [(17, (.op (.bin .eql (.t 0) (.t 1)) [(.op (.load false 1 (.t 0)) [(.op (.indexAddr 1 (.t 0) (.t 1)) [(.t 0), (.t 5)])]), (.t 1)]))])) [9, 12, 13, 14, 15, 16] fr H := tale_row (items := [.tt 0, .tt 5, .sub 0 [0, 0] [], .sub 0 [0] [], .tt 1, .sub 0 [] []]) (by kernel_rfl) fr H
def s_gnomonref01_Has_r4 : List AOper := [
  ⟨some 4, (.move (.c (.s (.bool true)))), none⟩]
theorem s_gnomonref01_Has_r4_tale (fr : List V) (H : Heap) : evTale (symAll s_gnomonref01_Has_r4 [0, 1, 5, 17] [4]) [0, 1, 5, 17] fr H = evTale (some (5, [], [(4, (.c (.s (.bool true))))])) [0, 1, 5, 17] fr H := tale_row (items := [.cc (.s (.bool true))]) (by kernel_rfl) fr H
def s_gnomonref01_Has_r5 : List AOper := [
  ⟨some 10, (.move (.t 5)), none⟩,
  ⟨some 11, (.bin .add (.t 10) (.c (.s (.int .i64 1)))), none⟩,
  ⟨some 5, (.move (.t 11)), none⟩]
theorem s_gnomonref01_Has_r5_tale (fr : List V) (H : Heap) : evTale (symAll s_gnomonref01_Has_r5 [10, 11, 17] [5]) [10, 11, 17] fr H = evTale (some (12, [], [(5, (.op (.bin .add (.t 0) (.c (.s (.int .i64 1)))) [(.t 5), (.c (.s (.int .i64 1)))]))])) [10, 11, 17] fr H := tale_row (items := [.tt 5, .sub 0 [] [], .sub 0 [] []]) (by kernel_rfl) fr H
def s_gnomonref01_Has_l0_b : ACode :=
  (.seq (.seq (.regionE s_gnomonref01_Has_r2 [6, 7, 8] [9])
  (.cond (.t 9)
  .skip
  (.exit 0)))
  (.seq (.block 1
  (.seq (.regionE s_gnomonref01_Has_r3 [9, 12, 13, 14, 15, 16] [17])
  (.cond (.t 17)
  (.seq (.regionE s_gnomonref01_Has_r4 [0, 1, 5, 17] [4])
  .ret)
  .skip)))
  (.regionE s_gnomonref01_Has_r5 [10, 11, 17] [5])))
def s_gnomonref01_Has_l0 : ACode := s_gnomonref01_Has_l0_b
theorem s_gnomonref01_Has_l0_ev (call : CallF) (it : IterF) (base : Nat) (fr : List V) (H : Heap) : evC call it base s_gnomonref01_Has_l0 fr H = evC call it base s_gnomonref01_Has_l0_b fr H := rfl
def s_gnomonref01_Has_r6 : List AOper := [
  ⟨some 4, (.move (.c (.s (.bool false)))), none⟩]
theorem s_gnomonref01_Has_r6_tale (fr : List V) (H : Heap) : evTale (symAll s_gnomonref01_Has_r6 [0, 1, 5, 9] [4]) [0, 1, 5, 9] fr H = evTale (some (5, [], [(4, (.c (.s (.bool false))))])) [0, 1, 5, 9] fr H := tale_row (items := [.cc (.s (.bool false))]) (by kernel_rfl) fr H
def s_gnomonref01_Has : ACFun := { ntmps := 18, results := [(.tmp 4)], body :=
  (.seq (.regionE s_gnomonref01_Has_r0 s_gnomonref01_Has_r0_k [])
  (.seq (.seq (.regionE s_gnomonref01_Has_r1 [] [5])
  (.block 0
  (.loop [] s_gnomonref01_Has_l0)))
  (.seq (.regionE s_gnomonref01_Has_r6 [0, 1, 5, 9] [4])
  .ret))) }
abbrev k_slices_Sort_int_int : Nat := 29
abbrev k_gnomonlaw07_wakes : Nat := 10
def a_gnomonlaw07_great := And.intro @s_gnomonlaw07_great_r0_tale (And.intro @s_gnomonlaw07_great_r0_kT (And.intro @s_gnomonlaw07_great_r0_kA0 (And.intro @s_gnomonlaw07_great_r1_tale (And.intro @s_gnomonlaw07_great_r2_tale (And.intro @s_gnomonlaw07_great_r3_tale (And.intro @s_gnomonlaw07_great_r4_tale (And.intro @s_gnomonlaw07_great_r5_tale (And.intro @s_gnomonlaw07_great_r6_tale (And.intro @s_gnomonlaw07_great_r7_tale (And.intro @s_gnomonlaw07_great_r8_tale (And.intro @s_gnomonlaw07_great_r9_tale (And.intro @s_gnomonlaw07_great_l0_ev (@s_gnomonlaw07_great_r10_tale)))))))))))))
def a_graph_Norm := And.intro @s_graph_Norm_r0_x (And.intro @s_graph_Norm_r0t1_tale (And.intro @s_graph_Norm_r0t1_x (And.intro @s_graph_Norm_r0_k_kA0 (And.intro @s_graph_Norm_r0_k_kA1 (And.intro @s_graph_Norm_r0_k_kA2 (And.intro @s_graph_Norm_r1p0_tale (And.intro @s_graph_Norm_r1_x (And.intro @s_graph_Norm_r1t1_x (And.intro @s_graph_Norm_r1t2_tale (And.intro @s_graph_Norm_r1t2_x (And.intro @s_graph_Norm_r2_tale (And.intro @s_graph_Norm_r3_tale (And.intro @s_graph_Norm_r4_tale (And.intro @s_graph_Norm_r5p0_tale (And.intro @s_graph_Norm_r5_x (And.intro @s_graph_Norm_r5t1_x (And.intro @s_graph_Norm_r5p2_tale (And.intro @s_graph_Norm_r5t2_x (And.intro @s_graph_Norm_r5t3_x (And.intro @s_graph_Norm_r5t4_tale (And.intro @s_graph_Norm_r5t4_x (And.intro @s_graph_Norm_r6p0_tale (And.intro @s_graph_Norm_r6_x (And.intro @s_graph_Norm_r6t1_x (And.intro @s_graph_Norm_r7p0_tale (And.intro @s_graph_Norm_r7_x (And.intro @s_graph_Norm_r7t1_x (And.intro @s_graph_Norm_r7p2_tale (And.intro @s_graph_Norm_r7t2_x (And.intro @s_graph_Norm_r7t3_x (And.intro @s_graph_Norm_r8_tale (And.intro @s_graph_Norm_l0_ev (@s_graph_Norm_r9_tale)))))))))))))))))))))))))))))))))
def a_gnomonref07_Norm := And.intro @s_gnomonref07_Norm_r0_tale (And.intro @s_gnomonref07_Norm_r0_kT (And.intro @s_gnomonref07_Norm_r0_kA0 (And.intro @s_gnomonref07_Norm_r1_tale (And.intro @s_gnomonref07_Norm_r2_tale (And.intro @s_gnomonref07_Norm_r3_tale (And.intro @s_gnomonref07_Norm_r4_tale (And.intro @s_gnomonref07_Norm_r5_tale (And.intro @s_gnomonref07_Norm_r6_tale (And.intro @s_gnomonref07_Norm_r7_tale (And.intro @s_gnomonref07_Norm_r8p0_tale (And.intro @s_gnomonref07_Norm_r8_x (And.intro @s_gnomonref07_Norm_r8t1_x (And.intro @s_gnomonref07_Norm_r8t2_tale (And.intro @s_gnomonref07_Norm_r8t2_x (And.intro @s_gnomonref07_Norm_r9_tale (And.intro @s_gnomonref07_Norm_l0_ev (And.intro @s_gnomonref07_Norm_r10p0_tale (And.intro @s_gnomonref07_Norm_r10_x (And.intro @s_gnomonref07_Norm_r10t1_x (And.intro @s_gnomonref07_Norm_r10t2_x (And.intro @s_gnomonref07_Norm_r10t3_tale (And.intro @s_gnomonref07_Norm_r10t3_x (And.intro @s_gnomonref07_Norm_r11_tale (And.intro @s_gnomonref07_Norm_l1_ev (@s_gnomonref07_Norm_r12_tale)))))))))))))))))))))))))
def a_gnomonref01_Same := And.intro @s_gnomonref01_Same_r0_tale (And.intro @s_gnomonref01_Same_r0_kT (And.intro @s_gnomonref01_Same_r0_kA0 (And.intro @s_gnomonref01_Same_r0_kA1 (And.intro @s_gnomonref01_Same_r1_tale (And.intro @s_gnomonref01_Same_r2_tale (And.intro @s_gnomonref01_Same_r3_tale (And.intro @s_gnomonref01_Same_r4_tale (And.intro @s_gnomonref01_Same_r5_tale (And.intro @s_gnomonref01_Same_r6_tale (And.intro @s_gnomonref01_Same_r7_tale (And.intro @s_gnomonref01_Same_l0_ev (@s_gnomonref01_Same_r8_tale))))))))))))
def a_slices_DeleteFunc_int_int := And.intro @s_slices_DeleteFunc_int_int_r0_tale (And.intro @s_slices_DeleteFunc_int_int_r0_kT (And.intro @s_slices_DeleteFunc_int_int_r0_kA0 (And.intro @s_slices_DeleteFunc_int_int_r0_kA1 (And.intro @s_slices_DeleteFunc_int_int_r1p0_tale (And.intro @s_slices_DeleteFunc_int_int_r1_x (And.intro @s_slices_DeleteFunc_int_int_r1t1_x (And.intro @s_slices_DeleteFunc_int_int_r1t2_tale (And.intro @s_slices_DeleteFunc_int_int_r1t2_x (And.intro @s_slices_DeleteFunc_int_int_r2_tale (And.intro @s_slices_DeleteFunc_int_int_r3_tale (And.intro @s_slices_DeleteFunc_int_int_r4_tale (And.intro @s_slices_DeleteFunc_int_int_r5_tale (And.intro @s_slices_DeleteFunc_int_int_r6_tale (And.intro @s_slices_DeleteFunc_int_int_r7p0_tale (And.intro @s_slices_DeleteFunc_int_int_r7_x (And.intro @s_slices_DeleteFunc_int_int_r7t1_x (And.intro @s_slices_DeleteFunc_int_int_r7t2_tale (And.intro @s_slices_DeleteFunc_int_int_r7t2_x (And.intro @s_slices_DeleteFunc_int_int_r8p0_tale (And.intro @s_slices_DeleteFunc_int_int_r8_x (And.intro @s_slices_DeleteFunc_int_int_r8t1_x (And.intro @s_slices_DeleteFunc_int_int_r9_tale (And.intro @s_slices_DeleteFunc_int_int_r10_tale (And.intro @s_slices_DeleteFunc_int_int_l0_ev (And.intro @s_slices_DeleteFunc_int_int_r11p0_tale (And.intro @s_slices_DeleteFunc_int_int_r11_x (And.intro @s_slices_DeleteFunc_int_int_r11t1_x (@s_slices_DeleteFunc_int_int_r12_tale))))))))))))))))))))))))))))
def a_slices_Clone_int_int := And.intro @s_slices_Clone_int_int_r0_tale (And.intro @s_slices_Clone_int_int_r0_kT (And.intro @s_slices_Clone_int_int_r0_kA0 (And.intro @s_slices_Clone_int_int_r1_tale (And.intro @s_slices_Clone_int_int_r2_tale (And.intro @s_slices_Clone_int_int_r3_x (And.intro @s_slices_Clone_int_int_r3p1_tale (And.intro @s_slices_Clone_int_int_r3t1_x (And.intro @s_slices_Clone_int_int_r3t2_x (And.intro @s_slices_Clone_int_int_r3t3_tale (@s_slices_Clone_int_int_r3t3_x))))))))))
def a_graph_Norm_1 := And.intro @s_graph_Norm_1_r0_tale (And.intro @s_graph_Norm_1_r0_kT (And.intro @s_graph_Norm_1_r0_kA0 (And.intro @s_graph_Norm_1_r0_kA1 (@s_graph_Norm_1_r1_tale))))
def a_slices_Compact_int_int := And.intro @s_slices_Compact_int_int_r0_tale (And.intro @s_slices_Compact_int_int_r0_kT (And.intro @s_slices_Compact_int_int_r0_kA0 (And.intro @s_slices_Compact_int_int_r1_tale (And.intro @s_slices_Compact_int_int_r2_tale (And.intro @s_slices_Compact_int_int_r3_tale (And.intro @s_slices_Compact_int_int_r4_tale (And.intro @s_slices_Compact_int_int_r5_tale (And.intro @s_slices_Compact_int_int_r6_tale (And.intro @s_slices_Compact_int_int_r7_tale (And.intro @s_slices_Compact_int_int_r8_tale (And.intro @s_slices_Compact_int_int_r9_tale (And.intro @s_slices_Compact_int_int_r10p0_tale (And.intro @s_slices_Compact_int_int_r10_x (And.intro @s_slices_Compact_int_int_r10t1_x (And.intro @s_slices_Compact_int_int_r11_tale (And.intro @s_slices_Compact_int_int_r12_tale (And.intro @s_slices_Compact_int_int_l0_ev (And.intro @s_slices_Compact_int_int_r13p0_tale (And.intro @s_slices_Compact_int_int_r13_x (And.intro @s_slices_Compact_int_int_r13t1_x (And.intro @s_slices_Compact_int_int_r14_tale (And.intro @s_slices_Compact_int_int_r15_tale (And.intro @s_slices_Compact_int_int_l1_ev (@s_slices_Compact_int_int_r16_tale))))))))))))))))))))))))
def a_gnomonref01_Add := And.intro @s_gnomonref01_Add_r0_tale (And.intro @s_gnomonref01_Add_r0_kT (And.intro @s_gnomonref01_Add_r0_kA0 (And.intro @s_gnomonref01_Add_r0_kA1 (And.intro @s_gnomonref01_Add_r1p0_tale (And.intro @s_gnomonref01_Add_r1_x (And.intro @s_gnomonref01_Add_r1t1_x (And.intro @s_gnomonref01_Add_r1t2_x (And.intro @s_gnomonref01_Add_r1t3_x (And.intro @s_gnomonref01_Add_r1t4_tale (And.intro @s_gnomonref01_Add_r1t4_x (And.intro @s_gnomonref01_Add_r2_tale (And.intro @s_gnomonref01_Add_r3_tale (And.intro @s_gnomonref01_Add_r4_tale (And.intro @s_gnomonref01_Add_r5_tale (And.intro @s_gnomonref01_Add_l0_ev (And.intro @s_gnomonref01_Add_r6p0_tale (And.intro @s_gnomonref01_Add_r6_x (And.intro @s_gnomonref01_Add_r6t1_x (And.intro @s_gnomonref01_Add_r6t2_tale (And.intro @s_gnomonref01_Add_r6t2_x (And.intro @s_gnomonref01_Add_r7p0_tale (And.intro @s_gnomonref01_Add_r7_x (And.intro @s_gnomonref01_Add_r7t1_x (And.intro @s_gnomonref01_Add_r7t2_x (And.intro @s_gnomonref01_Add_r7t3_tale (And.intro @s_gnomonref01_Add_r7t3_x (And.intro @s_gnomonref01_Add_r8p0_tale (And.intro @s_gnomonref01_Add_r8_x (And.intro @s_gnomonref01_Add_r8t1_x (And.intro @s_gnomonref01_Add_r8t2_tale (@s_gnomonref01_Add_r8t2_x)))))))))))))))))))))))))))))))
def a_slices_IndexFunc_int_int := And.intro @s_slices_IndexFunc_int_int_r0_tale (And.intro @s_slices_IndexFunc_int_int_r0_kT (And.intro @s_slices_IndexFunc_int_int_r0_kA0 (And.intro @s_slices_IndexFunc_int_int_r0_kA1 (And.intro @s_slices_IndexFunc_int_int_r1_tale (And.intro @s_slices_IndexFunc_int_int_r2_tale (And.intro @s_slices_IndexFunc_int_int_r3_tale (And.intro @s_slices_IndexFunc_int_int_r4p0_tale (And.intro @s_slices_IndexFunc_int_int_r4_x (And.intro @s_slices_IndexFunc_int_int_r4t1_x (And.intro @s_slices_IndexFunc_int_int_r5_tale (And.intro @s_slices_IndexFunc_int_int_r6_tale (And.intro @s_slices_IndexFunc_int_int_l0_ev (@s_slices_IndexFunc_int_int_r7_tale)))))))))))))
def a_gnomonref01_Has := And.intro @s_gnomonref01_Has_r0_tale (And.intro @s_gnomonref01_Has_r0_kT (And.intro @s_gnomonref01_Has_r0_kA0 (And.intro @s_gnomonref01_Has_r0_kA1 (And.intro @s_gnomonref01_Has_r1_tale (And.intro @s_gnomonref01_Has_r2_tale (And.intro @s_gnomonref01_Has_r3_tale (And.intro @s_gnomonref01_Has_r4_tale (And.intro @s_gnomonref01_Has_r5_tale (And.intro @s_gnomonref01_Has_l0_ev (@s_gnomonref01_Has_r6_tale))))))))))
end Go.Proofs.Ytmnlagcmpgilaaa
