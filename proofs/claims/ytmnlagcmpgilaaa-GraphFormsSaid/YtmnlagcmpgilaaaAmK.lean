/-
  The machine made strict, for the kernel's sake: values are reckoned before they are handed on. It gives what the machine gives.
-/
import Derived.Test.YtmnlagcmpgilaaaAmF
set_option linter.all false
namespace Go.AM

def fNat {α : Type} (n : Nat) (k : Nat → α) : α := match n with
  | 0 => k 0
  | p + 1 => k (p + 1)
theorem fNat_eq {α : Type} (n : Nat) (k : Nat → α) : fNat n k = k n := by cases n <;> rfl
def fInt {α : Type} (n : Int) (k : Int → α) : α := match n with
  | .ofNat m => fNat m fun m => k (.ofNat m)
  | .negSucc m => fNat m fun m => k (.negSucc m)
theorem fInt_eq {α : Type} (n : Int) (k : Int → α) : fInt n k = k n := by cases n <;> simp [fInt, fNat_eq]
def fBool {α : Type} (b : Bool) (k : Bool → α) : α := match b with
  | false => k false
  | true => k true
theorem fBool_eq {α : Type} (b : Bool) (k : Bool → α) : fBool b k = k b := by cases b <;> rfl
def fVal {α : Type} (v : Value) (k : Value → α) : α :=
  match v with
  | .bool b => fBool b fun b => k (.bool b)
  | .int t n => fInt n fun n => k (.int t n)
  | v => k v
theorem fVal_eq {α : Type} (v : Value) (k : Value → α) : fVal v k = k v := by cases v <;> simp [fVal, fInt_eq, fBool_eq]

mutual
def fV {α : Type} : V → (V → α) → α
  | .s v, k => fVal v fun v => k (.s v)
  | .agg cs, k => fVs cs fun cs => k (.agg cs)
  | .tup cs, k => fVs cs fun cs => k (.tup cs)
  | .ref i g o, k => fNat i fun i => fNat g fun g => fNat o fun o => k (.ref i g o)
  | .sl i g o l z, k => fNat i fun i => fNat g fun g => fNat o fun o => fNat l fun l => k (.sl i g o l z)
  | .mp i, k => fNat i fun i => k (.mp i)
  | .fn f a b, k => fVs a fun a => fVs b fun b => k (.fn f a b)
  | .pref cs, k => fVs cs fun cs => k (.pref cs)
  | .psl es z, k => k (.psl es z)
  | .esl, k => k .esl
  | .yld i, k => fNat i fun i => k (.yld i)
  | .ifc t v, k => k (.ifc t v)
  | .unk, k => k .unk
def fVs {α : Type} : List V → (List V → α) → α
  | [], k => k []
  | x :: xs, k => fV x fun x => fVs xs fun xs => k (x :: xs)
end
mutual
theorem fV_eq {α : Type} : ∀ (v : V) (k : V → α), fV v k = k v
  | .s v, k => by simp [fV, fVal_eq]
  | .agg cs, k => by simp [fV, fVs_eq]
  | .tup cs, k => by simp [fV, fVs_eq]
  | .ref i g o, k => by simp [fV, fNat_eq]
  | .sl i g o l z, k => by simp [fV, fNat_eq]
  | .mp i, k => by simp [fV, fNat_eq]
  | .fn f a b, k => by simp [fV, fVs_eq]
  | .pref cs, k => by simp [fV, fVs_eq]
  | .psl es z, k => rfl
  | .esl, k => rfl
  | .yld i, k => by simp [fV, fNat_eq]
  | .ifc t v, k => rfl
  | .unk, k => rfl
theorem fVs_eq {α : Type} : ∀ (l : List V) (k : List V → α), fVs l k = k l
  | [], k => rfl
  | x :: xs, k => by simp [fVs, fV_eq, fVs_eq]
end

/-- A list's spine alone. -/
def fSp {α β : Type} : List β → (List β → α) → α
  | [], k => k []
  | x :: xs, k => fSp xs fun xs => k (x :: xs)
theorem fSp_eq {α β : Type} : ∀ (l : List β) (k : List β → α), fSp l k = k l
  | [], k => rfl
  | x :: xs, k => by simp [fSp, fSp_eq]

/-- One place set, the spine reckoned up to it. -/
def fSet {α β : Type} : List β → Nat → β → (List β → α) → α
  | [], _, _, k => k []
  | _ :: xs, 0, v, k => k (v :: xs)
  | x :: xs, n + 1, v, k => fSet xs n v fun xs => k (x :: xs)
theorem fSet_eq {α β : Type} : ∀ (l : List β) (n : Nat) (v : β) (k : List β → α), fSet l n v k = k (l.set n v)
  | [], _, _, k => rfl
  | _ :: xs, 0, v, k => rfl
  | x :: xs, n + 1, v, k => by simp [fSet, fSet_eq]

def fOb {α : Type} (o : Ob) (k : Ob → α) : α :=
  match o with
  | .cells g c => fNat g fun g => fVs c fun c => k (.cells g c)
  | .map es => fSp es fun es => k (.map es)
  | o => k o
theorem fOb_eq {α : Type} (o : Ob) (k : Ob → α) : fOb o k = k o := by cases o <;> simp [fOb, fNat_eq, fVs_eq, fSp_eq]
def fH {α : Type} : Heap → (Heap → α) → α
  | [], k => k []
  | x :: xs, k => fOb x fun x => fH xs fun xs => k (x :: xs)
theorem fH_eq {α : Type} : ∀ (l : Heap) (k : Heap → α), fH l k = k l
  | [], k => rfl
  | x :: xs, k => by simp [fH, fOb_eq, fH_eq]

def bndL (look : Opd → V) (d : Nat) : Option Opd → Option Int
  | none => some d
  | some x => intOf? (look x)

def evOpL (call : CallF) (base : Nat) (look : Opd → V) (H : Heap) : AOp → Option (V × Heap)
  | .move x => some (look x, H)
  | .pick c a b => match look c with
    | .s (.bool true) => some (look a, H)
    | .s (.bool false) => some (look b, H)
    | _ => none
  | .alloc zero => some (.ref H.length 0 0, H ++ [.cells 0 zero])
  | .box x => let v := look x; if v.cells.all V.one then some (.ref H.length 0 0, H ++ [.cells 0 v.cells]) else none
  | .build zero places parts => match fillA (places[·]?) zero (parts.map fun p => (p.1, look p.2)) with
    | some cs => some (.agg cs, H)
    | none => none
  | .buildSl sz len zero parts => match fillA (fun i => some (i * sz, sz)) zero (parts.map fun p => (p.1, look p.2)) with
    | some cs => some (if len = 0 then .esl else .sl H.length 0 0 len sz, H ++ [.cells 0 cs])
    | none => none
  | .mapNew => some (.mp H.length, H ++ [.map []])
  | .mapUpd kind m k v => match look m, look k with
    | .mp id, .s key => if base ≤ id ∧ keyOk kind key then match H[id]? with
        | some (.map es) => match findA kind key es 0 with
          | some (some (i, _)) => some (und, H.set id (.map (es.set i (key, look v))))
          | some none => some (und, H.set id (.map (es ++ [(key, look v)])))
          | none => none
        | _ => none
      else none
    | _, _ => none
  | .mapGet kind zero m k ok => match look k with
    | .s key => if keyOk kind key then
        match look m with
        | .s (.map none) => some (if ok then .tup [zero, bl false] else zero, H)
        | .mp id => match H[id]? with
          | some (.map es) => match findA kind key es 0 with
            | some (some (_, v)) => some (if ok then .tup [v, bl true] else v, H)
            | some none => some (if ok then .tup [zero, bl false] else zero, H)
            | none => none
          | _ => none
        | _ => none
      else none
    | _ => none
  | .load agg n a => (loadV H agg n (look a)).map fun v => (v, H)
  | .store n a v => (storeV H base n (look v) (look a)).map fun H => (und, H)
  | .nilCheck x => match look x with
    | .ref id g off => some (.ref id g off, H)
    | .pref cs => some (.pref cs, H)
    | .fn f a b => some (.fn f a b, H)
    | .yld id => some (.yld id, H)
    | _ => none
  | .bin op x y => match look x, look y with
    | .s a, .s b => (binS op a b).map fun v => (.s v, H)
    | _, _ => none
  | .eqB neg x y => match look x, look y with
    | .s (.bool a), .s (.bool b) => some (bl ((a == b) != neg), H)
    | _, _ => none
  | .eqNil k neg x => match (look x).isNil k with
    | some b => some (bl (b != neg), H)
    | none => none
  | .eqAgg neg ls x y => match look x, look y with
    | .agg xs, .agg ys => match eqLeaves ls xs ys with
      | some b => some (bl (b != neg), H)
      | none => none
    | _, _ => none
  | .un op x => match op, look x with
    | .not, .s (.bool b) => some (bl (!b), H)
    | .neg, .s (.int k n) => some (.s (.int k (k.wrap (0 - n))), H)
    | .xor, .s (.int k n) => (binS .xor (.int k (if k.signed then -1 else k.max)) (.int k n)).map fun v => (.s v, H)
    | _, _ => none
  | .conv k x => match look x with
    | .s (.int _ n) => some (.s (.int k (k.wrap n)), H)
    | _ => none
  | .convId x => match look x with
    | .s (.string b) => some (.s (.string b), H)
    | _ => none
  | .mkFn f fst cap => some (.fn f (fst.map (look)) (cap.map (look)), H)
  | .mkSl zero sz bytes len cap => match look len, look cap with
    | .s (.int _ l), .s (.int _ c) =>
      if 0 ≤ l ∧ l ≤ c ∧ c * bytes ≤ 2 ^ 47 then some (.sl H.length 0 0 l.toNat sz, H ++ [.cells 0 (List.replicate l.toNat zero).flatten]) else none
    | _, _ => none
  | .subStr x lo hi => match look x with
    | .s (.string b) => match bndL look 0 lo, bndL look b.size hi with
      | some l, some h => if 0 ≤ l ∧ l ≤ h ∧ h ≤ b.size then some (.s (.string (b.extract l.toNat h.toNat)), H) else none
      | _, _ => none
    | _ => none
  | .subSl sz x lo hi mx =>
    match mx with
    | none => match look x with
      | .s (.slice none 0 0) => match bndL look 0 lo, bndL look 0 hi with
        | some 0, some 0 => some (nilS, H)
        | _, _ => none
      | .esl => match bndL look 0 lo, bndL look 0 hi with
        | some 0, some 0 => some (.esl, H)
        | _, _ => none
      | .psl es sz' => match bndL look 0 lo, bndL look es.length hi with
        | some l, some h => if 0 ≤ l ∧ l ≤ h ∧ h ≤ es.length ∧ sz' = sz then some (.psl ((es.drop l.toNat).take (h - l).toNat) sz, H) else none
        | _, _ => none
      | .sl id g off len sz' => match bndL look 0 lo, bndL look len hi with
        | some l, some h => if 0 ≤ l ∧ l ≤ h ∧ h ≤ len ∧ sz' = sz then some (.sl id g (off + l.toNat * sz) (h - l).toNat sz, H) else none
        | _, _ => none
      | _ => none
    | some m => match hi, bndL look 0 lo with
      | some h, some 0 => match intOf? (look h), intOf? (look m) with
        | some 0, some 0 => match look x with
          | .s (.slice none 0 0) => some (nilS, H)
          | .esl => some (.esl, H)
          | .psl _ _ => some (.esl, H)
          | .sl _ _ _ _ _ => some (.esl, H)
          | _ => none
        | _, _ => none
      | _, _ => none
  | .fieldAddr off x => match look x with
    | .ref id g o => some (.ref id g (o + off), H)
    | .pref cs => if off ≤ cs.length then some (.pref (cs.drop off), H) else none
    | _ => none
  | .field agg off n x => match look x with
    | .agg cs => let cs := (cs.drop off).take n; if cs.length = n then (shut agg cs).map fun v => (v, H) else none
    | _ => none
  | .indexAddr sz x i => match look x, look i with
    | .sl id g off len sz', .s (.int _ n) => if 0 ≤ n ∧ n < len ∧ sz' = sz then some (.ref id g (off + n.toNat * sz), H) else none
    | .psl es sz', .s (.int _ n) => if 0 ≤ n ∧ sz' = sz then match es[n.toNat]? with
        | some e => some (.pref e, H)
        | none => none
      else none
    | _, _ => none
  | .indexStr x i => match look x, look i with
    | .s (.string b), .s (.int _ n) => if 0 ≤ n then match b.data.toList[n.toNat]? with
        | some c => some (.s (.int .u8 c.toNat), H)
        | none => none
      else none
    | _, _ => none
  | .extract x i => match look x with
    | .tup vs => match vs[i]? with
      | some v => some (v, H)
      | none => none
    | _ => none
  | .lenS k x => match k, look x with
    | .p, .s (.string b) => some (i64 b.size, H)
    | .s, .s (.slice none 0 0) => some (i64 0, H)
    | .m, .s (.map none) => some (i64 0, H)
    | .s, .esl => some (i64 0, H)
    | .s, .psl es _ => some (i64 es.length, H)
    | .s, .sl _ _ _ len _ => some (i64 len, H)
    | .m, .mp id => match H[id]? with
      | some (.map es) => some (i64 es.length, H)
      | _ => none
    | _, _ => none
  | .append sz bytes s x => appendV H base sz bytes (look s) (look x)
  | .delete kind m k => match look m, look k with
    | .mp id, .s key => if base ≤ id ∧ keyOk kind key then match H[id]? with
        | some (.map es) => match findA kind key es 0 with
          | some (some (i, _)) => some (und, H.set id (.map (es.eraseIdx i)))
          | some none => some (und, H)
          | none => none
        | _ => none
      else none
    | _, _ => none
  | .minmax mx x y => match look x, look y with
    | .s (.int k a), .s (.int k' b) => if k = k' then some (.s (.int k (if mx then (if a < b then b else a) else (if b < a then b else a))), H) else none
    | _, _ => none
  | .call f args => call (look f) (args.map (look)) base H
  | .callR f args => call (look f) (args.map (look)) H.length H
  | .callP f args =>
    let vs := args.map (look)
    match vs.mapM (frz H 12) with
    | some us => match call (.fn f [] []) us 0 [] with
      | some (v, H') => match frz H' 12 v with
        | some u => if vs.all (isPure 12) || u.flat2 then some (u, H) else none
        | none => none
      | none => none
    | none => none
  | .callQ f args =>
    if (args.map (look)).all (isPure 12) then
      match call (.fn f [] []) (args.map (look)) 0 [] with
      | some (v, H') => match frz H' 12 v with
        | some u => some (u, H)
        | none => none
      | none => none
    else none
  | .clearSl sz zero x => match look x with
    | .s (.slice none 0 0) => some (und, H)
    | .esl => some (und, H)
    | .sl id g off len sz' => if len = 0 then some (und, H) else if base ≤ id ∧ sz' = sz then match getC H id g with
        | some c => if zero.length = sz ∧ off + len * sz ≤ c.length ∧ zero.all V.one then some (und, H.set id (.cells g (splice c off (List.replicate len zero).flatten))) else none
        | none => none
      else none
    | _ => none


theorem bndL_eq (fr : List V) (d : Nat) (o : Option Opd) : bndA fr d o = bndL (ev fr) d o := by cases o <;> rfl
theorem evOpL_eq (call : CallF) (base : Nat) (fr : List V) (H : Heap) (o : AOp) : evOpL call base (ev fr) H o = evOp call base fr H o := by
  cases o <;> first | rfl | (simp only [evOpL, evOp, bndL_eq]; done) | (simp only [evOpL, evOp, bndL_eq]; rfl)

/-- The object that an operation may write is reckoned at once. -/
def fHeap {α : Type} (o : AOp) (H : Heap) (k : Heap → α) : α :=
  match o with
  | .alloc _ | .box _ | .buildSl .. | .mapNew | .mkSl .. | .append .. | .mapUpd .. | .store .. | .delete .. | .clearSl .. => fH H k
  | _ => k H
theorem fHeap_eq {α : Type} (o : AOp) (H : Heap) (k : Heap → α) : fHeap o H k = k H := by cases o <;> simp [fHeap, fH_eq]

/-! ### Frames as what was written last -/
def getE : Env → Nat → V
  | [], _ => .unk
  | (k, x) :: e, s => match Nat.beq s k with
    | true => x
    | false => getE e s
theorem getE_eq (s : Nat) : ∀ en : Env, getE en s = getV en s := by
  intro en
  induction en with
  | nil => rfl
  | cons p e ih =>
    obtain ⟨k, x⟩ := p
    simp only [getE, getV]
    by_cases h : s = k
    · have : Nat.beq s k = true := by simpa using h
      rw [this, if_pos h]
    · have : Nat.beq s k = false := by
        cases hb : Nat.beq s k with
        | true => exact absurd (Nat.eq_of_beq_eq_true hb) h
        | false => rfl
      rw [this, if_neg h, ih]

def lookE (en : Env) : Opd → V
  | .t i => getE en i
  | .c v => v

def wfE (n : Nat) (en : Env) : Prop := ∀ p ∈ en, p.1 < n
theorem getV_out {n : Nat} {en : Env} (h : wfE n en) {s : Nat} (hs : n ≤ s) : getV en s = .unk := by
  induction en with
  | nil => rfl
  | cons p e ih =>
    obtain ⟨k, x⟩ := p
    have := h _ (List.mem_cons_self)
    simp only [getV]
    rw [if_neg (by simp at this; omega)]
    exact ih fun q hq => h q (List.mem_cons_of_mem _ hq)
theorem frOf_getD {n : Nat} {en : Env} (h : wfE n en) (s : Nat) : (frOf n en).getD s .unk = getV en s := by
  by_cases hs : s < n
  · exact frOf_get hs
  · rw [getV_out h (by omega)]
    simp [frOf, List.getD, hs]
theorem lookE_eq {n : Nat} {en : Env} (h : wfE n en) : lookE en = ev (frOf n en) := by
  funext x
  cases x with
  | t i => simp only [lookE, ev, getE_eq, frOf_getD h]
  | c v => rfl

def putE (n : Nat) (d : Option Nat) (v : V) (en : Env) : Env :=
  match d with
  | some d => match Nat.blt d n with
    | true => (d, v) :: en
    | false => en
  | none => en
theorem putE_wf {n : Nat} {d : Option Nat} {v : V} {en : Env} (h : wfE n en) : wfE n (putE n d v en) := by
  cases d with
  | none => exact h
  | some d =>
    simp only [putE]
    cases hb : Nat.blt d n with
    | true => intro p hp; rcases List.mem_cons.1 hp with rfl | hp; (exact Nat.blt_eq.mp hb); exact h p hp
    | false => exact h
theorem putE_eq {n : Nat} {d : Option Nat} {v : V} {en : Env} : frOf n (putE n d v en) = put d v (frOf n en) := by
  cases d with
  | none => rfl
  | some d =>
    simp only [putE, put]
    cases hb : Nat.blt d n with
    | true =>
      refine (fr_eq (by rw [List.length_set, frOf_length]) fun t ht => ?_).symm
      simp only [getV]
      by_cases e : t = d
      · subst e; rw [if_pos rfl, getD_set_same (by rw [frOf_length]; exact ht)]
      · rw [if_neg e, getD_set_other (fun h => e h.symm), frOf_get ht]
    | false =>
      have : ¬ d < n := fun h => by rw [Nat.blt_eq.mpr h] at hb; cases hb
      rw [List.set_eq_of_length_le (by rw [frOf_length]; omega)]

/-- What stands last alone, but for the slots of a mask. -/
def compactE (mask : Nat) : Env → Env
  | [] => []
  | (s, v) :: e => match mask.testBit s with
    | true => compactE mask e
    | false => (s, v) :: compactE (mask ||| (1 <<< s)) e
theorem testBit_or (m s t : Nat) : (m ||| (1 <<< s)).testBit t = (m.testBit t || decide (t = s)) := by
  rw [Nat.testBit_or, Nat.one_shiftLeft, Nat.testBit_two_pow]
  congr 1
  simp [eq_comm]
theorem getV_compact (s : Nat) : ∀ (en : Env) (mask : Nat), getV (compactE mask en) s = if mask.testBit s then .unk else getV en s := by
  intro en
  induction en with
  | nil => intro mask; simp [compactE, getV]
  | cons p e ih =>
    obtain ⟨k, x⟩ := p
    intro mask
    simp only [compactE]
    cases hb : mask.testBit k with
    | true =>
      simp only [ih, getV]
      by_cases h : s = k
      · subst h; simp [hb]
      · rw [if_neg h]
    | false =>
      simp only [getV, ih, testBit_or]
      by_cases h : s = k
      · subst h; simp [hb]
      · simp [h]
theorem compact_mem {p : Nat × V} : ∀ {en : Env} {mask : Nat}, p ∈ compactE mask en → p ∈ en ∧ mask.testBit p.1 = false := by
  intro en
  induction en with
  | nil => intro mask h; cases h
  | cons q e ih =>
    obtain ⟨k, x⟩ := q
    intro mask h
    simp only [compactE] at h
    cases hb : mask.testBit k with
    | true => rw [hb] at h; obtain ⟨h1, h2⟩ := ih h; exact ⟨List.mem_cons_of_mem _ h1, h2⟩
    | false =>
      rw [hb] at h
      rcases List.mem_cons.1 h with rfl | h
      · exact ⟨List.mem_cons_self, hb⟩
      · obtain ⟨h1, h2⟩ := ih h
        rw [testBit_or] at h2
        simp only [Bool.or_eq_false_iff] at h2
        exact ⟨List.mem_cons_of_mem _ h1, h2.1⟩
theorem compact_wf {n mask : Nat} {en : Env} (h : wfE n en) : wfE n (compactE mask en) := fun p hp => h p (compact_mem hp).1
theorem compact_val : ∀ {en : Env} {mask : Nat} {p : Nat × V}, p ∈ compactE mask en → getV (compactE mask en) p.1 = p.2 := by
  intro en
  induction en with
  | nil => intro mask p h; cases h
  | cons q e ih =>
    obtain ⟨k, x⟩ := q
    intro mask p h
    simp only [compactE] at h ⊢
    cases hb : mask.testBit k with
    | true => rw [hb] at h; exact ih h
    | false =>
      rw [hb] at h
      rcases List.mem_cons.1 h with rfl | h
      · simp [getV]
      · have h3 := (compact_mem h).2
        rw [testBit_or] at h3
        simp only [Bool.or_eq_false_iff, decide_eq_false_iff_not] at h3
        simp only [getV, if_neg h3.2]
        exact ih h

def maskOf : List Nat → Nat
  | [] => 0
  | s :: l => maskOf l ||| (1 <<< s)
theorem maskOf_bit (s : Nat) : ∀ l : List Nat, (maskOf l).testBit s = l.contains s := by
  intro l
  induction l with
  | nil => simp [maskOf]
  | cons a l ih => rw [maskOf, testBit_or, ih, List.contains_cons, Bool.or_comm]; congr 1
theorem compact_kill {n : Nat} {en : Env} (l : List Nat) : frOf n (compactE (maskOf l) en) = killS l (frOf n en) := by
  rw [frOf_kill]
  exact frOf_ext fun s _ => by rw [getV_compact, getV_kill, maskOf_bit]
theorem compact_zero {n : Nat} {en : Env} : frOf n (compactE 0 en) = frOf n en := frOf_ext fun s _ => by rw [getV_compact]; simp

def trimE (m : Nat) (en : Env) (H : Heap) : Heap :=
  if en.all (fun p => idsUnder m 8 p.2) && (H.take m).all (Ob.under m) then H.take m else H
theorem trimE_eq {n m mask : Nat} {en : Env} {H : Heap} (hw : wfE n en) : trimE m (compactE mask en) H = trim m (frOf n (compactE mask en)) H := by
  have : (compactE mask en).all (fun p => idsUnder m 8 p.2) = (frOf n (compactE mask en)).all (idsUnder m 8) := by
    rw [Bool.eq_iff_iff, List.all_eq_true, List.all_eq_true]
    constructor
    · intro h v hv
      unfold frOf at hv
      rw [List.mem_map] at hv
      obtain ⟨s, _, rfl⟩ := hv
      have key : ∀ en : Env, (∀ p ∈ en, idsUnder m 8 p.2 = true) → idsUnder m 8 (getV en s) = true := by
        intro en
        induction en with
        | nil => intro _; rfl
        | cons q e ih =>
          intro h
          simp only [getV]
          split
          · exact h q List.mem_cons_self
          · exact ih fun p hp => h p (List.mem_cons_of_mem _ hp)
      exact key _ h
    · intro h p hp
      rw [← compact_val hp]
      refine h _ ?_
      unfold frOf
      rw [List.mem_map]
      exact ⟨p.1, by simpa using hw p (compact_mem hp).1, rfl⟩
  unfold trimE trim
  rw [this]

def wantE (o : AOper) (en : Env) : Option Bool :=
  match o.guard with
  | none => some true
  | some (t, b) => match getE en t with
    | .s (.bool x) => some (x == b)
    | .s (.tuple _) => some false
    | _ => none
theorem wantE_eq {n : Nat} {en : Env} (h : wfE n en) (o : AOper) : wantE o en = want o (frOf n en) := by
  unfold wantE want
  cases o.guard with
  | none => rfl
  | some g => simp only [getE_eq, frOf_getD h]; rfl

def evOpsE (n : Nat) (call : CallF) (base : Nat) : List AOper → Env → Heap → Option (Env × Heap)
  | [], en, H => some (en, H)
  | o :: os, en, H => match wantE o en with
    | none => none
    | some false => evOpsE n call base os (putE n o.dst und en) H
    | some true => match evOpL call base (lookE en) H o.op with
      | some (v, H') => fV v fun v => fHeap o.op H' fun H' => evOpsE n call base os (putE n o.dst v en) H'
      | none => none

def up {α : Type} (n : Nat) : Option (α × Env × Heap) → Option (α × List V × Heap)
  | some (e, en, H) => some (e, frOf n en, H)
  | none => none
def up2 (n : Nat) : Option (Env × Heap) → Option (List V × Heap)
  | some (en, H) => some (frOf n en, H)
  | none => none

theorem evOpsE_eq (n : Nat) (call : CallF) (base : Nat) : ∀ (l : List AOper) (en : Env) (H : Heap), wfE n en → evOps call base l (frOf n en) H = up2 n (evOpsE n call base l en H) ∧ ∀ en' H', evOpsE n call base l en H = some (en', H') → wfE n en' := by
  intro l
  induction l with
  | nil => intro en H hw; exact ⟨rfl, fun en' H' h => by cases h; exact hw⟩
  | cons o os ih =>
    intro en H hw
    simp only [evOpsE, evOps, fV_eq, fHeap_eq, wantE_eq hw, lookE_eq hw, evOpL_eq]
    cases want o (frOf n en) with
    | none => exact ⟨rfl, fun _ _ h => by cases h⟩
    | some b =>
      cases b with
      | false => simp only [← putE_eq]; exact ih _ _ (putE_wf hw)
      | true =>
        simp only []
        cases evOp call base (frOf n en) H o.op with
        | none => exact ⟨rfl, fun _ _ h => by cases h⟩
        | some r => obtain ⟨v, H'⟩ := r; simp only [← putE_eq]; exact ih _ _ (putE_wf hw)

abbrev IterE := (Env → Heap → Option (Ex × Env × Heap)) → List Nat → Nat → Env → Heap → Option (Ex × Env × Heap)
def iterE (body : Env → Heap → Option (Ex × Env × Heap)) (kill : List Nat) (m : Nat) : Nat → Env → Heap → Option (Ex × Env × Heap)
  | 0, _, _ => none
  | j + 1, en, H => match body en H with
    | some (.nrm, en', H') => fSp (compactE (maskOf kill) en') fun en' => iterE body kill m j en' (trimE m en' H')
    | some (e, en', H') => fSp (compactE (maskOf kill) en') fun en' => some (e, en', trimE m en' H')
    | none => none
theorem iterE_eq {n : Nat} {b : List V → Heap → Option St} {b' : Env → Heap → Option (Ex × Env × Heap)} (hb : ∀ en H, wfE n en → b (frOf n en) H = up n (b' en H) ∧ ∀ e en' H', b' en H = some (e, en', H') → wfE n en') (kill : List Nat) (m : Nat) :
    ∀ (j : Nat) (en : Env) (H : Heap), wfE n en → iterN b kill m j (frOf n en) H = up n (iterE b' kill m j en H) ∧ ∀ e en' H', iterE b' kill m j en H = some (e, en', H') → wfE n en' := by
  intro j
  induction j with
  | zero => intro en H _; exact ⟨rfl, fun _ _ _ h => by cases h⟩
  | succ j ih =>
    intro en H hw
    obtain ⟨h1, h2⟩ := hb en H hw
    simp only [iterN, iterE, h1, fSp_eq]
    cases hr : b' en H with
    | none => exact ⟨rfl, fun _ _ _ h => by cases h⟩
    | some r =>
      obtain ⟨e, en', H'⟩ := r
      have hw' := h2 _ _ _ hr
      cases e with
      | nrm =>
        simp only [up, ← compact_kill, ← trimE_eq hw']
        exact ih _ _ (compact_wf hw')
      | ext id =>
        simp only [up, ← compact_kill, ← trimE_eq hw']
        exact ⟨by trivial, fun _ _ _ h => by cases h; exact compact_wf hw'⟩
      | ret =>
        simp only [up, ← compact_kill, ← trimE_eq hw']
        exact ⟨by trivial, fun _ _ _ h => by cases h; exact compact_wf hw'⟩

def evCE (n : Nat) (call : CallF) (j : Nat) (base : Nat) : ACode → Env → Heap → Option (Ex × Env × Heap)
  | .skip, en, H => some (.nrm, en, H)
  | .region ops chk kill, en, H => match evOpsE n call base ops en H with
    | some (en, H) => match chk with
      | [] => match kill with
        | [] => some (.nrm, en, H)
        | k :: ks => some (.nrm, compactE (maskOf (k :: ks)) en, H)
      | c :: cs => if (c :: cs).all (apartAt ops (frOf n en)) then some (.nrm, compactE (maskOf kill) en, H) else none
    | none => none
  | .regionE .., _, _ => none
  | .seq a b, en, H => match evCE n call j base a en H with
    | some (.nrm, en, H) => evCE n call j base b en H
    | r => r
  | .cond c a b, en, H => match lookE en c with
    | .s (.bool true) => evCE n call j base a en H
    | .s (.bool false) => evCE n call j base b en H
    | _ => none
  | .block id c, en, H => match evCE n call j base c en H with
    | some (.ext id', en, H) => some (match Nat.beq id' id with | true => .nrm | false => .ext id', en, H)
    | r => r
  | .loop kill c, en, H => fSp (compactE (maskOf kill) en) fun en => iterE (fun en H => evCE n call j base c en H) kill H.length j en H
  | .rangeFunc f params assign body, en, H =>
    fSp (compactE 0 en) fun en =>
    match lookE en f with
    | .fn k x y => match call (.fn k x y) [.yld H.length] base (H ++ [.loop .ready none (frOf n en) params assign body]) with
      | some (_, H') => match H'[H.length]? with
        | some (.loop .ready none _ _ _ _) => some (.nrm, en, trimE H.length en (H'.set H.length .dead))
        | some (.loop .done (some e) _ _ _ _) => some (e, en, trimE H.length en (H'.set H.length .dead))
        | _ => none
      | none => none
    | _ => none
  | .exit id, en, H => some (.ext id, en, H)
  | .ret, en, H => some (.ret, en, H)

/-- Code without rows told as expressions. -/
def plainC : ACode → Bool
  | .regionE .. => false
  | .seq a b => plainC a && plainC b
  | .cond _ a b => plainC a && plainC b
  | .block _ c => plainC c
  | .loop _ c => plainC c
  | _ => true

theorem killS_none (fr : List V) : killS [] fr = fr := rfl

theorem evCE_eq (n : Nat) (call : CallF) (j : Nat) (base : Nat) : ∀ (c : ACode), plainC c = true → ∀ (en : Env) (H : Heap), wfE n en → evC call (fun b k m => iterN b k m j) base c (frOf n en) H = up n (evCE n call j base c en H) ∧ ∀ e en' H', evCE n call j base c en H = some (e, en', H') → wfE n en' := by
  intro c
  induction c with
  | skip => intro _ en H hw; exact ⟨rfl, fun _ _ _ h => by cases h; exact hw⟩
  | exit id => intro _ en H hw; exact ⟨rfl, fun _ _ _ h => by cases h; exact hw⟩
  | ret => intro _ en H hw; exact ⟨rfl, fun _ _ _ h => by cases h; exact hw⟩
  | regionE ops kill outs => intro h; simp [plainC] at h
  | region ops chk kill =>
    intro _ en H hw
    obtain ⟨h1, h2⟩ := evOpsE_eq n call base ops en H hw
    simp only [evC, evCE, h1]
    cases hr : evOpsE n call base ops en H with
    | none => exact ⟨rfl, fun _ _ _ h => by cases h⟩
    | some r =>
      obtain ⟨en', H'⟩ := r
      have hw' := h2 _ _ hr
      simp only [up2]
      cases chk with
      | nil =>
        simp only [List.all_nil, if_true]
        cases kill with
        | nil => exact ⟨rfl, fun _ _ _ h => by cases h; exact hw'⟩
        | cons k ks => exact ⟨by simp only [up, compact_kill], fun _ _ _ h => by cases h; exact compact_wf hw'⟩
      | cons x xs =>
        simp only []
        split
        · exact ⟨by simp only [up, compact_kill], fun _ _ _ h => by cases h; exact compact_wf hw'⟩
        · exact ⟨rfl, fun _ _ _ h => by cases h⟩
  | seq a b iha ihb =>
    intro hp en H hw
    simp only [plainC, Bool.and_eq_true] at hp
    obtain ⟨h1, h2⟩ := iha hp.1 en H hw
    simp only [evC, evCE, h1]
    cases hr : evCE n call j base a en H with
    | none => exact ⟨rfl, fun _ _ _ h => by cases h⟩
    | some r =>
      obtain ⟨e, en', H'⟩ := r
      have hw' := h2 _ _ _ hr
      cases e with
      | nrm => exact ihb hp.2 en' H' hw'
      | ext id => exact ⟨rfl, fun _ _ _ h => by cases h; exact hw'⟩
      | ret => exact ⟨rfl, fun _ _ _ h => by cases h; exact hw'⟩
  | cond o a b iha ihb =>
    intro hp en H hw
    simp only [plainC, Bool.and_eq_true] at hp
    simp only [evC, evCE, lookE_eq hw]
    generalize ev (frOf n en) o = q
    cases q with
    | s v => cases v with
      | bool t => cases t with
        | true => exact iha hp.1 en H hw
        | false => exact ihb hp.2 en H hw
      | _ => exact ⟨rfl, fun _ _ _ h => by cases h⟩
    | _ => exact ⟨rfl, fun _ _ _ h => by cases h⟩
  | block id c ih =>
    intro hp en H hw
    obtain ⟨h1, h2⟩ := ih hp en H hw
    simp only [evC, evCE, h1]
    cases hr : evCE n call j base c en H with
    | none => exact ⟨rfl, fun _ _ _ h => by cases h⟩
    | some r =>
      obtain ⟨e, en', H'⟩ := r
      have hw' := h2 _ _ _ hr
      cases e with
      | nrm => exact ⟨rfl, fun _ _ _ h => by cases h; exact hw'⟩
      | ret => exact ⟨rfl, fun _ _ _ h => by cases h; exact hw'⟩
      | ext id' =>
        refine ⟨?_, fun _ _ _ h => by cases h; exact hw'⟩
        simp only [up]
        by_cases e : id' = id
        · have : Nat.beq id' id = true := by simpa using e
          rw [this, if_pos e]
        · have : Nat.beq id' id = false := by
            cases hb : Nat.beq id' id with
            | true => exact absurd (Nat.eq_of_beq_eq_true hb) e
            | false => rfl
          rw [this, if_neg e]
  | loop kill c ih =>
    intro hp en H hw
    simp only [evC, evCE, fSp_eq, ← compact_kill]
    exact iterE_eq (fun en H hw => ih hp en H hw) kill H.length j _ H (compact_wf hw)
  | rangeFunc f params a b _ _ =>
    intro _ en H hw
    have hw' := compact_wf (mask := 0) hw
    simp only [evC, evCE, fSp_eq]
    rw [← compact_zero (en := en), lookE_eq hw']
    generalize ev (frOf n (compactE 0 en)) f = q
    cases q with
    | fn k x y =>
      simp only []
      cases call (.fn k x y) [.yld H.length] base (H ++ [.loop .ready none (frOf n (compactE 0 en)) params a b]) with
      | none => exact ⟨rfl, fun _ _ _ h => by cases h⟩
      | some r =>
        obtain ⟨v, H1⟩ := r
        simp only [← trimE_eq hw]
        generalize H1[H.length]? = q
        cases q with
        | none => exact ⟨rfl, fun _ _ _ h => by cases h⟩
        | some ob =>
          cases ob with
          | loop st pend t p x y =>
            cases st <;> cases pend <;> first | exact ⟨rfl, fun _ _ _ h => by cases h; exact hw'⟩ | exact ⟨rfl, fun _ _ _ h => by cases h⟩
          | _ => exact ⟨rfl, fun _ _ _ h => by cases h⟩
    | _ => exact ⟨rfl, fun _ _ _ h => by cases h⟩

/-! ### Calls -/
def envOf : List V → Nat → Env
  | [], _ => []
  | v :: vs, k => (k, v) :: envOf vs (k + 1)
def undE : Nat → Env → Env
  | 0, en => en
  | k + 1, en => undE k ((k, und) :: en)

def evCallE (CP : Nat → Option CFun) (call : CallF) (j : Nat) (v : V) (args : List V) (base : Nat) (H : Heap) : Option (V × Heap) :=
  match v with
  | .fn f fst cap => match CP f with
    | some (.code c) =>
      match plainC c.body with
      | true =>
        fVs (fst ++ args ++ cap) fun vs =>
        match Nat.ble vs.length c.ntmps with
        | true => match evCE c.ntmps call j base c.body (startV c.ntmps vs 0) H with
          | some (.nrm, en, H') => (resultV c.results (frOf c.ntmps en) H').map fun v => (v, H')
          | some (.ret, en, H') => (resultV c.results (frOf c.ntmps en) H').map fun v => (v, H')
          | _ => none
        | false => evCall CP call (fun b k m => iterN b k m j) v args base H
      | false => evCall CP call (fun b k m => iterN b k m j) v args base H
    | some (.prim g) => g (fst ++ args ++ cap) base H
    | none => none
  | v => evCall CP call (fun b k m => iterN b k m j) v args base H

theorem startV_wf (n : Nat) : ∀ (vs : List V) (k : Nat), vs.length + k ≤ n → wfE n (startV n vs k) := by
  intro vs
  induction vs with
  | nil =>
    intro k hk p hp
    simp only [startV, List.mem_map] at hp
    obtain ⟨s, hs, rfl⟩ := hp
    rw [List.mem_range'] at hs
    obtain ⟨i, hi, rfl⟩ := hs
    show k + 1 * i < n
    omega
  | cons v vs ih =>
    intro k hk p hp
    simp only [List.length_cons] at hk
    rcases List.mem_cons.1 hp with rfl | hp
    · show k < n; omega
    · exact ih (k + 1) (by omega) p hp

theorem evCallE_eq (CP : Nat → Option CFun) (call : CallF) (j : Nat) (v : V) (args : List V) (base : Nat) (H : Heap) : evCallE CP call j v args base H = evCall CP call (fun b k m => iterN b k m j) v args base H := by
  cases v <;> first | rfl | skip
  rename_i f fst cap
  simp only [evCallE, fVs_eq]
  cases hc : CP f with
  | none => simp only [evCall, hc]
  | some cf =>
    cases cf with
    | prim g => simp only [evCall, hc]
    | code c =>
      simp only []
      cases hp : plainC c.body with
      | false => rfl
      | true =>
        simp only []
        cases hl : Nat.ble (fst ++ args ++ cap).length c.ntmps with
        | false => rfl
        | true =>
          have hl := Nat.le_of_ble_eq_true hl
          simp only [evCall, hc]
          rw [start_eq hl]
          obtain ⟨h1, h2⟩ := evCE_eq c.ntmps call j base c.body hp _ H (startV_wf c.ntmps _ 0 (by omega))
          rw [h1]
          cases evCE c.ntmps call j base c.body (startV c.ntmps (fst ++ args ++ cap) 0) H with
          | none => rfl
          | some r => obtain ⟨e, en, H'⟩ := r; cases e <;> rfl

def callE (CP : Nat → Option CFun) : Nat → CallF
  | 0 => fun _ _ _ _ => none
  | n + 1 => evCallE CP (callE CP n) n
theorem callE_eq (CP : Nat → Option CFun) : ∀ n, callE CP n = callN CP n
  | 0 => rfl
  | n + 1 => by
    funext v args base H
    simp only [callE, callN, evCallE_eq, callE_eq CP n]

/-! ### A function that is reckoned once for all -/
open Go.RowKit
/-- What a call without arguments gives. -/
def givesE (CP : Nat → Option CFun) (n k : Nat) : Option V := (callE CP n (.fn k [] []) [] 0 []).bind fun r => frz r.2 12 r.1
def primC (u : V) : List V → Nat → Heap → Option (V × Heap) := fun vs _ H => match vs with
  | [] => some (u, H)
  | _ => none
theorem prim_ok {P : Program} {pure' : Nat → Bool} {CP : Nat → Option CFun} (hmix : P.follows .mixedOrders = true) (hCP : ∀ k c, CP k = some c → FunOk P pure' k c) {n k : Nat} {u : V} (h : givesE CP n k = some u) (hu : u.flat2 = true) : FunOk P pure' k (.prim (primC u)) := by
  unfold givesE at h
  rw [callE_eq] at h
  cases hc : callN CP n (.fn k [] []) [] 0 [] with
  | none => rw [hc] at h; cases h
  | some r =>
    obtain ⟨v, H0⟩ := r
    rw [hc] at h
    have hz : frz H0 12 v = some u := h
    refine ⟨((callN_sim hmix hCP n).fn k [] [] [] 0 [] v H0 hc).1, ?_⟩
    intro vs base H r H' hg
    cases vs with
    | cons a l => cases hg
    | nil =>
      cases hg
      refine ⟨Floor.refl _ _, fun μ Mt w cs hH hv m => ?_⟩
      exact (call_apart (callN_sim hmix hCP n) hH hv (us := []) rfl hc hz (by rw [hu]; simp) m).2
end Go.AM
