/- Texts of the proof: AmK, GraphC, AmR, GraphS5, GraphSh, AmQ, GraphArg. -/
import Derived.Test.YtmnlagcmpgilaaaP0
import Derived.Test.YtmnlagcmpgilaaaP1
import Derived.Test.YtmnlagcmpgilaaaP2
import Derived.Test.YtmnlagcmpgilaaaP3
import Derived.Test.YtmnlagcmpgilaaaP4
import Derived.Test.YtmnlagcmpgilaaaProg
import Derived.KernelRfl
import Derived.DataReads
import Derived.ChangeOld
import Derived.ChangeArms
import Derived.Shelf.Sort.Plain
import Derived.Shelf.Slices.In.SortNone
import Derived.Ground.NamesProg
set_option linter.all false
namespace Go.AM
def fNat {α : Type} (n : Nat) (k : Nat → α) : α := match n with
  | 0 => k 0
  | p + 1 => k (p + 1)
theorem fNat_eq {α : Type} (n : Nat) (k : Nat → α) : fNat n k = k n := by cases n <;> rfl
def fInt {α : Type} (n : Int) (k : Int → α) : α := match n with
  | .ofNat m => fNat m fun m => k (.ofNat m)
  | .negSucc m => fNat m fun m => k (.negSucc m)
theorem fInt_eq {α : Type} (n : Int) (k : Int → α) : fInt n k = k n := by cases n <;> simp [fInt, fNat_eq]
def fBool {α : Type} (b : Bool) (k : Bool → α) : α := match b with
  | false => k false
  | true => k true
theorem fBool_eq {α : Type} (b : Bool) (k : Bool → α) : fBool b k = k b := by cases b <;> rfl
def fVal {α : Type} (v : Value) (k : Value → α) : α :=
  match v with
  | .bool b => fBool b fun b => k (.bool b)
  | .int t n => fInt n fun n => k (.int t n)
  | v => k v
theorem fVal_eq {α : Type} (v : Value) (k : Value → α) : fVal v k = k v := by cases v <;> simp [fVal, fInt_eq, fBool_eq]
mutual
def fV {α : Type} : V → (V → α) → α
  | .s v, k => fVal v fun v => k (.s v)
  | .agg cs, k => fVs cs fun cs => k (.agg cs)
  | .tup cs, k => fVs cs fun cs => k (.tup cs)
  | .ref i g o, k => fNat i fun i => fNat g fun g => fNat o fun o => k (.ref i g o)
  | .sl i g o l z, k => fNat i fun i => fNat g fun g => fNat o fun o => fNat l fun l => k (.sl i g o l z)
  | .mp i, k => fNat i fun i => k (.mp i)
  | .fn f a b, k => fVs a fun a => fVs b fun b => k (.fn f a b)
  | .pref cs, k => fVs cs fun cs => k (.pref cs)
  | .psl es z, k => k (.psl es z)
  | .esl, k => k .esl
  | .yld i, k => fNat i fun i => k (.yld i)
  | .ifc t v, k => k (.ifc t v)
  | .unk, k => k .unk
def fVs {α : Type} : List V → (List V → α) → α
  | [], k => k []
  | x :: xs, k => fV x fun x => fVs xs fun xs => k (x :: xs)
end
mutual
theorem fV_eq {α : Type} : ∀ (v : V) (k : V → α), fV v k = k v
  | .s v, k => by simp [fV, fVal_eq]
  | .agg cs, k => by simp [fV, fVs_eq]
  | .tup cs, k => by simp [fV, fVs_eq]
  | .ref i g o, k => by simp [fV, fNat_eq]
  | .sl i g o l z, k => by simp [fV, fNat_eq]
  | .mp i, k => by simp [fV, fNat_eq]
  | .fn f a b, k => by simp [fV, fVs_eq]
  | .pref cs, k => by simp [fV, fVs_eq]
  | .psl es z, k => rfl
  | .esl, k => rfl
  | .yld i, k => by simp [fV, fNat_eq]
  | .ifc t v, k => rfl
  | .unk, k => rfl
theorem fVs_eq {α : Type} : ∀ (l : List V) (k : List V → α), fVs l k = k l
  | [], k => rfl
  | x :: xs, k => by simp [fVs, fV_eq, fVs_eq]
end
def fSp {α β : Type} : List β → (List β → α) → α
  | [], k => k []
  | x :: xs, k => fSp xs fun xs => k (x :: xs)
theorem fSp_eq {α β : Type} : ∀ (l : List β) (k : List β → α), fSp l k = k l
  | [], k => rfl
  | x :: xs, k => by simp [fSp, fSp_eq]
def fOb {α : Type} (o : Ob) (k : Ob → α) : α :=
  match o with
  | .cells g c => fNat g fun g => fVs c fun c => k (.cells g c)
  | .map es => fSp es fun es => k (.map es)
  | o => k o
theorem fOb_eq {α : Type} (o : Ob) (k : Ob → α) : fOb o k = k o := by cases o <;> simp [fOb, fNat_eq, fVs_eq, fSp_eq]
def fH {α : Type} : Heap → (Heap → α) → α
  | [], k => k []
  | x :: xs, k => fOb x fun x => fH xs fun xs => k (x :: xs)
theorem fH_eq {α : Type} : ∀ (l : Heap) (k : Heap → α), fH l k = k l
  | [], k => rfl
  | x :: xs, k => by simp [fH, fOb_eq, fH_eq]
def bndL (look : Opd → V) (d : Nat) : Option Opd → Option Int
  | none => some d
  | some x => intOf? (look x)
def evOpL (call : CallF) (base : Nat) (look : Opd → V) (H : Heap) : AOp → Option (V × Heap)
  | .move x => some (look x, H)
  | .pick c a b => match look c with
    | .s (.bool true) => some (look a, H)
    | .s (.bool false) => some (look b, H)
    | _ => none
  | .alloc zero => some (.ref H.length 0 0, H ++ [.cells 0 zero])
  | .box x => let v := look x; if v.cells.all V.one then some (.ref H.length 0 0, H ++ [.cells 0 v.cells]) else none
  | .build zero places parts => match fillA (places[·]?) zero (parts.map fun p => (p.1, look p.2)) with
    | some cs => some (.agg cs, H)
    | none => none
  | .buildSl sz len zero parts => match fillA (fun i => some (i * sz, sz)) zero (parts.map fun p => (p.1, look p.2)) with
    | some cs => some (if len = 0 then .esl else .sl H.length 0 0 len sz, H ++ [.cells 0 cs])
    | none => none
  | .mapNew => some (.mp H.length, H ++ [.map []])
  | .mapUpd kind m k v => match look m, look k with
    | .mp id, .s key => if base ≤ id ∧ keyOk kind key then match H[id]? with
        | some (.map es) => match findA kind key es 0 with
          | some (some (i, _)) => some (und, H.set id (.map (es.set i (key, look v))))
          | some none => some (und, H.set id (.map (es ++ [(key, look v)])))
          | none => none
        | _ => none
      else none
    | _, _ => none
  | .mapGet kind zero m k ok => match look k with
    | .s key => if keyOk kind key then
        match look m with
        | .s (.map none) => some (if ok then .tup [zero, bl false] else zero, H)
        | .mp id => match H[id]? with
          | some (.map es) => match findA kind key es 0 with
            | some (some (_, v)) => some (if ok then .tup [v, bl true] else v, H)
            | some none => some (if ok then .tup [zero, bl false] else zero, H)
            | none => none
          | _ => none
        | _ => none
      else none
    | _ => none
  | .load agg n a => (loadV H agg n (look a)).map fun v => (v, H)
  | .store n a v => (storeV H base n (look v) (look a)).map fun H => (und, H)
  | .nilCheck x => match look x with
    | .ref id g off => some (.ref id g off, H)
    | .pref cs => some (.pref cs, H)
    | .fn f a b => some (.fn f a b, H)
    | .yld id => some (.yld id, H)
    | _ => none
  | .bin op x y => match look x, look y with
    | .s a, .s b => (binS op a b).map fun v => (.s v, H)
    | _, _ => none
  | .eqB neg x y => match look x, look y with
    | .s (.bool a), .s (.bool b) => some (bl ((a == b) != neg), H)
    | _, _ => none
  | .eqNil k neg x => match (look x).isNil k with
    | some b => some (bl (b != neg), H)
    | none => none
  | .eqAgg neg ls x y => match look x, look y with
    | .agg xs, .agg ys => match eqLeaves ls xs ys with
      | some b => some (bl (b != neg), H)
      | none => none
    | _, _ => none
  | .un op x => match op, look x with
    | .not, .s (.bool b) => some (bl (!b), H)
    | .neg, .s (.int k n) => some (.s (.int k (k.wrap (0 - n))), H)
    | .xor, .s (.int k n) => (binS .xor (.int k (if k.signed then -1 else k.max)) (.int k n)).map fun v => (.s v, H)
    | _, _ => none
  | .conv k x => match look x with
    | .s (.int _ n) => some (.s (.int k (k.wrap n)), H)
    | _ => none
  | .convId x => match look x with
    | .s (.string b) => some (.s (.string b), H)
    | _ => none
  | .mkFn f fst cap => some (.fn f (fst.map (look)) (cap.map (look)), H)
  | .mkSl zero sz bytes len cap => match look len, look cap with
    | .s (.int _ l), .s (.int _ c) =>
      if 0 ≤ l ∧ l ≤ c ∧ c * bytes ≤ 2 ^ 47 then some (.sl H.length 0 0 l.toNat sz, H ++ [.cells 0 (List.replicate l.toNat zero).flatten]) else none
    | _, _ => none
  | .subStr x lo hi => match look x with
    | .s (.string b) => match bndL look 0 lo, bndL look b.size hi with
      | some l, some h => if 0 ≤ l ∧ l ≤ h ∧ h ≤ b.size then some (.s (.string (b.extract l.toNat h.toNat)), H) else none
      | _, _ => none
    | _ => none
  | .subSl sz x lo hi mx =>
    match mx with
    | none => match look x with
      | .s (.slice none 0 0) => match bndL look 0 lo, bndL look 0 hi with
        | some 0, some 0 => some (nilS, H)
        | _, _ => none
      | .esl => match bndL look 0 lo, bndL look 0 hi with
        | some 0, some 0 => some (.esl, H)
        | _, _ => none
      | .psl es sz' => match bndL look 0 lo, bndL look es.length hi with
        | some l, some h => if 0 ≤ l ∧ l ≤ h ∧ h ≤ es.length ∧ sz' = sz then some (.psl ((es.drop l.toNat).take (h - l).toNat) sz, H) else none
        | _, _ => none
      | .sl id g off len sz' => match bndL look 0 lo, bndL look len hi with
        | some l, some h => if 0 ≤ l ∧ l ≤ h ∧ h ≤ len ∧ sz' = sz then some (.sl id g (off + l.toNat * sz) (h - l).toNat sz, H) else none
        | _, _ => none
      | _ => none
    | some m => match hi, bndL look 0 lo with
      | some h, some 0 => match intOf? (look h), intOf? (look m) with
        | some 0, some 0 => match look x with
          | .s (.slice none 0 0) => some (nilS, H)
          | .esl => some (.esl, H)
          | .psl _ _ => some (.esl, H)
          | .sl _ _ _ _ _ => some (.esl, H)
          | _ => none
        | _, _ => none
      | _, _ => none
  | .fieldAddr off x => match look x with
    | .ref id g o => some (.ref id g (o + off), H)
    | .pref cs => if off ≤ cs.length then some (.pref (cs.drop off), H) else none
    | _ => none
  | .field agg off n x => match look x with
    | .agg cs => let cs := (cs.drop off).take n; if cs.length = n then (shut agg cs).map fun v => (v, H) else none
    | _ => none
  | .indexAddr sz x i => match look x, look i with
    | .sl id g off len sz', .s (.int _ n) => if 0 ≤ n ∧ n < len ∧ sz' = sz then some (.ref id g (off + n.toNat * sz), H) else none
    | .psl es sz', .s (.int _ n) => if 0 ≤ n ∧ sz' = sz then match es[n.toNat]? with
        | some e => some (.pref e, H)
        | none => none
      else none
    | _, _ => none
  | .indexStr x i => match look x, look i with
    | .s (.string b), .s (.int _ n) => if 0 ≤ n then match b.data.toList[n.toNat]? with
        | some c => some (.s (.int .u8 c.toNat), H)
        | none => none
      else none
    | _, _ => none
  | .extract x i => match look x with
    | .tup vs => match vs[i]? with
      | some v => some (v, H)
      | none => none
    | _ => none
  | .lenS k x => match k, look x with
    | .p, .s (.string b) => some (i64 b.size, H)
    | .s, .s (.slice none 0 0) => some (i64 0, H)
    | .m, .s (.map none) => some (i64 0, H)
    | .s, .esl => some (i64 0, H)
    | .s, .psl es _ => some (i64 es.length, H)
    | .s, .sl _ _ _ len _ => some (i64 len, H)
    | .m, .mp id => match H[id]? with
      | some (.map es) => some (i64 es.length, H)
      | _ => none
    | _, _ => none
  | .append sz bytes s x => appendV H base sz bytes (look s) (look x)
  | .delete kind m k => match look m, look k with
    | .mp id, .s key => if base ≤ id ∧ keyOk kind key then match H[id]? with
        | some (.map es) => match findA kind key es 0 with
          | some (some (i, _)) => some (und, H.set id (.map (es.eraseIdx i)))
          | some none => some (und, H)
          | none => none
        | _ => none
      else none
    | _, _ => none
  | .minmax mx x y => match look x, look y with
    | .s (.int k a), .s (.int k' b) => if k = k' then some (.s (.int k (if mx then (if a < b then b else a) else (if b < a then b else a))), H) else none
    | _, _ => none
  | .call f args => call (look f) (args.map (look)) base H
  | .callR f args => call (look f) (args.map (look)) H.length H
  | .callP f args =>
    let vs := args.map (look)
    match vs.mapM (frz H 12) with
    | some us => match call (.fn f [] []) us 0 [] with
      | some (v, H') => match frz H' 12 v with
        | some u => if vs.all (isPure 12) || u.flat2 then some (u, H) else none
        | none => none
      | none => none
    | none => none
  | .callQ f args =>
    if (args.map (look)).all (isPure 12) then
      match call (.fn f [] []) (args.map (look)) 0 [] with
      | some (v, H') => match frz H' 12 v with
        | some u => some (u, H)
        | none => none
      | none => none
    else none
  | .clearSl sz zero x => match look x with
    | .s (.slice none 0 0) => some (und, H)
    | .esl => some (und, H)
    | .sl id g off len sz' => if len = 0 then some (und, H) else if base ≤ id ∧ sz' = sz then match getC H id g with
        | some c => if zero.length = sz ∧ off + len * sz ≤ c.length ∧ zero.all V.one then some (und, H.set id (.cells g (splice c off (List.replicate len zero).flatten))) else none
        | none => none
      else none
    | _ => none
theorem bndL_eq (fr : List V) (d : Nat) (o : Option Opd) : bndA fr d o = bndL (ev fr) d o := by cases o <;> rfl
theorem evOpL_eq (call : CallF) (base : Nat) (fr : List V) (H : Heap) (o : AOp) : evOpL call base (ev fr) H o = evOp call base fr H o := by
  cases o <;> first | rfl | (simp only [evOpL, evOp, bndL_eq]; done) | (simp only [evOpL, evOp, bndL_eq]; rfl)
def fHeap {α : Type} (o : AOp) (H : Heap) (k : Heap → α) : α :=
  match o with
  | .alloc _ | .box _ | .buildSl .. | .mapNew | .mkSl .. | .append .. | .mapUpd .. | .store .. | .delete .. | .clearSl .. => fH H k
  | _ => k H
theorem fHeap_eq {α : Type} (o : AOp) (H : Heap) (k : Heap → α) : fHeap o H k = k H := by cases o <;> simp [fHeap, fH_eq]
def getE : Env → Nat → V
  | [], _ => .unk
  | (k, x) :: e, s => match Nat.beq s k with
    | true => x
    | false => getE e s
theorem getE_eq (s : Nat) : ∀ en : Env, getE en s = getV en s := by
  intro en
  induction en with
  | nil => rfl
  | cons p e ih =>
    obtain ⟨k, x⟩ := p
    simp only [getE, getV]
    by_cases h : s = k
    · have : Nat.beq s k = true := by simpa using h
      rw [this, if_pos h]
    · have : Nat.beq s k = false := by
        cases hb : Nat.beq s k with
        | true => exact absurd (Nat.eq_of_beq_eq_true hb) h
        | false => rfl
      rw [this, if_neg h, ih]
def lookE (en : Env) : Opd → V
  | .t i => getE en i
  | .c v => v
def wfE (n : Nat) (en : Env) : Prop := ∀ p ∈ en, p.1 < n
theorem getV_out {n : Nat} {en : Env} (h : wfE n en) {s : Nat} (hs : n ≤ s) : getV en s = .unk := by
  induction en with
  | nil => rfl
  | cons p e ih =>
    obtain ⟨k, x⟩ := p
    have := h _ (List.mem_cons_self)
    simp only [getV]
    rw [if_neg (by simp at this; omega)]
    exact ih fun q hq => h q (List.mem_cons_of_mem _ hq)
theorem frOf_getD {n : Nat} {en : Env} (h : wfE n en) (s : Nat) : (frOf n en).getD s .unk = getV en s := by
  by_cases hs : s < n
  · exact frOf_get hs
  · rw [getV_out h (by omega)]
    simp [frOf, List.getD, hs]
theorem lookE_eq {n : Nat} {en : Env} (h : wfE n en) : lookE en = ev (frOf n en) := by
  funext x
  cases x with
  | t i => simp only [lookE, ev, getE_eq, frOf_getD h]
  | c v => rfl
def putE (n : Nat) (d : Option Nat) (v : V) (en : Env) : Env :=
  match d with
  | some d => match Nat.blt d n with
    | true => (d, v) :: en
    | false => en
  | none => en
theorem putE_wf {n : Nat} {d : Option Nat} {v : V} {en : Env} (h : wfE n en) : wfE n (putE n d v en) := by
  cases d with
  | none => exact h
  | some d =>
    simp only [putE]
    cases hb : Nat.blt d n with
    | true => intro p hp; rcases List.mem_cons.1 hp with rfl | hp; (exact Nat.blt_eq.mp hb); exact h p hp
    | false => exact h
theorem putE_eq {n : Nat} {d : Option Nat} {v : V} {en : Env} : frOf n (putE n d v en) = put d v (frOf n en) := by
  cases d with
  | none => rfl
  | some d =>
    simp only [putE, put]
    cases hb : Nat.blt d n with
    | true =>
      refine (fr_eq (by rw [List.length_set, frOf_length]) fun t ht => ?_).symm
      simp only [getV]
      by_cases e : t = d
      · subst e; rw [if_pos rfl, getD_set_same (by rw [frOf_length]; exact ht)]
      · rw [if_neg e, getD_set_other (fun h => e h.symm), frOf_get ht]
    | false =>
      have : ¬ d < n := fun h => by rw [Nat.blt_eq.mpr h] at hb; cases hb
      rw [List.set_eq_of_length_le (by rw [frOf_length]; omega)]
def compactE (mask : Nat) : Env → Env
  | [] => []
  | (s, v) :: e => match mask.testBit s with
    | true => compactE mask e
    | false => (s, v) :: compactE (mask ||| (1 <<< s)) e
theorem testBit_or (m s t : Nat) : (m ||| (1 <<< s)).testBit t = (m.testBit t || decide (t = s)) := by
  rw [Nat.testBit_or, Nat.one_shiftLeft, Nat.testBit_two_pow]
  congr 1
  simp [eq_comm]
theorem getV_compact (s : Nat) : ∀ (en : Env) (mask : Nat), getV (compactE mask en) s = if mask.testBit s then .unk else getV en s := by
  intro en
  induction en with
  | nil => intro mask; simp [compactE, getV]
  | cons p e ih =>
    obtain ⟨k, x⟩ := p
    intro mask
    simp only [compactE]
    cases hb : mask.testBit k with
    | true =>
      simp only [ih, getV]
      by_cases h : s = k
      · subst h; simp [hb]
      · rw [if_neg h]
    | false =>
      simp only [getV, ih, testBit_or]
      by_cases h : s = k
      · subst h; simp [hb]
      · simp [h]
theorem compact_mem {p : Nat × V} : ∀ {en : Env} {mask : Nat}, p ∈ compactE mask en → p ∈ en ∧ mask.testBit p.1 = false := by
  intro en
  induction en with
  | nil => intro mask h; cases h
  | cons q e ih =>
    obtain ⟨k, x⟩ := q
    intro mask h
    simp only [compactE] at h
    cases hb : mask.testBit k with
    | true => rw [hb] at h; obtain ⟨h1, h2⟩ := ih h; exact ⟨List.mem_cons_of_mem _ h1, h2⟩
    | false =>
      rw [hb] at h
      rcases List.mem_cons.1 h with rfl | h
      · exact ⟨List.mem_cons_self, hb⟩
      · obtain ⟨h1, h2⟩ := ih h
        rw [testBit_or] at h2
        simp only [Bool.or_eq_false_iff] at h2
        exact ⟨List.mem_cons_of_mem _ h1, h2.1⟩
theorem compact_wf {n mask : Nat} {en : Env} (h : wfE n en) : wfE n (compactE mask en) := fun p hp => h p (compact_mem hp).1
theorem compact_val : ∀ {en : Env} {mask : Nat} {p : Nat × V}, p ∈ compactE mask en → getV (compactE mask en) p.1 = p.2 := by
  intro en
  induction en with
  | nil => intro mask p h; cases h
  | cons q e ih =>
    obtain ⟨k, x⟩ := q
    intro mask p h
    simp only [compactE] at h ⊢
    cases hb : mask.testBit k with
    | true => rw [hb] at h; exact ih h
    | false =>
      rw [hb] at h
      rcases List.mem_cons.1 h with rfl | h
      · simp [getV]
      · have h3 := (compact_mem h).2
        rw [testBit_or] at h3
        simp only [Bool.or_eq_false_iff, decide_eq_false_iff_not] at h3
        simp only [getV, if_neg h3.2]
        exact ih h
def maskOf : List Nat → Nat
  | [] => 0
  | s :: l => maskOf l ||| (1 <<< s)
theorem maskOf_bit (s : Nat) : ∀ l : List Nat, (maskOf l).testBit s = l.contains s := by
  intro l
  induction l with
  | nil => simp [maskOf]
  | cons a l ih => rw [maskOf, testBit_or, ih, List.contains_cons, Bool.or_comm]; congr 1
theorem compact_kill {n : Nat} {en : Env} (l : List Nat) : frOf n (compactE (maskOf l) en) = killS l (frOf n en) := by
  rw [frOf_kill]
  exact frOf_ext fun s _ => by rw [getV_compact, getV_kill, maskOf_bit]
theorem compact_zero {n : Nat} {en : Env} : frOf n (compactE 0 en) = frOf n en := frOf_ext fun s _ => by rw [getV_compact]; simp
def trimE (m : Nat) (en : Env) (H : Heap) : Heap :=
  if en.all (fun p => idsUnder m 8 p.2) && (H.take m).all (Ob.under m) then H.take m else H
theorem trimE_eq {n m mask : Nat} {en : Env} {H : Heap} (hw : wfE n en) : trimE m (compactE mask en) H = trim m (frOf n (compactE mask en)) H := by
  have : (compactE mask en).all (fun p => idsUnder m 8 p.2) = (frOf n (compactE mask en)).all (idsUnder m 8) := by
    rw [Bool.eq_iff_iff, List.all_eq_true, List.all_eq_true]
    constructor
    · intro h v hv
      unfold frOf at hv
      rw [List.mem_map] at hv
      obtain ⟨s, _, rfl⟩ := hv
      have key : ∀ en : Env, (∀ p ∈ en, idsUnder m 8 p.2 = true) → idsUnder m 8 (getV en s) = true := by
        intro en
        induction en with
        | nil => intro _; rfl
        | cons q e ih =>
          intro h
          simp only [getV]
          split
          · exact h q List.mem_cons_self
          · exact ih fun p hp => h p (List.mem_cons_of_mem _ hp)
      exact key _ h
    · intro h p hp
      rw [← compact_val hp]
      refine h _ ?_
      unfold frOf
      rw [List.mem_map]
      exact ⟨p.1, by simpa using hw p (compact_mem hp).1, rfl⟩
  unfold trimE trim
  rw [this]
def wantE (o : AOper) (en : Env) : Option Bool :=
  match o.guard with
  | none => some true
  | some (t, b) => match getE en t with
    | .s (.bool x) => some (x == b)
    | .s (.tuple _) => some false
    | _ => none
theorem wantE_eq {n : Nat} {en : Env} (h : wfE n en) (o : AOper) : wantE o en = want o (frOf n en) := by
  unfold wantE want
  cases o.guard with
  | none => rfl
  | some g => simp only [getE_eq, frOf_getD h]; rfl
def evOpsE (n : Nat) (call : CallF) (base : Nat) : List AOper → Env → Heap → Option (Env × Heap)
  | [], en, H => some (en, H)
  | o :: os, en, H => match wantE o en with
    | none => none
    | some false => evOpsE n call base os (putE n o.dst und en) H
    | some true => match evOpL call base (lookE en) H o.op with
      | some (v, H') => fV v fun v => fHeap o.op H' fun H' => evOpsE n call base os (putE n o.dst v en) H'
      | none => none
def up {α : Type} (n : Nat) : Option (α × Env × Heap) → Option (α × List V × Heap)
  | some (e, en, H) => some (e, frOf n en, H)
  | none => none
def up2 (n : Nat) : Option (Env × Heap) → Option (List V × Heap)
  | some (en, H) => some (frOf n en, H)
  | none => none
theorem evOpsE_eq (n : Nat) (call : CallF) (base : Nat) : ∀ (l : List AOper) (en : Env) (H : Heap), wfE n en → evOps call base l (frOf n en) H = up2 n (evOpsE n call base l en H) ∧ ∀ en' H', evOpsE n call base l en H = some (en', H') → wfE n en' := by
  intro l
  induction l with
  | nil => intro en H hw; exact ⟨rfl, fun en' H' h => by cases h; exact hw⟩
  | cons o os ih =>
    intro en H hw
    simp only [evOpsE, evOps, fV_eq, fHeap_eq, wantE_eq hw, lookE_eq hw, evOpL_eq]
    cases want o (frOf n en) with
    | none => exact ⟨rfl, fun _ _ h => by cases h⟩
    | some b =>
      cases b with
      | false => simp only [← putE_eq]; exact ih _ _ (putE_wf hw)
      | true =>
        simp only []
        cases evOp call base (frOf n en) H o.op with
        | none => exact ⟨rfl, fun _ _ h => by cases h⟩
        | some r => obtain ⟨v, H'⟩ := r; simp only [← putE_eq]; exact ih _ _ (putE_wf hw)
def iterE (body : Env → Heap → Option (Ex × Env × Heap)) (kill : List Nat) (m : Nat) : Nat → Env → Heap → Option (Ex × Env × Heap)
  | 0, _, _ => none
  | j + 1, en, H => match body en H with
    | some (.nrm, en', H') => fSp (compactE (maskOf kill) en') fun en' => iterE body kill m j en' (trimE m en' H')
    | some (e, en', H') => fSp (compactE (maskOf kill) en') fun en' => some (e, en', trimE m en' H')
    | none => none
theorem iterE_eq {n : Nat} {b : List V → Heap → Option St} {b' : Env → Heap → Option (Ex × Env × Heap)} (hb : ∀ en H, wfE n en → b (frOf n en) H = up n (b' en H) ∧ ∀ e en' H', b' en H = some (e, en', H') → wfE n en') (kill : List Nat) (m : Nat) :
    ∀ (j : Nat) (en : Env) (H : Heap), wfE n en → iterN b kill m j (frOf n en) H = up n (iterE b' kill m j en H) ∧ ∀ e en' H', iterE b' kill m j en H = some (e, en', H') → wfE n en' := by
  intro j
  induction j with
  | zero => intro en H _; exact ⟨rfl, fun _ _ _ h => by cases h⟩
  | succ j ih =>
    intro en H hw
    obtain ⟨h1, h2⟩ := hb en H hw
    simp only [iterN, iterE, h1, fSp_eq]
    cases hr : b' en H with
    | none => exact ⟨rfl, fun _ _ _ h => by cases h⟩
    | some r =>
      obtain ⟨e, en', H'⟩ := r
      have hw' := h2 _ _ _ hr
      cases e with
      | nrm =>
        simp only [up, ← compact_kill, ← trimE_eq hw']
        exact ih _ _ (compact_wf hw')
      | ext id =>
        simp only [up, ← compact_kill, ← trimE_eq hw']
        exact ⟨by trivial, fun _ _ _ h => by cases h; exact compact_wf hw'⟩
      | ret =>
        simp only [up, ← compact_kill, ← trimE_eq hw']
        exact ⟨by trivial, fun _ _ _ h => by cases h; exact compact_wf hw'⟩
def evCE (n : Nat) (call : CallF) (j : Nat) (base : Nat) : ACode → Env → Heap → Option (Ex × Env × Heap)
  | .skip, en, H => some (.nrm, en, H)
  | .region ops chk kill, en, H => match evOpsE n call base ops en H with
    | some (en, H) => match chk with
      | [] => match kill with
        | [] => some (.nrm, en, H)
        | k :: ks => some (.nrm, compactE (maskOf (k :: ks)) en, H)
      | c :: cs => if (c :: cs).all (apartAt ops (frOf n en)) then some (.nrm, compactE (maskOf kill) en, H) else none
    | none => none
  | .regionE .., _, _ => none
  | .seq a b, en, H => match evCE n call j base a en H with
    | some (.nrm, en, H) => evCE n call j base b en H
    | r => r
  | .cond c a b, en, H => match lookE en c with
    | .s (.bool true) => evCE n call j base a en H
    | .s (.bool false) => evCE n call j base b en H
    | _ => none
  | .block id c, en, H => match evCE n call j base c en H with
    | some (.ext id', en, H) => some (match Nat.beq id' id with | true => .nrm | false => .ext id', en, H)
    | r => r
  | .loop kill c, en, H => fSp (compactE (maskOf kill) en) fun en => iterE (fun en H => evCE n call j base c en H) kill H.length j en H
  | .rangeFunc f params assign body, en, H =>
    fSp (compactE 0 en) fun en =>
    match lookE en f with
    | .fn k x y => match call (.fn k x y) [.yld H.length] base (H ++ [.loop .ready none (frOf n en) params assign body]) with
      | some (_, H') => match H'[H.length]? with
        | some (.loop .ready none _ _ _ _) => some (.nrm, en, trimE H.length en (H'.set H.length .dead))
        | some (.loop .done (some e) _ _ _ _) => some (e, en, trimE H.length en (H'.set H.length .dead))
        | _ => none
      | none => none
    | _ => none
  | .exit id, en, H => some (.ext id, en, H)
  | .ret, en, H => some (.ret, en, H)
def plainC : ACode → Bool
  | .regionE .. => false
  | .seq a b => plainC a && plainC b
  | .cond _ a b => plainC a && plainC b
  | .block _ c => plainC c
  | .loop _ c => plainC c
  | _ => true
theorem evCE_eq (n : Nat) (call : CallF) (j : Nat) (base : Nat) : ∀ (c : ACode), plainC c = true → ∀ (en : Env) (H : Heap), wfE n en → evC call (fun b k m => iterN b k m j) base c (frOf n en) H = up n (evCE n call j base c en H) ∧ ∀ e en' H', evCE n call j base c en H = some (e, en', H') → wfE n en' := by
  intro c
  induction c with
  | skip => intro _ en H hw; exact ⟨rfl, fun _ _ _ h => by cases h; exact hw⟩
  | exit id => intro _ en H hw; exact ⟨rfl, fun _ _ _ h => by cases h; exact hw⟩
  | ret => intro _ en H hw; exact ⟨rfl, fun _ _ _ h => by cases h; exact hw⟩
  | regionE ops kill outs => intro h; simp [plainC] at h
  | region ops chk kill =>
    intro _ en H hw
    obtain ⟨h1, h2⟩ := evOpsE_eq n call base ops en H hw
    simp only [evC, evCE, h1]
    cases hr : evOpsE n call base ops en H with
    | none => exact ⟨rfl, fun _ _ _ h => by cases h⟩
    | some r =>
      obtain ⟨en', H'⟩ := r
      have hw' := h2 _ _ hr
      simp only [up2]
      cases chk with
      | nil =>
        simp only [List.all_nil, if_true]
        cases kill with
        | nil => exact ⟨rfl, fun _ _ _ h => by cases h; exact hw'⟩
        | cons k ks => exact ⟨by simp only [up, compact_kill], fun _ _ _ h => by cases h; exact compact_wf hw'⟩
      | cons x xs =>
        simp only []
        split
        · exact ⟨by simp only [up, compact_kill], fun _ _ _ h => by cases h; exact compact_wf hw'⟩
        · exact ⟨rfl, fun _ _ _ h => by cases h⟩
  | seq a b iha ihb =>
    intro hp en H hw
    simp only [plainC, Bool.and_eq_true] at hp
    obtain ⟨h1, h2⟩ := iha hp.1 en H hw
    simp only [evC, evCE, h1]
    cases hr : evCE n call j base a en H with
    | none => exact ⟨rfl, fun _ _ _ h => by cases h⟩
    | some r =>
      obtain ⟨e, en', H'⟩ := r
      have hw' := h2 _ _ _ hr
      cases e with
      | nrm => exact ihb hp.2 en' H' hw'
      | ext id => exact ⟨rfl, fun _ _ _ h => by cases h; exact hw'⟩
      | ret => exact ⟨rfl, fun _ _ _ h => by cases h; exact hw'⟩
  | cond o a b iha ihb =>
    intro hp en H hw
    simp only [plainC, Bool.and_eq_true] at hp
    simp only [evC, evCE, lookE_eq hw]
    generalize ev (frOf n en) o = q
    cases q with
    | s v => cases v with
      | bool t => cases t with
        | true => exact iha hp.1 en H hw
        | false => exact ihb hp.2 en H hw
      | _ => exact ⟨rfl, fun _ _ _ h => by cases h⟩
    | _ => exact ⟨rfl, fun _ _ _ h => by cases h⟩
  | block id c ih =>
    intro hp en H hw
    obtain ⟨h1, h2⟩ := ih hp en H hw
    simp only [evC, evCE, h1]
    cases hr : evCE n call j base c en H with
    | none => exact ⟨rfl, fun _ _ _ h => by cases h⟩
    | some r =>
      obtain ⟨e, en', H'⟩ := r
      have hw' := h2 _ _ _ hr
      cases e with
      | nrm => exact ⟨rfl, fun _ _ _ h => by cases h; exact hw'⟩
      | ret => exact ⟨rfl, fun _ _ _ h => by cases h; exact hw'⟩
      | ext id' =>
        refine ⟨?_, fun _ _ _ h => by cases h; exact hw'⟩
        simp only [up]
        by_cases e : id' = id
        · have : Nat.beq id' id = true := by simpa using e
          rw [this, if_pos e]
        · have : Nat.beq id' id = false := by
            cases hb : Nat.beq id' id with
            | true => exact absurd (Nat.eq_of_beq_eq_true hb) e
            | false => rfl
          rw [this, if_neg e]
  | loop kill c ih =>
    intro hp en H hw
    simp only [evC, evCE, fSp_eq, ← compact_kill]
    exact iterE_eq (fun en H hw => ih hp en H hw) kill H.length j _ H (compact_wf hw)
  | rangeFunc f params a b _ _ =>
    intro _ en H hw
    have hw' := compact_wf (mask := 0) hw
    simp only [evC, evCE, fSp_eq]
    rw [← compact_zero (en := en), lookE_eq hw']
    generalize ev (frOf n (compactE 0 en)) f = q
    cases q with
    | fn k x y =>
      simp only []
      cases call (.fn k x y) [.yld H.length] base (H ++ [.loop .ready none (frOf n (compactE 0 en)) params a b]) with
      | none => exact ⟨rfl, fun _ _ _ h => by cases h⟩
      | some r =>
        obtain ⟨v, H1⟩ := r
        simp only [← trimE_eq hw]
        generalize H1[H.length]? = q
        cases q with
        | none => exact ⟨rfl, fun _ _ _ h => by cases h⟩
        | some ob =>
          cases ob with
          | loop st pend t p x y =>
            cases st <;> cases pend <;> first | exact ⟨rfl, fun _ _ _ h => by cases h; exact hw'⟩ | exact ⟨rfl, fun _ _ _ h => by cases h⟩
          | _ => exact ⟨rfl, fun _ _ _ h => by cases h⟩
    | _ => exact ⟨rfl, fun _ _ _ h => by cases h⟩
def evCallE (CP : Nat → Option CFun) (call : CallF) (j : Nat) (v : V) (args : List V) (base : Nat) (H : Heap) : Option (V × Heap) :=
  match v with
  | .fn f fst cap => match CP f with
    | some (.code c) =>
      match plainC c.body with
      | true =>
        fVs (fst ++ args ++ cap) fun vs =>
        match Nat.ble vs.length c.ntmps with
        | true => match evCE c.ntmps call j base c.body (startV c.ntmps vs 0) H with
          | some (.nrm, en, H') => (resultV c.results (frOf c.ntmps en) H').map fun v => (v, H')
          | some (.ret, en, H') => (resultV c.results (frOf c.ntmps en) H').map fun v => (v, H')
          | _ => none
        | false => evCall CP call (fun b k m => iterN b k m j) v args base H
      | false => evCall CP call (fun b k m => iterN b k m j) v args base H
    | some (.prim g) => g (fst ++ args ++ cap) base H
    | none => none
  | v => evCall CP call (fun b k m => iterN b k m j) v args base H
theorem startV_wf (n : Nat) : ∀ (vs : List V) (k : Nat), vs.length + k ≤ n → wfE n (startV n vs k) := by
  intro vs
  induction vs with
  | nil =>
    intro k hk p hp
    simp only [startV, List.mem_map] at hp
    obtain ⟨s, hs, rfl⟩ := hp
    rw [List.mem_range'] at hs
    obtain ⟨i, hi, rfl⟩ := hs
    show k + 1 * i < n
    omega
  | cons v vs ih =>
    intro k hk p hp
    simp only [List.length_cons] at hk
    rcases List.mem_cons.1 hp with rfl | hp
    · show k < n; omega
    · exact ih (k + 1) (by omega) p hp
theorem evCallE_eq (CP : Nat → Option CFun) (call : CallF) (j : Nat) (v : V) (args : List V) (base : Nat) (H : Heap) : evCallE CP call j v args base H = evCall CP call (fun b k m => iterN b k m j) v args base H := by
  cases v <;> first | rfl | skip
  rename_i f fst cap
  simp only [evCallE, fVs_eq]
  cases hc : CP f with
  | none => simp only [evCall, hc]
  | some cf =>
    cases cf with
    | prim g => simp only [evCall, hc]
    | code c =>
      simp only []
      cases hp : plainC c.body with
      | false => rfl
      | true =>
        simp only []
        cases hl : Nat.ble (fst ++ args ++ cap).length c.ntmps with
        | false => rfl
        | true =>
          have hl := Nat.le_of_ble_eq_true hl
          simp only [evCall, hc]
          rw [start_eq hl]
          obtain ⟨h1, h2⟩ := evCE_eq c.ntmps call j base c.body hp _ H (startV_wf c.ntmps _ 0 (by omega))
          rw [h1]
          cases evCE c.ntmps call j base c.body (startV c.ntmps (fst ++ args ++ cap) 0) H with
          | none => rfl
          | some r => obtain ⟨e, en, H'⟩ := r; cases e <;> rfl
def callE (CP : Nat → Option CFun) : Nat → CallF
  | 0 => fun _ _ _ _ => none
  | n + 1 => evCallE CP (callE CP n) n
theorem callE_eq (CP : Nat → Option CFun) : ∀ n, callE CP n = callN CP n
  | 0 => rfl
  | n + 1 => by
    funext v args base H
    simp only [callE, callN, evCallE_eq, callE_eq CP n]
open Go.RowKit
def givesE (CP : Nat → Option CFun) (n k : Nat) : Option V := (callE CP n (.fn k [] []) [] 0 []).bind fun r => frz r.2 12 r.1
def primC (u : V) : List V → Nat → Heap → Option (V × Heap) := fun vs _ H => match vs with
  | [] => some (u, H)
  | _ => none
theorem prim_ok {P : Program} {pure' : Nat → Bool} {CP : Nat → Option CFun} (hmix : P.follows .mixedOrders = true) (hCP : ∀ k c, CP k = some c → FunOk P pure' k c) {n k : Nat} {u : V} (h : givesE CP n k = some u) (hu : u.flat2 = true) : FunOk P pure' k (.prim (primC u)) := by
  unfold givesE at h
  rw [callE_eq] at h
  cases hc : callN CP n (.fn k [] []) [] 0 [] with
  | none => rw [hc] at h; cases h
  | some r =>
    obtain ⟨v, H0⟩ := r
    rw [hc] at h
    have hz : frz H0 12 v = some u := h
    refine ⟨((callN_sim hmix hCP n).fn k [] [] [] 0 [] v H0 hc).1, ?_⟩
    intro vs base H r H' hg
    cases vs with
    | cons a l => cases hg
    | nil =>
      cases hg
      refine ⟨Floor.refl _ _, fun μ Mt w cs hH hv m => ?_⟩
      exact (call_apart (callN_sim hmix hCP n) hH hv (us := []) rfl hc hz (by rw [hu]; simp) m).2
end Go.AM
set_option maxRecDepth 100000
namespace Go.Proofs.Ytmnlagcmpgilaaa
open Go.AM
def c_gnomonlaw07_wakes : ACFun := { ntmps := 23, results := [(.tmp 0)], body :=
  (.seq (.region [
    ⟨some 0, (.move (.c (.s (.bool false)))), none⟩] [] [])
  (.seq (.region [
    ⟨some 1, (.call (.c (.fn 25 [] [])) []), none⟩,
    ⟨some 2, (.call (.c (.fn 23 [] [])) [(.t 1), (.c (.s (.int .i64 0)))]), none⟩,
    ⟨some 3, (.buildSl 1 4 [(.s (.int .i64 0)), (.s (.int .i64 0)), (.s (.int .i64 0)), (.s (.int .i64 0))] [(0, (.c (.s (.int .i64 0)))), (1, (.c (.s (.int .i64 2)))), (2, (.c (.s (.int .i64 1)))), (3, (.c (.s (.int .i64 3))))]), none⟩,
    ⟨some 4, (.call (.c (.fn 22 [] [])) [(.t 2), (.t 3)]), none⟩,
    ⟨some 5, (.move (.t 4)), none⟩,
    ⟨some 6, (.call (.c (.fn 25 [] [])) []), some (5, true)⟩,
    ⟨some 7, (.call (.c (.fn 13 [] [])) [(.t 6)]), some (5, true)⟩,
    ⟨some 8, (.buildSl 1 2 [(.s (.int .i64 0)), (.s (.int .i64 0))] [(0, (.c (.s (.int .i64 0)))), (1, (.c (.s (.int .i64 3))))]), some (5, true)⟩,
    ⟨some 9, (.buildSl 1 1 [(.s (.int .i64 0))] [(0, (.c (.s (.int .i64 0))))]), some (5, true)⟩,
    ⟨some 10, (.buildSl 1 2 [(.s (.int .i64 0)), (.s (.int .i64 0))] [(0, (.c (.s (.int .i64 1)))), (1, (.c (.s (.int .i64 2))))]), some (5, true)⟩,
    ⟨some 11, (.buildSl 1 4 [(.s (.slice none 0 0)), (.s (.slice none 0 0)), (.s (.slice none 0 0)), (.s (.slice none 0 0))] [(0, (.c (.s (.slice none 0 0)))), (1, (.t 8)), (2, (.t 9)), (3, (.t 10))]), some (5, true)⟩,
    ⟨some 12, (.call (.c (.fn 14 [] [])) [(.t 7), (.t 11)]), some (5, true)⟩,
    ⟨some 13, (.pick (.t 5) (.t 12) (.c (.s (.bool false)))), none⟩,
    ⟨some 14, (.move (.t 13)), none⟩,
    ⟨some 15, (.call (.c (.fn 25 [] [])) []), some (14, true)⟩,
    ⟨some 16, (.call (.c (.fn 20 [] [])) [(.t 15), (.c (.s (.int .i64 2))), (.c (.s (.int .i64 2)))]), some (14, true)⟩,
    ⟨some 17, (.pick (.t 14) (.t 16) (.c (.s (.bool false)))), none⟩,
    ⟨some 18, (.move (.t 17)), none⟩,
    ⟨some 19, (.call (.c (.fn 25 [] [])) []), some (18, true)⟩,
    ⟨some 20, (.call (.c (.fn 20 [] [])) [(.t 19), (.c (.s (.int .i64 3))), (.c (.s (.int .i64 0)))]), some (18, true)⟩,
    ⟨some 21, (.un .not (.t 20)), some (18, true)⟩,
    ⟨some 22, (.pick (.t 18) (.t 21) (.c (.s (.bool false)))), none⟩,
    ⟨some 0, (.move (.t 22)), none⟩] [] [])
  .ret)) }
def c_graph_Norm_l0 : ACode :=
  (.seq (.region [
    ⟨some 13, (.bin .lss (.t 12) (.t 11)), none⟩] [] [])
  (.seq (.cond (.t 13)
    .skip
    (.exit 0))
  (.seq (.block 1
    (.seq (.region [
      ⟨some 14, (.move (.t 12)), none⟩,
      ⟨some 15, (.indexAddr 1 (.t 10) (.t 12)), none⟩,
      ⟨some 16, (.load false 1 (.t 15)), none⟩,
      ⟨some 4, (.move (.t 14)), none⟩,
      ⟨some 5, (.move (.t 16)), none⟩] [] [])
    (.seq (.region [
      ⟨some 17, (.move (.t 5)), none⟩,
      ⟨some 18, (.call (.c (.fn 27 [] [])) [(.t 17)]), none⟩,
      ⟨some 19, (.mkFn 28 [] [(.t 1)]), none⟩,
      ⟨some 20, (.call (.c (.fn 26 [] [])) [(.t 18), (.t 19)]), none⟩,
      ⟨some 6, (.move (.t 20)), none⟩] [] [])
    (.seq (.region [
      ⟨some 21, (.move (.t 6)), none⟩,
      ⟨some 22, (.call (.c (.fn 29 [] [])) [(.t 21)]), none⟩] [] [])
    (.region [
      ⟨some 23, (.move (.t 3)), none⟩,
      ⟨some 24, (.move (.t 4)), none⟩,
      ⟨some 25, (.move (.t 6)), none⟩,
      ⟨some 26, (.call (.c (.fn 30 [] [])) [(.t 25)]), none⟩,
      ⟨some 27, (.indexAddr 1 (.t 23) (.t 24)), none⟩,
      ⟨none, (.store 1 (.t 27) (.t 26)), none⟩] [] [])))))
  (.region [
    ⟨some 28, (.bin .add (.t 12) (.c (.s (.int .i64 1)))), none⟩,
    ⟨some 12, (.move (.t 28)), none⟩] [] []))))
def c_graph_Norm_k0 : List Nat := [13, 14, 15, 16, 4, 5, 17, 18, 19, 20, 6, 21, 22, 23, 24, 25, 26, 27, 28]
def c_graph_Norm : ACFun := { ntmps := 30, results := [(.tmp 2)], body :=
  (.seq (.region [
    ⟨some 1, (.box (.t 0)), none⟩,
    ⟨some 2, (.move (.c (.s (.slice none 0 0)))), none⟩] [] [])
  (.seq (.region [
    ⟨some 7, (.load false 1 (.t 1)), none⟩,
    ⟨some 8, (.lenS .s (.t 7)), none⟩,
    ⟨some 9, (.mkSl [(.s (.slice none 0 0))] 1 24 (.t 8) (.t 8)), none⟩,
    ⟨some 3, (.move (.t 9)), none⟩] [] [])
  (.seq (.seq (.region [
    ⟨some 10, (.load false 1 (.t 1)), none⟩,
    ⟨some 11, (.lenS .s (.t 10)), none⟩,
    ⟨some 12, (.move (.c (.s (.int .i64 0)))), none⟩] [] [])
  (.block 0
    (.loop c_graph_Norm_k0 c_graph_Norm_l0)))
  (.seq (.region [
    ⟨some 29, (.move (.t 3)), none⟩,
    ⟨some 2, (.move (.t 29)), none⟩] [] [])
  .ret)))) }
def c_graph_Back_l0 : ACode :=
  (.seq (.region [
    ⟨some 22, (.bin .lss (.t 21) (.t 20)), none⟩] [] [])
  (.seq (.cond (.t 22)
    .skip
    (.exit 2))
  (.seq (.block 3
    (.seq (.region [
      ⟨some 23, (.indexAddr 1 (.t 19) (.t 21)), none⟩,
      ⟨some 24, (.load false 1 (.t 23)), none⟩,
      ⟨some 7, (.move (.t 24)), none⟩] [] [])
    (.region [
      ⟨some 25, (.move (.t 3)), none⟩,
      ⟨some 26, (.move (.t 7)), none⟩,
      ⟨some 27, (.move (.t 3)), none⟩,
      ⟨some 28, (.move (.t 7)), none⟩,
      ⟨some 29, (.indexAddr 1 (.t 27) (.t 28)), none⟩,
      ⟨some 30, (.load false 1 (.t 29)), none⟩,
      ⟨some 31, (.move (.t 4)), none⟩,
      ⟨some 32, (.buildSl 1 1 [(.s (.int .i64 0))] [(0, (.t 31))]), none⟩,
      ⟨some 33, (.append 1 8 (.t 30) (.t 32)), none⟩,
      ⟨some 34, (.indexAddr 1 (.t 25) (.t 26)), none⟩,
      ⟨none, (.store 1 (.t 34) (.t 33)), none⟩] [] [])))
  (.region [
    ⟨some 35, (.bin .add (.t 21) (.c (.s (.int .i64 1)))), none⟩,
    ⟨some 21, (.move (.t 35)), none⟩] [] []))))
def c_graph_Back_k0 : List Nat := [22, 23, 24, 7, 25, 26, 27, 28, 29, 30, 31, 32, 33, 34, 35]
def c_graph_Back_l1 : ACode :=
  (.seq (.region [
    ⟨some 15, (.bin .lss (.t 14) (.t 13)), none⟩] [] [])
  (.seq (.cond (.t 15)
    .skip
    (.exit 0))
  (.seq (.block 1
    (.seq (.region [
      ⟨some 16, (.move (.t 14)), none⟩,
      ⟨some 17, (.indexAddr 1 (.t 12) (.t 14)), none⟩,
      ⟨some 18, (.load false 1 (.t 17)), none⟩,
      ⟨some 4, (.move (.t 16)), none⟩,
      ⟨some 5, (.move (.t 18)), none⟩] [] [])
    (.seq (.region [
      ⟨some 19, (.move (.t 5)), none⟩,
      ⟨some 20, (.lenS .s (.t 19)), none⟩,
      ⟨some 21, (.move (.c (.s (.int .i64 0)))), none⟩] [] [])
    (.block 2
      (.loop c_graph_Back_k0 c_graph_Back_l0)))))
  (.region [
    ⟨some 36, (.bin .add (.t 14) (.c (.s (.int .i64 1)))), none⟩,
    ⟨some 14, (.move (.t 36)), none⟩] [] []))))
def c_graph_Back_k1 : List Nat := [15, 16, 17, 18, 4, 5, 19, 20, 21, 22, 23, 24, 7, 25, 26, 27, 28, 29, 30, 31, 32, 33, 34, 35, 36]
def c_graph_Back : ACFun := { ntmps := 38, results := [(.tmp 2)], body :=
  (.seq (.region [
    ⟨some 2, (.move (.c (.s (.slice none 0 0)))), none⟩] [] [])
  (.seq (.region [
    ⟨some 8, (.move (.t 0)), none⟩,
    ⟨some 9, (.lenS .s (.t 8)), none⟩,
    ⟨some 10, (.mkSl [(.s (.slice none 0 0))] 1 24 (.t 9) (.t 9)), none⟩,
    ⟨some 3, (.move (.t 10)), none⟩] [] [])
  (.seq (.seq (.region [
    ⟨some 11, (.move (.t 0)), none⟩,
    ⟨some 12, (.call (.c (.fn 12 [] [])) [(.t 11)]), none⟩,
    ⟨some 13, (.lenS .s (.t 12)), none⟩,
    ⟨some 14, (.move (.c (.s (.int .i64 0)))), none⟩] [] [])
  (.block 0
    (.loop c_graph_Back_k1 c_graph_Back_l1)))
  (.seq (.region [
    ⟨some 37, (.move (.t 3)), none⟩,
    ⟨some 2, (.move (.t 37)), none⟩] [] [])
  .ret)))) }
def c_gnomonref07_Same_l0 : ACode :=
  (.seq (.seq (.region [
    ⟨some 11, (.move (.t 5)), none⟩,
    ⟨some 12, (.move (.t 0)), none⟩,
    ⟨some 13, (.lenS .s (.t 12)), none⟩,
    ⟨some 14, (.bin .lss (.t 11) (.t 13)), none⟩] [] [])
  (.cond (.t 14)
    .skip
    (.exit 0)))
  (.seq (.block 1
    (.seq (.region [
      ⟨some 17, (.move (.t 0)), none⟩,
      ⟨some 18, (.move (.t 5)), none⟩,
      ⟨some 19, (.indexAddr 1 (.t 17) (.t 18)), none⟩,
      ⟨some 20, (.load false 1 (.t 19)), none⟩,
      ⟨some 21, (.move (.t 1)), none⟩,
      ⟨some 22, (.move (.t 5)), none⟩,
      ⟨some 23, (.indexAddr 1 (.t 21) (.t 22)), none⟩,
      ⟨some 24, (.load false 1 (.t 23)), none⟩,
      ⟨some 25, (.call (.c (.fn 22 [] [])) [(.t 20), (.t 24)]), none⟩,
      ⟨some 26, (.un .not (.t 25)), none⟩] [] [])
    (.cond (.t 26)
      (.seq (.region [
        ⟨some 4, (.move (.c (.s (.bool false)))), none⟩] [] [])
      .ret)
      .skip)))
  (.region [
    ⟨some 15, (.move (.t 5)), none⟩,
    ⟨some 16, (.bin .add (.t 15) (.c (.s (.int .i64 1)))), none⟩,
    ⟨some 5, (.move (.t 16)), none⟩] [] [])))
def c_gnomonref07_Same_k0 : List Nat := [11, 12, 13, 14, 17, 18, 19, 20, 21, 22, 23, 24, 25, 26, 15, 16]
def c_gnomonref07_Same : ACFun := { ntmps := 27, results := [(.tmp 4)], body :=
  (.seq (.region [
    ⟨some 4, (.move (.c (.s (.bool false)))), none⟩] [] [])
  (.seq (.seq (.region [
    ⟨some 6, (.move (.t 0)), none⟩,
    ⟨some 7, (.lenS .s (.t 6)), none⟩,
    ⟨some 8, (.move (.t 1)), none⟩,
    ⟨some 9, (.lenS .s (.t 8)), none⟩,
    ⟨some 10, (.bin .neq (.t 7) (.t 9)), none⟩] [] [])
  (.cond (.t 10)
    (.seq (.region [
      ⟨some 4, (.move (.c (.s (.bool false)))), none⟩] [] [])
    .ret)
    .skip))
  (.seq (.seq (.region [
    ⟨some 5, (.move (.c (.s (.int .i64 0)))), none⟩] [] [])
  (.block 0
    (.loop c_gnomonref07_Same_k0 c_gnomonref07_Same_l0)))
  (.seq (.region [
    ⟨some 4, (.move (.c (.s (.bool true)))), none⟩] [] [])
  .ret)))) }
def c_graph_Reach_l0 : ACode :=
  (.seq (.region [
    ⟨some 20, (.bin .lss (.t 19) (.t 18)), none⟩] [] [])
  (.seq (.cond (.t 20)
    .skip
    (.exit 0))
  (.seq (.block 1
    (.seq (.region [
      ⟨some 21, (.indexAddr 1 (.t 17) (.t 19)), none⟩,
      ⟨some 22, (.load false 1 (.t 21)), none⟩,
      ⟨some 9, (.move (.t 22)), none⟩] [] [])
    (.region [
      ⟨some 23, (.move (.t 7)), none⟩,
      ⟨some 24, (.move (.t 9)), none⟩,
      ⟨some 25, (.call (.t 23) [(.t 24)]), none⟩] [] [])))
  (.region [
    ⟨some 26, (.bin .add (.t 19) (.c (.s (.int .i64 1)))), none⟩,
    ⟨some 19, (.move (.t 26)), none⟩] [] []))))
def c_graph_Reach_k0 : List Nat := [20, 21, 22, 9, 23, 24, 25, 26]
def c_graph_Reach_l1 : ACode :=
  (.seq (.region [
    ⟨some 47, (.bin .lss (.t 46) (.t 45)), none⟩] [] [])
  (.seq (.cond (.t 47)
    .skip
    (.exit 4))
  (.seq (.block 5
    (.seq (.region [
      ⟨some 48, (.indexAddr 1 (.t 44) (.t 46)), none⟩,
      ⟨some 49, (.load false 1 (.t 48)), none⟩,
      ⟨some 12, (.move (.t 49)), none⟩] [] [])
    (.region [
      ⟨some 50, (.move (.t 7)), none⟩,
      ⟨some 51, (.move (.t 12)), none⟩,
      ⟨some 52, (.call (.t 50) [(.t 51)]), none⟩] [] [])))
  (.region [
    ⟨some 53, (.bin .add (.t 46) (.c (.s (.int .i64 1)))), none⟩,
    ⟨some 46, (.move (.t 53)), none⟩] [] []))))
def c_graph_Reach_k1 : List Nat := [47, 48, 49, 12, 50, 51, 52, 53]
def c_graph_Reach_l2 : ACode :=
  (.seq (.seq (.region [
    ⟨some 27, (.load false 1 (.t 6)), none⟩,
    ⟨some 28, (.lenS .s (.t 27)), none⟩,
    ⟨some 29, (.bin .gtr (.t 28) (.c (.s (.int .i64 0)))), none⟩] [] [])
  (.cond (.t 29)
    .skip
    (.exit 2)))
  (.block 3
    (.seq (.region [
      ⟨some 30, (.load false 1 (.t 6)), none⟩,
      ⟨some 31, (.load false 1 (.t 6)), none⟩,
      ⟨some 32, (.lenS .s (.t 31)), none⟩,
      ⟨some 33, (.bin .sub (.t 32) (.c (.s (.int .i64 1)))), none⟩,
      ⟨some 34, (.indexAddr 1 (.t 30) (.t 33)), none⟩,
      ⟨some 35, (.load false 1 (.t 34)), none⟩,
      ⟨some 10, (.move (.t 35)), none⟩] [] [])
    (.seq (.region [
      ⟨some 36, (.load false 1 (.t 6)), none⟩,
      ⟨some 37, (.load false 1 (.t 6)), none⟩,
      ⟨some 38, (.lenS .s (.t 37)), none⟩,
      ⟨some 39, (.bin .sub (.t 38) (.c (.s (.int .i64 1)))), none⟩,
      ⟨some 40, (.subSl 1 (.t 36) none (some (.t 39)) none), none⟩,
      ⟨none, (.store 1 (.t 6) (.t 40)), none⟩] [] [])
    (.seq (.region [
      ⟨some 41, (.load false 1 (.t 2)), none⟩,
      ⟨some 42, (.move (.t 10)), none⟩,
      ⟨some 43, (.indexAddr 1 (.t 41) (.t 42)), none⟩,
      ⟨some 44, (.load false 1 (.t 43)), none⟩,
      ⟨some 45, (.lenS .s (.t 44)), none⟩,
      ⟨some 46, (.move (.c (.s (.int .i64 0)))), none⟩] [] [])
    (.block 4
      (.loop c_graph_Reach_k1 c_graph_Reach_l1)))))))
def c_graph_Reach_k2 : List Nat := [27, 28, 29, 30, 31, 32, 33, 34, 35, 10, 36, 37, 38, 39, 40, 41, 42, 43, 44, 45, 46, 47, 48, 49, 12, 50, 51, 52, 53]
def c_graph_Reach : ACFun := { ntmps := 55, results := [(.tmp 4)], body :=
  (.seq (.region [
    ⟨some 2, (.box (.t 0)), none⟩,
    ⟨some 4, (.move (.c (.s (.slice none 0 0)))), none⟩] [] [])
  (.seq (.region [
    ⟨some 13, (.load false 1 (.t 2)), none⟩,
    ⟨some 14, (.lenS .s (.t 13)), none⟩,
    ⟨some 15, (.mkSl [(.s (.bool false))] 1 1 (.t 14) (.t 14)), none⟩,
    ⟨some 5, (.alloc [(.s (.slice none 0 0))]), none⟩,
    ⟨none, (.store 1 (.t 5) (.t 15)), none⟩] [] [])
  (.seq (.region [
    ⟨some 6, (.alloc [(.s (.slice none 0 0))]), none⟩] [] [])
  (.seq (.region [
    ⟨some 16, (.mkFn 32 [] [(.t 2), (.t 5), (.t 6)]), none⟩,
    ⟨some 7, (.move (.t 16)), none⟩] [] [])
  (.seq (.seq (.region [
    ⟨some 17, (.move (.t 1)), none⟩,
    ⟨some 18, (.lenS .s (.t 17)), none⟩,
    ⟨some 19, (.move (.c (.s (.int .i64 0)))), none⟩] [] [])
  (.block 0
    (.loop c_graph_Reach_k0 c_graph_Reach_l0)))
  (.seq (.block 2
    (.loop c_graph_Reach_k2 c_graph_Reach_l2))
  (.seq (.region [
    ⟨some 54, (.load false 1 (.t 5)), none⟩,
    ⟨some 4, (.move (.t 54)), none⟩] [] [])
  .ret))))))) }
def c_graph_Leads : ACFun := { ntmps := 24, results := [(.tmp 6)], body :=
  (.seq (.region [
    ⟨some 6, (.move (.c (.s (.bool false)))), none⟩] [] [])
  (.seq (.region [
    ⟨some 7, (.move (.t 2)), none⟩,
    ⟨some 8, (.bin .geq (.t 7) (.c (.s (.int .i64 0)))), none⟩,
    ⟨some 9, (.move (.t 8)), none⟩,
    ⟨some 10, (.move (.t 2)), some (9, true)⟩,
    ⟨some 11, (.move (.t 0)), some (9, true)⟩,
    ⟨some 12, (.lenS .s (.t 11)), some (9, true)⟩,
    ⟨some 13, (.bin .lss (.t 10) (.t 12)), some (9, true)⟩,
    ⟨some 14, (.pick (.t 9) (.t 13) (.c (.s (.bool false)))), none⟩,
    ⟨some 15, (.move (.t 14)), none⟩,
    ⟨some 16, (.move (.t 0)), some (15, true)⟩,
    ⟨some 17, (.move (.t 1)), some (15, true)⟩,
    ⟨some 18, (.buildSl 1 1 [(.s (.int .i64 0))] [(0, (.t 17))]), some (15, true)⟩,
    ⟨some 19, (.call (.c (.fn 18 [] [])) [(.t 16), (.t 18)]), some (15, true)⟩,
    ⟨some 20, (.move (.t 2)), some (15, true)⟩,
    ⟨some 21, (.indexAddr 1 (.t 19) (.t 20)), some (15, true)⟩,
    ⟨some 22, (.load false 1 (.t 21)), some (15, true)⟩,
    ⟨some 23, (.pick (.t 15) (.t 22) (.c (.s (.bool false)))), none⟩,
    ⟨some 6, (.move (.t 23)), none⟩] [] [])
  .ret)) }
def c_gnomonref01_Same_l0 : ACode :=
  (.seq (.seq (.region [
    ⟨some 11, (.move (.t 5)), none⟩,
    ⟨some 12, (.move (.t 0)), none⟩,
    ⟨some 13, (.lenS .s (.t 12)), none⟩,
    ⟨some 14, (.bin .lss (.t 11) (.t 13)), none⟩] [] [])
  (.cond (.t 14)
    .skip
    (.exit 0)))
  (.seq (.block 1
    (.seq (.region [
      ⟨some 17, (.move (.t 0)), none⟩,
      ⟨some 18, (.move (.t 5)), none⟩,
      ⟨some 19, (.indexAddr 1 (.t 17) (.t 18)), none⟩,
      ⟨some 20, (.load false 1 (.t 19)), none⟩,
      ⟨some 21, (.move (.t 1)), none⟩,
      ⟨some 22, (.move (.t 5)), none⟩,
      ⟨some 23, (.indexAddr 1 (.t 21) (.t 22)), none⟩,
      ⟨some 24, (.load false 1 (.t 23)), none⟩,
      ⟨some 25, (.bin .neq (.t 20) (.t 24)), none⟩] [] [])
    (.cond (.t 25)
      (.seq (.region [
        ⟨some 4, (.move (.c (.s (.bool false)))), none⟩] [] [])
      .ret)
      .skip)))
  (.region [
    ⟨some 15, (.move (.t 5)), none⟩,
    ⟨some 16, (.bin .add (.t 15) (.c (.s (.int .i64 1)))), none⟩,
    ⟨some 5, (.move (.t 16)), none⟩] [] [])))
def c_gnomonref01_Same_k0 : List Nat := [11, 12, 13, 14, 17, 18, 19, 20, 21, 22, 23, 24, 25, 15, 16]
def c_gnomonref01_Same : ACFun := { ntmps := 26, results := [(.tmp 4)], body :=
  (.seq (.region [
    ⟨some 4, (.move (.c (.s (.bool false)))), none⟩] [] [])
  (.seq (.seq (.region [
    ⟨some 6, (.move (.t 0)), none⟩,
    ⟨some 7, (.lenS .s (.t 6)), none⟩,
    ⟨some 8, (.move (.t 1)), none⟩,
    ⟨some 9, (.lenS .s (.t 8)), none⟩,
    ⟨some 10, (.bin .neq (.t 7) (.t 9)), none⟩] [] [])
  (.cond (.t 10)
    (.seq (.region [
      ⟨some 4, (.move (.c (.s (.bool false)))), none⟩] [] [])
    .ret)
    .skip))
  (.seq (.seq (.region [
    ⟨some 5, (.move (.c (.s (.int .i64 0)))), none⟩] [] [])
  (.block 0
    (.loop c_gnomonref01_Same_k0 c_gnomonref01_Same_l0)))
  (.seq (.region [
    ⟨some 4, (.move (.c (.s (.bool true)))), none⟩] [] [])
  .ret)))) }
def c_graph_Post_l0 : ACode :=
  (.seq (.seq (.region [
    ⟨some 29, (.move (.t 7)), none⟩,
    ⟨some 30, (.lenS .s (.t 29)), none⟩,
    ⟨some 31, (.bin .gtr (.t 30) (.c (.s (.int .i64 0)))), none⟩] [] [])
  (.cond (.t 31)
    .skip
    (.exit 0)))
  (.block 1
    (.seq (.region [
      ⟨some 32, (.move (.t 7)), none⟩,
      ⟨some 33, (.move (.t 7)), none⟩,
      ⟨some 34, (.lenS .s (.t 33)), none⟩,
      ⟨some 35, (.bin .sub (.t 34) (.c (.s (.int .i64 1)))), none⟩,
      ⟨some 36, (.indexAddr 1 (.t 32) (.t 35)), none⟩,
      ⟨some 37, (.load false 1 (.t 36)), none⟩,
      ⟨some 9, (.move (.t 37)), none⟩] [] [])
    (.seq (.region [
      ⟨some 38, (.move (.t 5)), none⟩,
      ⟨some 39, (.move (.t 9)), none⟩,
      ⟨some 40, (.indexAddr 1 (.t 38) (.t 39)), none⟩,
      ⟨some 41, (.load false 1 (.t 40)), none⟩,
      ⟨some 42, (.mkFn 34 [] [(.t 6)]), none⟩,
      ⟨some 43, (.call (.c (.fn 33 [] [])) [(.t 41), (.t 42)]), none⟩,
      ⟨some 10, (.move (.t 43)), none⟩] [] [])
    (.seq (.seq (.region [
      ⟨some 44, (.move (.t 10)), none⟩,
      ⟨some 45, (.bin .lss (.t 44) (.c (.s (.int .i64 0)))), none⟩] [] [])
    (.cond (.t 45)
      (.seq (.region [
        ⟨some 46, (.move (.t 8)), none⟩,
        ⟨some 47, (.move (.t 9)), none⟩,
        ⟨some 48, (.buildSl 1 1 [(.s (.int .i64 0))] [(0, (.t 47))]), none⟩,
        ⟨some 49, (.append 1 8 (.t 46) (.t 48)), none⟩,
        ⟨some 8, (.move (.t 49)), none⟩] [] [])
      (.seq (.region [
        ⟨some 50, (.move (.t 7)), none⟩,
        ⟨some 51, (.move (.t 7)), none⟩,
        ⟨some 52, (.lenS .s (.t 51)), none⟩,
        ⟨some 53, (.bin .sub (.t 52) (.c (.s (.int .i64 1)))), none⟩,
        ⟨some 54, (.subSl 1 (.t 50) none (some (.t 53)) none), none⟩,
        ⟨some 7, (.move (.t 54)), none⟩] [] [])
      (.exit 1)))
      .skip))
    (.seq (.region [
      ⟨some 55, (.load false 1 (.t 6)), none⟩,
      ⟨some 56, (.move (.t 5)), none⟩,
      ⟨some 57, (.move (.t 9)), none⟩,
      ⟨some 58, (.indexAddr 1 (.t 56) (.t 57)), none⟩,
      ⟨some 59, (.load false 1 (.t 58)), none⟩,
      ⟨some 60, (.move (.t 10)), none⟩,
      ⟨some 61, (.indexAddr 1 (.t 59) (.t 60)), none⟩,
      ⟨some 62, (.load false 1 (.t 61)), none⟩,
      ⟨some 63, (.indexAddr 1 (.t 55) (.t 62)), none⟩,
      ⟨none, (.store 1 (.t 63) (.c (.s (.bool true)))), none⟩] [] [])
    (.region [
      ⟨some 64, (.move (.t 7)), none⟩,
      ⟨some 65, (.move (.t 5)), none⟩,
      ⟨some 66, (.move (.t 9)), none⟩,
      ⟨some 67, (.indexAddr 1 (.t 65) (.t 66)), none⟩,
      ⟨some 68, (.load false 1 (.t 67)), none⟩,
      ⟨some 69, (.move (.t 10)), none⟩,
      ⟨some 70, (.indexAddr 1 (.t 68) (.t 69)), none⟩,
      ⟨some 71, (.load false 1 (.t 70)), none⟩,
      ⟨some 72, (.buildSl 1 1 [(.s (.int .i64 0))] [(0, (.t 71))]), none⟩,
      ⟨some 73, (.append 1 8 (.t 64) (.t 72)), none⟩,
      ⟨some 7, (.move (.t 73)), none⟩] [] [])))))))
def c_graph_Post_k0 : List Nat := [29, 30, 31, 32, 33, 34, 35, 36, 37, 9, 38, 39, 40, 41, 42, 43, 10, 44, 45, 46, 47, 48, 49, 50, 51, 52, 53, 54, 55, 56, 57, 58, 59, 60, 61, 62, 63, 64, 65, 66, 67, 68, 69, 70, 71, 72, 73]
def c_graph_Post : ACFun := { ntmps := 77, results := [(.tmp 4)], body :=
  (.seq (.region [
    ⟨some 4, (.move (.c (.s (.slice none 0 0)))), none⟩] [] [])
  (.seq (.seq (.region [
    ⟨some 11, (.move (.t 1)), none⟩,
    ⟨some 12, (.bin .lss (.t 11) (.c (.s (.int .i64 0)))), none⟩,
    ⟨some 13, (.move (.t 12)), none⟩,
    ⟨some 14, (.move (.t 1)), some (13, false)⟩,
    ⟨some 15, (.move (.t 0)), some (13, false)⟩,
    ⟨some 16, (.lenS .s (.t 15)), some (13, false)⟩,
    ⟨some 17, (.bin .geq (.t 14) (.t 16)), some (13, false)⟩,
    ⟨some 18, (.pick (.t 13) (.c (.s (.bool true))) (.t 17)), none⟩] [] [])
  (.cond (.t 18)
    (.seq (.region [
      ⟨some 4, (.move (.c (.s (.slice none 0 0)))), none⟩] [] [])
    .ret)
    .skip))
  (.seq (.region [
    ⟨some 19, (.move (.t 0)), none⟩,
    ⟨some 20, (.call (.c (.fn 12 [] [])) [(.t 19)]), none⟩,
    ⟨some 5, (.move (.t 20)), none⟩] [] [])
  (.seq (.region [
    ⟨some 21, (.move (.t 0)), none⟩,
    ⟨some 22, (.lenS .s (.t 21)), none⟩,
    ⟨some 23, (.mkSl [(.s (.bool false))] 1 1 (.t 22) (.t 22)), none⟩,
    ⟨some 6, (.alloc [(.s (.slice none 0 0))]), none⟩,
    ⟨none, (.store 1 (.t 6) (.t 23)), none⟩] [] [])
  (.seq (.region [
    ⟨some 24, (.load false 1 (.t 6)), none⟩,
    ⟨some 25, (.move (.t 1)), none⟩,
    ⟨some 26, (.indexAddr 1 (.t 24) (.t 25)), none⟩,
    ⟨none, (.store 1 (.t 26) (.c (.s (.bool true)))), none⟩] [] [])
  (.seq (.region [
    ⟨some 27, (.move (.t 1)), none⟩,
    ⟨some 28, (.buildSl 1 1 [(.s (.int .i64 0))] [(0, (.t 27))]), none⟩,
    ⟨some 7, (.move (.t 28)), none⟩] [] [])
  (.seq (.region [
    ⟨some 8, (.move (.c (.s (.slice none 0 0)))), none⟩] [] [])
  (.seq (.block 0
    (.loop c_graph_Post_k0 c_graph_Post_l0))
  (.seq (.region [
    ⟨some 74, (.move (.t 8)), none⟩,
    ⟨some 75, (.call (.c (.fn 35 [] [])) [(.t 74)]), none⟩] [] [])
  (.seq (.region [
    ⟨some 76, (.move (.t 8)), none⟩,
    ⟨some 4, (.move (.t 76)), none⟩] [] [])
  .ret)))))))))) }
def c_gnomonlaw07_known : ACFun := { ntmps := 6, results := [(.tmp 0)], body :=
  (.seq (.region [
    ⟨some 0, (.move (.c (.s (.slice none 0 0)))), none⟩] [] [])
  (.seq (.region [
    ⟨some 1, (.buildSl 1 2 [(.s (.int .i64 0)), (.s (.int .i64 0))] [(0, (.c (.s (.int .i64 1)))), (1, (.c (.s (.int .i64 2))))]), none⟩,
    ⟨some 2, (.buildSl 1 1 [(.s (.int .i64 0))] [(0, (.c (.s (.int .i64 3))))]), none⟩,
    ⟨some 3, (.buildSl 1 1 [(.s (.int .i64 0))] [(0, (.c (.s (.int .i64 3))))]), none⟩,
    ⟨some 4, (.buildSl 1 1 [(.s (.int .i64 0))] [(0, (.c (.s (.int .i64 1))))]), none⟩,
    ⟨some 5, (.buildSl 1 4 [(.s (.slice none 0 0)), (.s (.slice none 0 0)), (.s (.slice none 0 0)), (.s (.slice none 0 0))] [(0, (.t 1)), (1, (.t 2)), (2, (.t 3)), (3, (.t 4))]), none⟩,
    ⟨some 0, (.move (.t 5)), none⟩] [] [])
  .ret)) }
def c_slices_DeleteFunc_int_int_l0 : ACode :=
  (.seq (.seq (.region [
    ⟨some 16, (.move (.t 6)), none⟩,
    ⟨some 17, (.move (.t 0)), none⟩,
    ⟨some 18, (.lenS .s (.t 17)), none⟩,
    ⟨some 19, (.bin .lss (.t 16) (.t 18)), none⟩] [] [])
  (.cond (.t 19)
    .skip
    (.exit 0)))
  (.seq (.block 1
    (.seq (.region [
      ⟨some 22, (.move (.t 0)), none⟩,
      ⟨some 23, (.move (.t 6)), none⟩,
      ⟨some 24, (.indexAddr 1 (.t 22) (.t 23)), none⟩,
      ⟨some 25, (.load false 1 (.t 24)), none⟩,
      ⟨some 7, (.move (.t 25)), none⟩] [] [])
    (.seq (.region [
      ⟨some 26, (.move (.t 1)), none⟩,
      ⟨some 27, (.move (.t 7)), none⟩,
      ⟨some 28, (.call (.t 26) [(.t 27)]), none⟩,
      ⟨some 29, (.un .not (.t 28)), none⟩] [] [])
    (.cond (.t 29)
      (.seq (.region [
        ⟨some 30, (.move (.t 0)), none⟩,
        ⟨some 31, (.move (.t 5)), none⟩,
        ⟨some 32, (.move (.t 7)), none⟩,
        ⟨some 33, (.indexAddr 1 (.t 30) (.t 31)), none⟩,
        ⟨none, (.store 1 (.t 33) (.t 32)), none⟩] [] [])
      (.region [
        ⟨some 34, (.move (.t 5)), none⟩,
        ⟨some 35, (.bin .add (.t 34) (.c (.s (.int .i64 1)))), none⟩,
        ⟨some 5, (.move (.t 35)), none⟩] [] []))
      .skip))))
  (.region [
    ⟨some 20, (.move (.t 6)), none⟩,
    ⟨some 21, (.bin .add (.t 20) (.c (.s (.int .i64 1)))), none⟩,
    ⟨some 6, (.move (.t 21)), none⟩] [] [])))
def c_slices_DeleteFunc_int_int_k0 : List Nat := [16, 17, 18, 19, 22, 23, 24, 25, 7, 26, 27, 28, 29, 30, 31, 32, 33, 34, 35, 20, 21]
def c_slices_DeleteFunc_int_int : ACFun := { ntmps := 42, results := [(.tmp 4)], body :=
  (.seq (.region [
    ⟨some 4, (.move (.c (.s (.slice none 0 0)))), none⟩] [] [])
  (.seq (.region [
    ⟨some 8, (.move (.t 0)), none⟩,
    ⟨some 9, (.move (.t 1)), none⟩,
    ⟨some 10, (.call (.c (.fn 33 [] [])) [(.t 8), (.t 9)]), none⟩,
    ⟨some 5, (.move (.t 10)), none⟩] [] [])
  (.seq (.seq (.region [
    ⟨some 11, (.move (.t 5)), none⟩,
    ⟨some 12, (.bin .eql (.t 11) (.c (.s (.int .i64 (-1))))), none⟩] [] [])
  (.cond (.t 12)
    (.seq (.region [
      ⟨some 13, (.move (.t 0)), none⟩,
      ⟨some 4, (.move (.t 13)), none⟩] [] [])
    .ret)
    .skip))
  (.seq (.seq (.region [
    ⟨some 14, (.move (.t 5)), none⟩,
    ⟨some 15, (.bin .add (.t 14) (.c (.s (.int .i64 1)))), none⟩,
    ⟨some 6, (.move (.t 15)), none⟩] [] [])
  (.block 0
    (.loop c_slices_DeleteFunc_int_int_k0 c_slices_DeleteFunc_int_int_l0)))
  (.seq (.region [
    ⟨some 36, (.move (.t 0)), none⟩,
    ⟨some 37, (.move (.t 5)), none⟩,
    ⟨some 38, (.subSl 1 (.t 36) (some (.t 37)) none none), none⟩,
    ⟨none, (.clearSl 1 [(.s (.int .i64 0))] (.t 38)), none⟩] [] [])
  (.seq (.region [
    ⟨some 39, (.move (.t 0)), none⟩,
    ⟨some 40, (.move (.t 5)), none⟩,
    ⟨some 41, (.subSl 1 (.t 39) none (some (.t 40)) none), none⟩,
    ⟨some 4, (.move (.t 41)), none⟩] [] [])
  .ret)))))) }
def c_slices_Clone_int_int : ACFun := { ntmps := 8, results := [(.tmp 2)], body :=
  (.seq (.region [
    ⟨some 2, (.move (.c (.s (.slice none 0 0)))), none⟩] [] [])
  (.seq (.seq (.region [
    ⟨some 3, (.move (.t 0)), none⟩,
    ⟨some 4, (.eqNil .s false (.t 3)), none⟩] [] [])
  (.cond (.t 4)
    (.seq (.region [
      ⟨some 2, (.move (.c (.s (.slice none 0 0)))), none⟩] [] [])
    .ret)
    .skip))
  (.seq (.region [
    ⟨some 5, (.buildSl 1 0 [] []), none⟩,
    ⟨some 6, (.move (.t 0)), none⟩,
    ⟨some 7, (.append 1 8 (.t 5) (.t 6)), none⟩,
    ⟨some 2, (.move (.t 7)), none⟩] [] [])
  .ret))) }
def c_graph_Norm_1 : ACFun := { ntmps := 12, results := [(.tmp 3)], body :=
  (.seq (.region [
    ⟨some 3, (.move (.c (.s (.bool false)))), none⟩] [] [])
  (.seq (.region [
    ⟨some 4, (.move (.t 0)), none⟩,
    ⟨some 5, (.bin .lss (.t 4) (.c (.s (.int .i64 0)))), none⟩,
    ⟨some 6, (.move (.t 5)), none⟩,
    ⟨some 7, (.move (.t 0)), some (6, false)⟩,
    ⟨some 8, (.load false 1 (.t 1)), some (6, false)⟩,
    ⟨some 9, (.lenS .s (.t 8)), some (6, false)⟩,
    ⟨some 10, (.bin .geq (.t 7) (.t 9)), some (6, false)⟩,
    ⟨some 11, (.pick (.t 6) (.c (.s (.bool true))) (.t 10)), none⟩,
    ⟨some 3, (.move (.t 11)), none⟩] [] [])
  .ret)) }
def c_slices_Sort_int_int : ACFun := { ntmps := 11, results := [], body :=
  (.seq (.region [
    ⟨some 3, (.move (.t 0)), none⟩,
    ⟨some 4, (.lenS .s (.t 3)), none⟩,
    ⟨some 2, (.move (.t 4)), none⟩] [] [])
  (.region [
    ⟨some 5, (.move (.t 0)), none⟩,
    ⟨some 6, (.move (.t 2)), none⟩,
    ⟨some 7, (.move (.t 2)), none⟩,
    ⟨some 8, (.conv .u64 (.t 7)), none⟩,
    ⟨some 9, (.call (.c (.fn 38 [] [])) [(.t 8)]), none⟩,
    ⟨some 10, (.call (.c (.fn 37 [] [])) [(.t 5), (.c (.s (.int .i64 0))), (.t 6), (.t 9)]), none⟩] [] [])) }
def c_slices_Compact_int_int_l0 : ACode :=
  (.seq (.seq (.region [
    ⟨some 29, (.move (.t 5)), none⟩,
    ⟨some 30, (.move (.t 4)), none⟩,
    ⟨some 31, (.lenS .s (.t 30)), none⟩,
    ⟨some 32, (.bin .lss (.t 29) (.t 31)), none⟩] [] [])
  (.cond (.t 32)
    .skip
    (.exit 2)))
  (.seq (.block 3
    (.seq (.region [
      ⟨some 35, (.move (.t 4)), none⟩,
      ⟨some 36, (.move (.t 5)), none⟩,
      ⟨some 37, (.indexAddr 1 (.t 35) (.t 36)), none⟩,
      ⟨some 38, (.load false 1 (.t 37)), none⟩,
      ⟨some 39, (.move (.t 4)), none⟩,
      ⟨some 40, (.move (.t 5)), none⟩,
      ⟨some 41, (.bin .sub (.t 40) (.c (.s (.int .i64 1)))), none⟩,
      ⟨some 42, (.indexAddr 1 (.t 39) (.t 41)), none⟩,
      ⟨some 43, (.load false 1 (.t 42)), none⟩,
      ⟨some 44, (.bin .neq (.t 38) (.t 43)), none⟩] [] [])
    (.cond (.t 44)
      (.seq (.region [
        ⟨some 45, (.move (.t 0)), none⟩,
        ⟨some 46, (.move (.t 3)), none⟩,
        ⟨some 47, (.move (.t 4)), none⟩,
        ⟨some 48, (.move (.t 5)), none⟩,
        ⟨some 49, (.indexAddr 1 (.t 47) (.t 48)), none⟩,
        ⟨some 50, (.load false 1 (.t 49)), none⟩,
        ⟨some 51, (.indexAddr 1 (.t 45) (.t 46)), none⟩,
        ⟨none, (.store 1 (.t 51) (.t 50)), none⟩] [] [])
      (.region [
        ⟨some 52, (.move (.t 3)), none⟩,
        ⟨some 53, (.bin .add (.t 52) (.c (.s (.int .i64 1)))), none⟩,
        ⟨some 3, (.move (.t 53)), none⟩] [] []))
      .skip)))
  (.region [
    ⟨some 33, (.move (.t 5)), none⟩,
    ⟨some 34, (.bin .add (.t 33) (.c (.s (.int .i64 1)))), none⟩,
    ⟨some 5, (.move (.t 34)), none⟩] [] [])))
def c_slices_Compact_int_int_k0 : List Nat := [29, 30, 31, 32, 35, 36, 37, 38, 39, 40, 41, 42, 43, 44, 45, 46, 47, 48, 49, 50, 51, 52, 53, 33, 34]
def c_slices_Compact_int_int_l1 : ACode :=
  (.seq (.seq (.region [
    ⟨some 10, (.move (.t 3)), none⟩,
    ⟨some 11, (.move (.t 0)), none⟩,
    ⟨some 12, (.lenS .s (.t 11)), none⟩,
    ⟨some 13, (.bin .lss (.t 10) (.t 12)), none⟩] [] [])
  (.cond (.t 13)
    .skip
    (.exit 0)))
  (.seq (.block 1
    (.seq (.region [
      ⟨some 16, (.move (.t 0)), none⟩,
      ⟨some 17, (.move (.t 3)), none⟩,
      ⟨some 18, (.indexAddr 1 (.t 16) (.t 17)), none⟩,
      ⟨some 19, (.load false 1 (.t 18)), none⟩,
      ⟨some 20, (.move (.t 0)), none⟩,
      ⟨some 21, (.move (.t 3)), none⟩,
      ⟨some 22, (.bin .sub (.t 21) (.c (.s (.int .i64 1)))), none⟩,
      ⟨some 23, (.indexAddr 1 (.t 20) (.t 22)), none⟩,
      ⟨some 24, (.load false 1 (.t 23)), none⟩,
      ⟨some 25, (.bin .eql (.t 19) (.t 24)), none⟩] [] [])
    (.cond (.t 25)
      (.seq (.region [
        ⟨some 26, (.move (.t 0)), none⟩,
        ⟨some 27, (.move (.t 3)), none⟩,
        ⟨some 28, (.subSl 1 (.t 26) (some (.t 27)) none none), none⟩,
        ⟨some 4, (.move (.t 28)), none⟩] [] [])
      (.seq (.seq (.region [
        ⟨some 5, (.move (.c (.s (.int .i64 1)))), none⟩] [] [])
      (.block 2
        (.loop c_slices_Compact_int_int_k0 c_slices_Compact_int_int_l0)))
      (.seq (.region [
        ⟨some 54, (.move (.t 0)), none⟩,
        ⟨some 55, (.move (.t 3)), none⟩,
        ⟨some 56, (.subSl 1 (.t 54) (some (.t 55)) none none), none⟩,
        ⟨none, (.clearSl 1 [(.s (.int .i64 0))] (.t 56)), none⟩] [] [])
      (.seq (.region [
        ⟨some 57, (.move (.t 0)), none⟩,
        ⟨some 58, (.move (.t 3)), none⟩,
        ⟨some 59, (.subSl 1 (.t 57) none (some (.t 58)) none), none⟩,
        ⟨some 2, (.move (.t 59)), none⟩] [] [])
      .ret))))
      .skip)))
  (.region [
    ⟨some 14, (.move (.t 3)), none⟩,
    ⟨some 15, (.bin .add (.t 14) (.c (.s (.int .i64 1)))), none⟩,
    ⟨some 3, (.move (.t 15)), none⟩] [] [])))
def c_slices_Compact_int_int_k1 : List Nat := [10, 11, 12, 13, 16, 17, 18, 19, 20, 21, 22, 23, 24, 25, 26, 27, 28, 4, 5, 29, 30, 31, 32, 35, 36, 37, 38, 39, 40, 41, 42, 43, 44, 45, 46, 47, 48, 49, 50, 51, 52, 53, 33, 34, 54, 55, 56, 57, 58, 59, 14, 15]
def c_slices_Compact_int_int : ACFun := { ntmps := 61, results := [(.tmp 2)], body :=
  (.seq (.region [
    ⟨some 2, (.move (.c (.s (.slice none 0 0)))), none⟩] [] [])
  (.seq (.seq (.region [
    ⟨some 6, (.move (.t 0)), none⟩,
    ⟨some 7, (.lenS .s (.t 6)), none⟩,
    ⟨some 8, (.bin .lss (.t 7) (.c (.s (.int .i64 2)))), none⟩] [] [])
  (.cond (.t 8)
    (.seq (.region [
      ⟨some 9, (.move (.t 0)), none⟩,
      ⟨some 2, (.move (.t 9)), none⟩] [] [])
    .ret)
    .skip))
  (.seq (.seq (.region [
    ⟨some 3, (.move (.c (.s (.int .i64 1)))), none⟩] [] [])
  (.block 0
    (.loop c_slices_Compact_int_int_k1 c_slices_Compact_int_int_l1)))
  (.seq (.region [
    ⟨some 60, (.move (.t 0)), none⟩,
    ⟨some 2, (.move (.t 60)), none⟩] [] [])
  .ret)))) }
def c_graph_Reach_1 : ACFun := { ntmps := 27, results := [], body :=
  (.seq (.region [
    ⟨some 5, (.move (.t 0)), none⟩,
    ⟨some 6, (.bin .geq (.t 5) (.c (.s (.int .i64 0)))), none⟩,
    ⟨some 7, (.move (.t 6)), none⟩,
    ⟨some 8, (.move (.t 0)), some (7, true)⟩,
    ⟨some 9, (.load false 1 (.t 1)), some (7, true)⟩,
    ⟨some 10, (.lenS .s (.t 9)), some (7, true)⟩,
    ⟨some 11, (.bin .lss (.t 8) (.t 10)), some (7, true)⟩,
    ⟨some 12, (.pick (.t 7) (.t 11) (.c (.s (.bool false)))), none⟩,
    ⟨some 13, (.move (.t 12)), none⟩,
    ⟨some 14, (.load false 1 (.t 2)), some (13, true)⟩,
    ⟨some 15, (.move (.t 0)), some (13, true)⟩,
    ⟨some 16, (.indexAddr 1 (.t 14) (.t 15)), some (13, true)⟩,
    ⟨some 17, (.load false 1 (.t 16)), some (13, true)⟩,
    ⟨some 18, (.un .not (.t 17)), some (13, true)⟩,
    ⟨some 19, (.pick (.t 13) (.t 18) (.c (.s (.bool false)))), none⟩] [] [])
  (.cond (.t 19)
    (.seq (.region [
      ⟨some 20, (.load false 1 (.t 2)), none⟩,
      ⟨some 21, (.move (.t 0)), none⟩,
      ⟨some 22, (.indexAddr 1 (.t 20) (.t 21)), none⟩,
      ⟨none, (.store 1 (.t 22) (.c (.s (.bool true)))), none⟩] [] [])
    (.region [
      ⟨some 23, (.load false 1 (.t 3)), none⟩,
      ⟨some 24, (.move (.t 0)), none⟩,
      ⟨some 25, (.buildSl 1 1 [(.s (.int .i64 0))] [(0, (.t 24))]), none⟩,
      ⟨some 26, (.append 1 8 (.t 23) (.t 25)), none⟩,
      ⟨none, (.store 1 (.t 3) (.t 26)), none⟩] [] []))
    .skip)) }
def c_slices_IndexFunc_int_int_l0 : ACode :=
  (.seq (.region [
    ⟨some 9, (.bin .lss (.t 8) (.t 7)), none⟩] [] [])
  (.seq (.cond (.t 9)
    .skip
    (.exit 0))
  (.seq (.block 1
    (.seq (.region [
      ⟨some 10, (.move (.t 8)), none⟩,
      ⟨some 5, (.move (.t 10)), none⟩] [] [])
    (.seq (.region [
      ⟨some 11, (.move (.t 1)), none⟩,
      ⟨some 12, (.move (.t 0)), none⟩,
      ⟨some 13, (.move (.t 5)), none⟩,
      ⟨some 14, (.indexAddr 1 (.t 12) (.t 13)), none⟩,
      ⟨some 15, (.load false 1 (.t 14)), none⟩,
      ⟨some 16, (.call (.t 11) [(.t 15)]), none⟩] [] [])
    (.cond (.t 16)
      (.seq (.region [
        ⟨some 17, (.move (.t 5)), none⟩,
        ⟨some 4, (.move (.t 17)), none⟩] [] [])
      .ret)
      .skip))))
  (.region [
    ⟨some 18, (.bin .add (.t 8) (.c (.s (.int .i64 1)))), none⟩,
    ⟨some 8, (.move (.t 18)), none⟩] [] []))))
def c_slices_IndexFunc_int_int_k0 : List Nat := [9, 10, 5, 11, 12, 13, 14, 15, 16, 17, 18]
def c_slices_IndexFunc_int_int : ACFun := { ntmps := 19, results := [(.tmp 4)], body :=
  (.seq (.region [
    ⟨some 4, (.move (.c (.s (.int .i64 0)))), none⟩] [] [])
  (.seq (.seq (.region [
    ⟨some 6, (.move (.t 0)), none⟩,
    ⟨some 7, (.lenS .s (.t 6)), none⟩,
    ⟨some 8, (.move (.c (.s (.int .i64 0)))), none⟩] [] [])
  (.block 0
    (.loop c_slices_IndexFunc_int_int_k0 c_slices_IndexFunc_int_int_l0)))
  (.seq (.region [
    ⟨some 4, (.move (.c (.s (.int .i64 (-1))))), none⟩] [] [])
  .ret))) }
def c_graph_Post_1 : ACFun := { ntmps := 9, results := [(.tmp 3)], body :=
  (.seq (.region [
    ⟨some 3, (.move (.c (.s (.bool false)))), none⟩] [] [])
  (.seq (.region [
    ⟨some 4, (.load false 1 (.t 1)), none⟩,
    ⟨some 5, (.move (.t 0)), none⟩,
    ⟨some 6, (.indexAddr 1 (.t 4) (.t 5)), none⟩,
    ⟨some 7, (.load false 1 (.t 6)), none⟩,
    ⟨some 8, (.un .not (.t 7)), none⟩,
    ⟨some 3, (.move (.t 8)), none⟩] [] [])
  .ret)) }
def c_slices_Reverse_int_int_l0 : ACode :=
  (.seq (.seq (.region [
    ⟨some 7, (.move (.t 2)), none⟩,
    ⟨some 8, (.move (.t 3)), none⟩,
    ⟨some 9, (.bin .lss (.t 7) (.t 8)), none⟩] [] [])
  (.cond (.t 9)
    .skip
    (.exit 0)))
  (.seq (.block 1
    (.region [
      ⟨some 14, (.move (.t 0)), none⟩,
      ⟨some 15, (.move (.t 2)), none⟩,
      ⟨some 16, (.move (.t 0)), none⟩,
      ⟨some 17, (.move (.t 3)), none⟩,
      ⟨some 18, (.move (.t 0)), none⟩,
      ⟨some 19, (.move (.t 3)), none⟩,
      ⟨some 20, (.indexAddr 1 (.t 18) (.t 19)), none⟩,
      ⟨some 21, (.load false 1 (.t 20)), none⟩,
      ⟨some 22, (.move (.t 0)), none⟩,
      ⟨some 23, (.move (.t 2)), none⟩,
      ⟨some 24, (.indexAddr 1 (.t 22) (.t 23)), none⟩,
      ⟨some 25, (.load false 1 (.t 24)), none⟩,
      ⟨some 26, (.indexAddr 1 (.t 14) (.t 15)), none⟩,
      ⟨none, (.store 1 (.t 26) (.t 21)), none⟩,
      ⟨some 27, (.indexAddr 1 (.t 16) (.t 17)), none⟩,
      ⟨none, (.store 1 (.t 27) (.t 25)), none⟩] [] []))
  (.region [
    ⟨some 10, (.move (.t 2)), none⟩,
    ⟨some 11, (.bin .add (.t 10) (.c (.s (.int .i64 1)))), none⟩,
    ⟨some 12, (.move (.t 3)), none⟩,
    ⟨some 13, (.bin .sub (.t 12) (.c (.s (.int .i64 1)))), none⟩,
    ⟨some 2, (.move (.t 11)), none⟩,
    ⟨some 3, (.move (.t 13)), none⟩] [] [])))
def c_slices_Reverse_int_int_k0 : List Nat := [7, 8, 9, 14, 15, 16, 17, 18, 19, 20, 21, 22, 23, 24, 25, 26, 27, 10, 11, 12, 13]
def c_slices_Reverse_int_int : ACFun := { ntmps := 28, results := [], body :=
  (.seq (.region [
    ⟨some 4, (.move (.t 0)), none⟩,
    ⟨some 5, (.lenS .s (.t 4)), none⟩,
    ⟨some 6, (.bin .sub (.t 5) (.c (.s (.int .i64 1)))), none⟩,
    ⟨some 2, (.move (.c (.s (.int .i64 0)))), none⟩,
    ⟨some 3, (.move (.t 6)), none⟩] [] [])
  (.block 0
    (.loop c_slices_Reverse_int_int_k0 c_slices_Reverse_int_int_l0))) }
def c_slices_pdqsortOrdered_int_l0 : ACode :=
  (.block 1
    (.seq (.region [
      ⟨some 19, (.move (.t 2)), none⟩,
      ⟨some 20, (.move (.t 1)), none⟩,
      ⟨some 21, (.bin .sub (.t 19) (.t 20)), none⟩,
      ⟨some 10, (.move (.t 21)), none⟩] [] [])
    (.seq (.seq (.region [
      ⟨some 22, (.move (.t 10)), none⟩,
      ⟨some 23, (.bin .leq (.t 22) (.c (.s (.int .i64 12)))), none⟩] [] [])
    (.cond (.t 23)
      (.seq (.region [
        ⟨some 24, (.move (.t 0)), none⟩,
        ⟨some 25, (.move (.t 1)), none⟩,
        ⟨some 26, (.move (.t 2)), none⟩,
        ⟨some 27, (.call (.c (.fn 40 [] [])) [(.t 24), (.t 25), (.t 26)]), none⟩] [] [])
      .ret)
      .skip))
    (.seq (.seq (.region [
      ⟨some 28, (.move (.t 3)), none⟩,
      ⟨some 29, (.bin .eql (.t 28) (.c (.s (.int .i64 0)))), none⟩] [] [])
    (.cond (.t 29)
      (.seq (.region [
        ⟨some 30, (.move (.t 0)), none⟩,
        ⟨some 31, (.move (.t 1)), none⟩,
        ⟨some 32, (.move (.t 2)), none⟩,
        ⟨some 33, (.call (.c (.fn 41 [] [])) [(.t 30), (.t 31), (.t 32)]), none⟩] [] [])
      .ret)
      .skip))
    (.seq (.seq (.region [
      ⟨some 34, (.move (.t 8)), none⟩,
      ⟨some 35, (.un .not (.t 34)), none⟩] [] [])
    (.cond (.t 35)
      (.seq (.region [
        ⟨some 36, (.move (.t 0)), none⟩,
        ⟨some 37, (.move (.t 1)), none⟩,
        ⟨some 38, (.move (.t 2)), none⟩,
        ⟨some 39, (.call (.c (.fn 42 [] [])) [(.t 36), (.t 37), (.t 38)]), none⟩] [] [])
      (.region [
        ⟨some 40, (.move (.t 3)), none⟩,
        ⟨some 41, (.bin .sub (.t 40) (.c (.s (.int .i64 1)))), none⟩,
        ⟨some 3, (.move (.t 41)), none⟩] [] []))
      .skip))
    (.seq (.region [
      ⟨some 43, (.move (.t 0)), none⟩,
      ⟨some 44, (.move (.t 1)), none⟩,
      ⟨some 45, (.move (.t 2)), none⟩,
      ⟨some 46, (.call (.c (.fn 43 [] [])) [(.t 43), (.t 44), (.t 45)]), none⟩,
      ⟨some 42, (.move (.t 46)), none⟩,
      ⟨some 47, (.extract (.t 42) 0), none⟩,
      ⟨some 48, (.extract (.t 42) 1), none⟩,
      ⟨some 11, (.move (.t 47)), none⟩,
      ⟨some 12, (.move (.t 48)), none⟩] [] [])
    (.seq (.seq (.region [
      ⟨some 49, (.move (.t 12)), none⟩,
      ⟨some 50, (.bin .eql (.t 49) (.c (.s (.int .i64 2)))), none⟩] [] [])
    (.cond (.t 50)
      (.seq (.region [
        ⟨some 51, (.move (.t 0)), none⟩,
        ⟨some 52, (.move (.t 1)), none⟩,
        ⟨some 53, (.move (.t 2)), none⟩,
        ⟨some 54, (.call (.c (.fn 44 [] [])) [(.t 51), (.t 52), (.t 53)]), none⟩] [] [])
      (.seq (.region [
        ⟨some 55, (.move (.t 2)), none⟩,
        ⟨some 56, (.bin .sub (.t 55) (.c (.s (.int .i64 1)))), none⟩,
        ⟨some 57, (.move (.t 11)), none⟩,
        ⟨some 58, (.move (.t 1)), none⟩,
        ⟨some 59, (.bin .sub (.t 57) (.t 58)), none⟩,
        ⟨some 60, (.bin .sub (.t 56) (.t 59)), none⟩,
        ⟨some 11, (.move (.t 60)), none⟩] [] [])
      (.region [
        ⟨some 12, (.move (.c (.s (.int .i64 1)))), none⟩] [] [])))
      .skip))
    (.seq (.seq (.region [
      ⟨some 61, (.move (.t 8)), none⟩,
      ⟨some 62, (.move (.t 61)), none⟩,
      ⟨some 63, (.move (.t 9)), some (62, true)⟩,
      ⟨some 64, (.pick (.t 62) (.t 63) (.c (.s (.bool false)))), none⟩,
      ⟨some 65, (.move (.t 64)), none⟩,
      ⟨some 66, (.move (.t 12)), some (65, true)⟩,
      ⟨some 67, (.bin .eql (.t 66) (.c (.s (.int .i64 1)))), some (65, true)⟩,
      ⟨some 68, (.pick (.t 65) (.t 67) (.c (.s (.bool false)))), none⟩] [] [])
    (.cond (.t 68)
      (.seq (.region [
        ⟨some 69, (.move (.t 0)), none⟩,
        ⟨some 70, (.move (.t 1)), none⟩,
        ⟨some 71, (.move (.t 2)), none⟩,
        ⟨some 72, (.call (.c (.fn 45 [] [])) [(.t 69), (.t 70), (.t 71)]), none⟩] [] [])
      (.cond (.t 72)
        .ret
        .skip))
      .skip))
    (.seq (.seq (.region [
      ⟨some 73, (.move (.t 1)), none⟩,
      ⟨some 74, (.bin .gtr (.t 73) (.c (.s (.int .i64 0)))), none⟩,
      ⟨some 75, (.move (.t 74)), none⟩,
      ⟨some 76, (.move (.t 0)), some (75, true)⟩,
      ⟨some 77, (.move (.t 1)), some (75, true)⟩,
      ⟨some 78, (.bin .sub (.t 77) (.c (.s (.int .i64 1)))), some (75, true)⟩,
      ⟨some 79, (.indexAddr 1 (.t 76) (.t 78)), some (75, true)⟩,
      ⟨some 80, (.load false 1 (.t 79)), some (75, true)⟩,
      ⟨some 81, (.move (.t 0)), some (75, true)⟩,
      ⟨some 82, (.move (.t 11)), some (75, true)⟩,
      ⟨some 83, (.indexAddr 1 (.t 81) (.t 82)), some (75, true)⟩,
      ⟨some 84, (.load false 1 (.t 83)), some (75, true)⟩,
      ⟨some 85, (.call (.c (.fn 46 [] [])) [(.t 80), (.t 84)]), some (75, true)⟩,
      ⟨some 86, (.un .not (.t 85)), some (75, true)⟩,
      ⟨some 87, (.pick (.t 75) (.t 86) (.c (.s (.bool false)))), none⟩] [] [])
    (.cond (.t 87)
      (.seq (.region [
        ⟨some 88, (.move (.t 0)), none⟩,
        ⟨some 89, (.move (.t 1)), none⟩,
        ⟨some 90, (.move (.t 2)), none⟩,
        ⟨some 91, (.move (.t 11)), none⟩,
        ⟨some 92, (.call (.c (.fn 47 [] [])) [(.t 88), (.t 89), (.t 90), (.t 91)]), none⟩,
        ⟨some 13, (.move (.t 92)), none⟩] [] [])
      (.seq (.region [
        ⟨some 93, (.move (.t 13)), none⟩,
        ⟨some 1, (.move (.t 93)), none⟩] [] [])
      (.exit 1)))
      .skip))
    (.seq (.region [
      ⟨some 95, (.move (.t 0)), none⟩,
      ⟨some 96, (.move (.t 1)), none⟩,
      ⟨some 97, (.move (.t 2)), none⟩,
      ⟨some 98, (.move (.t 11)), none⟩,
      ⟨some 99, (.call (.c (.fn 48 [] [])) [(.t 95), (.t 96), (.t 97), (.t 98)]), none⟩,
      ⟨some 94, (.move (.t 99)), none⟩,
      ⟨some 100, (.extract (.t 94) 0), none⟩,
      ⟨some 101, (.extract (.t 94) 1), none⟩,
      ⟨some 14, (.move (.t 100)), none⟩,
      ⟨some 15, (.move (.t 101)), none⟩] [] [])
    (.seq (.region [
      ⟨some 102, (.move (.t 15)), none⟩,
      ⟨some 9, (.move (.t 102)), none⟩] [] [])
    (.seq (.region [
      ⟨some 103, (.move (.t 14)), none⟩,
      ⟨some 104, (.move (.t 1)), none⟩,
      ⟨some 105, (.bin .sub (.t 103) (.t 104)), none⟩,
      ⟨some 106, (.move (.t 2)), none⟩,
      ⟨some 107, (.move (.t 14)), none⟩,
      ⟨some 108, (.bin .sub (.t 106) (.t 107)), none⟩,
      ⟨some 16, (.move (.t 105)), none⟩,
      ⟨some 17, (.move (.t 108)), none⟩] [] [])
    (.seq (.region [
      ⟨some 109, (.move (.t 10)), none⟩,
      ⟨some 110, (.bin .quo (.t 109) (.c (.s (.int .i64 8)))), none⟩,
      ⟨some 18, (.move (.t 110)), none⟩] [] [])
    (.seq (.region [
      ⟨some 111, (.move (.t 16)), none⟩,
      ⟨some 112, (.move (.t 17)), none⟩,
      ⟨some 113, (.bin .lss (.t 111) (.t 112)), none⟩] [] [])
    (.cond (.t 113)
      (.seq (.region [
        ⟨some 114, (.move (.t 16)), none⟩,
        ⟨some 115, (.move (.t 18)), none⟩,
        ⟨some 116, (.bin .geq (.t 114) (.t 115)), none⟩,
        ⟨some 8, (.move (.t 116)), none⟩] [] [])
      (.seq (.region [
        ⟨some 117, (.move (.t 0)), none⟩,
        ⟨some 118, (.move (.t 1)), none⟩,
        ⟨some 119, (.move (.t 14)), none⟩,
        ⟨some 120, (.move (.t 3)), none⟩,
        ⟨some 121, (.call (.c (.fn 37 [] [])) [(.t 117), (.t 118), (.t 119), (.t 120)]), none⟩] [] [])
      (.region [
        ⟨some 122, (.move (.t 14)), none⟩,
        ⟨some 123, (.bin .add (.t 122) (.c (.s (.int .i64 1)))), none⟩,
        ⟨some 1, (.move (.t 123)), none⟩] [] [])))
      (.seq (.region [
        ⟨some 124, (.move (.t 17)), none⟩,
        ⟨some 125, (.move (.t 18)), none⟩,
        ⟨some 126, (.bin .geq (.t 124) (.t 125)), none⟩,
        ⟨some 8, (.move (.t 126)), none⟩] [] [])
      (.seq (.region [
        ⟨some 127, (.move (.t 0)), none⟩,
        ⟨some 128, (.move (.t 14)), none⟩,
        ⟨some 129, (.bin .add (.t 128) (.c (.s (.int .i64 1)))), none⟩,
        ⟨some 130, (.move (.t 2)), none⟩,
        ⟨some 131, (.move (.t 3)), none⟩,
        ⟨some 132, (.call (.c (.fn 37 [] [])) [(.t 127), (.t 129), (.t 130), (.t 131)]), none⟩] [] [])
      (.region [
        ⟨some 133, (.move (.t 14)), none⟩,
        ⟨some 2, (.move (.t 133)), none⟩] [] []))))))))))))))))))
def c_slices_pdqsortOrdered_int_k0 : List Nat := [19, 20, 21, 10, 22, 23, 24, 25, 26, 27, 28, 29, 30, 31, 32, 33, 34, 35, 36, 37, 38, 39, 40, 41, 43, 44, 45, 46, 42, 47, 48, 11, 12, 49, 50, 51, 52, 53, 54, 55, 56, 57, 58, 59, 60, 61, 62, 63, 64, 65, 66, 67, 68, 69, 70, 71, 72, 73, 74, 75, 76, 77, 78, 79, 80, 81, 82, 83, 84, 85, 86, 87, 88, 89, 90, 91, 92, 13, 93, 95, 96, 97, 98, 99, 94, 100, 101, 14, 15, 102, 103, 104, 105, 106, 107, 108, 16, 17, 109, 110, 18, 111, 112, 113, 114, 115, 116, 117, 118, 119, 120, 121, 122, 123, 124, 125, 126, 127, 128, 129, 130, 131, 132, 133]
def c_slices_pdqsortOrdered_int : ACFun := { ntmps := 134, results := [], body :=
  (.seq (.region [
    ⟨some 8, (.move (.c (.s (.bool true)))), none⟩] [] [])
  (.seq (.region [
    ⟨some 9, (.move (.c (.s (.bool true)))), none⟩] [] [])
  (.block 0
    (.loop c_slices_pdqsortOrdered_int_k0 c_slices_pdqsortOrdered_int_l0)))) }
def c_math_bits_Len : ACFun := { ntmps := 8, results := [(.tmp 2)], body :=
  (.seq (.region [
    ⟨some 2, (.move (.c (.s (.int .i64 0)))), none⟩] [] [])
  (.seq (.cond (.c (.s (.bool false)))
    (.seq (.region [
      ⟨some 3, (.move (.t 0)), none⟩,
      ⟨some 4, (.conv .u32 (.t 3)), none⟩,
      ⟨some 5, (.call (.c (.fn 49 [] [])) [(.t 4)]), none⟩,
      ⟨some 2, (.move (.t 5)), none⟩] [] [])
    .ret)
    .skip)
  (.seq (.region [
    ⟨some 6, (.move (.t 0)), none⟩,
    ⟨some 7, (.call (.c (.fn 50 [] [])) [(.t 6)]), none⟩,
    ⟨some 2, (.move (.t 7)), none⟩] [] [])
  .ret))) }
def c_slices_insertionSortOrdered_int_l0 : ACode :=
  (.seq (.seq (.region [
    ⟨some 16, (.move (.t 7)), none⟩,
    ⟨some 17, (.move (.t 1)), none⟩,
    ⟨some 18, (.bin .gtr (.t 16) (.t 17)), none⟩,
    ⟨some 19, (.move (.t 18)), none⟩,
    ⟨some 20, (.move (.t 0)), some (19, true)⟩,
    ⟨some 21, (.move (.t 7)), some (19, true)⟩,
    ⟨some 22, (.indexAddr 1 (.t 20) (.t 21)), some (19, true)⟩,
    ⟨some 23, (.load false 1 (.t 22)), some (19, true)⟩,
    ⟨some 24, (.move (.t 0)), some (19, true)⟩,
    ⟨some 25, (.move (.t 7)), some (19, true)⟩,
    ⟨some 26, (.bin .sub (.t 25) (.c (.s (.int .i64 1)))), some (19, true)⟩,
    ⟨some 27, (.indexAddr 1 (.t 24) (.t 26)), some (19, true)⟩,
    ⟨some 28, (.load false 1 (.t 27)), some (19, true)⟩,
    ⟨some 29, (.call (.c (.fn 46 [] [])) [(.t 23), (.t 28)]), some (19, true)⟩,
    ⟨some 30, (.pick (.t 19) (.t 29) (.c (.s (.bool false)))), none⟩] [] [])
  (.cond (.t 30)
    .skip
    (.exit 2)))
  (.seq (.block 3
    (.region [
      ⟨some 33, (.move (.t 0)), none⟩,
      ⟨some 34, (.move (.t 7)), none⟩,
      ⟨some 35, (.move (.t 0)), none⟩,
      ⟨some 36, (.move (.t 7)), none⟩,
      ⟨some 37, (.bin .sub (.t 36) (.c (.s (.int .i64 1)))), none⟩,
      ⟨some 38, (.move (.t 0)), none⟩,
      ⟨some 39, (.move (.t 7)), none⟩,
      ⟨some 40, (.bin .sub (.t 39) (.c (.s (.int .i64 1)))), none⟩,
      ⟨some 41, (.indexAddr 1 (.t 38) (.t 40)), none⟩,
      ⟨some 42, (.load false 1 (.t 41)), none⟩,
      ⟨some 43, (.move (.t 0)), none⟩,
      ⟨some 44, (.move (.t 7)), none⟩,
      ⟨some 45, (.indexAddr 1 (.t 43) (.t 44)), none⟩,
      ⟨some 46, (.load false 1 (.t 45)), none⟩,
      ⟨some 47, (.indexAddr 1 (.t 33) (.t 34)), none⟩,
      ⟨none, (.store 1 (.t 47) (.t 42)), none⟩,
      ⟨some 48, (.indexAddr 1 (.t 35) (.t 37)), none⟩,
      ⟨none, (.store 1 (.t 48) (.t 46)), none⟩] [] []))
  (.region [
    ⟨some 31, (.move (.t 7)), none⟩,
    ⟨some 32, (.bin .sub (.t 31) (.c (.s (.int .i64 1)))), none⟩,
    ⟨some 7, (.move (.t 32)), none⟩] [] [])))
def c_slices_insertionSortOrdered_int_k0 : List Nat := [16, 17, 18, 19, 20, 21, 22, 23, 24, 25, 26, 27, 28, 29, 30, 33, 34, 35, 36, 37, 38, 39, 40, 41, 42, 43, 44, 45, 46, 47, 48, 31, 32]
def c_slices_insertionSortOrdered_int_l1 : ACode :=
  (.seq (.seq (.region [
    ⟨some 10, (.move (.t 6)), none⟩,
    ⟨some 11, (.move (.t 2)), none⟩,
    ⟨some 12, (.bin .lss (.t 10) (.t 11)), none⟩] [] [])
  (.cond (.t 12)
    .skip
    (.exit 0)))
  (.seq (.block 1
    (.seq (.region [
      ⟨some 15, (.move (.t 6)), none⟩,
      ⟨some 7, (.move (.t 15)), none⟩] [] [])
    (.block 2
      (.loop c_slices_insertionSortOrdered_int_k0 c_slices_insertionSortOrdered_int_l0))))
  (.region [
    ⟨some 13, (.move (.t 6)), none⟩,
    ⟨some 14, (.bin .add (.t 13) (.c (.s (.int .i64 1)))), none⟩,
    ⟨some 6, (.move (.t 14)), none⟩] [] [])))
def c_slices_insertionSortOrdered_int_k1 : List Nat := [10, 11, 12, 15, 7, 16, 17, 18, 19, 20, 21, 22, 23, 24, 25, 26, 27, 28, 29, 30, 33, 34, 35, 36, 37, 38, 39, 40, 41, 42, 43, 44, 45, 46, 47, 48, 31, 32, 13, 14]
def c_slices_insertionSortOrdered_int : ACFun := { ntmps := 49, results := [], body :=
  (.seq (.region [
    ⟨some 8, (.move (.t 1)), none⟩,
    ⟨some 9, (.bin .add (.t 8) (.c (.s (.int .i64 1)))), none⟩,
    ⟨some 6, (.move (.t 9)), none⟩] [] [])
  (.block 0
    (.loop c_slices_insertionSortOrdered_int_k1 c_slices_insertionSortOrdered_int_l1))) }
def c_slices_heapSortOrdered_int_l0 : ACode :=
  (.seq (.seq (.region [
    ⟨some 18, (.move (.t 9)), none⟩,
    ⟨some 19, (.bin .geq (.t 18) (.c (.s (.int .i64 0)))), none⟩] [] [])
  (.cond (.t 19)
    .skip
    (.exit 0)))
  (.seq (.block 1
    (.region [
      ⟨some 22, (.move (.t 0)), none⟩,
      ⟨some 23, (.move (.t 9)), none⟩,
      ⟨some 24, (.move (.t 8)), none⟩,
      ⟨some 25, (.move (.t 6)), none⟩,
      ⟨some 26, (.call (.c (.fn 51 [] [])) [(.t 22), (.t 23), (.t 24), (.t 25)]), none⟩] [] []))
  (.region [
    ⟨some 20, (.move (.t 9)), none⟩,
    ⟨some 21, (.bin .sub (.t 20) (.c (.s (.int .i64 1)))), none⟩,
    ⟨some 9, (.move (.t 21)), none⟩] [] [])))
def c_slices_heapSortOrdered_int_k0 : List Nat := [18, 19, 22, 23, 24, 25, 26, 20, 21]
def c_slices_heapSortOrdered_int_l1 : ACode :=
  (.seq (.seq (.region [
    ⟨some 29, (.move (.t 10)), none⟩,
    ⟨some 30, (.bin .geq (.t 29) (.c (.s (.int .i64 0)))), none⟩] [] [])
  (.cond (.t 30)
    .skip
    (.exit 2)))
  (.seq (.block 3
    (.seq (.region [
      ⟨some 33, (.move (.t 0)), none⟩,
      ⟨some 34, (.move (.t 6)), none⟩,
      ⟨some 35, (.move (.t 0)), none⟩,
      ⟨some 36, (.move (.t 6)), none⟩,
      ⟨some 37, (.move (.t 10)), none⟩,
      ⟨some 38, (.bin .add (.t 36) (.t 37)), none⟩,
      ⟨some 39, (.move (.t 0)), none⟩,
      ⟨some 40, (.move (.t 6)), none⟩,
      ⟨some 41, (.move (.t 10)), none⟩,
      ⟨some 42, (.bin .add (.t 40) (.t 41)), none⟩,
      ⟨some 43, (.indexAddr 1 (.t 39) (.t 42)), none⟩,
      ⟨some 44, (.load false 1 (.t 43)), none⟩,
      ⟨some 45, (.move (.t 0)), none⟩,
      ⟨some 46, (.move (.t 6)), none⟩,
      ⟨some 47, (.indexAddr 1 (.t 45) (.t 46)), none⟩,
      ⟨some 48, (.load false 1 (.t 47)), none⟩,
      ⟨some 49, (.indexAddr 1 (.t 33) (.t 34)), none⟩,
      ⟨none, (.store 1 (.t 49) (.t 44)), none⟩,
      ⟨some 50, (.indexAddr 1 (.t 35) (.t 38)), none⟩,
      ⟨none, (.store 1 (.t 50) (.t 48)), none⟩] [] [])
    (.region [
      ⟨some 51, (.move (.t 0)), none⟩,
      ⟨some 52, (.move (.t 7)), none⟩,
      ⟨some 53, (.move (.t 10)), none⟩,
      ⟨some 54, (.move (.t 6)), none⟩,
      ⟨some 55, (.call (.c (.fn 51 [] [])) [(.t 51), (.t 52), (.t 53), (.t 54)]), none⟩] [] [])))
  (.region [
    ⟨some 31, (.move (.t 10)), none⟩,
    ⟨some 32, (.bin .sub (.t 31) (.c (.s (.int .i64 1)))), none⟩,
    ⟨some 10, (.move (.t 32)), none⟩] [] [])))
def c_slices_heapSortOrdered_int_k1 : List Nat := [29, 30, 33, 34, 35, 36, 37, 38, 39, 40, 41, 42, 43, 44, 45, 46, 47, 48, 49, 50, 51, 52, 53, 54, 55, 31, 32]
def c_slices_heapSortOrdered_int : ACFun := { ntmps := 56, results := [], body :=
  (.seq (.region [
    ⟨some 11, (.move (.t 1)), none⟩,
    ⟨some 6, (.move (.t 11)), none⟩] [] [])
  (.seq (.region [
    ⟨some 7, (.move (.c (.s (.int .i64 0)))), none⟩] [] [])
  (.seq (.region [
    ⟨some 12, (.move (.t 2)), none⟩,
    ⟨some 13, (.move (.t 1)), none⟩,
    ⟨some 14, (.bin .sub (.t 12) (.t 13)), none⟩,
    ⟨some 8, (.move (.t 14)), none⟩] [] [])
  (.seq (.seq (.region [
    ⟨some 15, (.move (.t 8)), none⟩,
    ⟨some 16, (.bin .sub (.t 15) (.c (.s (.int .i64 1)))), none⟩,
    ⟨some 17, (.bin .quo (.t 16) (.c (.s (.int .i64 2)))), none⟩,
    ⟨some 9, (.move (.t 17)), none⟩] [] [])
  (.block 0
    (.loop c_slices_heapSortOrdered_int_k0 c_slices_heapSortOrdered_int_l0)))
  (.seq (.region [
    ⟨some 27, (.move (.t 8)), none⟩,
    ⟨some 28, (.bin .sub (.t 27) (.c (.s (.int .i64 1)))), none⟩,
    ⟨some 10, (.move (.t 28)), none⟩] [] [])
  (.block 2
    (.loop c_slices_heapSortOrdered_int_k1 c_slices_heapSortOrdered_int_l1))))))) }
def c_slices_breakPatternsOrdered_int_l0 : ACode :=
  (.seq (.seq (.region [
    ⟨some 26, (.move (.t 9)), none⟩,
    ⟨some 27, (.move (.t 1)), none⟩,
    ⟨some 28, (.move (.t 6)), none⟩,
    ⟨some 29, (.bin .quo (.t 28) (.c (.s (.int .i64 4)))), none⟩,
    ⟨some 30, (.bin .mul (.t 29) (.c (.s (.int .i64 2)))), none⟩,
    ⟨some 31, (.bin .add (.t 27) (.t 30)), none⟩,
    ⟨some 32, (.bin .add (.t 31) (.c (.s (.int .i64 1)))), none⟩,
    ⟨some 33, (.bin .leq (.t 26) (.t 32)), none⟩] [] [])
  (.cond (.t 33)
    .skip
    (.exit 0)))
  (.seq (.block 1
    (.seq (.region [
      ⟨some 36, (.call (.c (.fn 53 [] [])) [(.t 7)]), none⟩,
      ⟨some 37, (.move (.t 8)), none⟩,
      ⟨some 38, (.bin .sub (.t 37) (.c (.s (.int .u64 1)))), none⟩,
      ⟨some 39, (.bin .and (.t 36) (.t 38)), none⟩,
      ⟨some 40, (.conv .i64 (.t 39)), none⟩,
      ⟨some 10, (.move (.t 40)), none⟩] [] [])
    (.seq (.seq (.region [
      ⟨some 41, (.move (.t 10)), none⟩,
      ⟨some 42, (.move (.t 6)), none⟩,
      ⟨some 43, (.bin .geq (.t 41) (.t 42)), none⟩] [] [])
    (.cond (.t 43)
      (.region [
        ⟨some 44, (.move (.t 10)), none⟩,
        ⟨some 45, (.move (.t 6)), none⟩,
        ⟨some 46, (.bin .sub (.t 44) (.t 45)), none⟩,
        ⟨some 10, (.move (.t 46)), none⟩] [] [])
      .skip))
    (.region [
      ⟨some 47, (.move (.t 0)), none⟩,
      ⟨some 48, (.move (.t 9)), none⟩,
      ⟨some 49, (.move (.t 0)), none⟩,
      ⟨some 50, (.move (.t 1)), none⟩,
      ⟨some 51, (.move (.t 10)), none⟩,
      ⟨some 52, (.bin .add (.t 50) (.t 51)), none⟩,
      ⟨some 53, (.move (.t 0)), none⟩,
      ⟨some 54, (.move (.t 1)), none⟩,
      ⟨some 55, (.move (.t 10)), none⟩,
      ⟨some 56, (.bin .add (.t 54) (.t 55)), none⟩,
      ⟨some 57, (.indexAddr 1 (.t 53) (.t 56)), none⟩,
      ⟨some 58, (.load false 1 (.t 57)), none⟩,
      ⟨some 59, (.move (.t 0)), none⟩,
      ⟨some 60, (.move (.t 9)), none⟩,
      ⟨some 61, (.indexAddr 1 (.t 59) (.t 60)), none⟩,
      ⟨some 62, (.load false 1 (.t 61)), none⟩,
      ⟨some 63, (.indexAddr 1 (.t 47) (.t 48)), none⟩,
      ⟨none, (.store 1 (.t 63) (.t 58)), none⟩,
      ⟨some 64, (.indexAddr 1 (.t 49) (.t 52)), none⟩,
      ⟨none, (.store 1 (.t 64) (.t 62)), none⟩] [] []))))
  (.region [
    ⟨some 34, (.move (.t 9)), none⟩,
    ⟨some 35, (.bin .add (.t 34) (.c (.s (.int .i64 1)))), none⟩,
    ⟨some 9, (.move (.t 35)), none⟩] [] [])))
def c_slices_breakPatternsOrdered_int_k0 : List Nat := [26, 27, 28, 29, 30, 31, 32, 33, 36, 37, 38, 39, 40, 10, 41, 42, 43, 44, 45, 46, 47, 48, 49, 50, 51, 52, 53, 54, 55, 56, 57, 58, 59, 60, 61, 62, 63, 64, 34, 35]
def c_slices_breakPatternsOrdered_int : ACFun := { ntmps := 65, results := [], body :=
  (.seq (.region [
    ⟨some 11, (.move (.t 2)), none⟩,
    ⟨some 12, (.move (.t 1)), none⟩,
    ⟨some 13, (.bin .sub (.t 11) (.t 12)), none⟩,
    ⟨some 6, (.move (.t 13)), none⟩] [] [])
  (.seq (.region [
    ⟨some 14, (.move (.t 6)), none⟩,
    ⟨some 15, (.bin .geq (.t 14) (.c (.s (.int .i64 8)))), none⟩] [] [])
  (.cond (.t 15)
    (.seq (.region [
      ⟨some 16, (.move (.t 6)), none⟩,
      ⟨some 17, (.conv .u64 (.t 16)), none⟩,
      ⟨some 7, (.alloc [(.s (.int .u64 0))]), none⟩,
      ⟨none, (.store 1 (.t 7) (.t 17)), none⟩] [] [])
    (.seq (.region [
      ⟨some 18, (.move (.t 6)), none⟩,
      ⟨some 19, (.call (.c (.fn 52 [] [])) [(.t 18)]), none⟩,
      ⟨some 8, (.move (.t 19)), none⟩] [] [])
    (.seq (.region [
      ⟨some 20, (.move (.t 1)), none⟩,
      ⟨some 21, (.move (.t 6)), none⟩,
      ⟨some 22, (.bin .quo (.t 21) (.c (.s (.int .i64 4)))), none⟩,
      ⟨some 23, (.bin .mul (.t 22) (.c (.s (.int .i64 2)))), none⟩,
      ⟨some 24, (.bin .add (.t 20) (.t 23)), none⟩,
      ⟨some 25, (.bin .sub (.t 24) (.c (.s (.int .i64 1)))), none⟩,
      ⟨some 9, (.move (.t 25)), none⟩] [] [])
    (.block 0
      (.loop c_slices_breakPatternsOrdered_int_k0 c_slices_breakPatternsOrdered_int_l0)))))
    .skip))) }
def c_slices_choosePivotOrdered_int : ACFun := { ntmps := 57, results := [(.tmp 6), (.tmp 7)], body :=
  (.seq (.region [
    ⟨some 6, (.move (.c (.s (.int .i64 0)))), none⟩,
    ⟨some 7, (.move (.c (.s (.int .i64 0)))), none⟩] [] [])
  (.seq (.region [
    ⟨some 13, (.move (.t 2)), none⟩,
    ⟨some 14, (.move (.t 1)), none⟩,
    ⟨some 15, (.bin .sub (.t 13) (.t 14)), none⟩,
    ⟨some 8, (.move (.t 15)), none⟩] [] [])
  (.seq (.region [
    ⟨some 9, (.alloc [(.s (.int .i64 0))]), none⟩] [] [])
  (.seq (.region [
    ⟨some 16, (.move (.t 1)), none⟩,
    ⟨some 17, (.move (.t 8)), none⟩,
    ⟨some 18, (.bin .quo (.t 17) (.c (.s (.int .i64 4)))), none⟩,
    ⟨some 19, (.bin .mul (.t 18) (.c (.s (.int .i64 1)))), none⟩,
    ⟨some 20, (.bin .add (.t 16) (.t 19)), none⟩,
    ⟨some 10, (.move (.t 20)), none⟩] [] [])
  (.seq (.region [
    ⟨some 21, (.move (.t 1)), none⟩,
    ⟨some 22, (.move (.t 8)), none⟩,
    ⟨some 23, (.bin .quo (.t 22) (.c (.s (.int .i64 4)))), none⟩,
    ⟨some 24, (.bin .mul (.t 23) (.c (.s (.int .i64 2)))), none⟩,
    ⟨some 25, (.bin .add (.t 21) (.t 24)), none⟩,
    ⟨some 11, (.move (.t 25)), none⟩] [] [])
  (.seq (.region [
    ⟨some 26, (.move (.t 1)), none⟩,
    ⟨some 27, (.move (.t 8)), none⟩,
    ⟨some 28, (.bin .quo (.t 27) (.c (.s (.int .i64 4)))), none⟩,
    ⟨some 29, (.bin .mul (.t 28) (.c (.s (.int .i64 3)))), none⟩,
    ⟨some 30, (.bin .add (.t 26) (.t 29)), none⟩,
    ⟨some 12, (.move (.t 30)), none⟩] [] [])
  (.seq (.seq (.region [
    ⟨some 31, (.move (.t 8)), none⟩,
    ⟨some 32, (.bin .geq (.t 31) (.c (.s (.int .i64 8)))), none⟩] [] [])
  (.cond (.t 32)
    (.seq (.seq (.region [
      ⟨some 33, (.move (.t 8)), none⟩,
      ⟨some 34, (.bin .geq (.t 33) (.c (.s (.int .i64 50)))), none⟩] [] [])
    (.cond (.t 34)
      (.seq (.region [
        ⟨some 35, (.move (.t 0)), none⟩,
        ⟨some 36, (.move (.t 10)), none⟩,
        ⟨some 37, (.call (.c (.fn 54 [] [])) [(.t 35), (.t 36), (.t 9)]), none⟩,
        ⟨some 10, (.move (.t 37)), none⟩] [] [])
      (.seq (.region [
        ⟨some 38, (.move (.t 0)), none⟩,
        ⟨some 39, (.move (.t 11)), none⟩,
        ⟨some 40, (.call (.c (.fn 54 [] [])) [(.t 38), (.t 39), (.t 9)]), none⟩,
        ⟨some 11, (.move (.t 40)), none⟩] [] [])
      (.region [
        ⟨some 41, (.move (.t 0)), none⟩,
        ⟨some 42, (.move (.t 12)), none⟩,
        ⟨some 43, (.call (.c (.fn 54 [] [])) [(.t 41), (.t 42), (.t 9)]), none⟩,
        ⟨some 12, (.move (.t 43)), none⟩] [] [])))
      .skip))
    (.region [
      ⟨some 44, (.move (.t 0)), none⟩,
      ⟨some 45, (.move (.t 10)), none⟩,
      ⟨some 46, (.move (.t 11)), none⟩,
      ⟨some 47, (.move (.t 12)), none⟩,
      ⟨some 48, (.call (.c (.fn 55 [] [])) [(.t 44), (.t 45), (.t 46), (.t 47), (.t 9)]), none⟩,
      ⟨some 11, (.move (.t 48)), none⟩] [] []))
    .skip))
  (.seq (.region [
    ⟨some 49, (.load false 1 (.t 9)), none⟩] [] [])
  (.block 0
    (.seq (.region [
      ⟨some 52, (.bin .eql (.t 49) (.c (.s (.int .i64 0)))), none⟩,
      ⟨some 51, (.move (.t 52)), none⟩] [] [])
    (.cond (.t 51)
      (.seq (.region [
        ⟨some 53, (.move (.t 11)), none⟩,
        ⟨some 6, (.move (.t 53)), none⟩,
        ⟨some 7, (.move (.c (.s (.int .i64 1)))), none⟩] [] [])
      .ret)
      (.seq (.region [
        ⟨some 55, (.bin .eql (.t 49) (.c (.s (.int .i64 12)))), none⟩,
        ⟨some 54, (.move (.t 55)), none⟩] [] [])
      (.cond (.t 54)
        (.seq (.region [
          ⟨some 56, (.move (.t 11)), none⟩,
          ⟨some 6, (.move (.t 56)), none⟩,
          ⟨some 7, (.move (.c (.s (.int .i64 2)))), none⟩] [] [])
        .ret)
        (.seq (.region [
          ⟨some 50, (.move (.t 11)), none⟩,
          ⟨some 6, (.move (.t 50)), none⟩,
          ⟨some 7, (.move (.c (.s (.int .i64 0)))), none⟩] [] [])
        .ret)))))))))))))) }
def c_slices_reverseRangeOrdered_int_l0 : ACode :=
  (.seq (.seq (.region [
    ⟨some 11, (.move (.t 6)), none⟩,
    ⟨some 12, (.move (.t 7)), none⟩,
    ⟨some 13, (.bin .lss (.t 11) (.t 12)), none⟩] [] [])
  (.cond (.t 13)
    .skip
    (.exit 0)))
  (.block 1
    (.seq (.region [
      ⟨some 14, (.move (.t 0)), none⟩,
      ⟨some 15, (.move (.t 6)), none⟩,
      ⟨some 16, (.move (.t 0)), none⟩,
      ⟨some 17, (.move (.t 7)), none⟩,
      ⟨some 18, (.move (.t 0)), none⟩,
      ⟨some 19, (.move (.t 7)), none⟩,
      ⟨some 20, (.indexAddr 1 (.t 18) (.t 19)), none⟩,
      ⟨some 21, (.load false 1 (.t 20)), none⟩,
      ⟨some 22, (.move (.t 0)), none⟩,
      ⟨some 23, (.move (.t 6)), none⟩,
      ⟨some 24, (.indexAddr 1 (.t 22) (.t 23)), none⟩,
      ⟨some 25, (.load false 1 (.t 24)), none⟩,
      ⟨some 26, (.indexAddr 1 (.t 14) (.t 15)), none⟩,
      ⟨none, (.store 1 (.t 26) (.t 21)), none⟩,
      ⟨some 27, (.indexAddr 1 (.t 16) (.t 17)), none⟩,
      ⟨none, (.store 1 (.t 27) (.t 25)), none⟩] [] [])
    (.seq (.region [
      ⟨some 28, (.move (.t 6)), none⟩,
      ⟨some 29, (.bin .add (.t 28) (.c (.s (.int .i64 1)))), none⟩,
      ⟨some 6, (.move (.t 29)), none⟩] [] [])
    (.region [
      ⟨some 30, (.move (.t 7)), none⟩,
      ⟨some 31, (.bin .sub (.t 30) (.c (.s (.int .i64 1)))), none⟩,
      ⟨some 7, (.move (.t 31)), none⟩] [] [])))))
def c_slices_reverseRangeOrdered_int_k0 : List Nat := [11, 12, 13, 14, 15, 16, 17, 18, 19, 20, 21, 22, 23, 24, 25, 26, 27, 28, 29, 30, 31]
def c_slices_reverseRangeOrdered_int : ACFun := { ntmps := 32, results := [], body :=
  (.seq (.region [
    ⟨some 8, (.move (.t 1)), none⟩,
    ⟨some 6, (.move (.t 8)), none⟩] [] [])
  (.seq (.region [
    ⟨some 9, (.move (.t 2)), none⟩,
    ⟨some 10, (.bin .sub (.t 9) (.c (.s (.int .i64 1)))), none⟩,
    ⟨some 7, (.move (.t 10)), none⟩] [] [])
  (.block 0
    (.loop c_slices_reverseRangeOrdered_int_k0 c_slices_reverseRangeOrdered_int_l0)))) }
def c_slices_partialInsertionSortOrdered_int_l0 : ACode :=
  (.seq (.seq (.region [
    ⟨some 17, (.move (.t 7)), none⟩,
    ⟨some 18, (.move (.t 2)), none⟩,
    ⟨some 19, (.bin .lss (.t 17) (.t 18)), none⟩,
    ⟨some 20, (.move (.t 19)), none⟩,
    ⟨some 21, (.move (.t 0)), some (20, true)⟩,
    ⟨some 22, (.move (.t 7)), some (20, true)⟩,
    ⟨some 23, (.indexAddr 1 (.t 21) (.t 22)), some (20, true)⟩,
    ⟨some 24, (.load false 1 (.t 23)), some (20, true)⟩,
    ⟨some 25, (.move (.t 0)), some (20, true)⟩,
    ⟨some 26, (.move (.t 7)), some (20, true)⟩,
    ⟨some 27, (.bin .sub (.t 26) (.c (.s (.int .i64 1)))), some (20, true)⟩,
    ⟨some 28, (.indexAddr 1 (.t 25) (.t 27)), some (20, true)⟩,
    ⟨some 29, (.load false 1 (.t 28)), some (20, true)⟩,
    ⟨some 30, (.call (.c (.fn 46 [] [])) [(.t 24), (.t 29)]), some (20, true)⟩,
    ⟨some 31, (.un .not (.t 30)), some (20, true)⟩,
    ⟨some 32, (.pick (.t 20) (.t 31) (.c (.s (.bool false)))), none⟩] [] [])
  (.cond (.t 32)
    .skip
    (.exit 2)))
  (.block 3
    (.region [
      ⟨some 33, (.move (.t 7)), none⟩,
      ⟨some 34, (.bin .add (.t 33) (.c (.s (.int .i64 1)))), none⟩,
      ⟨some 7, (.move (.t 34)), none⟩] [] [])))
def c_slices_partialInsertionSortOrdered_int_k0 : List Nat := [17, 18, 19, 20, 21, 22, 23, 24, 25, 26, 27, 28, 29, 30, 31, 32, 33, 34]
def c_slices_partialInsertionSortOrdered_int_l1 : ACode :=
  (.seq (.seq (.region [
    ⟨some 64, (.move (.t 9)), none⟩,
    ⟨some 65, (.bin .geq (.t 64) (.c (.s (.int .i64 1)))), none⟩] [] [])
  (.cond (.t 65)
    .skip
    (.exit 4)))
  (.seq (.block 5
    (.seq (.seq (.region [
      ⟨some 68, (.move (.t 0)), none⟩,
      ⟨some 69, (.move (.t 9)), none⟩,
      ⟨some 70, (.indexAddr 1 (.t 68) (.t 69)), none⟩,
      ⟨some 71, (.load false 1 (.t 70)), none⟩,
      ⟨some 72, (.move (.t 0)), none⟩,
      ⟨some 73, (.move (.t 9)), none⟩,
      ⟨some 74, (.bin .sub (.t 73) (.c (.s (.int .i64 1)))), none⟩,
      ⟨some 75, (.indexAddr 1 (.t 72) (.t 74)), none⟩,
      ⟨some 76, (.load false 1 (.t 75)), none⟩,
      ⟨some 77, (.call (.c (.fn 46 [] [])) [(.t 71), (.t 76)]), none⟩,
      ⟨some 78, (.un .not (.t 77)), none⟩] [] [])
    (.cond (.t 78)
      (.exit 4)
      .skip))
    (.region [
      ⟨some 79, (.move (.t 0)), none⟩,
      ⟨some 80, (.move (.t 9)), none⟩,
      ⟨some 81, (.move (.t 0)), none⟩,
      ⟨some 82, (.move (.t 9)), none⟩,
      ⟨some 83, (.bin .sub (.t 82) (.c (.s (.int .i64 1)))), none⟩,
      ⟨some 84, (.move (.t 0)), none⟩,
      ⟨some 85, (.move (.t 9)), none⟩,
      ⟨some 86, (.bin .sub (.t 85) (.c (.s (.int .i64 1)))), none⟩,
      ⟨some 87, (.indexAddr 1 (.t 84) (.t 86)), none⟩,
      ⟨some 88, (.load false 1 (.t 87)), none⟩,
      ⟨some 89, (.move (.t 0)), none⟩,
      ⟨some 90, (.move (.t 9)), none⟩,
      ⟨some 91, (.indexAddr 1 (.t 89) (.t 90)), none⟩,
      ⟨some 92, (.load false 1 (.t 91)), none⟩,
      ⟨some 93, (.indexAddr 1 (.t 79) (.t 80)), none⟩,
      ⟨none, (.store 1 (.t 93) (.t 88)), none⟩,
      ⟨some 94, (.indexAddr 1 (.t 81) (.t 83)), none⟩,
      ⟨none, (.store 1 (.t 94) (.t 92)), none⟩] [] [])))
  (.region [
    ⟨some 66, (.move (.t 9)), none⟩,
    ⟨some 67, (.bin .sub (.t 66) (.c (.s (.int .i64 1)))), none⟩,
    ⟨some 9, (.move (.t 67)), none⟩] [] [])))
def c_slices_partialInsertionSortOrdered_int_k1 : List Nat := [64, 65, 68, 69, 70, 71, 72, 73, 74, 75, 76, 77, 78, 79, 80, 81, 82, 83, 84, 85, 86, 87, 88, 89, 90, 91, 92, 93, 94, 66, 67]
def c_slices_partialInsertionSortOrdered_int_l2 : ACode :=
  (.seq (.seq (.region [
    ⟨some 101, (.move (.t 10)), none⟩,
    ⟨some 102, (.move (.t 2)), none⟩,
    ⟨some 103, (.bin .lss (.t 101) (.t 102)), none⟩] [] [])
  (.cond (.t 103)
    .skip
    (.exit 6)))
  (.seq (.block 7
    (.seq (.seq (.region [
      ⟨some 106, (.move (.t 0)), none⟩,
      ⟨some 107, (.move (.t 10)), none⟩,
      ⟨some 108, (.indexAddr 1 (.t 106) (.t 107)), none⟩,
      ⟨some 109, (.load false 1 (.t 108)), none⟩,
      ⟨some 110, (.move (.t 0)), none⟩,
      ⟨some 111, (.move (.t 10)), none⟩,
      ⟨some 112, (.bin .sub (.t 111) (.c (.s (.int .i64 1)))), none⟩,
      ⟨some 113, (.indexAddr 1 (.t 110) (.t 112)), none⟩,
      ⟨some 114, (.load false 1 (.t 113)), none⟩,
      ⟨some 115, (.call (.c (.fn 46 [] [])) [(.t 109), (.t 114)]), none⟩,
      ⟨some 116, (.un .not (.t 115)), none⟩] [] [])
    (.cond (.t 116)
      (.exit 6)
      .skip))
    (.region [
      ⟨some 117, (.move (.t 0)), none⟩,
      ⟨some 118, (.move (.t 10)), none⟩,
      ⟨some 119, (.move (.t 0)), none⟩,
      ⟨some 120, (.move (.t 10)), none⟩,
      ⟨some 121, (.bin .sub (.t 120) (.c (.s (.int .i64 1)))), none⟩,
      ⟨some 122, (.move (.t 0)), none⟩,
      ⟨some 123, (.move (.t 10)), none⟩,
      ⟨some 124, (.bin .sub (.t 123) (.c (.s (.int .i64 1)))), none⟩,
      ⟨some 125, (.indexAddr 1 (.t 122) (.t 124)), none⟩,
      ⟨some 126, (.load false 1 (.t 125)), none⟩,
      ⟨some 127, (.move (.t 0)), none⟩,
      ⟨some 128, (.move (.t 10)), none⟩,
      ⟨some 129, (.indexAddr 1 (.t 127) (.t 128)), none⟩,
      ⟨some 130, (.load false 1 (.t 129)), none⟩,
      ⟨some 131, (.indexAddr 1 (.t 117) (.t 118)), none⟩,
      ⟨none, (.store 1 (.t 131) (.t 126)), none⟩,
      ⟨some 132, (.indexAddr 1 (.t 119) (.t 121)), none⟩,
      ⟨none, (.store 1 (.t 132) (.t 130)), none⟩] [] [])))
  (.region [
    ⟨some 104, (.move (.t 10)), none⟩,
    ⟨some 105, (.bin .add (.t 104) (.c (.s (.int .i64 1)))), none⟩,
    ⟨some 10, (.move (.t 105)), none⟩] [] [])))
def c_slices_partialInsertionSortOrdered_int_k2 : List Nat := [101, 102, 103, 106, 107, 108, 109, 110, 111, 112, 113, 114, 115, 116, 117, 118, 119, 120, 121, 122, 123, 124, 125, 126, 127, 128, 129, 130, 131, 132, 104, 105]
def c_slices_partialInsertionSortOrdered_int_l3 : ACode :=
  (.seq (.seq (.region [
    ⟨some 13, (.move (.t 8)), none⟩,
    ⟨some 14, (.bin .lss (.t 13) (.c (.s (.int .i64 5)))), none⟩] [] [])
  (.cond (.t 14)
    .skip
    (.exit 0)))
  (.seq (.block 1
    (.seq (.block 2
      (.loop c_slices_partialInsertionSortOrdered_int_k0 c_slices_partialInsertionSortOrdered_int_l0))
    (.seq (.seq (.region [
      ⟨some 35, (.move (.t 7)), none⟩,
      ⟨some 36, (.move (.t 2)), none⟩,
      ⟨some 37, (.bin .eql (.t 35) (.t 36)), none⟩] [] [])
    (.cond (.t 37)
      (.seq (.region [
        ⟨some 6, (.move (.c (.s (.bool true)))), none⟩] [] [])
      .ret)
      .skip))
    (.seq (.seq (.region [
      ⟨some 38, (.move (.t 2)), none⟩,
      ⟨some 39, (.move (.t 1)), none⟩,
      ⟨some 40, (.bin .sub (.t 38) (.t 39)), none⟩,
      ⟨some 41, (.bin .lss (.t 40) (.c (.s (.int .i64 50)))), none⟩] [] [])
    (.cond (.t 41)
      (.seq (.region [
        ⟨some 6, (.move (.c (.s (.bool false)))), none⟩] [] [])
      .ret)
      .skip))
    (.seq (.region [
      ⟨some 42, (.move (.t 0)), none⟩,
      ⟨some 43, (.move (.t 7)), none⟩,
      ⟨some 44, (.move (.t 0)), none⟩,
      ⟨some 45, (.move (.t 7)), none⟩,
      ⟨some 46, (.bin .sub (.t 45) (.c (.s (.int .i64 1)))), none⟩,
      ⟨some 47, (.move (.t 0)), none⟩,
      ⟨some 48, (.move (.t 7)), none⟩,
      ⟨some 49, (.bin .sub (.t 48) (.c (.s (.int .i64 1)))), none⟩,
      ⟨some 50, (.indexAddr 1 (.t 47) (.t 49)), none⟩,
      ⟨some 51, (.load false 1 (.t 50)), none⟩,
      ⟨some 52, (.move (.t 0)), none⟩,
      ⟨some 53, (.move (.t 7)), none⟩,
      ⟨some 54, (.indexAddr 1 (.t 52) (.t 53)), none⟩,
      ⟨some 55, (.load false 1 (.t 54)), none⟩,
      ⟨some 56, (.indexAddr 1 (.t 42) (.t 43)), none⟩,
      ⟨none, (.store 1 (.t 56) (.t 51)), none⟩,
      ⟨some 57, (.indexAddr 1 (.t 44) (.t 46)), none⟩,
      ⟨none, (.store 1 (.t 57) (.t 55)), none⟩] [] [])
    (.seq (.seq (.region [
      ⟨some 58, (.move (.t 7)), none⟩,
      ⟨some 59, (.move (.t 1)), none⟩,
      ⟨some 60, (.bin .sub (.t 58) (.t 59)), none⟩,
      ⟨some 61, (.bin .geq (.t 60) (.c (.s (.int .i64 2)))), none⟩] [] [])
    (.cond (.t 61)
      (.seq (.region [
        ⟨some 62, (.move (.t 7)), none⟩,
        ⟨some 63, (.bin .sub (.t 62) (.c (.s (.int .i64 1)))), none⟩,
        ⟨some 9, (.move (.t 63)), none⟩] [] [])
      (.block 4
        (.loop c_slices_partialInsertionSortOrdered_int_k1 c_slices_partialInsertionSortOrdered_int_l1)))
      .skip))
    (.seq (.region [
      ⟨some 95, (.move (.t 2)), none⟩,
      ⟨some 96, (.move (.t 7)), none⟩,
      ⟨some 97, (.bin .sub (.t 95) (.t 96)), none⟩,
      ⟨some 98, (.bin .geq (.t 97) (.c (.s (.int .i64 2)))), none⟩] [] [])
    (.cond (.t 98)
      (.seq (.region [
        ⟨some 99, (.move (.t 7)), none⟩,
        ⟨some 100, (.bin .add (.t 99) (.c (.s (.int .i64 1)))), none⟩,
        ⟨some 10, (.move (.t 100)), none⟩] [] [])
      (.block 6
        (.loop c_slices_partialInsertionSortOrdered_int_k2 c_slices_partialInsertionSortOrdered_int_l2)))
      .skip))))))))
  (.region [
    ⟨some 15, (.move (.t 8)), none⟩,
    ⟨some 16, (.bin .add (.t 15) (.c (.s (.int .i64 1)))), none⟩,
    ⟨some 8, (.move (.t 16)), none⟩] [] [])))
def c_slices_partialInsertionSortOrdered_int_k3 : List Nat := [13, 14, 17, 18, 19, 20, 21, 22, 23, 24, 25, 26, 27, 28, 29, 30, 31, 32, 33, 34, 35, 36, 37, 38, 39, 40, 41, 42, 43, 44, 45, 46, 47, 48, 49, 50, 51, 52, 53, 54, 55, 56, 57, 58, 59, 60, 61, 62, 63, 9, 64, 65, 68, 69, 70, 71, 72, 73, 74, 75, 76, 77, 78, 79, 80, 81, 82, 83, 84, 85, 86, 87, 88, 89, 90, 91, 92, 93, 94, 66, 67, 95, 96, 97, 98, 99, 100, 10, 101, 102, 103, 106, 107, 108, 109, 110, 111, 112, 113, 114, 115, 116, 117, 118, 119, 120, 121, 122, 123, 124, 125, 126, 127, 128, 129, 130, 131, 132, 104, 105, 15, 16]
def c_slices_partialInsertionSortOrdered_int : ACFun := { ntmps := 133, results := [(.tmp 6)], body :=
  (.seq (.region [
    ⟨some 6, (.move (.c (.s (.bool false)))), none⟩] [] [])
  (.seq (.region [
    ⟨some 11, (.move (.t 1)), none⟩,
    ⟨some 12, (.bin .add (.t 11) (.c (.s (.int .i64 1)))), none⟩,
    ⟨some 7, (.move (.t 12)), none⟩] [] [])
  (.seq (.seq (.region [
    ⟨some 8, (.move (.c (.s (.int .i64 0)))), none⟩] [] [])
  (.block 0
    (.loop c_slices_partialInsertionSortOrdered_int_k3 c_slices_partialInsertionSortOrdered_int_l3)))
  (.seq (.region [
    ⟨some 6, (.move (.c (.s (.bool false)))), none⟩] [] [])
  .ret)))) }
def c_cmp_Less_int : ACFun := { ntmps := 17, results := [(.tmp 4)], body :=
  (.seq (.region [
    ⟨some 4, (.move (.c (.s (.bool false)))), none⟩] [] [])
  (.seq (.region [
    ⟨some 5, (.move (.t 0)), none⟩,
    ⟨some 6, (.call (.c (.fn 56 [] [])) [(.t 5)]), none⟩,
    ⟨some 7, (.move (.t 6)), none⟩,
    ⟨some 8, (.move (.t 1)), some (7, true)⟩,
    ⟨some 9, (.call (.c (.fn 56 [] [])) [(.t 8)]), some (7, true)⟩,
    ⟨some 10, (.un .not (.t 9)), some (7, true)⟩,
    ⟨some 11, (.pick (.t 7) (.t 10) (.c (.s (.bool false)))), none⟩,
    ⟨some 12, (.move (.t 11)), none⟩,
    ⟨some 13, (.move (.t 0)), some (12, false)⟩,
    ⟨some 14, (.move (.t 1)), some (12, false)⟩,
    ⟨some 15, (.bin .lss (.t 13) (.t 14)), some (12, false)⟩,
    ⟨some 16, (.pick (.t 12) (.c (.s (.bool true))) (.t 15)), none⟩,
    ⟨some 4, (.move (.t 16)), none⟩] [] [])
  .ret)) }
def c_slices_partitionEqualOrdered_int_l0 : ACode :=
  (.seq (.seq (.region [
    ⟨some 29, (.move (.t 9)), none⟩,
    ⟨some 30, (.move (.t 10)), none⟩,
    ⟨some 31, (.bin .leq (.t 29) (.t 30)), none⟩,
    ⟨some 32, (.move (.t 31)), none⟩,
    ⟨some 33, (.move (.t 0)), some (32, true)⟩,
    ⟨some 34, (.move (.t 1)), some (32, true)⟩,
    ⟨some 35, (.indexAddr 1 (.t 33) (.t 34)), some (32, true)⟩,
    ⟨some 36, (.load false 1 (.t 35)), some (32, true)⟩,
    ⟨some 37, (.move (.t 0)), some (32, true)⟩,
    ⟨some 38, (.move (.t 9)), some (32, true)⟩,
    ⟨some 39, (.indexAddr 1 (.t 37) (.t 38)), some (32, true)⟩,
    ⟨some 40, (.load false 1 (.t 39)), some (32, true)⟩,
    ⟨some 41, (.call (.c (.fn 46 [] [])) [(.t 36), (.t 40)]), some (32, true)⟩,
    ⟨some 42, (.un .not (.t 41)), some (32, true)⟩,
    ⟨some 43, (.pick (.t 32) (.t 42) (.c (.s (.bool false)))), none⟩] [] [])
  (.cond (.t 43)
    .skip
    (.exit 2)))
  (.block 3
    (.region [
      ⟨some 44, (.move (.t 9)), none⟩,
      ⟨some 45, (.bin .add (.t 44) (.c (.s (.int .i64 1)))), none⟩,
      ⟨some 9, (.move (.t 45)), none⟩] [] [])))
def c_slices_partitionEqualOrdered_int_k0 : List Nat := [29, 30, 31, 32, 33, 34, 35, 36, 37, 38, 39, 40, 41, 42, 43, 44, 45]
def c_slices_partitionEqualOrdered_int_l1 : ACode :=
  (.seq (.seq (.region [
    ⟨some 46, (.move (.t 9)), none⟩,
    ⟨some 47, (.move (.t 10)), none⟩,
    ⟨some 48, (.bin .leq (.t 46) (.t 47)), none⟩,
    ⟨some 49, (.move (.t 48)), none⟩,
    ⟨some 50, (.move (.t 0)), some (49, true)⟩,
    ⟨some 51, (.move (.t 1)), some (49, true)⟩,
    ⟨some 52, (.indexAddr 1 (.t 50) (.t 51)), some (49, true)⟩,
    ⟨some 53, (.load false 1 (.t 52)), some (49, true)⟩,
    ⟨some 54, (.move (.t 0)), some (49, true)⟩,
    ⟨some 55, (.move (.t 10)), some (49, true)⟩,
    ⟨some 56, (.indexAddr 1 (.t 54) (.t 55)), some (49, true)⟩,
    ⟨some 57, (.load false 1 (.t 56)), some (49, true)⟩,
    ⟨some 58, (.call (.c (.fn 46 [] [])) [(.t 53), (.t 57)]), some (49, true)⟩,
    ⟨some 59, (.pick (.t 49) (.t 58) (.c (.s (.bool false)))), none⟩] [] [])
  (.cond (.t 59)
    .skip
    (.exit 4)))
  (.block 5
    (.region [
      ⟨some 60, (.move (.t 10)), none⟩,
      ⟨some 61, (.bin .sub (.t 60) (.c (.s (.int .i64 1)))), none⟩,
      ⟨some 10, (.move (.t 61)), none⟩] [] [])))
def c_slices_partitionEqualOrdered_int_k1 : List Nat := [46, 47, 48, 49, 50, 51, 52, 53, 54, 55, 56, 57, 58, 59, 60, 61]
def c_slices_partitionEqualOrdered_int_l2 : ACode :=
  (.block 1
    (.seq (.block 2
      (.loop c_slices_partitionEqualOrdered_int_k0 c_slices_partitionEqualOrdered_int_l0))
    (.seq (.block 4
      (.loop c_slices_partitionEqualOrdered_int_k1 c_slices_partitionEqualOrdered_int_l1))
    (.seq (.seq (.region [
      ⟨some 62, (.move (.t 9)), none⟩,
      ⟨some 63, (.move (.t 10)), none⟩,
      ⟨some 64, (.bin .gtr (.t 62) (.t 63)), none⟩] [] [])
    (.cond (.t 64)
      (.exit 0)
      .skip))
    (.seq (.region [
      ⟨some 65, (.move (.t 0)), none⟩,
      ⟨some 66, (.move (.t 9)), none⟩,
      ⟨some 67, (.move (.t 0)), none⟩,
      ⟨some 68, (.move (.t 10)), none⟩,
      ⟨some 69, (.move (.t 0)), none⟩,
      ⟨some 70, (.move (.t 10)), none⟩,
      ⟨some 71, (.indexAddr 1 (.t 69) (.t 70)), none⟩,
      ⟨some 72, (.load false 1 (.t 71)), none⟩,
      ⟨some 73, (.move (.t 0)), none⟩,
      ⟨some 74, (.move (.t 9)), none⟩,
      ⟨some 75, (.indexAddr 1 (.t 73) (.t 74)), none⟩,
      ⟨some 76, (.load false 1 (.t 75)), none⟩,
      ⟨some 77, (.indexAddr 1 (.t 65) (.t 66)), none⟩,
      ⟨none, (.store 1 (.t 77) (.t 72)), none⟩,
      ⟨some 78, (.indexAddr 1 (.t 67) (.t 68)), none⟩,
      ⟨none, (.store 1 (.t 78) (.t 76)), none⟩] [] [])
    (.seq (.region [
      ⟨some 79, (.move (.t 9)), none⟩,
      ⟨some 80, (.bin .add (.t 79) (.c (.s (.int .i64 1)))), none⟩,
      ⟨some 9, (.move (.t 80)), none⟩] [] [])
    (.region [
      ⟨some 81, (.move (.t 10)), none⟩,
      ⟨some 82, (.bin .sub (.t 81) (.c (.s (.int .i64 1)))), none⟩,
      ⟨some 10, (.move (.t 82)), none⟩] [] [])))))))
def c_slices_partitionEqualOrdered_int_k2 : List Nat := [29, 30, 31, 32, 33, 34, 35, 36, 37, 38, 39, 40, 41, 42, 43, 44, 45, 46, 47, 48, 49, 50, 51, 52, 53, 54, 55, 56, 57, 58, 59, 60, 61, 62, 63, 64, 65, 66, 67, 68, 69, 70, 71, 72, 73, 74, 75, 76, 77, 78, 79, 80, 81, 82]
def c_slices_partitionEqualOrdered_int : ACFun := { ntmps := 84, results := [(.tmp 8)], body :=
  (.seq (.region [
    ⟨some 8, (.move (.c (.s (.int .i64 0)))), none⟩] [] [])
  (.seq (.region [
    ⟨some 11, (.move (.t 0)), none⟩,
    ⟨some 12, (.move (.t 1)), none⟩,
    ⟨some 13, (.move (.t 0)), none⟩,
    ⟨some 14, (.move (.t 3)), none⟩,
    ⟨some 15, (.move (.t 0)), none⟩,
    ⟨some 16, (.move (.t 3)), none⟩,
    ⟨some 17, (.indexAddr 1 (.t 15) (.t 16)), none⟩,
    ⟨some 18, (.load false 1 (.t 17)), none⟩,
    ⟨some 19, (.move (.t 0)), none⟩,
    ⟨some 20, (.move (.t 1)), none⟩,
    ⟨some 21, (.indexAddr 1 (.t 19) (.t 20)), none⟩,
    ⟨some 22, (.load false 1 (.t 21)), none⟩,
    ⟨some 23, (.indexAddr 1 (.t 11) (.t 12)), none⟩,
    ⟨none, (.store 1 (.t 23) (.t 18)), none⟩,
    ⟨some 24, (.indexAddr 1 (.t 13) (.t 14)), none⟩,
    ⟨none, (.store 1 (.t 24) (.t 22)), none⟩] [] [])
  (.seq (.region [
    ⟨some 25, (.move (.t 1)), none⟩,
    ⟨some 26, (.bin .add (.t 25) (.c (.s (.int .i64 1)))), none⟩,
    ⟨some 27, (.move (.t 2)), none⟩,
    ⟨some 28, (.bin .sub (.t 27) (.c (.s (.int .i64 1)))), none⟩,
    ⟨some 9, (.move (.t 26)), none⟩,
    ⟨some 10, (.move (.t 28)), none⟩] [] [])
  (.seq (.block 0
    (.loop c_slices_partitionEqualOrdered_int_k2 c_slices_partitionEqualOrdered_int_l2))
  (.seq (.region [
    ⟨some 83, (.move (.t 9)), none⟩,
    ⟨some 8, (.move (.t 83)), none⟩] [] [])
  .ret))))) }
def c_slices_partitionOrdered_int_l0 : ACode :=
  (.seq (.seq (.region [
    ⟨some 30, (.move (.t 10)), none⟩,
    ⟨some 31, (.move (.t 11)), none⟩,
    ⟨some 32, (.bin .leq (.t 30) (.t 31)), none⟩,
    ⟨some 33, (.move (.t 32)), none⟩,
    ⟨some 34, (.move (.t 0)), some (33, true)⟩,
    ⟨some 35, (.move (.t 10)), some (33, true)⟩,
    ⟨some 36, (.indexAddr 1 (.t 34) (.t 35)), some (33, true)⟩,
    ⟨some 37, (.load false 1 (.t 36)), some (33, true)⟩,
    ⟨some 38, (.move (.t 0)), some (33, true)⟩,
    ⟨some 39, (.move (.t 1)), some (33, true)⟩,
    ⟨some 40, (.indexAddr 1 (.t 38) (.t 39)), some (33, true)⟩,
    ⟨some 41, (.load false 1 (.t 40)), some (33, true)⟩,
    ⟨some 42, (.call (.c (.fn 46 [] [])) [(.t 37), (.t 41)]), some (33, true)⟩,
    ⟨some 43, (.pick (.t 33) (.t 42) (.c (.s (.bool false)))), none⟩] [] [])
  (.cond (.t 43)
    .skip
    (.exit 0)))
  (.block 1
    (.region [
      ⟨some 44, (.move (.t 10)), none⟩,
      ⟨some 45, (.bin .add (.t 44) (.c (.s (.int .i64 1)))), none⟩,
      ⟨some 10, (.move (.t 45)), none⟩] [] [])))
def c_slices_partitionOrdered_int_k0 : List Nat := [30, 31, 32, 33, 34, 35, 36, 37, 38, 39, 40, 41, 42, 43, 44, 45]
def c_slices_partitionOrdered_int_l1 : ACode :=
  (.seq (.seq (.region [
    ⟨some 46, (.move (.t 10)), none⟩,
    ⟨some 47, (.move (.t 11)), none⟩,
    ⟨some 48, (.bin .leq (.t 46) (.t 47)), none⟩,
    ⟨some 49, (.move (.t 48)), none⟩,
    ⟨some 50, (.move (.t 0)), some (49, true)⟩,
    ⟨some 51, (.move (.t 11)), some (49, true)⟩,
    ⟨some 52, (.indexAddr 1 (.t 50) (.t 51)), some (49, true)⟩,
    ⟨some 53, (.load false 1 (.t 52)), some (49, true)⟩,
    ⟨some 54, (.move (.t 0)), some (49, true)⟩,
    ⟨some 55, (.move (.t 1)), some (49, true)⟩,
    ⟨some 56, (.indexAddr 1 (.t 54) (.t 55)), some (49, true)⟩,
    ⟨some 57, (.load false 1 (.t 56)), some (49, true)⟩,
    ⟨some 58, (.call (.c (.fn 46 [] [])) [(.t 53), (.t 57)]), some (49, true)⟩,
    ⟨some 59, (.un .not (.t 58)), some (49, true)⟩,
    ⟨some 60, (.pick (.t 49) (.t 59) (.c (.s (.bool false)))), none⟩] [] [])
  (.cond (.t 60)
    .skip
    (.exit 2)))
  (.block 3
    (.region [
      ⟨some 61, (.move (.t 11)), none⟩,
      ⟨some 62, (.bin .sub (.t 61) (.c (.s (.int .i64 1)))), none⟩,
      ⟨some 11, (.move (.t 62)), none⟩] [] [])))
def c_slices_partitionOrdered_int_k1 : List Nat := [46, 47, 48, 49, 50, 51, 52, 53, 54, 55, 56, 57, 58, 59, 60, 61, 62]
def c_slices_partitionOrdered_int_l2 : ACode :=
  (.seq (.seq (.region [
    ⟨some 99, (.move (.t 10)), none⟩,
    ⟨some 100, (.move (.t 11)), none⟩,
    ⟨some 101, (.bin .leq (.t 99) (.t 100)), none⟩,
    ⟨some 102, (.move (.t 101)), none⟩,
    ⟨some 103, (.move (.t 0)), some (102, true)⟩,
    ⟨some 104, (.move (.t 10)), some (102, true)⟩,
    ⟨some 105, (.indexAddr 1 (.t 103) (.t 104)), some (102, true)⟩,
    ⟨some 106, (.load false 1 (.t 105)), some (102, true)⟩,
    ⟨some 107, (.move (.t 0)), some (102, true)⟩,
    ⟨some 108, (.move (.t 1)), some (102, true)⟩,
    ⟨some 109, (.indexAddr 1 (.t 107) (.t 108)), some (102, true)⟩,
    ⟨some 110, (.load false 1 (.t 109)), some (102, true)⟩,
    ⟨some 111, (.call (.c (.fn 46 [] [])) [(.t 106), (.t 110)]), some (102, true)⟩,
    ⟨some 112, (.pick (.t 102) (.t 111) (.c (.s (.bool false)))), none⟩] [] [])
  (.cond (.t 112)
    .skip
    (.exit 6)))
  (.block 7
    (.region [
      ⟨some 113, (.move (.t 10)), none⟩,
      ⟨some 114, (.bin .add (.t 113) (.c (.s (.int .i64 1)))), none⟩,
      ⟨some 10, (.move (.t 114)), none⟩] [] [])))
def c_slices_partitionOrdered_int_k2 : List Nat := [99, 100, 101, 102, 103, 104, 105, 106, 107, 108, 109, 110, 111, 112, 113, 114]
def c_slices_partitionOrdered_int_l3 : ACode :=
  (.seq (.seq (.region [
    ⟨some 115, (.move (.t 10)), none⟩,
    ⟨some 116, (.move (.t 11)), none⟩,
    ⟨some 117, (.bin .leq (.t 115) (.t 116)), none⟩,
    ⟨some 118, (.move (.t 117)), none⟩,
    ⟨some 119, (.move (.t 0)), some (118, true)⟩,
    ⟨some 120, (.move (.t 11)), some (118, true)⟩,
    ⟨some 121, (.indexAddr 1 (.t 119) (.t 120)), some (118, true)⟩,
    ⟨some 122, (.load false 1 (.t 121)), some (118, true)⟩,
    ⟨some 123, (.move (.t 0)), some (118, true)⟩,
    ⟨some 124, (.move (.t 1)), some (118, true)⟩,
    ⟨some 125, (.indexAddr 1 (.t 123) (.t 124)), some (118, true)⟩,
    ⟨some 126, (.load false 1 (.t 125)), some (118, true)⟩,
    ⟨some 127, (.call (.c (.fn 46 [] [])) [(.t 122), (.t 126)]), some (118, true)⟩,
    ⟨some 128, (.un .not (.t 127)), some (118, true)⟩,
    ⟨some 129, (.pick (.t 118) (.t 128) (.c (.s (.bool false)))), none⟩] [] [])
  (.cond (.t 129)
    .skip
    (.exit 8)))
  (.block 9
    (.region [
      ⟨some 130, (.move (.t 11)), none⟩,
      ⟨some 131, (.bin .sub (.t 130) (.c (.s (.int .i64 1)))), none⟩,
      ⟨some 11, (.move (.t 131)), none⟩] [] [])))
def c_slices_partitionOrdered_int_k3 : List Nat := [115, 116, 117, 118, 119, 120, 121, 122, 123, 124, 125, 126, 127, 128, 129, 130, 131]
def c_slices_partitionOrdered_int_l4 : ACode :=
  (.block 5
    (.seq (.block 6
      (.loop c_slices_partitionOrdered_int_k2 c_slices_partitionOrdered_int_l2))
    (.seq (.block 8
      (.loop c_slices_partitionOrdered_int_k3 c_slices_partitionOrdered_int_l3))
    (.seq (.seq (.region [
      ⟨some 132, (.move (.t 10)), none⟩,
      ⟨some 133, (.move (.t 11)), none⟩,
      ⟨some 134, (.bin .gtr (.t 132) (.t 133)), none⟩] [] [])
    (.cond (.t 134)
      (.exit 4)
      .skip))
    (.seq (.region [
      ⟨some 135, (.move (.t 0)), none⟩,
      ⟨some 136, (.move (.t 10)), none⟩,
      ⟨some 137, (.move (.t 0)), none⟩,
      ⟨some 138, (.move (.t 11)), none⟩,
      ⟨some 139, (.move (.t 0)), none⟩,
      ⟨some 140, (.move (.t 11)), none⟩,
      ⟨some 141, (.indexAddr 1 (.t 139) (.t 140)), none⟩,
      ⟨some 142, (.load false 1 (.t 141)), none⟩,
      ⟨some 143, (.move (.t 0)), none⟩,
      ⟨some 144, (.move (.t 10)), none⟩,
      ⟨some 145, (.indexAddr 1 (.t 143) (.t 144)), none⟩,
      ⟨some 146, (.load false 1 (.t 145)), none⟩,
      ⟨some 147, (.indexAddr 1 (.t 135) (.t 136)), none⟩,
      ⟨none, (.store 1 (.t 147) (.t 142)), none⟩,
      ⟨some 148, (.indexAddr 1 (.t 137) (.t 138)), none⟩,
      ⟨none, (.store 1 (.t 148) (.t 146)), none⟩] [] [])
    (.seq (.region [
      ⟨some 149, (.move (.t 10)), none⟩,
      ⟨some 150, (.bin .add (.t 149) (.c (.s (.int .i64 1)))), none⟩,
      ⟨some 10, (.move (.t 150)), none⟩] [] [])
    (.region [
      ⟨some 151, (.move (.t 11)), none⟩,
      ⟨some 152, (.bin .sub (.t 151) (.c (.s (.int .i64 1)))), none⟩,
      ⟨some 11, (.move (.t 152)), none⟩] [] [])))))))
def c_slices_partitionOrdered_int_k4 : List Nat := [99, 100, 101, 102, 103, 104, 105, 106, 107, 108, 109, 110, 111, 112, 113, 114, 115, 116, 117, 118, 119, 120, 121, 122, 123, 124, 125, 126, 127, 128, 129, 130, 131, 132, 133, 134, 135, 136, 137, 138, 139, 140, 141, 142, 143, 144, 145, 146, 147, 148, 149, 150, 151, 152]
def c_slices_partitionOrdered_int : ACFun := { ntmps := 168, results := [(.tmp 8), (.tmp 9)], body :=
  (.seq (.region [
    ⟨some 8, (.move (.c (.s (.int .i64 0)))), none⟩,
    ⟨some 9, (.move (.c (.s (.bool false)))), none⟩] [] [])
  (.seq (.region [
    ⟨some 12, (.move (.t 0)), none⟩,
    ⟨some 13, (.move (.t 1)), none⟩,
    ⟨some 14, (.move (.t 0)), none⟩,
    ⟨some 15, (.move (.t 3)), none⟩,
    ⟨some 16, (.move (.t 0)), none⟩,
    ⟨some 17, (.move (.t 3)), none⟩,
    ⟨some 18, (.indexAddr 1 (.t 16) (.t 17)), none⟩,
    ⟨some 19, (.load false 1 (.t 18)), none⟩,
    ⟨some 20, (.move (.t 0)), none⟩,
    ⟨some 21, (.move (.t 1)), none⟩,
    ⟨some 22, (.indexAddr 1 (.t 20) (.t 21)), none⟩,
    ⟨some 23, (.load false 1 (.t 22)), none⟩,
    ⟨some 24, (.indexAddr 1 (.t 12) (.t 13)), none⟩,
    ⟨none, (.store 1 (.t 24) (.t 19)), none⟩,
    ⟨some 25, (.indexAddr 1 (.t 14) (.t 15)), none⟩,
    ⟨none, (.store 1 (.t 25) (.t 23)), none⟩] [] [])
  (.seq (.region [
    ⟨some 26, (.move (.t 1)), none⟩,
    ⟨some 27, (.bin .add (.t 26) (.c (.s (.int .i64 1)))), none⟩,
    ⟨some 28, (.move (.t 2)), none⟩,
    ⟨some 29, (.bin .sub (.t 28) (.c (.s (.int .i64 1)))), none⟩,
    ⟨some 10, (.move (.t 27)), none⟩,
    ⟨some 11, (.move (.t 29)), none⟩] [] [])
  (.seq (.block 0
    (.loop c_slices_partitionOrdered_int_k0 c_slices_partitionOrdered_int_l0))
  (.seq (.block 2
    (.loop c_slices_partitionOrdered_int_k1 c_slices_partitionOrdered_int_l1))
  (.seq (.seq (.region [
    ⟨some 63, (.move (.t 10)), none⟩,
    ⟨some 64, (.move (.t 11)), none⟩,
    ⟨some 65, (.bin .gtr (.t 63) (.t 64)), none⟩] [] [])
  (.cond (.t 65)
    (.seq (.region [
      ⟨some 66, (.move (.t 0)), none⟩,
      ⟨some 67, (.move (.t 11)), none⟩,
      ⟨some 68, (.move (.t 0)), none⟩,
      ⟨some 69, (.move (.t 1)), none⟩,
      ⟨some 70, (.move (.t 0)), none⟩,
      ⟨some 71, (.move (.t 1)), none⟩,
      ⟨some 72, (.indexAddr 1 (.t 70) (.t 71)), none⟩,
      ⟨some 73, (.load false 1 (.t 72)), none⟩,
      ⟨some 74, (.move (.t 0)), none⟩,
      ⟨some 75, (.move (.t 11)), none⟩,
      ⟨some 76, (.indexAddr 1 (.t 74) (.t 75)), none⟩,
      ⟨some 77, (.load false 1 (.t 76)), none⟩,
      ⟨some 78, (.indexAddr 1 (.t 66) (.t 67)), none⟩,
      ⟨none, (.store 1 (.t 78) (.t 73)), none⟩,
      ⟨some 79, (.indexAddr 1 (.t 68) (.t 69)), none⟩,
      ⟨none, (.store 1 (.t 79) (.t 77)), none⟩] [] [])
    (.seq (.region [
      ⟨some 80, (.move (.t 11)), none⟩,
      ⟨some 8, (.move (.t 80)), none⟩,
      ⟨some 9, (.move (.c (.s (.bool true)))), none⟩] [] [])
    .ret))
    .skip))
  (.seq (.region [
    ⟨some 81, (.move (.t 0)), none⟩,
    ⟨some 82, (.move (.t 10)), none⟩,
    ⟨some 83, (.move (.t 0)), none⟩,
    ⟨some 84, (.move (.t 11)), none⟩,
    ⟨some 85, (.move (.t 0)), none⟩,
    ⟨some 86, (.move (.t 11)), none⟩,
    ⟨some 87, (.indexAddr 1 (.t 85) (.t 86)), none⟩,
    ⟨some 88, (.load false 1 (.t 87)), none⟩,
    ⟨some 89, (.move (.t 0)), none⟩,
    ⟨some 90, (.move (.t 10)), none⟩,
    ⟨some 91, (.indexAddr 1 (.t 89) (.t 90)), none⟩,
    ⟨some 92, (.load false 1 (.t 91)), none⟩,
    ⟨some 93, (.indexAddr 1 (.t 81) (.t 82)), none⟩,
    ⟨none, (.store 1 (.t 93) (.t 88)), none⟩,
    ⟨some 94, (.indexAddr 1 (.t 83) (.t 84)), none⟩,
    ⟨none, (.store 1 (.t 94) (.t 92)), none⟩] [] [])
  (.seq (.region [
    ⟨some 95, (.move (.t 10)), none⟩,
    ⟨some 96, (.bin .add (.t 95) (.c (.s (.int .i64 1)))), none⟩,
    ⟨some 10, (.move (.t 96)), none⟩] [] [])
  (.seq (.region [
    ⟨some 97, (.move (.t 11)), none⟩,
    ⟨some 98, (.bin .sub (.t 97) (.c (.s (.int .i64 1)))), none⟩,
    ⟨some 11, (.move (.t 98)), none⟩] [] [])
  (.seq (.block 4
    (.loop c_slices_partitionOrdered_int_k4 c_slices_partitionOrdered_int_l4))
  (.seq (.region [
    ⟨some 153, (.move (.t 0)), none⟩,
    ⟨some 154, (.move (.t 11)), none⟩,
    ⟨some 155, (.move (.t 0)), none⟩,
    ⟨some 156, (.move (.t 1)), none⟩,
    ⟨some 157, (.move (.t 0)), none⟩,
    ⟨some 158, (.move (.t 1)), none⟩,
    ⟨some 159, (.indexAddr 1 (.t 157) (.t 158)), none⟩,
    ⟨some 160, (.load false 1 (.t 159)), none⟩,
    ⟨some 161, (.move (.t 0)), none⟩,
    ⟨some 162, (.move (.t 11)), none⟩,
    ⟨some 163, (.indexAddr 1 (.t 161) (.t 162)), none⟩,
    ⟨some 164, (.load false 1 (.t 163)), none⟩,
    ⟨some 165, (.indexAddr 1 (.t 153) (.t 154)), none⟩,
    ⟨none, (.store 1 (.t 165) (.t 160)), none⟩,
    ⟨some 166, (.indexAddr 1 (.t 155) (.t 156)), none⟩,
    ⟨none, (.store 1 (.t 166) (.t 164)), none⟩] [] [])
  (.seq (.region [
    ⟨some 167, (.move (.t 11)), none⟩,
    ⟨some 8, (.move (.t 167)), none⟩,
    ⟨some 9, (.move (.c (.s (.bool false)))), none⟩] [] [])
  .ret)))))))))))) }
def c_math_bits_Len32 : ACFun := { ntmps := 19, results := [(.tmp 2)], body :=
  (.seq (.region [
    ⟨some 2, (.move (.c (.s (.int .i64 0)))), none⟩] [] [])
  (.seq (.seq (.region [
    ⟨some 3, (.move (.t 0)), none⟩,
    ⟨some 4, (.bin .geq (.t 3) (.c (.s (.int .u32 65536)))), none⟩] [] [])
  (.cond (.t 4)
    (.seq (.region [
      ⟨some 5, (.move (.t 0)), none⟩,
      ⟨some 6, (.bin .shr (.t 5) (.c (.s (.int .u64 16)))), none⟩,
      ⟨some 0, (.move (.t 6)), none⟩] [] [])
    (.region [
      ⟨some 2, (.move (.c (.s (.int .i64 16)))), none⟩] [] []))
    .skip))
  (.seq (.seq (.region [
    ⟨some 7, (.move (.t 0)), none⟩,
    ⟨some 8, (.bin .geq (.t 7) (.c (.s (.int .u32 256)))), none⟩] [] [])
  (.cond (.t 8)
    (.seq (.region [
      ⟨some 9, (.move (.t 0)), none⟩,
      ⟨some 10, (.bin .shr (.t 9) (.c (.s (.int .u64 8)))), none⟩,
      ⟨some 0, (.move (.t 10)), none⟩] [] [])
    (.region [
      ⟨some 11, (.move (.t 2)), none⟩,
      ⟨some 12, (.bin .add (.t 11) (.c (.s (.int .i64 8)))), none⟩,
      ⟨some 2, (.move (.t 12)), none⟩] [] []))
    .skip))
  (.seq (.region [
    ⟨some 13, (.move (.t 2)), none⟩,
    ⟨some 14, (.move (.t 0)), none⟩,
    ⟨some 15, (.conv .u8 (.t 14)), none⟩,
    ⟨some 16, (.indexStr (.c (.s (.string ⟨#[0, 1, 2, 2, 3, 3, 3, 3, 4, 4, 4, 4, 4, 4, 4, 4, 5, 5, 5, 5, 5, 5, 5, 5, 5, 5, 5, 5, 5, 5, 5, 5, 6, 6, 6, 6, 6, 6, 6, 6, 6, 6, 6, 6, 6, 6, 6, 6, 6, 6, 6, 6, 6, 6, 6, 6, 6, 6, 6, 6, 6, 6, 6, 6, 7, 7, 7, 7, 7, 7, 7, 7, 7, 7, 7, 7, 7, 7, 7, 7, 7, 7, 7, 7, 7, 7, 7, 7, 7, 7, 7, 7, 7, 7, 7, 7, 7, 7, 7, 7, 7, 7, 7, 7, 7, 7, 7, 7, 7, 7, 7, 7, 7, 7, 7, 7, 7, 7, 7, 7, 7, 7, 7, 7, 7, 7, 7, 7, 8, 8, 8, 8, 8, 8, 8, 8, 8, 8, 8, 8, 8, 8, 8, 8, 8, 8, 8, 8, 8, 8, 8, 8, 8, 8, 8, 8, 8, 8, 8, 8, 8, 8, 8, 8, 8, 8, 8, 8, 8, 8, 8, 8, 8, 8, 8, 8, 8, 8, 8, 8, 8, 8, 8, 8, 8, 8, 8, 8, 8, 8, 8, 8, 8, 8, 8, 8, 8, 8, 8, 8, 8, 8, 8, 8, 8, 8, 8, 8, 8, 8, 8, 8, 8, 8, 8, 8, 8, 8, 8, 8, 8, 8, 8, 8, 8, 8, 8, 8, 8, 8, 8, 8, 8, 8, 8, 8, 8, 8, 8, 8, 8, 8, 8, 8, 8, 8, 8, 8, 8, 8, 8, 8, 8, 8, 8, 8]⟩))) (.t 15)), none⟩,
    ⟨some 17, (.conv .i64 (.t 16)), none⟩,
    ⟨some 18, (.bin .add (.t 13) (.t 17)), none⟩,
    ⟨some 2, (.move (.t 18)), none⟩] [] [])
  .ret)))) }
def c_math_bits_Len64 : ACFun := { ntmps := 25, results := [(.tmp 2)], body :=
  (.seq (.region [
    ⟨some 2, (.move (.c (.s (.int .i64 0)))), none⟩] [] [])
  (.seq (.seq (.region [
    ⟨some 3, (.move (.t 0)), none⟩,
    ⟨some 4, (.bin .geq (.t 3) (.c (.s (.int .u64 4294967296)))), none⟩] [] [])
  (.cond (.t 4)
    (.seq (.region [
      ⟨some 5, (.move (.t 0)), none⟩,
      ⟨some 6, (.bin .shr (.t 5) (.c (.s (.int .u64 32)))), none⟩,
      ⟨some 0, (.move (.t 6)), none⟩] [] [])
    (.region [
      ⟨some 2, (.move (.c (.s (.int .i64 32)))), none⟩] [] []))
    .skip))
  (.seq (.seq (.region [
    ⟨some 7, (.move (.t 0)), none⟩,
    ⟨some 8, (.bin .geq (.t 7) (.c (.s (.int .u64 65536)))), none⟩] [] [])
  (.cond (.t 8)
    (.seq (.region [
      ⟨some 9, (.move (.t 0)), none⟩,
      ⟨some 10, (.bin .shr (.t 9) (.c (.s (.int .u64 16)))), none⟩,
      ⟨some 0, (.move (.t 10)), none⟩] [] [])
    (.region [
      ⟨some 11, (.move (.t 2)), none⟩,
      ⟨some 12, (.bin .add (.t 11) (.c (.s (.int .i64 16)))), none⟩,
      ⟨some 2, (.move (.t 12)), none⟩] [] []))
    .skip))
  (.seq (.seq (.region [
    ⟨some 13, (.move (.t 0)), none⟩,
    ⟨some 14, (.bin .geq (.t 13) (.c (.s (.int .u64 256)))), none⟩] [] [])
  (.cond (.t 14)
    (.seq (.region [
      ⟨some 15, (.move (.t 0)), none⟩,
      ⟨some 16, (.bin .shr (.t 15) (.c (.s (.int .u64 8)))), none⟩,
      ⟨some 0, (.move (.t 16)), none⟩] [] [])
    (.region [
      ⟨some 17, (.move (.t 2)), none⟩,
      ⟨some 18, (.bin .add (.t 17) (.c (.s (.int .i64 8)))), none⟩,
      ⟨some 2, (.move (.t 18)), none⟩] [] []))
    .skip))
  (.seq (.region [
    ⟨some 19, (.move (.t 2)), none⟩,
    ⟨some 20, (.move (.t 0)), none⟩,
    ⟨some 21, (.conv .u8 (.t 20)), none⟩,
    ⟨some 22, (.indexStr (.c (.s (.string ⟨#[0, 1, 2, 2, 3, 3, 3, 3, 4, 4, 4, 4, 4, 4, 4, 4, 5, 5, 5, 5, 5, 5, 5, 5, 5, 5, 5, 5, 5, 5, 5, 5, 6, 6, 6, 6, 6, 6, 6, 6, 6, 6, 6, 6, 6, 6, 6, 6, 6, 6, 6, 6, 6, 6, 6, 6, 6, 6, 6, 6, 6, 6, 6, 6, 7, 7, 7, 7, 7, 7, 7, 7, 7, 7, 7, 7, 7, 7, 7, 7, 7, 7, 7, 7, 7, 7, 7, 7, 7, 7, 7, 7, 7, 7, 7, 7, 7, 7, 7, 7, 7, 7, 7, 7, 7, 7, 7, 7, 7, 7, 7, 7, 7, 7, 7, 7, 7, 7, 7, 7, 7, 7, 7, 7, 7, 7, 7, 7, 8, 8, 8, 8, 8, 8, 8, 8, 8, 8, 8, 8, 8, 8, 8, 8, 8, 8, 8, 8, 8, 8, 8, 8, 8, 8, 8, 8, 8, 8, 8, 8, 8, 8, 8, 8, 8, 8, 8, 8, 8, 8, 8, 8, 8, 8, 8, 8, 8, 8, 8, 8, 8, 8, 8, 8, 8, 8, 8, 8, 8, 8, 8, 8, 8, 8, 8, 8, 8, 8, 8, 8, 8, 8, 8, 8, 8, 8, 8, 8, 8, 8, 8, 8, 8, 8, 8, 8, 8, 8, 8, 8, 8, 8, 8, 8, 8, 8, 8, 8, 8, 8, 8, 8, 8, 8, 8, 8, 8, 8, 8, 8, 8, 8, 8, 8, 8, 8, 8, 8, 8, 8, 8, 8, 8, 8, 8, 8]⟩))) (.t 21)), none⟩,
    ⟨some 23, (.conv .i64 (.t 22)), none⟩,
    ⟨some 24, (.bin .add (.t 19) (.t 23)), none⟩,
    ⟨some 2, (.move (.t 24)), none⟩] [] [])
  .ret))))) }
def c_slices_siftDownOrdered_int_l0 : ACode :=
  (.block 1
    (.seq (.region [
      ⟨some 11, (.move (.t 8)), none⟩,
      ⟨some 12, (.bin .mul (.c (.s (.int .i64 2))) (.t 11)), none⟩,
      ⟨some 13, (.bin .add (.t 12) (.c (.s (.int .i64 1)))), none⟩,
      ⟨some 9, (.move (.t 13)), none⟩] [] [])
    (.seq (.seq (.region [
      ⟨some 14, (.move (.t 9)), none⟩,
      ⟨some 15, (.move (.t 2)), none⟩,
      ⟨some 16, (.bin .geq (.t 14) (.t 15)), none⟩] [] [])
    (.cond (.t 16)
      (.exit 0)
      .skip))
    (.seq (.seq (.region [
      ⟨some 17, (.move (.t 9)), none⟩,
      ⟨some 18, (.bin .add (.t 17) (.c (.s (.int .i64 1)))), none⟩,
      ⟨some 19, (.move (.t 2)), none⟩,
      ⟨some 20, (.bin .lss (.t 18) (.t 19)), none⟩,
      ⟨some 21, (.move (.t 20)), none⟩,
      ⟨some 22, (.move (.t 0)), some (21, true)⟩,
      ⟨some 23, (.move (.t 3)), some (21, true)⟩,
      ⟨some 24, (.move (.t 9)), some (21, true)⟩,
      ⟨some 25, (.bin .add (.t 23) (.t 24)), some (21, true)⟩,
      ⟨some 26, (.indexAddr 1 (.t 22) (.t 25)), some (21, true)⟩,
      ⟨some 27, (.load false 1 (.t 26)), some (21, true)⟩,
      ⟨some 28, (.move (.t 0)), some (21, true)⟩,
      ⟨some 29, (.move (.t 3)), some (21, true)⟩,
      ⟨some 30, (.move (.t 9)), some (21, true)⟩,
      ⟨some 31, (.bin .add (.t 29) (.t 30)), some (21, true)⟩,
      ⟨some 32, (.bin .add (.t 31) (.c (.s (.int .i64 1)))), some (21, true)⟩,
      ⟨some 33, (.indexAddr 1 (.t 28) (.t 32)), some (21, true)⟩,
      ⟨some 34, (.load false 1 (.t 33)), some (21, true)⟩,
      ⟨some 35, (.call (.c (.fn 46 [] [])) [(.t 27), (.t 34)]), some (21, true)⟩,
      ⟨some 36, (.pick (.t 21) (.t 35) (.c (.s (.bool false)))), none⟩] [] [])
    (.cond (.t 36)
      (.region [
        ⟨some 37, (.move (.t 9)), none⟩,
        ⟨some 38, (.bin .add (.t 37) (.c (.s (.int .i64 1)))), none⟩,
        ⟨some 9, (.move (.t 38)), none⟩] [] [])
      .skip))
    (.seq (.seq (.region [
      ⟨some 39, (.move (.t 0)), none⟩,
      ⟨some 40, (.move (.t 3)), none⟩,
      ⟨some 41, (.move (.t 8)), none⟩,
      ⟨some 42, (.bin .add (.t 40) (.t 41)), none⟩,
      ⟨some 43, (.indexAddr 1 (.t 39) (.t 42)), none⟩,
      ⟨some 44, (.load false 1 (.t 43)), none⟩,
      ⟨some 45, (.move (.t 0)), none⟩,
      ⟨some 46, (.move (.t 3)), none⟩,
      ⟨some 47, (.move (.t 9)), none⟩,
      ⟨some 48, (.bin .add (.t 46) (.t 47)), none⟩,
      ⟨some 49, (.indexAddr 1 (.t 45) (.t 48)), none⟩,
      ⟨some 50, (.load false 1 (.t 49)), none⟩,
      ⟨some 51, (.call (.c (.fn 46 [] [])) [(.t 44), (.t 50)]), none⟩,
      ⟨some 52, (.un .not (.t 51)), none⟩] [] [])
    (.cond (.t 52)
      .ret
      .skip))
    (.seq (.region [
      ⟨some 53, (.move (.t 0)), none⟩,
      ⟨some 54, (.move (.t 3)), none⟩,
      ⟨some 55, (.move (.t 8)), none⟩,
      ⟨some 56, (.bin .add (.t 54) (.t 55)), none⟩,
      ⟨some 57, (.move (.t 0)), none⟩,
      ⟨some 58, (.move (.t 3)), none⟩,
      ⟨some 59, (.move (.t 9)), none⟩,
      ⟨some 60, (.bin .add (.t 58) (.t 59)), none⟩,
      ⟨some 61, (.move (.t 0)), none⟩,
      ⟨some 62, (.move (.t 3)), none⟩,
      ⟨some 63, (.move (.t 9)), none⟩,
      ⟨some 64, (.bin .add (.t 62) (.t 63)), none⟩,
      ⟨some 65, (.indexAddr 1 (.t 61) (.t 64)), none⟩,
      ⟨some 66, (.load false 1 (.t 65)), none⟩,
      ⟨some 67, (.move (.t 0)), none⟩,
      ⟨some 68, (.move (.t 3)), none⟩,
      ⟨some 69, (.move (.t 8)), none⟩,
      ⟨some 70, (.bin .add (.t 68) (.t 69)), none⟩,
      ⟨some 71, (.indexAddr 1 (.t 67) (.t 70)), none⟩,
      ⟨some 72, (.load false 1 (.t 71)), none⟩,
      ⟨some 73, (.indexAddr 1 (.t 53) (.t 56)), none⟩,
      ⟨none, (.store 1 (.t 73) (.t 66)), none⟩,
      ⟨some 74, (.indexAddr 1 (.t 57) (.t 60)), none⟩,
      ⟨none, (.store 1 (.t 74) (.t 72)), none⟩] [] [])
    (.region [
      ⟨some 75, (.move (.t 9)), none⟩,
      ⟨some 8, (.move (.t 75)), none⟩] [] [])))))))
def c_slices_siftDownOrdered_int_k0 : List Nat := [11, 12, 13, 9, 14, 15, 16, 17, 18, 19, 20, 21, 22, 23, 24, 25, 26, 27, 28, 29, 30, 31, 32, 33, 34, 35, 36, 37, 38, 39, 40, 41, 42, 43, 44, 45, 46, 47, 48, 49, 50, 51, 52, 53, 54, 55, 56, 57, 58, 59, 60, 61, 62, 63, 64, 65, 66, 67, 68, 69, 70, 71, 72, 73, 74, 75]
def c_slices_siftDownOrdered_int : ACFun := { ntmps := 76, results := [], body :=
  (.seq (.region [
    ⟨some 10, (.move (.t 1)), none⟩,
    ⟨some 8, (.move (.t 10)), none⟩] [] [])
  (.block 0
    (.loop c_slices_siftDownOrdered_int_k0 c_slices_siftDownOrdered_int_l0))) }
def c_slices_nextPowerOfTwo : ACFun := { ntmps := 7, results := [(.tmp 2)], body :=
  (.seq (.region [
    ⟨some 2, (.move (.c (.s (.int .u64 0)))), none⟩] [] [])
  (.seq (.region [
    ⟨some 3, (.move (.t 0)), none⟩,
    ⟨some 4, (.conv .u64 (.t 3)), none⟩,
    ⟨some 5, (.call (.c (.fn 38 [] [])) [(.t 4)]), none⟩,
    ⟨some 6, (.bin .shl (.c (.s (.int .u64 1))) (.t 5)), none⟩,
    ⟨some 2, (.move (.t 6)), none⟩] [] [])
  .ret)) }
def c_slices_xorshift_Next : ACFun := { ntmps := 33, results := [(.tmp 2)], body :=
  (.seq (.region [
    ⟨some 2, (.move (.c (.s (.int .u64 0)))), none⟩] [] [])
  (.seq (.region [
    ⟨some 3, (.move (.t 0)), none⟩,
    ⟨some 4, (.nilCheck (.t 3)), none⟩,
    ⟨some 5, (.load false 1 (.t 4)), none⟩,
    ⟨some 6, (.move (.t 0)), none⟩,
    ⟨some 7, (.nilCheck (.t 6)), none⟩,
    ⟨some 8, (.load false 1 (.t 7)), none⟩,
    ⟨some 9, (.bin .shl (.t 8) (.c (.s (.int .u64 13)))), none⟩,
    ⟨some 10, (.bin .xor (.t 5) (.t 9)), none⟩,
    ⟨some 11, (.nilCheck (.t 3)), none⟩,
    ⟨none, (.store 1 (.t 11) (.t 10)), none⟩] [] [])
  (.seq (.region [
    ⟨some 12, (.move (.t 0)), none⟩,
    ⟨some 13, (.nilCheck (.t 12)), none⟩,
    ⟨some 14, (.load false 1 (.t 13)), none⟩,
    ⟨some 15, (.move (.t 0)), none⟩,
    ⟨some 16, (.nilCheck (.t 15)), none⟩,
    ⟨some 17, (.load false 1 (.t 16)), none⟩,
    ⟨some 18, (.bin .shr (.t 17) (.c (.s (.int .u64 7)))), none⟩,
    ⟨some 19, (.bin .xor (.t 14) (.t 18)), none⟩,
    ⟨some 20, (.nilCheck (.t 12)), none⟩,
    ⟨none, (.store 1 (.t 20) (.t 19)), none⟩] [] [])
  (.seq (.region [
    ⟨some 21, (.move (.t 0)), none⟩,
    ⟨some 22, (.nilCheck (.t 21)), none⟩,
    ⟨some 23, (.load false 1 (.t 22)), none⟩,
    ⟨some 24, (.move (.t 0)), none⟩,
    ⟨some 25, (.nilCheck (.t 24)), none⟩,
    ⟨some 26, (.load false 1 (.t 25)), none⟩,
    ⟨some 27, (.bin .shl (.t 26) (.c (.s (.int .u64 17)))), none⟩,
    ⟨some 28, (.bin .xor (.t 23) (.t 27)), none⟩,
    ⟨some 29, (.nilCheck (.t 21)), none⟩,
    ⟨none, (.store 1 (.t 29) (.t 28)), none⟩] [] [])
  (.seq (.region [
    ⟨some 30, (.move (.t 0)), none⟩,
    ⟨some 31, (.nilCheck (.t 30)), none⟩,
    ⟨some 32, (.load false 1 (.t 31)), none⟩,
    ⟨some 2, (.move (.t 32)), none⟩] [] [])
  .ret))))) }
def c_slices_medianAdjacentOrdered_int : ACFun := { ntmps := 15, results := [(.tmp 6)], body :=
  (.seq (.region [
    ⟨some 6, (.move (.c (.s (.int .i64 0)))), none⟩] [] [])
  (.seq (.region [
    ⟨some 7, (.move (.t 0)), none⟩,
    ⟨some 8, (.move (.t 1)), none⟩,
    ⟨some 9, (.bin .sub (.t 8) (.c (.s (.int .i64 1)))), none⟩,
    ⟨some 10, (.move (.t 1)), none⟩,
    ⟨some 11, (.move (.t 1)), none⟩,
    ⟨some 12, (.bin .add (.t 11) (.c (.s (.int .i64 1)))), none⟩,
    ⟨some 13, (.move (.t 2)), none⟩,
    ⟨some 14, (.call (.c (.fn 55 [] [])) [(.t 7), (.t 9), (.t 10), (.t 12), (.t 13)]), none⟩,
    ⟨some 6, (.move (.t 14)), none⟩] [] [])
  .ret)) }
def c_slices_medianOrdered_int : ACFun := { ntmps := 36, results := [(.tmp 10)], body :=
  (.seq (.region [
    ⟨some 10, (.move (.c (.s (.int .i64 0)))), none⟩] [] [])
  (.seq (.region [
    ⟨some 12, (.move (.t 0)), none⟩,
    ⟨some 13, (.move (.t 1)), none⟩,
    ⟨some 14, (.move (.t 2)), none⟩,
    ⟨some 15, (.move (.t 4)), none⟩,
    ⟨some 16, (.call (.c (.fn 57 [] [])) [(.t 12), (.t 13), (.t 14), (.t 15)]), none⟩,
    ⟨some 11, (.move (.t 16)), none⟩,
    ⟨some 17, (.extract (.t 11) 0), none⟩,
    ⟨some 18, (.extract (.t 11) 1), none⟩,
    ⟨some 1, (.move (.t 17)), none⟩,
    ⟨some 2, (.move (.t 18)), none⟩] [] [])
  (.seq (.region [
    ⟨some 20, (.move (.t 0)), none⟩,
    ⟨some 21, (.move (.t 2)), none⟩,
    ⟨some 22, (.move (.t 3)), none⟩,
    ⟨some 23, (.move (.t 4)), none⟩,
    ⟨some 24, (.call (.c (.fn 57 [] [])) [(.t 20), (.t 21), (.t 22), (.t 23)]), none⟩,
    ⟨some 19, (.move (.t 24)), none⟩,
    ⟨some 25, (.extract (.t 19) 0), none⟩,
    ⟨some 26, (.extract (.t 19) 1), none⟩,
    ⟨some 2, (.move (.t 25)), none⟩,
    ⟨some 3, (.move (.t 26)), none⟩] [] [])
  (.seq (.region [
    ⟨some 28, (.move (.t 0)), none⟩,
    ⟨some 29, (.move (.t 1)), none⟩,
    ⟨some 30, (.move (.t 2)), none⟩,
    ⟨some 31, (.move (.t 4)), none⟩,
    ⟨some 32, (.call (.c (.fn 57 [] [])) [(.t 28), (.t 29), (.t 30), (.t 31)]), none⟩,
    ⟨some 27, (.move (.t 32)), none⟩,
    ⟨some 33, (.extract (.t 27) 0), none⟩,
    ⟨some 34, (.extract (.t 27) 1), none⟩,
    ⟨some 1, (.move (.t 33)), none⟩,
    ⟨some 2, (.move (.t 34)), none⟩] [] [])
  (.seq (.region [
    ⟨some 35, (.move (.t 2)), none⟩,
    ⟨some 10, (.move (.t 35)), none⟩] [] [])
  .ret))))) }
def c_cmp_isNaN_int : ACFun := { ntmps := 6, results := [(.tmp 2)], body :=
  (.seq (.region [
    ⟨some 2, (.move (.c (.s (.bool false)))), none⟩] [] [])
  (.seq (.region [
    ⟨some 3, (.move (.t 0)), none⟩,
    ⟨some 4, (.move (.t 0)), none⟩,
    ⟨some 5, (.bin .neq (.t 3) (.t 4)), none⟩,
    ⟨some 2, (.move (.t 5)), none⟩] [] [])
  .ret)) }
def c_slices_order2Ordered_int : ACFun := { ntmps := 28, results := [(.tmp 8), (.tmp 9)], body :=
  (.seq (.region [
    ⟨some 8, (.move (.c (.s (.int .i64 0)))), none⟩,
    ⟨some 9, (.move (.c (.s (.int .i64 0)))), none⟩] [] [])
  (.seq (.seq (.region [
    ⟨some 10, (.move (.t 0)), none⟩,
    ⟨some 11, (.move (.t 2)), none⟩,
    ⟨some 12, (.indexAddr 1 (.t 10) (.t 11)), none⟩,
    ⟨some 13, (.load false 1 (.t 12)), none⟩,
    ⟨some 14, (.move (.t 0)), none⟩,
    ⟨some 15, (.move (.t 1)), none⟩,
    ⟨some 16, (.indexAddr 1 (.t 14) (.t 15)), none⟩,
    ⟨some 17, (.load false 1 (.t 16)), none⟩,
    ⟨some 18, (.call (.c (.fn 46 [] [])) [(.t 13), (.t 17)]), none⟩] [] [])
  (.cond (.t 18)
    (.seq (.region [
      ⟨some 19, (.move (.t 3)), none⟩,
      ⟨some 20, (.nilCheck (.t 19)), none⟩,
      ⟨some 21, (.load false 1 (.t 20)), none⟩,
      ⟨some 22, (.bin .add (.t 21) (.c (.s (.int .i64 1)))), none⟩,
      ⟨some 23, (.nilCheck (.t 19)), none⟩,
      ⟨none, (.store 1 (.t 23) (.t 22)), none⟩] [] [])
    (.seq (.region [
      ⟨some 24, (.move (.t 2)), none⟩,
      ⟨some 25, (.move (.t 1)), none⟩,
      ⟨some 8, (.move (.t 24)), none⟩,
      ⟨some 9, (.move (.t 25)), none⟩] [] [])
    .ret))
    .skip))
  (.seq (.region [
    ⟨some 26, (.move (.t 1)), none⟩,
    ⟨some 27, (.move (.t 2)), none⟩,
    ⟨some 8, (.move (.t 26)), none⟩,
    ⟨some 9, (.move (.t 27)), none⟩] [] [])
  .ret))) }
def CQ : Nat → Option CFun
  | 10 => some (.code c_gnomonlaw07_wakes)
  | 12 => some (.code c_graph_Norm)
  | 13 => some (.code c_graph_Back)
  | 14 => some (.code c_gnomonref07_Same)
  | 18 => some (.code c_graph_Reach)
  | 20 => some (.code c_graph_Leads)
  | 22 => some (.code c_gnomonref01_Same)
  | 23 => some (.code c_graph_Post)
  | 25 => some (.code c_gnomonlaw07_known)
  | 26 => some (.code c_slices_DeleteFunc_int_int)
  | 27 => some (.code c_slices_Clone_int_int)
  | 28 => some (.code c_graph_Norm_1)
  | 29 => some (.code c_slices_Sort_int_int)
  | 30 => some (.code c_slices_Compact_int_int)
  | 32 => some (.code c_graph_Reach_1)
  | 33 => some (.code c_slices_IndexFunc_int_int)
  | 34 => some (.code c_graph_Post_1)
  | 35 => some (.code c_slices_Reverse_int_int)
  | 37 => some (.code c_slices_pdqsortOrdered_int)
  | 38 => some (.code c_math_bits_Len)
  | 40 => some (.code c_slices_insertionSortOrdered_int)
  | 41 => some (.code c_slices_heapSortOrdered_int)
  | 42 => some (.code c_slices_breakPatternsOrdered_int)
  | 43 => some (.code c_slices_choosePivotOrdered_int)
  | 44 => some (.code c_slices_reverseRangeOrdered_int)
  | 45 => some (.code c_slices_partialInsertionSortOrdered_int)
  | 46 => some (.code c_cmp_Less_int)
  | 47 => some (.code c_slices_partitionEqualOrdered_int)
  | 48 => some (.code c_slices_partitionOrdered_int)
  | 49 => some (.code c_math_bits_Len32)
  | 50 => some (.code c_math_bits_Len64)
  | 51 => some (.code c_slices_siftDownOrdered_int)
  | 52 => some (.code c_slices_nextPowerOfTwo)
  | 53 => some (.code c_slices_xorshift_Next)
  | 54 => some (.code c_slices_medianAdjacentOrdered_int)
  | 55 => some (.code c_slices_medianOrdered_int)
  | 56 => some (.code c_cmp_isNaN_int)
  | 57 => some (.code c_slices_order2Ordered_int)
  | _ => none
theorem checks_true : givesE CQ 300 10 = some (bl true) := by kernel_rfl
end Go.Proofs.Ytmnlagcmpgilaaa
namespace Go.AM
open Go.RowKit
inductive Ty where
  | int (k : IntKind) | bool | str
  | sl (e : Ty)
  | st (fs : List Ty)
  deriving Inhabited
mutual
def Ty.width : Ty → Nat
  | .int _ => 1
  | .bool => 1
  | .str => 1
  | .sl _ => 1
  | .st fs => widths fs
def widths : List Ty → Nat
  | [] => 0
  | f :: fs => f.width + widths fs
end
mutual
def tyOk (P : Program) : Nat → Ty → TypeId → Bool
  | 0, _, _ => false
  | n + 1, ty, t => match ty, P.underlying t with
    | .int k, some (.int k') => k == k'
    | .bool, some .bool => true
    | .str, some .string => true
    | .sl e, some (.slice e') => tyOk P n e e' && P.cellsOf e' == e.width && decide (0 < e.width)
    | .st fs, some (.struct gs) => P.cellsOf t == widths fs && tysOk P n 0 fs gs.toList
    | _, _ => false
def tysOk (P : Program) : Nat → Nat → List Ty → List Field → Bool
  | 0, _, _, _ => false
  | n + 1, off, fs, gs => match fs, gs with
    | [], [] => true
    | f :: fs, g :: gs => g.offset == off && P.cellsOf g.type == f.width && tyOk P n f g.type && tysOk P n (off + f.width) fs gs
    | _, _ => false
end
mutual
def IsV : Ty → List V → Prop
  | .int k, cs => ∃ n, cs = [.s (.int k n)] ∧ k.min ≤ n ∧ n ≤ k.max
  | .bool, cs => ∃ b, cs = [.s (.bool b)]
  | .str, cs => ∃ b, cs = [.s (.string b)] ∧ b.size ≤ maxLen
  | .sl e, cs => cs = [nilS] ∨ ∃ es : List (List V), cs = [.psl es e.width] ∧ es.length ≤ maxLen ∧ ∀ x ∈ es, IsV e x
  | .st fs, cs => IsVs fs cs
def IsVs : List Ty → List V → Prop
  | [], cs => cs = []
  | f :: fs, cs => ∃ a b, cs = a ++ b ∧ IsV f a ∧ IsVs fs b
end
mutual
theorem IsV.len : ∀ (t : Ty) {cs : List V}, IsV t cs → cs.length = t.width
  | .int _, cs, h => by obtain ⟨n, rfl, _⟩ := h; rfl
  | .bool, cs, h => by obtain ⟨n, rfl⟩ := h; rfl
  | .str, cs, h => by obtain ⟨n, rfl, _⟩ := h; rfl
  | .sl e, cs, h => by rcases h with rfl | ⟨es, rfl, _⟩ <;> rfl
  | .st fs, cs, h => IsVs.len fs h
theorem IsVs.len : ∀ (fs : List Ty) {cs : List V}, IsVs fs cs → cs.length = widths fs
  | [], cs, h => by cases h; rfl
  | f :: fs, cs, h => by
    obtain ⟨a, b, rfl, h1, h2⟩ := h
    rw [List.length_append, IsV.len f h1, IsVs.len fs h2]; rfl
end
abbrev PRs (w : World) (vs : List V) (cs : List Value) : Prop := vs.length = cs.length ∧ ∀ (i : Nat) (a : V) (b : Value), vs[i]? = some a → cs[i]? = some b → PR (fun _ => False) w a b
theorem PRs.app {w : World} {a b : List V} {c d : List Value} (h : PRs w a c) (k : PRs w b d) : PRs w (a ++ b) (c ++ d) := by
  refine ⟨by simp [h.1, k.1], fun i x y hx hy => ?_⟩
  by_cases hi : i < a.length
  · rw [List.getElem?_append_left hi] at hx
    rw [List.getElem?_append_left (by rw [← h.1]; exact hi)] at hy
    exact h.2 i x y hx hy
  · rw [List.getElem?_append_right (by omega)] at hx
    rw [List.getElem?_append_right (by rw [← h.1]; omega), ← h.1] at hy
    exact k.2 _ x y hx hy
theorem PRs.one {w : World} {a : V} {b : Value} (h : PR (fun _ => False) w a b) : PRs w [a] [b] := ⟨rfl, fun i x y hx hy => by
  cases i with
  | zero => simp at hx hy; rw [← hx, ← hy]; exact h
  | succ i => simp at hx⟩
theorem PRs.vrs {w : World} {vs : List V} {cs : List Value} (h : PRs w vs cs) : VRs (fun _ _ => none) (fun _ => False) w vs cs := ⟨h.1, fun i a b ha hb => (h.2 i a b ha hb).vr⟩
theorem mapM_fwd {α β : Type} {f : α → Option β} {l : List α} {us : List β} (h : l.mapM f = some us) : us.length = l.length ∧ ∀ (i : Nat) (v : α), l[i]? = some v → ∃ u, us[i]? = some u ∧ f v = some u := by
  obtain ⟨h1, h2⟩ := mapM_get2 h
  refine ⟨h1, fun i v hv => ?_⟩
  have hi : i < us.length := by rw [h1]; exact (List.getElem?_eq_some_iff.1 hv).1
  exact ⟨us[i], List.getElem?_eq_getElem hi, h2 i v _ hv (List.getElem?_eq_getElem hi)⟩
section
variable {H : Type} {enc : TypeId × Value → H} {P : Program} {w : World} {base : Nat} {sp : Nat → Bool} {held : Bool}
theorem add_block (a : Addr) (j : Nat) : (a.add j).block = a.block := by unfold Addr.add; split <;> rfl
theorem add_off {a : Addr} (h : a.spot = none) (j : Nat) : (a.add j).off = a.off + j := by
  unfold Addr.add
  split
  · rename_i e; subst e; rfl
  · rfl
theorem cells_row {a : Addr} {n : Nat} {cs : List Value} (h : w.cells? base a n = some cs) (hn : 0 < n) : ∃ arr e fr, w.heap[a.block]? = some (.cells arr e fr) ∧ a.spot = none ∧ cs.length = n ∧ a.off + n ≤ arr.size ∧ ∀ j, j < n → cs[j]? = arr[a.off + j]? := by
  unfold World.cells? at h
  split at h
  · obtain ⟨h1, h2⟩ := mapM_fwd h
    simp only [List.length_range] at h1
    have key : ∀ j, j < n → ∃ u, cs[j]? = some u ∧ w.cell? (a.add j) = some u := fun j hj => h2 j j (by simp [hj])
    obtain ⟨u0, _, hc0⟩ := key 0 hn
    unfold World.cell? at hc0
    split at hc0
    · rename_i c e fr hh
      have hbl : ∀ j, (a.add j).block = a.block := fun j => add_block a j
      rw [hbl] at hh
      split at hc0
      · cases hc0
      · rename_i hsp
        have hsp : a.spot = none := by
          cases hs : a.spot with
          | none => rfl
          | some x => exact absurd (by show (a.add 0).spot.isSome = true; simp [Addr.add, hs]) hsp
        have all : ∀ j, j < n → cs[j]? = c[a.off + j]? := by
          intro j hj
          obtain ⟨u, hu, hc⟩ := key j hj
          unfold World.cell? at hc
          rw [hbl, hh] at hc
          simp only [] at hc
          split at hc
          · cases hc
          · rw [hu]
            have : (a.add j).off = a.off + j := add_off hsp j
            rw [← this]; exact hc.symm
        refine ⟨c, e, fr, hh, hsp, h1, ?_, all⟩
        have hl := all (n - 1) (by omega)
        have : cs[n - 1]? = some cs[n - 1] := List.getElem?_eq_getElem (by omega)
        rw [this] at hl
        have := (Array.getElem?_eq_some_iff.1 hl.symm).1
        omega
    · cases hc0
  · cases h
theorem tyOk_int {n : Nat} {k : IntKind} {t : TypeId} (h : tyOk P n (.int k) t = true) : P.underlying t = some (.int k) := by
  cases n with
  | zero => simp [tyOk] at h
  | succ n =>
    simp only [tyOk] at h
    split at h <;> simp_all
theorem tyOk_bool {n : Nat} {t : TypeId} (h : tyOk P n .bool t = true) : P.underlying t = some .bool := by
  cases n with
  | zero => simp [tyOk] at h
  | succ n =>
    simp only [tyOk] at h
    split at h <;> simp_all
theorem tyOk_str {n : Nat} {t : TypeId} (h : tyOk P n .str t = true) : P.underlying t = some .string := by
  cases n with
  | zero => simp [tyOk] at h
  | succ n =>
    simp only [tyOk] at h
    split at h <;> simp_all
theorem tyOk_sl {n : Nat} {e : Ty} {t : TypeId} (h : tyOk P n (.sl e) t = true) : ∃ m e', P.underlying t = some (.slice e') ∧ tyOk P m e e' = true ∧ P.cellsOf e' = e.width ∧ 0 < e.width := by
  cases n with
  | zero => simp [tyOk] at h
  | succ n =>
    simp only [tyOk] at h
    split at h <;> simp_all
    exact ⟨n, h.1.1⟩
theorem tyOk_st {n : Nat} {fs : List Ty} {t : TypeId} (h : tyOk P n (.st fs) t = true) : ∃ m gs, P.underlying t = some (.struct gs) ∧ P.cellsOf t = widths fs ∧ tysOk P m 0 fs gs.toList = true := by
  cases n with
  | zero => simp [tyOk] at h
  | succ n =>
    simp only [tyOk] at h
    split at h <;> simp_all
    exact ⟨n, h.2⟩
theorem read_ty : ∀ (fuel n : Nat) (ty : Ty) (t : TypeId) (cs : List Value) (x : DataW H × List MemPlace), tyOk P n ty t = true → DataW.trod enc P w base sp held fuel t cs = some x → ∃ vs, IsV ty vs ∧ PRs w vs cs := by
  intro fuel
  induction fuel with
  | zero => intro n ty t cs x _ h; simp [DataW.trod] at h
  | succ fuel ih =>
    intro n ty t cs x ht h
    cases ty with
    | int k =>
      obtain ⟨m, rfl, _, hw⟩ := DataW.trod_int (tyOk_int ht) h
      simp only [Lit.wf, Bool.and_eq_true, decide_eq_true_eq] at hw
      exact ⟨[.s (.int k m)], ⟨m, rfl, hw.1, hw.2⟩, PRs.one (.s _)⟩
    | bool =>
      obtain ⟨b, rfl, _⟩ := DataW.trod_bool (tyOk_bool ht) h
      exact ⟨[.s (.bool b)], ⟨b, rfl⟩, PRs.one (.s _)⟩
    | str =>
      obtain ⟨b, rfl, _, hb⟩ := DataW.trod_string (tyOk_str ht) h
      exact ⟨[.s (.string b)], ⟨b, rfl, hb⟩, PRs.one (.s _)⟩
    | sl e =>
      obtain ⟨m, e', hu, he, hw, h0⟩ := tyOk_sl ht
      rcases DataW.trod_slice hu h with ⟨rfl, _⟩ | ⟨a, len, cap, elems, rest, n2, hn, rfl, _, hb, hlc, hcm, hel, hall, _⟩
      · exact ⟨[nilS], .inl rfl, PRs.one (.s _)⟩
      · have hn2 : n2 = fuel := by omega
        subst hn2
        rw [hw] at hall
        by_cases hl : len = 0
        · subst hl
          exact ⟨[.psl [] e.width], .inr ⟨[], rfl, Nat.zero_le _, fun x hx => by cases hx⟩, PRs.one (.psl0 _ _ _)⟩
        ·
          have one : ∀ i, i < len → ∃ cs vs, w.cells? base (a.add (i * e.width)) e.width = some cs ∧ IsV e vs ∧ PRs w vs cs := by
            intro i hi
            have hh := hall i hi
            have : elems[i]? = some elems[i] := List.getElem?_eq_getElem (by omega)
            rw [this, Option.bind_eq_some_iff] at hh
            obtain ⟨cs, h1, h2⟩ := hh
            obtain ⟨vs, h3, h4⟩ := ih m e e' cs _ he h2
            exact ⟨cs, vs, h1, h3, h4⟩
          obtain ⟨c0, _, hc0, _, _⟩ := one 0 (by omega)
          rw [Nat.zero_mul] at hc0
          have ha0 : a.add 0 = a := by simp [Addr.add]
          rw [ha0] at hc0
          obtain ⟨arr, el, fr, hB, hsp, _, _, _⟩ := cells_row hc0 h0
          have pos : ∀ i, i < len → ∃ vs, IsV e vs ∧ a.off + i * e.width + e.width ≤ arr.size ∧ ∀ (j : Nat) (x : V) (y : Value), vs[j]? = some x → arr[a.off + i * e.width + j]? = some y → PR (fun _ => False) w x y := by
            intro i hi
            obtain ⟨cs, vs, h1, h2, h3⟩ := one i hi
            obtain ⟨arr', el', fr', hB', _, hcl, hsz, hcj⟩ := cells_row h1 h0
            rw [add_block, hB] at hB'
            cases hB'
            rw [add_off hsp] at hsz hcj
            refine ⟨vs, h2, hsz, fun j x y hx hy => ?_⟩
            have hj : j < e.width := by rw [← h2.len]; exact (List.getElem?_eq_some_iff.1 hx).1
            exact h3.2 j x y hx (by rw [hcj j hj]; exact hy)
          obtain ⟨es, he1, he2⟩ : ∃ es : List (List V), es.length = len ∧ ∀ i vs, es[i]? = some vs → IsV e vs ∧ a.off + i * e.width + e.width ≤ arr.size ∧ ∀ (j : Nat) (x : V) (y : Value), vs[j]? = some x → arr[a.off + i * e.width + j]? = some y → PR (fun _ => False) w x y := by
            have : ∀ k, k ≤ len → ∃ es : List (List V), es.length = k ∧ ∀ i vs, es[i]? = some vs → IsV e vs ∧ a.off + i * e.width + e.width ≤ arr.size ∧ ∀ (j : Nat) (x : V) (y : Value), vs[j]? = some x → arr[a.off + i * e.width + j]? = some y → PR (fun _ => False) w x y := by
              intro k
              induction k with
              | zero => intro _; exact ⟨[], rfl, fun i vs h => by simp at h⟩
              | succ k ihk =>
                intro hk
                obtain ⟨es, h1, h2⟩ := ihk (by omega)
                obtain ⟨vs, h3⟩ := pos k (by omega)
                refine ⟨es ++ [vs], by simp [h1], fun i us hi => ?_⟩
                by_cases c : i < es.length
                · rw [List.getElem?_append_left c] at hi; exact h2 i us hi
                · rw [List.getElem?_append_right (by omega)] at hi
                  have : i - es.length = 0 := by
                    have := (List.getElem?_eq_some_iff.1 hi).1
                    simp at this; omega
                  rw [this] at hi
                  simp at hi
                  have hik : i = k := by omega
                  subst hik; subst hi
                  exact h3
            exact this len (Nat.le_refl _)
          refine ⟨[.psl es e.width], .inr ⟨es, rfl, by omega, fun x hx => ?_⟩, PRs.one ?_⟩
          · obtain ⟨i, hi⟩ := List.mem_iff_getElem?.1 hx
            exact (he2 i x hi).1
          · have hslice : Value.slice (some a) len cap = .slice (some ⟨a.block, a.off, none⟩) es.length cap := by
              rw [he1]
              congr 2
              cases a; simp at hsp; subst hsp; rfl
            rw [hslice]
            refine .psl es e.width a.block a.off cap arr el fr hB (fun h => h) (by omega) (fun i vs hi => (he2 i vs hi).1.len) ?_ (fun i vs j x y hi hx hy => (he2 i vs hi).2.2 j x y hx hy)
            have hlast := (he2 (len - 1) es[len - 1] (List.getElem?_eq_getElem (by omega))).2.1
            rw [he1]
            have : len * e.width = (len - 1) * e.width + e.width := by
              obtain ⟨k, rfl⟩ : ∃ k, len = k + 1 := ⟨len - 1, by omega⟩
              rw [Nat.add_sub_cancel, Nat.add_mul, Nat.one_mul]
            omega
    | st fs =>
      obtain ⟨m, gs, hu, hw, hts⟩ := tyOk_st ht
      obtain ⟨xs, n2, hn, _, hcl, hxl, hall⟩ := DataW.trod_struct hu h
      have hn2 : n2 = fuel := by omega
      subst hn2
      have key : ∀ (fs : List Ty) (m off : Nat) (gl : List Field), tysOk P m off fs gl = true → (∀ g ∈ gl, ∃ y, DataW.trod enc P w base sp held n2 g.type ((cs.drop g.offset).take (P.cellsOf g.type)) = some y) → off + widths fs = cs.length → ∃ vs, IsVs fs vs ∧ PRs w vs (cs.drop off) := by
        intro fs
        induction fs with
        | nil =>
          intro m off gl _ _ ho
          refine ⟨[], rfl, ?_⟩
          rw [List.drop_eq_nil_of_le (by simp [widths] at ho; omega)]
          exact ⟨rfl, fun i a b h => by simp at h⟩
        | cons f fs ihf =>
          intro m off gl htk hg ho
          cases m with
          | zero => simp [tysOk] at htk
          | succ m =>
            cases gl with
            | nil => simp [tysOk] at htk
            | cons g gl =>
              simp only [tysOk, Bool.and_eq_true, beq_iff_eq] at htk
              obtain ⟨⟨⟨h1, h2⟩, h3⟩, h4⟩ := htk
              obtain ⟨y, hy⟩ := hg g List.mem_cons_self
              obtain ⟨va, ha1, ha2⟩ := ih m f g.type _ y h3 hy
              obtain ⟨vb, hb1, hb2⟩ := ihf m (off + f.width) gl h4 (fun g hg' => hg g (List.mem_cons_of_mem _ hg')) (by simp only [widths] at ho; omega)
              refine ⟨va ++ vb, ⟨va, vb, rfl, ha1, hb1⟩, ?_⟩
              rw [h1, h2] at ha2
              have : cs.drop off = (cs.drop off).take f.width ++ cs.drop (off + f.width) := by
                rw [← List.drop_drop, List.take_append_drop]
              rw [this]
              exact ha2.app hb2
      obtain ⟨vs, h1, h2⟩ := key fs m 0 gs.toList hts (fun g hg => by
        obtain ⟨i, hi⟩ := List.mem_iff_getElem?.1 hg
        have hi' : gs[i]? = some g := by simpa using hi
        have h3 := hall i g hi'
        have hlt := (Array.getElem?_eq_some_iff.1 hi').1
        exact ⟨xs[i]'(by omega), by rw [h3]; exact List.getElem?_eq_getElem (by omega)⟩) (by omega)
      exact ⟨vs, h1, by simpa using h2⟩
def argV : Ty → List V → V
  | .st _, vs => .agg vs
  | _, [v] => v
  | _, _ => .unk
theorem read_arg {n : Nat} {ty : Ty} {t : TypeId} {v : Value} {d : DataW H} {ps : List MemPlace} (ht : tyOk P n ty t = true) (hf : (match ty with | .st _ => ∃ vs, v = .agg vs | _ => v.cells.toList = [v])) (h : DataW.Trod enc P w base sp held t v d ps) :
    ∃ vs, IsV ty vs ∧ VR (fun _ _ => none) (fun _ => False) w (argV ty vs) v := by
  obtain ⟨fuel, h⟩ := h
  obtain ⟨vs, h1, h2⟩ := read_ty fuel n ty t _ _ ht h
  refine ⟨vs, h1, ?_⟩
  have one : vs.length = 1 → v.cells.toList = [v] → ∃ x, vs = [x] ∧ VR (fun _ _ => none) (fun _ => False) w x v := by
    intro hl hc
    match vs, hl with
    | [x], _ =>
      rw [hc] at h2
      exact ⟨x, rfl, (h2.2 0 x v rfl rfl).vr⟩
  cases ty with
  | st fs =>
    obtain ⟨us, rfl⟩ := hf
    exact vr_agg_mk (vs := us.toList) h2.vrs
  | _ =>
    obtain ⟨x, rfl, hx⟩ := one h1.len hf
    exact hx
end
end Go.AM
set_option maxRecDepth 100000
namespace Go.Proofs.Ytmnlagcmpgilaaa
open Go.AM
theorem CV_4 : compK Try.prog (fun n => n == 15) 4 = some (false, s_gnomonlaw07_GraphWays.ntmps, s_gnomonlaw07_GraphWays.results, s_gnomonlaw07_GraphWays.body.bare) := by kernel_rfl
theorem CV_9 : compK Try.prog (fun n => n == 15) 9 = some (false, s_gnomonlaw07_great.ntmps, s_gnomonlaw07_great.results, s_gnomonlaw07_great.body.bare) := by kernel_rfl
theorem CV_12 : compK Try.prog (fun n => n == 15) 12 = some (false, s_graph_Norm.ntmps, s_graph_Norm.results, s_graph_Norm.body.bare) := by kernel_rfl
theorem CV_13 : compK Try.prog (fun n => n == 15) 13 = some (false, s_graph_Back.ntmps, s_graph_Back.results, s_graph_Back.body.bare) := by kernel_rfl
theorem CV_15 : compK Try.prog (fun n => n == 15) 15 = some (false, s_gnomonref07_Norm.ntmps, s_gnomonref07_Norm.results, s_gnomonref07_Norm.body.bare) := by kernel_rfl
theorem CV_17 : compK Try.prog (fun n => n == 15) 17 = some (false, s_gnomonref07_Bools.ntmps, s_gnomonref07_Bools.results, s_gnomonref07_Bools.body.bare) := by kernel_rfl
theorem CV_18 : compK Try.prog (fun n => n == 15) 18 = some (false, s_graph_Reach.ntmps, s_graph_Reach.results, s_graph_Reach.body.bare) := by kernel_rfl
theorem CV_20 : compK Try.prog (fun n => n == 15) 20 = some (false, s_graph_Leads.ntmps, s_graph_Leads.results, s_graph_Leads.body.bare) := by kernel_rfl
theorem CV_21 : compK Try.prog (fun n => n == 15) 21 = some (false, s_gnomonref07_Leads.ntmps, s_gnomonref07_Leads.results, s_gnomonref07_Leads.body.bare) := by kernel_rfl
theorem CV_22 : compK Try.prog (fun n => n == 15) 22 = some (false, s_gnomonref01_Same.ntmps, s_gnomonref01_Same.results, s_gnomonref01_Same.body.bare) := by kernel_rfl
theorem CV_23 : compK Try.prog (fun n => n == 15) 23 = some (false, s_graph_Post.ntmps, s_graph_Post.results, s_graph_Post.body.bare) := by kernel_rfl
theorem CV_26 : compK Try.prog (fun n => n == 15) 26 = some (false, s_slices_DeleteFunc_int_int.ntmps, s_slices_DeleteFunc_int_int.results, s_slices_DeleteFunc_int_int.body.bare) := by kernel_rfl
theorem CV_27 : compK Try.prog (fun n => n == 15) 27 = some (false, s_slices_Clone_int_int.ntmps, s_slices_Clone_int_int.results, s_slices_Clone_int_int.body.bare) := by kernel_rfl
theorem CV_28 : compK Try.prog (fun n => n == 15) 28 = some (false, s_graph_Norm_1.ntmps, s_graph_Norm_1.results, s_graph_Norm_1.body.bare) := by kernel_rfl
theorem CV_30 : compK Try.prog (fun n => n == 15) 30 = some (false, s_slices_Compact_int_int.ntmps, s_slices_Compact_int_int.results, s_slices_Compact_int_int.body.bare) := by kernel_rfl
theorem CV_31 : compK Try.prog (fun n => n == 15) 31 = some (false, s_gnomonref01_Add.ntmps, s_gnomonref01_Add.results, s_gnomonref01_Add.body.bare) := by kernel_rfl
theorem CV_32 : compK Try.prog (fun n => n == 15) 32 = some (false, s_graph_Reach_1.ntmps, s_graph_Reach_1.results, s_graph_Reach_1.body.bare) := by kernel_rfl
theorem CV_33 : compK Try.prog (fun n => n == 15) 33 = some (false, s_slices_IndexFunc_int_int.ntmps, s_slices_IndexFunc_int_int.results, s_slices_IndexFunc_int_int.body.bare) := by kernel_rfl
theorem CV_34 : compK Try.prog (fun n => n == 15) 34 = some (false, s_graph_Post_1.ntmps, s_graph_Post_1.results, s_graph_Post_1.body.bare) := by kernel_rfl
theorem CV_35 : compK Try.prog (fun n => n == 15) 35 = some (false, s_slices_Reverse_int_int.ntmps, s_slices_Reverse_int_int.results, s_slices_Reverse_int_int.body.bare) := by kernel_rfl
theorem CV_36 : compK Try.prog (fun n => n == 15) 36 = some (false, s_gnomonref07_walk.ntmps, s_gnomonref07_walk.results, s_gnomonref07_walk.body.bare) := by kernel_rfl
theorem CV_39 : compK Try.prog (fun n => n == 15) 39 = some (false, s_gnomonref01_Has.ntmps, s_gnomonref01_Has.results, s_gnomonref01_Has.body.bare) := by kernel_rfl
theorem CU_10 : compK Try.prog (fun n => n == 15) 10 = some (false, c_gnomonlaw07_wakes.ntmps, c_gnomonlaw07_wakes.results, c_gnomonlaw07_wakes.body.bare) := by kernel_rfl
theorem CU_12 : compK Try.prog (fun n => n == 15) 12 = some (false, c_graph_Norm.ntmps, c_graph_Norm.results, c_graph_Norm.body.bare) := by kernel_rfl
theorem CU_13 : compK Try.prog (fun n => n == 15) 13 = some (false, c_graph_Back.ntmps, c_graph_Back.results, c_graph_Back.body.bare) := by kernel_rfl
theorem CU_14 : compK Try.prog (fun n => n == 15) 14 = some (false, c_gnomonref07_Same.ntmps, c_gnomonref07_Same.results, c_gnomonref07_Same.body.bare) := by kernel_rfl
theorem CU_18 : compK Try.prog (fun n => n == 15) 18 = some (false, c_graph_Reach.ntmps, c_graph_Reach.results, c_graph_Reach.body.bare) := by kernel_rfl
theorem CU_20 : compK Try.prog (fun n => n == 15) 20 = some (false, c_graph_Leads.ntmps, c_graph_Leads.results, c_graph_Leads.body.bare) := by kernel_rfl
theorem CU_22 : compK Try.prog (fun n => n == 15) 22 = some (false, c_gnomonref01_Same.ntmps, c_gnomonref01_Same.results, c_gnomonref01_Same.body.bare) := by kernel_rfl
theorem CU_23 : compK Try.prog (fun n => n == 15) 23 = some (false, c_graph_Post.ntmps, c_graph_Post.results, c_graph_Post.body.bare) := by kernel_rfl
theorem CU_25 : compK Try.prog (fun n => n == 15) 25 = some (false, c_gnomonlaw07_known.ntmps, c_gnomonlaw07_known.results, c_gnomonlaw07_known.body.bare) := by kernel_rfl
theorem CU_26 : compK Try.prog (fun n => n == 15) 26 = some (false, c_slices_DeleteFunc_int_int.ntmps, c_slices_DeleteFunc_int_int.results, c_slices_DeleteFunc_int_int.body.bare) := by kernel_rfl
theorem CU_27 : compK Try.prog (fun n => n == 15) 27 = some (false, c_slices_Clone_int_int.ntmps, c_slices_Clone_int_int.results, c_slices_Clone_int_int.body.bare) := by kernel_rfl
theorem CU_28 : compK Try.prog (fun n => n == 15) 28 = some (false, c_graph_Norm_1.ntmps, c_graph_Norm_1.results, c_graph_Norm_1.body.bare) := by kernel_rfl
theorem CU_29 : compK Try.prog (fun n => n == 15) 29 = some (false, c_slices_Sort_int_int.ntmps, c_slices_Sort_int_int.results, c_slices_Sort_int_int.body.bare) := by kernel_rfl
theorem CU_30 : compK Try.prog (fun n => n == 15) 30 = some (false, c_slices_Compact_int_int.ntmps, c_slices_Compact_int_int.results, c_slices_Compact_int_int.body.bare) := by kernel_rfl
theorem CU_32 : compK Try.prog (fun n => n == 15) 32 = some (false, c_graph_Reach_1.ntmps, c_graph_Reach_1.results, c_graph_Reach_1.body.bare) := by kernel_rfl
theorem CU_33 : compK Try.prog (fun n => n == 15) 33 = some (false, c_slices_IndexFunc_int_int.ntmps, c_slices_IndexFunc_int_int.results, c_slices_IndexFunc_int_int.body.bare) := by kernel_rfl
theorem CU_34 : compK Try.prog (fun n => n == 15) 34 = some (false, c_graph_Post_1.ntmps, c_graph_Post_1.results, c_graph_Post_1.body.bare) := by kernel_rfl
theorem CU_35 : compK Try.prog (fun n => n == 15) 35 = some (false, c_slices_Reverse_int_int.ntmps, c_slices_Reverse_int_int.results, c_slices_Reverse_int_int.body.bare) := by kernel_rfl
theorem CU_37 : compK Try.prog (fun n => n == 15) 37 = some (false, c_slices_pdqsortOrdered_int.ntmps, c_slices_pdqsortOrdered_int.results, c_slices_pdqsortOrdered_int.body.bare) := by kernel_rfl
theorem CU_38 : compK Try.prog (fun n => n == 15) 38 = some (false, c_math_bits_Len.ntmps, c_math_bits_Len.results, c_math_bits_Len.body.bare) := by kernel_rfl
theorem CU_40 : compK Try.prog (fun n => n == 15) 40 = some (false, c_slices_insertionSortOrdered_int.ntmps, c_slices_insertionSortOrdered_int.results, c_slices_insertionSortOrdered_int.body.bare) := by kernel_rfl
theorem CU_41 : compK Try.prog (fun n => n == 15) 41 = some (false, c_slices_heapSortOrdered_int.ntmps, c_slices_heapSortOrdered_int.results, c_slices_heapSortOrdered_int.body.bare) := by kernel_rfl
theorem CU_42 : compK Try.prog (fun n => n == 15) 42 = some (false, c_slices_breakPatternsOrdered_int.ntmps, c_slices_breakPatternsOrdered_int.results, c_slices_breakPatternsOrdered_int.body.bare) := by kernel_rfl
theorem CU_43 : compK Try.prog (fun n => n == 15) 43 = some (false, c_slices_choosePivotOrdered_int.ntmps, c_slices_choosePivotOrdered_int.results, c_slices_choosePivotOrdered_int.body.bare) := by kernel_rfl
theorem CU_44 : compK Try.prog (fun n => n == 15) 44 = some (false, c_slices_reverseRangeOrdered_int.ntmps, c_slices_reverseRangeOrdered_int.results, c_slices_reverseRangeOrdered_int.body.bare) := by kernel_rfl
theorem CU_45 : compK Try.prog (fun n => n == 15) 45 = some (false, c_slices_partialInsertionSortOrdered_int.ntmps, c_slices_partialInsertionSortOrdered_int.results, c_slices_partialInsertionSortOrdered_int.body.bare) := by kernel_rfl
theorem CU_46 : compK Try.prog (fun n => n == 15) 46 = some (false, c_cmp_Less_int.ntmps, c_cmp_Less_int.results, c_cmp_Less_int.body.bare) := by kernel_rfl
theorem CU_47 : compK Try.prog (fun n => n == 15) 47 = some (false, c_slices_partitionEqualOrdered_int.ntmps, c_slices_partitionEqualOrdered_int.results, c_slices_partitionEqualOrdered_int.body.bare) := by kernel_rfl
theorem CU_48 : compK Try.prog (fun n => n == 15) 48 = some (false, c_slices_partitionOrdered_int.ntmps, c_slices_partitionOrdered_int.results, c_slices_partitionOrdered_int.body.bare) := by kernel_rfl
theorem CU_49 : compK Try.prog (fun n => n == 15) 49 = some (false, c_math_bits_Len32.ntmps, c_math_bits_Len32.results, c_math_bits_Len32.body.bare) := by kernel_rfl
theorem CU_50 : compK Try.prog (fun n => n == 15) 50 = some (false, c_math_bits_Len64.ntmps, c_math_bits_Len64.results, c_math_bits_Len64.body.bare) := by kernel_rfl
theorem CU_51 : compK Try.prog (fun n => n == 15) 51 = some (false, c_slices_siftDownOrdered_int.ntmps, c_slices_siftDownOrdered_int.results, c_slices_siftDownOrdered_int.body.bare) := by kernel_rfl
theorem CU_52 : compK Try.prog (fun n => n == 15) 52 = some (false, c_slices_nextPowerOfTwo.ntmps, c_slices_nextPowerOfTwo.results, c_slices_nextPowerOfTwo.body.bare) := by kernel_rfl
theorem CU_53 : compK Try.prog (fun n => n == 15) 53 = some (false, c_slices_xorshift_Next.ntmps, c_slices_xorshift_Next.results, c_slices_xorshift_Next.body.bare) := by kernel_rfl
theorem CU_54 : compK Try.prog (fun n => n == 15) 54 = some (false, c_slices_medianAdjacentOrdered_int.ntmps, c_slices_medianAdjacentOrdered_int.results, c_slices_medianAdjacentOrdered_int.body.bare) := by kernel_rfl
theorem CU_55 : compK Try.prog (fun n => n == 15) 55 = some (false, c_slices_medianOrdered_int.ntmps, c_slices_medianOrdered_int.results, c_slices_medianOrdered_int.body.bare) := by kernel_rfl
theorem CU_56 : compK Try.prog (fun n => n == 15) 56 = some (false, c_cmp_isNaN_int.ntmps, c_cmp_isNaN_int.results, c_cmp_isNaN_int.body.bare) := by kernel_rfl
theorem CU_57 : compK Try.prog (fun n => n == 15) 57 = some (false, c_slices_order2Ordered_int.ntmps, c_slices_order2Ordered_int.results, c_slices_order2Ordered_int.body.bare) := by kernel_rfl
theorem CU_ok : ∀ k c, CQ k = some c → FunOk Try.prog (fun n => n == 15) k c := by
  intro k c h
  unfold CQ at h
  split at h
  · cases h; exact funOk_of CU_10
  · cases h; exact funOk_of CU_12
  · cases h; exact funOk_of CU_13
  · cases h; exact funOk_of CU_14
  · cases h; exact funOk_of CU_18
  · cases h; exact funOk_of CU_20
  · cases h; exact funOk_of CU_22
  · cases h; exact funOk_of CU_23
  · cases h; exact funOk_of CU_25
  · cases h; exact funOk_of CU_26
  · cases h; exact funOk_of CU_27
  · cases h; exact funOk_of CU_28
  · cases h; exact funOk_of CU_29
  · cases h; exact funOk_of CU_30
  · cases h; exact funOk_of CU_32
  · cases h; exact funOk_of CU_33
  · cases h; exact funOk_of CU_34
  · cases h; exact funOk_of CU_35
  · cases h; exact funOk_of CU_37
  · cases h; exact funOk_of CU_38
  · cases h; exact funOk_of CU_40
  · cases h; exact funOk_of CU_41
  · cases h; exact funOk_of CU_42
  · cases h; exact funOk_of CU_43
  · cases h; exact funOk_of CU_44
  · cases h; exact funOk_of CU_45
  · cases h; exact funOk_of CU_46
  · cases h; exact funOk_of CU_47
  · cases h; exact funOk_of CU_48
  · cases h; exact funOk_of CU_49
  · cases h; exact funOk_of CU_50
  · cases h; exact funOk_of CU_51
  · cases h; exact funOk_of CU_52
  · cases h; exact funOk_of CU_53
  · cases h; exact funOk_of CU_54
  · cases h; exact funOk_of CU_55
  · cases h; exact funOk_of CU_56
  · cases h; exact funOk_of CU_57
  · cases h
theorem in1_of {v : List V} (h : IsV (.sl (.sl (.int .i64))) v) {u : V} (e : v = [u]) : In1 u := by
  subst e
  rcases h with h | ⟨es, h, _⟩
  · rw [List.cons.injEq] at h; exact .inl h.1
  · rw [List.cons.injEq] at h; exact .inr ⟨es, h.1⟩
end Go.Proofs.Ytmnlagcmpgilaaa
namespace Go.Proofs
open Go.Shelf
def Try.lays189_ren : Go.Shelf.Ren := ⟨fun | 189 => 29 | 125 => 38 | 257 => 37 | 128 => 49 | 129 => 50 | 294 => 40 | 295 => 41 | 296 => 42 | 297 => 43 | 298 => 44 | 299 => 45 | 216 => 46 | 300 => 47 | 301 => 48 | 328 => 51 | 329 => 52 | 330 => 53 | 331 => 54 | 332 => 55 | 215 => 56 | 343 => 57 | n => n, fun | 28 => 28 | 3 => 3 | 46 => 50 | 0 => 0 | 51 => 62 | 53 => 64 | 4 => 4 | 183 => 54 | 182 => 53 | 131 => 59 | 5 => 5 | 9 => 9 | 218 => 65 | 222 => 69 | 228 => 71 | 229 => 72 | n => n, fun | n => n⟩
theorem Try.lays189 : Go.Proofs.Lays.n189 Try.prog Try.lays189_ren := {
  mixed := by kernel_rfl
  f125 := Try.func38.trans (congrArg some (by kernel_rfl))
  f128 := Try.func49.trans (congrArg some (by kernel_rfl))
  f129 := Try.func50.trans (congrArg some (by kernel_rfl))
  f189 := Try.func29.trans (congrArg some (by kernel_rfl))
  f215 := Try.func56.trans (congrArg some (by kernel_rfl))
  f216 := Try.func46.trans (congrArg some (by kernel_rfl))
  f257 := Try.func37.trans (congrArg some (by kernel_rfl))
  f294 := Try.func40.trans (congrArg some (by kernel_rfl))
  f295 := Try.func41.trans (congrArg some (by kernel_rfl))
  f296 := Try.func42.trans (congrArg some (by kernel_rfl))
  f297 := Try.func43.trans (congrArg some (by kernel_rfl))
  f298 := Try.func44.trans (congrArg some (by kernel_rfl))
  f299 := Try.func45.trans (congrArg some (by kernel_rfl))
  f300 := Try.func47.trans (congrArg some (by kernel_rfl))
  f301 := Try.func48.trans (congrArg some (by kernel_rfl))
  f328 := Try.func51.trans (congrArg some (by kernel_rfl))
  f329 := Try.func52.trans (congrArg some (by kernel_rfl))
  f330 := Try.func53.trans (congrArg some (by kernel_rfl))
  f331 := Try.func54.trans (congrArg some (by kernel_rfl))
  f332 := Try.func55.trans (congrArg some (by kernel_rfl))
  f343 := Try.func57.trans (congrArg some (by kernel_rfl))
  t0 := Try.underlying0
  a0 := Try.isAgg0
  z0 := Try.sizeOf0
  v0 := Try.zeroValue0
  t3 := Try.underlying3
  a3 := Try.isAgg3
  z3 := Try.sizeOf3
  v3 := Try.zeroValue3
  t4 := Try.underlying4
  a4 := Try.isAgg4
  z4 := Try.sizeOf4
  v4 := Try.zeroValue4
  t5 := Try.underlying5
  a5 := Try.isAgg5
  z5 := Try.sizeOf5
  v5 := Try.zeroValue5
  t9 := Try.underlying9
  a9 := Try.isAgg9
  z9 := Try.sizeOf9
  v9 := Try.zeroValue9
  t28 := Try.underlying28
  a28 := Try.isAgg28
  z28 := Try.sizeOf28
  v28 := Try.zeroValue28
  t46 := Try.underlying50
  a46 := Try.isAgg50
  z46 := Try.sizeOf50
  v46 := Try.zeroValue50
  t51 := Try.underlying62
  a51 := Try.isAgg62
  z51 := Try.sizeOf62
  v51 := Try.zeroValue62
  t53 := Try.underlying64
  a53 := Try.isAgg64
  z53 := Try.sizeOf64
  v53 := Try.zeroValue64
  t131 := Try.underlying59
  a131 := Try.isAgg59
  z131 := Try.sizeOf59
  v131 := Try.zeroValue59
  t182 := Try.underlying53
  a182 := Try.isAgg53
  z182 := Try.sizeOf53
  v182 := Try.zeroValue53
  t183 := Try.underlying54
  a183 := Try.isAgg54
  z183 := Try.sizeOf54
  v183 := Try.zeroValue54
  t218 := Try.underlying65
  a218 := Try.isAgg65
  z218 := Try.sizeOf65
  v218 := Try.zeroValue65
  t222 := Try.underlying69
  a222 := Try.isAgg69
  z222 := Try.sizeOf69
  v222 := Try.zeroValue69
  t228 := Try.underlying71
  a228 := Try.isAgg71
  z228 := Try.sizeOf71
  v228 := Try.zeroValue71
  t229 := Try.underlying72
  a229 := Try.isAgg72
  z229 := Try.sizeOf72
  v229 := Try.zeroValue72 }
open Go.Sort Go.RowKit in
theorem Try.slices_Sort_int (blk off cap : Nat) (zs : List Int) (w : World) (hH : Holds (Value.int .i64) w blk off zs.toArray) (hblk : blk < w.heap.size) (hsz : zs.length < 4611686018427387904) :
    Calls Try.prog 29 #[.slice (some ⟨blk, off, none⟩) zs.length cap] w fun e w' =>
      e = .returned (.tuple #[]) ∧ ∃ n os, w' = grow (putRow (Value.int .i64) (Sort.ahead w n) blk off (zs.mergeSort fun x y => decide (x ≤ y)).toArray) os := Any.slices_Sort_int Try.lays189 blk off cap zs w hH hblk hsz
open Go.RowKit Go.Sort in
theorem Try.slices_Sort_int_none (p : Option Addr) (cap : Nat) (w : World) :
    Calls Try.prog 29 #[.slice p 0 cap] w fun e w' => e = .returned (.tuple #[]) ∧ w' = w := Any.slices_Sort_int_none Try.lays189 p cap w
end Go.Proofs
namespace Go.AM
open Go.RowKit
section
variable {CC : Code → ACode → Prop} {μ : Mu} {Mt : Nat → Prop} {w w' : World} {H : Heap} {P : Program}
theorem post_ghosts : ∀ (os : List Obj) (w w' : World), HR CC μ Mt w H → w'.heap = w.heap ++ os.toArray → w'.os = w.os → w'.tape = w.tape → w'.output = w.output → Post CC μ Mt w H μ Mt w' H := by
  intro os
  induction os with
  | nil => intro w w' h h1 h2 h3 h4; exact post_drew h (by simpa using h1) h2 h3 h4
  | cons o os ih =>
    intro w w' h h1 h2 h3 h4
    have k : Post CC μ Mt w H μ Mt { w with heap := w.heap.push o } H := post_ghost h o rfl rfl rfl rfl
    refine k.trans (ih _ w' k.hr ?_ h2 h3 h4)
    rw [h1]
    apply Array.ext'
    simp
theorem putCells_eq {α : Type} [Inhabited α] (enc : α → Value) (off : Nat) (d : List α) (c : Array Value) (hl : off + d.length ≤ c.size) : (Sort.putCells enc off d.toArray c) = (c.toList.take off ++ d.map enc ++ c.toList.drop (off + d.length)).toArray := by
  apply Array.ext'
  refine List.ext_getElem? fun i => ?_
  unfold Sort.putCells
  rw [Array.getElem?_toList, Array.getElem?_mapIdx]
  by_cases h1 : i < off
  · rw [List.append_assoc, List.getElem?_append_left (by simp; omega), List.getElem?_take_of_lt h1]
    have h2 : ¬ (off ≤ i ∧ i < off + d.toArray.size) := by omega
    simp only [h2, if_false]
    simp
  · by_cases h3 : i < off + d.length
    · rw [List.append_assoc, List.getElem?_append_right (by simp; omega), List.getElem?_append_left (by simp; omega)]
      have h2 : off ≤ i ∧ i < off + d.toArray.size := ⟨by omega, by simpa using h3⟩
      have e1 : i - (c.toList.take off).length = i - off := by simp; omega
      have hi : i - off < d.length := by omega
      simp only [h2, and_self, if_true, e1]
      have hc : i < c.size := by omega
      simp [hc, hi]
    · rw [List.getElem?_append_right (by simp; omega), List.getElem?_drop]
      have h2 : ¬ (off ≤ i ∧ i < off + d.toArray.size) := by simp; omega
      have e1 : off + d.length + (i - (c.toList.take off ++ d.map enc).length) = i := by simp; omega
      simp only [h2, if_false, e1]
      simp
theorem sort_ok {pure' : Nat → Bool} {k : Nat} (hent : ∀ xs w, (callFunc k xs).run P w = .ok (.enter k xs) w)
    (hs : ∀ (blk off cap : Nat) (zs : List Int) (w : World), Sort.Holds (Value.int .i64) w blk off zs.toArray → blk < w.heap.size → zs.length < 4611686018427387904 →
      Calls P k #[.slice (some ⟨blk, off, none⟩) zs.length cap] w fun e w' => e = .returned (.tuple #[]) ∧ ∃ n os, w' = Sort.grow (Sort.putRow (Value.int .i64) (Sort.ahead w n) blk off (sortZ zs).toArray) os)
    (hn : ∀ (p : Option Addr) (cap : Nat) (w : World), Calls P k #[.slice p 0 cap] w fun e w' => e = .returned (.tuple #[]) ∧ w' = w) : FunOk P pure' k (.prim sortG) := by
  refine ⟨hent, fun vs base H r H' hg => ?_⟩
  have empty : ∀ (v : V) (hv : ∀ (μ : Mu) (Mt : Nat → Prop) (w : World) (c : Value), VR μ Mt w v c → ∃ p cap, c = .slice p 0 cap), ∀ (μ : Mu) (Mt : Nat → Prop) (w : World) (cs : List Value), HR (CodeR P pure') μ Mt w H → VRs μ Mt w [v] cs → ∀ n, CallsIn Fence.wide n P k cs.toArray w (RetP (CodeR P pure') μ Mt w H und H) := by
    intro v hv μ Mt w cs hH hvs n
    obtain ⟨h1, h2⟩ := hvs
    match cs, h1 with
    | [c], _ =>
      obtain ⟨p, cap, rfl⟩ := hv μ Mt w c (h2 0 v c rfl rfl)
      refine callsIn_wide.2 ((hn p cap w).mono ?_)
      rintro e w' ⟨rfl, rfl⟩
      exact ⟨_, μ, Mt, rfl, .s _, Post.refl hH⟩
  unfold sortG at hg
  split at hg
  · cases hg
    exact ⟨Floor.refl _ _, empty _ fun μ Mt w c h => ⟨none, 0, vr_s h⟩⟩
  · cases hg
    refine ⟨Floor.refl _ _, empty _ fun μ Mt w c h => ?_⟩
    cases h with
    | esl a => exact ⟨some a, 0, rfl⟩
  · rename_i id g off n z
    split at hg
    · rename_i h0
      cases hg
      subst h0
      refine ⟨Floor.refl _ _, empty _ fun μ Mt w c h => ?_⟩
      cases h with
      | sl => exact ⟨_, _, rfl⟩
      | sl0 => exact ⟨_, _, rfl⟩
    · rename_i h0
      split at hg
      · rename_i hb
        obtain ⟨hbase, rfl, hn62⟩ := hb
        split at hg
        · rename_i c hc
          split at hg
          · rename_i zs hzs
            split at hg
            · rename_i hl
              cases hg
              refine ⟨⟨by simp, fun j hj _ => by rw [List.getElem?_set_ne (by omega)]⟩, ?_⟩
              intro μ Mt w cs hH hvs m
              obtain ⟨h1, h2⟩ := hvs
              have hmap := intsOf_eq hzs
              have hzl : zs.length = n := by
                have := congrArg List.length hmap
                simp at this
                omega
              match cs, h1 with
              | [c1], _ =>
                have hv := h2 0 _ c1 rfl rfl
                cases hv with
                | sl0 => exact absurd rfl h0
                | sl _ _ _ _ _ B b cap arr el hm hB hcap hsz =>
                  obtain ⟨arr', el', hB', hsz', hrd⟩ := hH.row hc hm
                  rw [hB] at hB'
                  cases hB'
                  have hcell : ∀ j, j < n → arr[b + off + j]? = some (.int .i64 zs[j]!) := by
                    intro j hj
                    have hcj : c[off + j]? = some (iV zs[j]!) := by
                      have : ((c.drop off).take n)[j]? = (zs.map iV)[j]? := by rw [hmap]
                      rw [List.getElem?_take_of_lt hj, List.getElem?_drop] at this
                      rw [this]
                      have hj' : j < zs.length := by omega
                      simp [hj']
                    have hlt : b + (off + j) < arr.size := by
                      have := (List.getElem?_eq_some_iff.1 hcj).1
                      omega
                    have ha : arr[b + (off + j)]? = some arr[b + (off + j)] := Array.getElem?_eq_getElem hlt
                    have hvr := hrd (off + j) _ _ hcj ha
                    have := vr_s hvr
                    rw [Nat.add_assoc, ha, this]
                  have hH0 : Sort.Holds (Value.int .i64) w B (b + off) zs.toArray := by
                    intro j hj
                    have hj' : j < n := by simpa [hzl] using hj
                    refine ⟨?_, ?_⟩
                    · simp only [World.cell?, hB]
                      have := hcell j hj'
                      simpa using this
                    · simp [World.frozen?, hB]
                  have hsl : (sortZ zs).length = n := by rw [sortZ, List.length_mergeSort, hzl]
                  have hcl := hs B (b + off) cap zs w hH0 (lt_of_some hB) (by omega)
                  rw [hzl] at hcl
                  refine callsIn_wide.2 (hcl.mono ?_)
                  rintro e w' ⟨rfl, nn, os, rfl⟩
                  have hone : ((sortZ zs).map iV).all V.one = true := by
                    rw [List.all_eq_true]
                    intro x hx
                    obtain ⟨z, _, rfl⟩ := List.mem_map.1 hx
                    rfl
                  have hvr : VRs μ Mt w ((sortZ zs).map iV) ((sortZ zs).map (Value.int .i64)) := by
                    refine ⟨by simp, fun i a b ha hb => ?_⟩
                    rw [List.getElem?_map] at ha hb
                    cases hz : (sortZ zs)[i]? with
                    | none => rw [hz] at ha; cases ha
                    | some z => rw [hz] at ha hb; cases ha; cases hb; exact .s _
                  obtain ⟨w1, hrun, hpost⟩ := post_store (P := P) hH hc hm (off := off) (vs := (sortZ zs).map iV) (us := (sortZ zs).map (Value.int .i64)) (by simp [hsl]; omega) hvr hone
                  have hrun2 := run_storeCells_at P B (b + off) el ((sortZ zs).map (Value.int .i64)) 0 arr w hB (by simp [hsl]; omega) (vrs_one hvr hone)
                  rw [hrun] at hrun2
                  have hw1 : w1 = w.setRow B (arr.toList.take (b + off) ++ (sortZ zs).map (Value.int .i64) ++ arr.toList.drop (b + off + ((sortZ zs).map (Value.int .i64)).length)).toArray := by
                    simpa using hrun2
                  have hheap : (Sort.putRow (Value.int .i64) w B (b + off) (sortZ zs).toArray).heap = w1.heap := by
                    rw [hw1]
                    apply Array.ext_getElem?
                    intro i
                    simp only [Sort.putRow, Sort.mapBlock, World.setRow, Array.getElem?_modify]
                    by_cases hi : B = i
                    · subst hi
                      simp only [if_true, hB, Option.map_some, Sort.onCells]
                      rw [putCells_eq _ _ _ _ (by rw [hsl]; omega), List.length_map]
                    · simp [hi]
                  have hg := post_ghosts os.toList _ (Sort.grow (Sort.putRow (Value.int .i64) (Sort.ahead w nn) B (b + off) (sortZ zs).toArray) os) hpost.hr (by
                    show (Sort.putRow (Value.int .i64) w B (b + off) (sortZ zs).toArray).heap ++ os = _
                    rw [hheap]) (by rw [hw1]; rfl) (by rw [hw1]; rfl) (by rw [hw1]; rfl)
                  exact ⟨_, _, _, rfl, .s _, hpost.trans hg⟩
            · cases hg
          · cases hg
        · cases hg
      · cases hg
  · cases hg
end
end Go.AM
set_option maxRecDepth 100000
namespace Go.Proofs.Ytmnlagcmpgilaaa
open Go.AM
def tGraph : Ty := .sl (.sl (.int .i64))
theorem ints_of : ∀ es : List (List V), (∀ x ∈ es, IsV (.int .i64) x) → ∃ l : List Int, es = (l.map iV).map fun x => [x] := by
  intro es
  induction es with
  | nil => intro _; exact ⟨[], rfl⟩
  | cons e es ih =>
    intro h
    obtain ⟨n, rfl, _⟩ := h e List.mem_cons_self
    obtain ⟨l, rfl⟩ := ih fun x hx => h x (List.mem_cons_of_mem _ hx)
    exact ⟨n :: l, rfl⟩
theorem one_wide (l : List V) : Wide1 (.psl (l.map fun x => [x]) 1) := by
  intro e he
  rw [List.mem_map] at he
  obtain ⟨x, _, rfl⟩ := he
  rfl
theorem row_of {v : List V} (h : IsV (.sl (.int .i64)) v) : ∃ u, v = [u] ∧ ∃ l : List Int, (∀ H, Rd H u (l.map iV)) ∧ Wide1 u ∧ l.length < 2 ^ 63 := by
  rcases h with rfl | ⟨es, rfl, hl, he⟩
  · exact ⟨nilS, rfl, [], fun H => Rd.nil H, trivial, by decide⟩
  · obtain ⟨l, rfl⟩ := ints_of es he
    refine ⟨_, rfl, l, fun H => Rd.psl H _, one_wide _, ?_⟩
    simp only [List.length_map, maxLen] at hl
    omega
theorem graph_of {v : List V} (h : IsV tGraph v) : ∃ u, v = [u] ∧ ∃ G : List (List Int), ∀ H, RdRows H u (rowsV G) := by
  rcases h with rfl | ⟨es, rfl, hl, he⟩
  · exact ⟨nilS, rfl, [], fun H => ⟨[], Rd.nil H, trivial, rfl, fun i r hr => by simp [rowsV] at hr⟩⟩
  · have : ∀ es : List (List V), (∀ x ∈ es, IsV (.sl (.int .i64)) x) → ∃ (us : List V) (G : List (List Int)), es = (us.map fun x => [x]) ∧ us.length = G.length ∧ ∀ (i : Nat) (r : List Int), G[i]? = some r → ∃ x, us[i]? = some x ∧ (∀ H, Rd H x (r.map iV)) ∧ Wide1 x := by
      intro es
      induction es with
      | nil => intro _; exact ⟨[], [], rfl, rfl, fun i r hr => by simp at hr⟩
      | cons e es ih =>
        intro h
        obtain ⟨u, rfl, l, q1, q2, _⟩ := row_of (h e List.mem_cons_self)
        obtain ⟨us, G, rfl, h1, h2⟩ := ih fun x hx => h x (List.mem_cons_of_mem _ hx)
        refine ⟨u :: us, l :: G, rfl, by simp [h1], fun i r hr => ?_⟩
        cases i with
        | zero => cases hr; exact ⟨u, rfl, q1, q2⟩
        | succ i => exact h2 i r hr
    obtain ⟨us, G, rfl, h1, h2⟩ := this es he
    refine ⟨_, rfl, G, fun H => ⟨us, Rd.psl H us, one_wide us, by rw [rowsV_len]; exact h1, fun i r hr => ?_⟩⟩
    rw [rowsV, List.getElem?_map, Option.map_eq_some_iff] at hr
    obtain ⟨g, hg, rfl⟩ := hr
    obtain ⟨x, q1, q2, q3⟩ := h2 i g hg
    exact ⟨x, q1, q2 H, q3⟩
end Go.Proofs.Ytmnlagcmpgilaaa
