/-
  The abstract machine: an evaluator without a tape, without orders, over values in which what came in is a pure list. Definitions alone.
-/
import GoSem.Step
import Derived.KernelRfl
set_option linter.all false
namespace Go.AM

/-- Abstract values. -/
inductive V where
  | s (v : Value)
  | agg (cs : List V)
  | tup (vs : List V)
  | ref (id g off : Nat)
  | pref (cs : List V)
  | sl (id g off len sz : Nat)
  | psl (es : List (List V)) (sz : Nat)
  | esl
  | mp (id : Nat)
  | fn (f : Nat) (fst cap : List V)
  | yld (id : Nat)
  | ifc (t : TypeId) (v : V)
  | unk
  deriving Inhabited

/-- An operand. -/
inductive Opd where
  | t (i : Nat)
  | c (v : V)
  deriving Inhabited

/-- Which scalar a leaf of a struct is. -/
inductive Leaf where
  | int (k : IntKind) | bool | str
  deriving DecidableEq, Inhabited

/-- What a nil is of. -/
inductive NK where
  | p | s | m | f
  deriving DecidableEq, Inhabited

inductive AOp where
  | move (x : Opd)
  | pick (c a b : Opd)
  | alloc (zero : List V)
  | box (x : Opd)
  | build (zero : List V) (places : List (Nat × Nat)) (parts : List (Nat × Opd))
  | buildSl (sz len : Nat) (zero : List V) (parts : List (Nat × Opd))
  | mapNew
  | mapUpd (kind : TypeDesc) (m k v : Opd)
  | mapGet (kind : TypeDesc) (zero : V) (m k : Opd) (ok : Bool)
  | load (agg : Bool) (n : Nat) (a : Opd)
  | store (n : Nat) (a v : Opd)
  | nilCheck (x : Opd)
  | bin (op : BinOp) (x y : Opd)
  | eqB (neg : Bool) (x y : Opd)
  | eqNil (k : NK) (neg : Bool) (x : Opd)
  | eqAgg (neg : Bool) (ls : List Leaf) (x y : Opd)
  | un (op : UnOp) (x : Opd)
  | conv (k : IntKind) (x : Opd)
  | convId (x : Opd)
  | mkFn (f : Nat) (fst cap : List Opd)
  | mkSl (zero : List V) (sz bytes : Nat) (len cap : Opd)
  | subStr (x : Opd) (lo hi : Option Opd)
  | subSl (sz : Nat) (x : Opd) (lo hi mx : Option Opd)
  | fieldAddr (off : Nat) (x : Opd)
  | field (agg : Bool) (off n : Nat) (x : Opd)
  | indexAddr (sz : Nat) (x i : Opd)
  | indexStr (x i : Opd)
  | extract (x : Opd) (i : Nat)
  | lenS (k : NK) (x : Opd)
  | append (sz bytes : Nat) (s x : Opd)
  | delete (kind : TypeDesc) (m k : Opd)
  | minmax (mx : Bool) (x y : Opd)
  | call (f : Opd) (args : List Opd)
  | callR (f : Opd) (args : List Opd)
  | callP (f : Nat) (args : List Opd)
  | callQ (f : Nat) (args : List Opd)
  | clearSl (sz : Nat) (zero : List V) (x : Opd)
  deriving Inhabited

structure AOper where
  dst : Option Nat
  op : AOp
  guard : Option (Nat × Bool)
  deriving Inhabited

inductive ACode where
  | skip
  | region (ops : List AOper) (chk : List (Nat × Nat)) (kill : List Nat)
  | regionE (ops : List AOper) (kill outs : List Nat)
  | seq (a b : ACode)
  | cond (c : Opd) (a b : ACode)
  | block (id : Nat) (c : ACode)
  | loop (kill : List Nat) (c : ACode)
  | rangeFunc (f : Opd) (params : List Nat) (assign body : ACode)
  | exit (id : Nat)
  | ret
  deriving Inhabited

inductive Ex where
  | nrm
  | ext (id : Nat)
  | ret
  deriving DecidableEq, Inhabited

inductive Ob where
  | cells (g : Nat) (c : List V)
  | map (es : List (Value × V))
  | loop (st : LoopState) (pend : Option Ex) (tmps : List V) (params : List Nat) (assign body : ACode)
  | dead
  deriving Inhabited

abbrev Heap := List Ob

inductive ARes where
  | tmp (t : Nat)
  | cell (t : Nat) (agg : Bool) (n : Nat)
  deriving Inhabited

structure ACFun where
  ntmps : Nat
  results : List ARes
  body : ACode
  deriving Inhabited

inductive CFun where
  | code (c : ACFun)
  | prim (g : List V → Nat → Heap → Option (V × Heap))

def ev (fr : List V) : Opd → V
  | .t i => fr.getD i .unk
  | .c v => v

/-- A value that fills just one cell. -/
def V.one : V → Bool
  | .s v => match v with | .agg _ => false | .tuple _ => false | _ => true
  | .agg _ => false
  | .tup _ => false
  | .unk => false
  | _ => true

def V.cells : V → List V
  | .agg cs => cs
  | v => [v]

def V.flat : V → Bool
  | .s _ => true
  | _ => false

/-- Holds a result no way into memory? (scalars, and structs or tuples of scalars) -/
def V.flat2 : V → Bool
  | .s _ => true
  | .agg cs => cs.all V.flat
  | .tup cs => cs.all fun | .s _ => true | .agg cs => cs.all V.flat | _ => false
  | _ => false

def getC (H : Heap) (id g : Nat) : Option (List V) :=
  match H[id]? with
  | some (.cells g' c) => if g' = g then some c else none
  | _ => none

def splice (c : List V) (off : Nat) (vs : List V) : List V := c.take off ++ vs ++ c.drop (off + vs.length)

def shut (agg : Bool) (cs : List V) : Option V :=
  if agg then some (.agg cs) else match cs with
    | [v] => some v
    | _ => none

def loadV (H : Heap) (agg : Bool) (n : Nat) : V → Option V
  | .ref id g off => match getC H id g with
    | some c => let cs := (c.drop off).take n; if cs.length = n then shut agg cs else none
    | none => none
  | .pref cs => let cs := cs.take n; if cs.length = n then shut agg cs else none
  | _ => none

def storeV (H : Heap) (base n : Nat) (v : V) : V → Option Heap
  | .ref id g off =>
    if base ≤ id then match getC H id g with
      | some c => if v.cells.length = n ∧ off + n ≤ c.length ∧ v.cells.all V.one then some (H.set id (.cells g (splice c off v.cells))) else none
      | none => none
    else none
  | _ => none

def fillA (place : Nat → Option (Nat × Nat)) (cells : List V) : List (Nat × V) → Option (List V)
  | [] => some cells
  | (i, v) :: rest => match place i with
    | none => none
    | some (off, size) => if v.cells.length = size ∧ off + size ≤ cells.length ∧ v.cells.all V.one then fillA place (splice cells off v.cells) rest else none

def findA (kind : TypeDesc) (k : Value) : List (Value × V) → Nat → Option (Option (Nat × V))
  | [], _ => some none
  | (k', v) :: es, i => match Instr.sameNow kind k k' with
    | some true => some (some (i, v))
    | some false => findA kind k es (i + 1)
    | none => none

/-- A key of a kind that the machine looks at directly. -/
def keyOk : TypeDesc → Value → Bool
  | .int k, .int k' _ => k == k'
  | .string, .string _ => true
  | .bool, .bool _ => true
  | _, _ => false

def binS (op : BinOp) : Value → Value → Option Value
  | .int k a, .int k' b =>
    match op with
    | .shl => if b < 0 then none else some (.int k (k.wrap (a * 2 ^ (min b.toNat k.bits))))
    | .shr => if b < 0 then none else some (.int k (a.fdiv (2 ^ (min b.toNat k.bits))))
    | _ => if k ≠ k' then none else match op with
      | .add => some (.int k (k.wrap (a + b)))
      | .sub => some (.int k (k.wrap (a - b)))
      | .mul => some (.int k (k.wrap (a * b)))
      | .quo => if b = 0 then none else some (.int k (k.wrap (a.tdiv b)))
      | .rem => if b = 0 then none else some (.int k (a.tmod b))
      | .and => some (.int k (k.wrap (BitVec.ofInt k.bits a &&& BitVec.ofInt k.bits b).toNat))
      | .or => some (.int k (k.wrap (BitVec.ofInt k.bits a ||| BitVec.ofInt k.bits b).toNat))
      | .xor => some (.int k (k.wrap (BitVec.ofInt k.bits a ^^^ BitVec.ofInt k.bits b).toNat))
      | .andNot => some (.int k (k.wrap (BitVec.ofInt k.bits a &&& ~~~ (BitVec.ofInt k.bits b)).toNat))
      | .eql => some (.bool (a == b))
      | .neq => some (.bool (a != b))
      | .lss => some (.bool (decide (a < b)))
      | .leq => some (.bool (decide (a ≤ b)))
      | .gtr => some (.bool (decide (a > b)))
      | .geq => some (.bool (decide (a ≥ b)))
      | _ => none
  | .string a, .string b =>
    match op with
    | .add => if ((a.size + b.size : Nat) : Int) > IntKind.i64.max then none else some (.string (a ++ b))
    | .eql => some (.bool (a.data.toList == b.data.toList))
    | .neq => some (.bool (!(a.data.toList == b.data.toList)))
    | .lss => some (.bool (Op.bytesLess a.data.toList b.data.toList))
    | .leq => some (.bool (Op.bytesLess a.data.toList b.data.toList || a.data.toList == b.data.toList))
    | .gtr => some (.bool (!(Op.bytesLess a.data.toList b.data.toList || a.data.toList == b.data.toList)))
    | .geq => some (.bool (!(Op.bytesLess a.data.toList b.data.toList)))
    | _ => none
  | _, _ => none

def eqLeaf : Leaf → V → V → Option Bool
  | .int k, .s (.int j a), .s (.int j' b) => if j = k ∧ j' = k then some (a == b) else none
  | .bool, .s (.bool a), .s (.bool b) => some (a == b)
  | .str, .s (.string a), .s (.string b) => some (a.data.toList == b.data.toList)
  | _, _, _ => none

def eqLeaves : List Leaf → List V → List V → Option Bool
  | [], [], [] => some true
  | l :: ls, x :: xs, y :: ys => match eqLeaf l x y, eqLeaves ls xs ys with
    | some a, some b => some (a && b)
    | _, _ => none
  | _, _, _ => none

def V.isNil : NK → V → Option Bool
  | .p, .s (.pointer none) => some true
  | .p, .ref .. => some false
  | .p, .pref .. => some false
  | .s, .s (.slice none 0 0) => some true
  | .s, .sl .. => some false
  | .s, .psl .. => some false
  | .s, .esl => some false
  | .m, .s (.map none) => some true
  | .m, .mp .. => some false
  | .f, .s .nilFunc => some true
  | .f, .fn .. => some false
  | .f, .yld .. => some false
  | _, _ => none

def i64 (n : Int) : V := .s (.int .i64 n)
def bl (b : Bool) : V := .s (.bool b)
def str (b : ByteArray) : V := .s (.string b)
def nilS : V := .s (.slice none 0 0)
def und : V := .s Go.undef

/-- What a slice (or a string) holds, cell after cell, and how many elements. -/
def elems (H : Heap) (sz : Nat) : V → Option (Nat × List V)
  | .s (.slice none 0 0) => some (0, [])
  | .s (.string b) => if sz = 1 then some (b.size, b.data.toList.map fun x => .s (.int .u8 x.toNat)) else none
  | .esl => some (0, [])
  | .psl es sz' => if sz' = sz then some (es.length, es.flatten) else none
  | .sl id g off len sz' => if sz' = sz then match getC H id g with
      | some c => let cs := (c.drop off).take (len * sz); if cs.length = len * sz then some (len, cs) else none
      | none => none
    else none
  | _ => none

def appendV (H : Heap) (base sz bytes : Nat) (s x : V) : Option (V × Heap) :=
  match elems H sz x with
  | none => none
  | some (m, xs) =>
    if xs.all V.one then
    match s with
    | .s (.slice none 0 0) =>
      if m = 0 then some (s, H) else
      if m * bytes ≤ 2 ^ 47 then some (.sl H.length 0 0 m sz, H ++ [.cells 0 xs]) else none
    | .esl =>
      if m = 0 then some (s, H) else
      if m * bytes ≤ 2 ^ 47 then some (.sl H.length 0 0 m sz, H ++ [.cells 0 xs]) else none
    | .psl es sz' => if m = 0 ∧ sz' = sz then some (s, H) else none
    | .sl id g off len sz' =>
      if sz' = sz ∧ base ≤ id then match getC H id g with
        | some c =>
          if off + len * sz ≤ c.length then
            if m = 0 then some (s, H) else
            if (len + m) * bytes ≤ 2 ^ 47 then
              some (.sl id (g + 1) 0 (len + m) sz, H.set id (.cells (g + 1) ((c.drop off).take (len * sz) ++ xs)))
            else none
          else none
        | none => none
      else none
    | _ => none
    else none

def intOf? : V → Option Int
  | .s (.int _ n) => some n
  | _ => none

/-- Freeze: what a value reads as, as a pure value. -/
def frz (H : Heap) : Nat → V → Option V
  | 0, _ => none
  | n + 1, v => match v with
    | .s x => some (.s x)
    | .agg cs => (cs.mapM (frz H n)).map .agg
    | .tup cs => (cs.mapM (frz H n)).map .tup
    | .ref id g off => match getC H id g with
      | some c => if off ≤ c.length then ((c.drop off).mapM (frz H n)).map .pref else none
      | none => none
    | .sl id g off len sz => match getC H id g with
      | some c =>
        let cs := (c.drop off).take (len * sz)
        if cs.length = len * sz then
          match cs.mapM (frz H n) with
          | some us => some (.psl ((List.range len).map fun i => (us.drop (i * sz)).take sz) sz)
          | none => none
        else none
      | none => none
    | .pref cs => some (.pref cs)
    | .psl es sz => some (.psl es sz)
    | .esl => some .esl
    | .fn f a b => match a.mapM (frz H n), b.mapM (frz H n) with
      | some a, some b => some (.fn f a b)
      | _, _ => none
    | _ => none

/-- Is a value pure already? (pref and psl hold pure values only, by their making) -/
def isPure : Nat → V → Bool
  | 0, _ => false
  | n + 1, v => match v with
    | .s _ => true
    | .agg cs => cs.all (isPure n)
    | .tup cs => cs.all (isPure n)
    | .pref _ | .psl .. | .esl => true
    | .fn _ a b => a.all (isPure n) && b.all (isPure n)
    | _ => false

/-- Does a value name no object from m on? -/
def idsUnder (m : Nat) : Nat → V → Bool
  | 0, _ => false
  | n + 1, v => match v with
    | .s _ => true
    | .agg cs => cs.all (idsUnder m n)
    | .tup cs => cs.all (idsUnder m n)
    | .ref id _ _ => decide (id < m)
    | .sl id _ _ _ _ => decide (id < m)
    | .mp id => decide (id < m)
    | .yld id => decide (id < m)
    | .pref _ | .psl .. | .esl => true
    | .fn _ a b => a.all (idsUnder m n) && b.all (idsUnder m n)
    | .ifc _ _ => false
    | .unk => true

def Ob.under (m : Nat) : Ob → Bool
  | .cells _ c => c.all (idsUnder m 8)
  | .map es => es.all fun e => idsUnder m 8 e.2
  | .loop _ _ t _ _ _ => t.all (idsUnder m 8)
  | .dead => true

def killS (kill : List Nat) (fr : List V) : List V := kill.foldl (fun fr t => fr.set t .unk) fr

def trim (m : Nat) (fr : List V) (H : Heap) : Heap :=
  if fr.all (idsUnder m 8) && (H.take m).all (Ob.under m) then H.take m else H

def put (dst : Option Nat) (v : V) (fr : List V) : List V :=
  match dst with
  | some d => fr.set d v
  | none => fr

/-- Is an operation carried out? none: it can't be told. -/
def want (o : AOper) (fr : List V) : Option Bool :=
  match o.guard with
  | none => some true
  | some (t, b) => match fr.getD t .unk with
    | .s (.bool x) => some (x == b)
    | .s (.tuple _) => some false
    | _ => none

abbrev CallF := V → List V → Nat → Heap → Option (V × Heap)

def bndA (fr : List V) (d : Nat) : Option Opd → Option Int
  | none => some d
  | some x => intOf? (ev fr x)

def evOp (call : CallF) (base : Nat) (fr : List V) (H : Heap) : AOp → Option (V × Heap)
  | .move x => some (ev fr x, H)
  | .pick c a b => match ev fr c with
    | .s (.bool true) => some (ev fr a, H)
    | .s (.bool false) => some (ev fr b, H)
    | _ => none
  | .alloc zero => some (.ref H.length 0 0, H ++ [.cells 0 zero])
  | .box x => let v := ev fr x; if v.cells.all V.one then some (.ref H.length 0 0, H ++ [.cells 0 v.cells]) else none
  | .build zero places parts => match fillA (places[·]?) zero (parts.map fun p => (p.1, ev fr p.2)) with
    | some cs => some (.agg cs, H)
    | none => none
  | .buildSl sz len zero parts => match fillA (fun i => some (i * sz, sz)) zero (parts.map fun p => (p.1, ev fr p.2)) with
    | some cs => some (if len = 0 then .esl else .sl H.length 0 0 len sz, H ++ [.cells 0 cs])
    | none => none
  | .mapNew => some (.mp H.length, H ++ [.map []])
  | .mapUpd kind m k v => match ev fr m, ev fr k with
    | .mp id, .s key => if base ≤ id ∧ keyOk kind key then match H[id]? with
        | some (.map es) => match findA kind key es 0 with
          | some (some (i, _)) => some (und, H.set id (.map (es.set i (key, ev fr v))))
          | some none => some (und, H.set id (.map (es ++ [(key, ev fr v)])))
          | none => none
        | _ => none
      else none
    | _, _ => none
  | .mapGet kind zero m k ok => match ev fr k with
    | .s key => if keyOk kind key then
        match ev fr m with
        | .s (.map none) => some (if ok then .tup [zero, bl false] else zero, H)
        | .mp id => match H[id]? with
          | some (.map es) => match findA kind key es 0 with
            | some (some (_, v)) => some (if ok then .tup [v, bl true] else v, H)
            | some none => some (if ok then .tup [zero, bl false] else zero, H)
            | none => none
          | _ => none
        | _ => none
      else none
    | _ => none
  | .load agg n a => (loadV H agg n (ev fr a)).map fun v => (v, H)
  | .store n a v => (storeV H base n (ev fr v) (ev fr a)).map fun H => (und, H)
  | .nilCheck x => match ev fr x with
    | .ref id g off => some (.ref id g off, H)
    | .pref cs => some (.pref cs, H)
    | .fn f a b => some (.fn f a b, H)
    | .yld id => some (.yld id, H)
    | _ => none
  | .bin op x y => match ev fr x, ev fr y with
    | .s a, .s b => (binS op a b).map fun v => (.s v, H)
    | _, _ => none
  | .eqB neg x y => match ev fr x, ev fr y with
    | .s (.bool a), .s (.bool b) => some (bl ((a == b) != neg), H)
    | _, _ => none
  | .eqNil k neg x => match (ev fr x).isNil k with
    | some b => some (bl (b != neg), H)
    | none => none
  | .eqAgg neg ls x y => match ev fr x, ev fr y with
    | .agg xs, .agg ys => match eqLeaves ls xs ys with
      | some b => some (bl (b != neg), H)
      | none => none
    | _, _ => none
  | .un op x => match op, ev fr x with
    | .not, .s (.bool b) => some (bl (!b), H)
    | .neg, .s (.int k n) => some (.s (.int k (k.wrap (0 - n))), H)
    | .xor, .s (.int k n) => (binS .xor (.int k (if k.signed then -1 else k.max)) (.int k n)).map fun v => (.s v, H)
    | _, _ => none
  | .conv k x => match ev fr x with
    | .s (.int _ n) => some (.s (.int k (k.wrap n)), H)
    | _ => none
  | .convId x => match ev fr x with
    | .s (.string b) => some (.s (.string b), H)
    | _ => none
  | .mkFn f fst cap => some (.fn f (fst.map (ev fr)) (cap.map (ev fr)), H)
  | .mkSl zero sz bytes len cap => match ev fr len, ev fr cap with
    | .s (.int _ l), .s (.int _ c) =>
      if 0 ≤ l ∧ l ≤ c ∧ c * bytes ≤ 2 ^ 47 then some (.sl H.length 0 0 l.toNat sz, H ++ [.cells 0 (List.replicate l.toNat zero).flatten]) else none
    | _, _ => none
  | .subStr x lo hi => match ev fr x with
    | .s (.string b) => match bndA fr 0 lo, bndA fr b.size hi with
      | some l, some h => if 0 ≤ l ∧ l ≤ h ∧ h ≤ b.size then some (.s (.string (b.extract l.toNat h.toNat)), H) else none
      | _, _ => none
    | _ => none
  | .subSl sz x lo hi mx =>
    match mx with
    | none => match ev fr x with
      | .s (.slice none 0 0) => match bndA fr 0 lo, bndA fr 0 hi with
        | some 0, some 0 => some (nilS, H)
        | _, _ => none
      | .esl => match bndA fr 0 lo, bndA fr 0 hi with
        | some 0, some 0 => some (.esl, H)
        | _, _ => none
      | .psl es sz' => match bndA fr 0 lo, bndA fr es.length hi with
        | some l, some h => if 0 ≤ l ∧ l ≤ h ∧ h ≤ es.length ∧ sz' = sz then some (.psl ((es.drop l.toNat).take (h - l).toNat) sz, H) else none
        | _, _ => none
      | .sl id g off len sz' => match bndA fr 0 lo, bndA fr len hi with
        | some l, some h => if 0 ≤ l ∧ l ≤ h ∧ h ≤ len ∧ sz' = sz then some (.sl id g (off + l.toNat * sz) (h - l).toNat sz, H) else none
        | _, _ => none
      | _ => none
    | some m => match hi, bndA fr 0 lo with
      | some h, some 0 => match intOf? (ev fr h), intOf? (ev fr m) with
        | some 0, some 0 => match ev fr x with
          | .s (.slice none 0 0) => some (nilS, H)
          | .esl => some (.esl, H)
          | .psl _ _ => some (.esl, H)
          | .sl _ _ _ _ _ => some (.esl, H)
          | _ => none
        | _, _ => none
      | _, _ => none
  | .fieldAddr off x => match ev fr x with
    | .ref id g o => some (.ref id g (o + off), H)
    | .pref cs => if off ≤ cs.length then some (.pref (cs.drop off), H) else none
    | _ => none
  | .field agg off n x => match ev fr x with
    | .agg cs => let cs := (cs.drop off).take n; if cs.length = n then (shut agg cs).map fun v => (v, H) else none
    | _ => none
  | .indexAddr sz x i => match ev fr x, ev fr i with
    | .sl id g off len sz', .s (.int _ n) => if 0 ≤ n ∧ n < len ∧ sz' = sz then some (.ref id g (off + n.toNat * sz), H) else none
    | .psl es sz', .s (.int _ n) => if 0 ≤ n ∧ sz' = sz then match es[n.toNat]? with
        | some e => some (.pref e, H)
        | none => none
      else none
    | _, _ => none
  | .indexStr x i => match ev fr x, ev fr i with
    | .s (.string b), .s (.int _ n) => if 0 ≤ n then match b.data.toList[n.toNat]? with
        | some c => some (.s (.int .u8 c.toNat), H)
        | none => none
      else none
    | _, _ => none
  | .extract x i => match ev fr x with
    | .tup vs => match vs[i]? with
      | some v => some (v, H)
      | none => none
    | _ => none
  | .lenS k x => match k, ev fr x with
    | .p, .s (.string b) => some (i64 b.size, H)
    | .s, .s (.slice none 0 0) => some (i64 0, H)
    | .m, .s (.map none) => some (i64 0, H)
    | .s, .esl => some (i64 0, H)
    | .s, .psl es _ => some (i64 es.length, H)
    | .s, .sl _ _ _ len _ => some (i64 len, H)
    | .m, .mp id => match H[id]? with
      | some (.map es) => some (i64 es.length, H)
      | _ => none
    | _, _ => none
  | .append sz bytes s x => appendV H base sz bytes (ev fr s) (ev fr x)
  | .delete kind m k => match ev fr m, ev fr k with
    | .mp id, .s key => if base ≤ id ∧ keyOk kind key then match H[id]? with
        | some (.map es) => match findA kind key es 0 with
          | some (some (i, _)) => some (und, H.set id (.map (es.eraseIdx i)))
          | some none => some (und, H)
          | none => none
        | _ => none
      else none
    | _, _ => none
  | .minmax mx x y => match ev fr x, ev fr y with
    | .s (.int k a), .s (.int k' b) => if k = k' then some (.s (.int k (if mx then (if a < b then b else a) else (if b < a then b else a))), H) else none
    | _, _ => none
  | .call f args => call (ev fr f) (args.map (ev fr)) base H
  | .callR f args => call (ev fr f) (args.map (ev fr)) H.length H
  | .callP f args =>
    let vs := args.map (ev fr)
    match vs.mapM (frz H 12) with
    | some us => match call (.fn f [] []) us 0 [] with
      | some (v, H') => match frz H' 12 v with
        | some u => if vs.all (isPure 12) || u.flat2 then some (u, H) else none
        | none => none
      | none => none
    | none => none
  | .callQ f args =>
    if (args.map (ev fr)).all (isPure 12) then
      match call (.fn f [] []) (args.map (ev fr)) 0 [] with
      | some (v, H') => match frz H' 12 v with
        | some u => some (u, H)
        | none => none
      | none => none
    else none
  | .clearSl sz zero x => match ev fr x with
    | .s (.slice none 0 0) => some (und, H)
    | .esl => some (und, H)
    | .sl id g off len sz' => if len = 0 then some (und, H) else if base ≤ id ∧ sz' = sz then match getC H id g with
        | some c => if zero.length = sz ∧ off + len * sz ≤ c.length ∧ zero.all V.one then some (und, H.set id (.cells g (splice c off (List.replicate len zero).flatten))) else none
        | none => none
      else none
    | _ => none

def evOps (call : CallF) (base : Nat) : List AOper → List V → Heap → Option (List V × Heap)
  | [], fr, H => some (fr, H)
  | o :: os, fr, H => match want o fr with
    | none => none
    | some false => evOps call base os (put o.dst und fr) H
    | some true => match evOp call base fr H o.op with
      | some (v, H') => evOps call base os (put o.dst v fr) H'
      | none => none

/-- The object that an operation looks at. -/
def AOp.place : AOp → Option Opd
  | .load _ _ a => some a
  | .store _ a _ => some a
  | .lenS _ m => some m
  | .mapGet _ _ m _ _ => some m
  | .append _ _ s _ => some s
  | _ => none

def V.obj? : V → Option (Option Nat)
  | .ref id _ _ => some (some id)
  | .mp id => some (some id)
  | .s _ | .pref _ | .psl .. | .esl | .sl .. => some none
  | _ => none

/-- The object that an append may write. -/
def V.appObj : V → Option (Option Nat)
  | .sl id _ _ _ _ => some (some id)
  | .s _ | .esl | .psl .. => some none
  | _ => none

def AOp.obj (o : AOp) (v : V) : Option (Option Nat) :=
  match o with
  | .append .. => v.appObj
  | _ => v.obj?

/-- Two operations of a region that no edge orders, one of which stores: they look at two objects. -/
def apartAt (ops : List AOper) (fr : List V) (p : Nat × Nat) : Bool :=
  match (ops.getD p.1 default).op.place, (ops.getD p.2 default).op.place with
  | some a, some b => match (ops.getD p.1 default).op.obj (ev fr a), (ops.getD p.2 default).op.obj (ev fr b) with
    | some (some i), some (some j) => i != j
    | some _, some _ => true
    | _, _ => false
  | _, _ => false

abbrev St := Ex × List V × Heap

/-! ### Rows told as expressions -/

/-- What knows no memory; what looks at one object. -/
def AOp.quiet : AOp → Bool
  | .move _ | .pick .. | .build .. | .nilCheck _ | .bin .. | .eqB .. | .eqNil .. | .eqAgg .. | .un .. | .conv .. | .convId _ | .mkFn ..
  | .subStr .. | .subSl .. | .fieldAddr .. | .field .. | .indexAddr .. | .indexStr .. | .extract .. | .minmax .. | .mapGet .. | .load .. | .lenS .. => true
  | _ => false

/-- An expression: of the slots as they stand ahead of the row. -/
inductive E where
  | t (i : Nat)
  | c (v : V)
  | pick (c a b : E)
  | op (o : AOp) (xs : List E)
  deriving Inhabited

def Opd.num : Opd → Nat → Opd
  | .t _, k => .t k
  | .c v, _ => .c v

def optNum (o : Option Opd) (k : Nat) : Option Opd := o.map fun x => x.num k

def numFrom (k : Nat) : List Opd → List Opd
  | [] => []
  | x :: xs => x.num k :: numFrom (k + 1) xs

def numParts (k : Nat) : List (Nat × Opd) → List (Nat × Opd)
  | [] => []
  | p :: ps => (p.1, p.2.num k) :: numParts (k + 1) ps

/-- The same operation, its operands numbered through: 0, 1, 2 ... -/
def AOp.ren : AOp → AOp
  | .move x => .move (x.num 0)
  | .nilCheck x => .nilCheck (x.num 0)
  | .eqNil k n x => .eqNil k n (x.num 0)
  | .un o x => .un o (x.num 0)
  | .conv k x => .conv k (x.num 0)
  | .convId x => .convId (x.num 0)
  | .fieldAddr o x => .fieldAddr o (x.num 0)
  | .field a o n x => .field a o n (x.num 0)
  | .extract x i => .extract (x.num 0) i
  | .lenS k x => .lenS k (x.num 0)
  | .load a n x => .load a n (x.num 0)
  | .pick c a b => .pick (c.num 0) (a.num 1) (b.num 2)
  | .build z p ps => .build z p (numParts 0 ps)
  | .mapGet k z m x ok => .mapGet k z (m.num 0) (x.num 1) ok
  | .bin o x y => .bin o (x.num 0) (y.num 1)
  | .eqB n x y => .eqB n (x.num 0) (y.num 1)
  | .eqAgg n l x y => .eqAgg n l (x.num 0) (y.num 1)
  | .indexAddr s x y => .indexAddr s (x.num 0) (y.num 1)
  | .indexStr x y => .indexStr (x.num 0) (y.num 1)
  | .minmax m x y => .minmax m (x.num 0) (y.num 1)
  | .mkFn f a b => .mkFn f (numFrom 0 a) (numFrom a.length b)
  | .subStr x lo hi => .subStr (x.num 0) (optNum lo 1) (optNum hi (1 + lo.toList.length))
  | .subSl s x lo hi mx => .subSl s (x.num 0) (optNum lo 1) (optNum hi (1 + lo.toList.length)) (optNum mx (1 + lo.toList.length + hi.toList.length))
  | o => o

def Opd.slots : Opd → List Nat
  | .t i => [i]
  | .c _ => []

def AOp.opds : AOp → List Opd
  | .move x | .box x | .nilCheck x | .eqNil _ _ x | .un _ x | .conv _ x | .convId x | .fieldAddr _ x | .field _ _ _ x | .extract x _ | .lenS _ x | .load _ _ x => [x]
  | .pick c a b => [c, a, b]
  | .alloc _ | .mapNew => []
  | .build _ _ ps | .buildSl _ _ _ ps => ps.map (·.2)
  | .mapUpd _ m k v => [m, k, v]
  | .mapGet _ _ m k _ => [m, k]
  | .store _ a v => [a, v]
  | .bin _ x y | .eqB _ x y | .eqAgg _ _ x y | .indexAddr _ x y | .indexStr x y | .append _ _ x y | .minmax _ x y | .delete _ x y | .mkSl _ _ _ x y => [x, y]
  | .mkFn _ a b => a ++ b
  | .subStr x lo hi => x :: (lo.toList ++ hi.toList)
  | .subSl _ x lo hi mx => x :: (lo.toList ++ hi.toList ++ mx.toList)
  | .call f xs | .callR f xs => f :: xs
  | .callP _ xs | .callQ _ xs => xs
  | .clearSl _ _ x => [x]

def pickO (c x y : Option V) : Option V :=
  match c with
  | some (.s (.bool true)) => x
  | some (.s (.bool false)) => y
  | _ => none

/-- What is asked under a condition. -/
def reqB (c : Option V) (b r : Bool) : Bool :=
  match c with
  | some (.s (.bool z)) => if z = b then r else true
  | _ => false

mutual
def evE (fr : List V) (H : Heap) : E → Option V
  | .t i => some (fr.getD i .unk)
  | .c v => some v
  | .pick c a b => pickO (evE fr H c) (evE fr H a) (evE fr H b)
  | .op o xs => match evEs fr H xs with
    | some vs => match evOp (fun _ _ _ _ => none) 0 vs H o with
      | some (v, _) => some v
      | none => none
    | none => none
def evEs (fr : List V) (H : Heap) : List E → Option (List V)
  | [] => some []
  | x :: xs => match evE fr H x, evEs fr H xs with
    | some v, some vs => some (v :: vs)
    | _, _ => none
end

/-- A slot's value, under conditions on slots. -/
structure Ent where
  g : List (Nat × Bool × E)
  e : E
  deriving Inhabited

def symGet : List (Nat × Ent) → Nat → Ent
  | [], s => ⟨[], .t s⟩
  | (k, en) :: σ, s => if k = s then en else symGet σ s

def under (G K : List (Nat × Bool × E)) : Bool := G.all fun p => K.any fun q => p.1 == q.1 && p.2.1 == q.2.1

def symArg (σ : List (Nat × Ent)) (G : List (Nat × Bool × E)) : Opd → Option E
  | .c v => some (.c v)
  | .t s => if under (symGet σ s).g G then some (symGet σ s).e else none

def symArgs (σ : List (Nat × Ent)) (G : List (Nat × Bool × E)) : List Opd → Option (List E)
  | [] => some []
  | x :: xs => match symArg σ G x, symArgs σ G xs with
    | some e, some es => some (e :: es)
    | _, _ => none

/-- The conditions under which an operation is carried out. -/
def symGuard (σ : List (Nat × Ent)) : Option (Nat × Bool) → List (Nat × Bool × E)
  | none => []
  | some (t, b) => (symGet σ t).g ++ [(t, b, (symGet σ t).e)]

def symOp (σ : List (Nat × Ent)) (G : List (Nat × Bool × E)) (o : AOp) : Option E :=
  match o with
  | .move x => symArg σ G x
  | .pick (.t c) a b => match symArg σ G (.t c), symArg σ (G ++ [(c, true, (symGet σ c).e)]) a, symArg σ (G ++ [(c, false, (symGet σ c).e)]) b with
    | some x, some y, some z => some (.pick x y z)
    | _, _, _ => none
  | o => if o.quiet then match symArgs σ G o.opds with
      | some xs => some (.op o.ren xs)
      | none => none
    else none

def symRow : List (Nat × Ent) → List (List (Nat × Bool × E) × E) → List AOper → Option (List (Nat × Ent) × List (List (Nat × Bool × E) × E))
  | σ, R, [] => some (σ, R)
  | σ, R, o :: os => match symOp σ (symGuard σ o.guard) o.op with
    | some e => match o.dst with
      | some d => if (symGuard σ o.guard).all (fun p => p.1 != d) && σ.all (fun q => q.2.g.all fun p => p.1 != d) then symRow ((d, ⟨symGuard σ o.guard, e⟩) :: σ) (R ++ [(symGuard σ o.guard, e)]) os else none
      | none => symRow σ (R ++ [(symGuard σ o.guard, e)]) os
    | none => none

def reqE (fr : List V) (H : Heap) : List (Nat × Bool × E) → E → Bool
  | [], e => (evE fr H e).isSome
  | p :: G, e => reqB (evE fr H p.2.2) p.2.1 (reqE fr H G e)

def topDst : List AOper → Nat
  | [] => 0
  | o :: os => match o.dst with
    | some d => max (d + 1) (topDst os)
    | none => topDst os

abbrev Tale := Option (Nat × List (List (Nat × Bool × E) × E) × List (Nat × E))

/-- A row's tale: what must go through, what the slots hold behind it. -/
def symAll (ops : List AOper) (kill outs : List Nat) : Tale :=
  match symRow [] [] ops with
  | some (σ, R) =>
    if outs.all (fun s => (symGet σ s).g.isEmpty) && ops.all (fun o => match o.dst with | some d => kill.contains d || outs.contains d | none => true) && outs.all (fun s => !kill.contains s)
    then some (topDst ops, R, outs.map fun s => (s, (symGet σ s).e)) else none
  | none => none

def setOuts (fr : List V) (H : Heap) : List (Nat × E) → List V → Option (List V)
  | [], fr' => some fr'
  | (s, e) :: os, fr' => match evE fr H e with
    | some v => setOuts fr H os (fr'.set s v)
    | none => none

def evTale (tale : Tale) (kill : List Nat) (fr : List V) (H : Heap) : Option (List V) :=
  match tale with
  | some (m, R, os) => if m ≤ fr.length then if R.all (fun r => reqE fr H r.1 r.2) then setOuts fr H os (killS kill fr) else none else none
  | none => none

def iterN (body : List V → Heap → Option St) (kill : List Nat) (m : Nat) : Nat → List V → Heap → Option St
  | 0, _, _ => none
  | n + 1, fr, H => match body fr H with
    | some (.nrm, fr', H') => let fr' := killS kill fr'; iterN body kill m n fr' (trim m fr' H')
    | some (e, fr', H') => let fr' := killS kill fr'; some (e, fr', trim m fr' H')
    | none => none

/-- An exit at a round's end: does the loop go on, and which jump is left? -/
def pendOf : Ex → Option Ex
  | .nrm => none
  | e => some e

/-- The iterator of loops is handed in: it is iterN at some number, or its limit. -/
abbrev IterF := (List V → Heap → Option St) → List Nat → Nat → List V → Heap → Option St

def evC (call : CallF) (it : IterF) (base : Nat) : ACode → List V → Heap → Option St
  | .skip, fr, H => some (.nrm, fr, H)
  | .region ops chk kill, fr, H => match evOps call base ops fr H with
    | some (fr, H) => if chk.all (apartAt ops fr) then some (.nrm, killS kill fr, H) else none
    | none => none
  | .regionE ops kill outs, fr, H => match evTale (symAll ops kill outs) kill fr H with
    | some fr' => some (.nrm, fr', H)
    | none => none
  | .seq a b, fr, H => match evC call it base a fr H with
    | some (.nrm, fr, H) => evC call it base b fr H
    | r => r
  | .cond c a b, fr, H => match ev fr c with
    | .s (.bool true) => evC call it base a fr H
    | .s (.bool false) => evC call it base b fr H
    | _ => none
  | .block id c, fr, H => match evC call it base c fr H with
    | some (.ext id', fr, H) => some (if id' = id then .nrm else .ext id', fr, H)
    | r => r
  | .loop kill c, fr, H => it (fun fr H => evC call it base c fr H) kill H.length (killS kill fr) H
  | .rangeFunc f params assign body, fr, H =>
    match ev fr f with
    | .fn k x y => match call (.fn k x y) [.yld H.length] base (H ++ [.loop .ready none fr params assign body]) with
      | some (_, H') => match H'[H.length]? with
        | some (.loop .ready none _ _ _ _) => some (.nrm, fr, trim H.length fr (H'.set H.length .dead))
        | some (.loop .done (some e) _ _ _ _) => some (e, fr, trim H.length fr (H'.set H.length .dead))
        | _ => none
      | none => none
    | _ => none
  | .exit id, fr, H => some (.ext id, fr, H)
  | .ret, fr, H => some (.ret, fr, H)

def setPs : List Nat → List V → List V → Option (List V)
  | [], [], fr => some fr
  | p :: ps, v :: vs, fr => setPs ps vs (fr.set p v)
  | _, _, _ => none

def resV (fr : List V) (H : Heap) : ARes → Option V
  | .tmp t => some (fr.getD t .unk)
  | .cell t agg n => loadV H agg n (fr.getD t .unk)

def resultV (rs : List ARes) (fr : List V) (H : Heap) : Option V :=
  match rs.mapM (resV fr H) with
  | some [v] => some v
  | some vs => some (.tup vs)
  | none => none

/-- One call, out of the calls and loops within. -/
def evCall (CP : Nat → Option CFun) (call : CallF) (it : IterF) (v : V) (args : List V) (base : Nat) (H : Heap) : Option (V × Heap) :=
  match v with
  | .fn f fst cap => match CP f with
    | some (.code c) =>
      let vs := fst ++ args ++ cap
      match evC call it base c.body (vs ++ List.replicate (c.ntmps - vs.length) und) H with
      | some (.nrm, fr, H') => (resultV c.results fr H').map fun v => (v, H')
      | some (.ret, fr, H') => (resultV c.results fr H').map fun v => (v, H')
      | _ => none
    | some (.prim g) => g (fst ++ args ++ cap) base H
    | none => none
  | .yld id => if base ≤ id then match H[id]? with
    | some (.loop .ready none tmps params assign body) => match setPs params args tmps with
      | some fr => match evC call it base assign fr H with
        | some (.nrm, fr, H) => match H[id]? with
          | some (.loop .ready none t p a b) => match evC call it base body fr (H.set id (.loop .busy none t p a b)) with
            | some (e, _, H) => match H[id]? with
              | some (.loop .busy none t p a b) => some (bl (e = .nrm), H.set id (.loop (if e = .nrm then .ready else .done) (pendOf e) t p a b))
              | _ => none
            | none => none
          | _ => none
        | _ => none
      | none => none
    | _ => none
    else none
  | _ => none

def callN (CP : Nat → Option CFun) : Nat → CallF
  | 0 => fun _ _ _ _ => none
  | n + 1 => evCall CP (callN CP n) (fun b k m => iterN b k m n)

end Go.AM
