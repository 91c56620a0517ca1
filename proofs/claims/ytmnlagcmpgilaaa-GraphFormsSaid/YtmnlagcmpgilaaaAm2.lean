/-
  From the model's code to the abstract machine's: types resolved; drawn regions looked at. Definitions alone.
-/
import Derived.Test.YtmnlagcmpgilaaaAm1
set_option linter.all false
namespace Go.AM

def ofConst1 (v : Value) : Option V :=
  match v with
  | .bool _ | .int _ _ | .string _ | .nilFunc | .pointer none | .slice none 0 0 | .map none => some (.s v)
  | _ => none

def ofConst (v : Value) : Option V :=
  match v with
  | .agg cs => (cs.toList.mapM ofConst1).map .agg
  | v => ofConst1 v

def compOpd : Operand → Option Opd
  | .tmp t => some (.t t)
  | .const v => (ofConst v).map .c
  | .func f => some (.c (.fn f [] []))
  | .global _ => none

section
variable (P : Program)

def isAggT (t : TypeId) : Option Bool :=
  match P.underlying t with
  | some (.struct _) => some true
  | some (.array _ _) => some true
  | some _ => some false
  | none => none

def sizeT (t : TypeId) : Option Nat := (P.info? t).map (·.size)

/-- agg or not, and how many cells -/
def shapeT (t : TypeId) : Option (Bool × Nat) :=
  match isAggT P t, sizeT P t with
  | some true, some n => some (true, n)
  | some false, some 1 => some (false, 1)
  | _, _ => none

def zeroT (t : TypeId) : Option V :=
  match P.info? t with
  | some i => match i.zero with
    | some z => ofConst z
    | none => none
  | none => none

def kindT (t : TypeId) : Option TypeDesc :=
  match P.underlying t with
  | some (.int k) => some (.int k)
  | some .string => some .string
  | some .bool => some .bool
  | _ => none

mutual
def leavesT : Nat → TypeId → Option (List Leaf)
  | 0, _ => none
  | d + 1, t => match P.underlying t with
    | some (.int k) => if sizeT P t = some 1 then some [.int k] else none
    | some .bool => if sizeT P t = some 1 then some [.bool] else none
    | some .string => if sizeT P t = some 1 then some [.str] else none
    | some (.struct fs) => if P.stoodInHeld t then none else leavesFs d 0 fs.toList
    | _ => none
def leavesFs : Nat → Nat → List Field → Option (List Leaf)
  | 0, _, _ => none
  | _ + 1, _, [] => some []
  | d + 1, off, f :: fs => if f.offset = off ∧ f.name ≠ "_" then match leavesT d f.type, sizeT P f.type with
      | some ls, some n => if ls.length = n then match leavesFs d (off + n) fs with
          | some rest => some (ls ++ rest)
          | none => none
        else none
      | _, _ => none
    else none
end

def nilFor : Option TypeDesc → Operand → Option NK
  | some (.pointer _), .const (.pointer none) => some .p
  | some (.slice _), .const (.slice none 0 0) => some .s
  | some (.map _ _), .const (.map none) => some .m
  | some (.func _ _ _), .const .nilFunc => some .f
  | _, _ => none

def isEqOp : BinOp → Option Bool
  | .eql => some false
  | .neq => some true
  | _ => none

def compBin (op : BinOp) (t : TypeId) (x y : Operand) : Option AOp :=
  match isEqOp op, nilFor (P.underlying t) y, nilFor (P.underlying t) x with
  | some neg, some k, _ => (compOpd x).map (.eqNil k neg)
  | some neg, none, some k => (compOpd y).map (.eqNil k neg)
  | e, _, _ => match P.underlying t, compOpd x, compOpd y with
    | some (.int _), some x, some y => some (.bin op x y)
    | some .string, some x, some y => some (.bin op x y)
    | some .bool, some x, some y => match e with
      | some neg => some (.eqB neg x y)
      | none => none
    | some (.struct _), some x, some y => match e, leavesT P 12 t with
      | some neg, some ls => if P.eqGuardType P.depth t then none else some (.eqAgg neg ls x y)
      | _, _ => none
    | _, _, _ => none

def compParts (ps : Array (Nat × Operand)) : Option (List (Nat × Opd)) :=
  ps.toList.mapM fun p => (compOpd p.2).map fun x => (p.1, x)

def compOpds (xs : Array Operand) : Option (List Opd) := xs.toList.mapM compOpd

def compOpt : Option Operand → Option (Option Opd)
  | none => some none
  | some x => (compOpd x).map some

def elemT (t : TypeId) : Option TypeId :=
  match P.underlying t with
  | some (.slice e) => some e
  | _ => none

/-- pure: the functions whose calls are made apart. -/
def compOp (pure' : Nat → Bool) (o : Oper) : Option AOp :=
  match o.op with
  | .move x => (compOpd x).map .move
  | .assign x => (compOpd x).map .move
  | .pick c a b => do return .pick (← compOpd c) (← compOpd a) (← compOpd b)
  | .alloc t => match zeroT P t with
    | some z => some (.alloc z.cells)
    | none => none
  | .box _ x => (compOpd x).map .box
  | .build t parts => do
    let z ← zeroT P t
    match P.underlying t with
    | some (.struct fs) =>
      let places ← fs.toList.mapM fun f => (sizeT P f.type).map fun n => (f.offset, n)
      return .build z.cells places (← compParts parts)
    | _ => none
  | .buildSlice t len parts => do
    let e ← elemT P t
    let sz ← sizeT P e
    let z ← zeroT P e
    if 0 < sz ∧ len * sz ≤ 2 ^ 24 ∧ z.cells.length = sz then
      return .buildSl sz len (List.replicate len z.cells).flatten (← compParts parts)
    else none
  | .insert t m k v | .mapUpdate t m k v => match P.underlying t with
    | some (.map kt _) => do return .mapUpd (← kindT P kt) (← compOpd m) (← compOpd k) (← compOpd v)
    | _ => none
  | .lookup t m k ok => match P.underlying t with
    | some (.map kt e) => do return .mapGet (← kindT P kt) (← zeroT P e) (← compOpd m) (← compOpd k) ok
    | _ => none
  | .load t a => do
    let (agg, n) ← shapeT P t
    return .load agg n (← compOpd a)
  | .store t a v => do
    let (_, n) ← shapeT P t
    return .store n (← compOpd a) (← compOpd v)
  | .nilCheck x => (compOpd x).map .nilCheck
  | .binOp op t x y _ => compBin P op t x y
  | .unOp op _ x => do
    match op with
    | .not | .neg | .xor => return .un op (← compOpd x)
    | .plus => none
  | .convert src dst x => match P.underlying src, P.underlying dst with
    | some (.int _), some (.int k) => (compOpd x).map (.conv k)
    | some .string, some .string => (compOpd x).map .convId
    | _, _ => none
  | .makeFunc (.func f) fst cap => do return .mkFn f (← compOpds fst) (← compOpds cap)
  | .makeMap _ none => some .mapNew
  | .makeSlice t len cap => do
    let e ← elemT P t
    let i ← P.info? e
    let z ← zeroT P e
    if 0 < i.size ∧ 0 < i.bytes ∧ z.cells.length = i.size then return .mkSl z.cells i.size i.bytes (← compOpd len) (← compOpd cap) else none
  | .slice t x lo hi mx => match P.underlying t with
    | some .string => match mx with
      | none => do return .subStr (← compOpd x) (← compOpt lo) (← compOpt hi)
      | some _ => none
    | some (.slice e) => do
      let sz ← sizeT P e
      if 0 < sz then return .subSl sz (← compOpd x) (← compOpt lo) (← compOpt hi) (← compOpt mx) else none
    | _ => none
  | .fieldAddr t x f => match P.underlying t with
    | some (.struct fs) => do
      let f ← fs[f]?
      let n ← sizeT P f.type
      if n ≠ 0 then return .fieldAddr f.offset (← compOpd x) else none
    | _ => none
  | .field t x f => match P.underlying t with
    | some (.struct fs) => do
      let f ← fs[f]?
      let (agg, n) ← shapeT P f.type
      return .field agg f.offset n (← compOpd x)
    | _ => none
  | .indexAddr t x i => do
    let e ← elemT P t
    let sz ← sizeT P e
    if 0 < sz then return .indexAddr sz (← compOpd x) (← compOpd i) else none
  | .index t x i => match P.underlying t with
    | some .string => do return .indexStr (← compOpd x) (← compOpd i)
    | _ => none
  | .extract x i => (compOpd x).map fun x => .extract x i
  | .call { callee := .builtin b, args, argTypes } => match b, args.toList, argTypes.toList with
    | .len, [x], [t] => match P.underlying t with
      | some .string => (compOpd x).map (.lenS .p)
      | some (.slice _) => (compOpd x).map (.lenS .s)
      | some (.map _ _) => (compOpd x).map (.lenS .m)
      | _ => none
    | .append, [s, x], [t, t'] => do
      let e ← elemT P t
      let i ← P.info? e
      let z ← zeroT P e
      match P.underlying t' with
      | some (.slice _) | some .string => if 0 < i.size ∧ 0 < i.bytes ∧ z.cells.length = i.size then return .append i.size i.bytes (← compOpd s) (← compOpd x) else none
      | _ => none
    | .delete, [m, k], [t, _] => match P.underlying t with
      | some (.map kt _) => do return .delete (← kindT P kt) (← compOpd m) (← compOpd k)
      | _ => none
    | .clear, [x], [t] => do
      let e ← elemT P t
      let sz ← sizeT P e
      let z ← zeroT P e
      if 0 < sz ∧ z.cells.length = sz then return .clearSl sz z.cells (← compOpd x) else none
    | .min, [x, y], _ => do return .minmax false (← compOpd x) (← compOpd y)
    | .max, [x, y], _ => do return .minmax true (← compOpd x) (← compOpd y)
    | _, _, _ => none
  | .call { callee := .value f, args, .. } => do
    let xs ← compOpds args
    match f with
    | .func k => if pure' k then return .callP k xs else return .call (← compOpd f) xs
    | _ => return .call (← compOpd f) xs
  | _ => none

end

def AOp.isCall : AOp → Bool
  | .call .. | .callR .. | .callP .. | .callQ .. => true
  | _ => false

section
variable (P : Program)

/-- An operation; calls of Go functions apart. -/
def compOp2 (pure' : Nat → Bool) (o : Oper) : Option AOp :=
  match o.op with
  | .call { callee := .value f, args, .. } =>
    match compOpds args, compOpd f with
    | some xs, some y => match f with
      | .func k => if pure' k then some (.callP k xs) else some (.call y xs)
      | _ => some (.call y xs)
    | _, _ => none
  | _ => match compOp P pure' o with
    | some ao => if ao.isCall then none else some ao
    | none => none

/-! ### Drawn regions -/

inductive Cls where
  | t | r | a | w
  deriving DecidableEq, Inhabited

/-- t: knows no memory. r: looks at one object. a: makes objects and leaves those that are there. w: the others. -/
def AOp.cls : AOp → Cls
  | .move _ | .pick .. | .build .. | .nilCheck _ | .bin .. | .eqB .. | .eqNil .. | .eqAgg .. | .un .. | .conv .. | .convId _ | .mkFn ..
  | .subStr .. | .subSl .. | .fieldAddr .. | .field .. | .indexAddr .. | .indexStr .. | .extract .. | .minmax .. | .callQ .. => .t
  | .mapGet .. | .load .. | .lenS .. => .r
  | .alloc _ | .box _ | .buildSl .. | .mapNew | .mkSl .. | .callR .. => .a
  | .mapUpd .. | .store .. | .append .. | .delete .. | .call .. | .callP .. | .clearSl .. => .w

def AOp.isM (o : AOp) : Bool := o.cls == .a || o.cls == .w

/-- The slots that an operation reads. -/
def AOper.reads (o : AOper) : List Nat := o.op.opds.flatMap Opd.slots ++ (match o.guard with | some (t, _) => [t] | none => [])
def AOper.names (o : AOper) : List Nat := o.dst.toList ++ o.reads

def clash (a b : AOper) : Bool :=
  (match a.dst with | some d => b.names.contains d | none => false) || (match b.dst with | some d => a.names.contains d | none => false)

def conflictA (a b : AOper) : Bool :=
  (a.op.isM && b.op.isM) || (a.op.cls == .w && b.op.cls == .r) || (b.op.cls == .w && a.op.cls == .r) || clash a b

/-- A store and a look at memory that no edge orders: it is asked at the run that they look at two objects. -/
def lateA (a b : AOper) : Bool :=
  !clash a b && (match a.op, b.op with
  | .store .., .load .. | .store .., .lenS .. | .store .., .mapGet .. | .load .., .store .. | .lenS .., .store .. | .mapGet .., .store ..
  | .append .., .load .. | .append .., .lenS .. | .append .., .mapGet .. | .load .., .append .. | .lenS .., .append .. | .mapGet .., .append .. => true
  | _, _ => false)

def orderedB (bf : List Nat) (i j : Nat) : Bool := (bf.getD j 0).testBit i

/-- The place that an operation looks at is written no more. -/
def stayA (ops : List AOper) (i : Nat) : Bool :=
  match (ops.getD i default).op.place with
  | some x => x.slots.all fun s => (List.range ops.length).all fun k => decide (k < i) || (ops.getD k default).dst != some s
  | none => false

def placeOk (o : AOper) : Bool :=
  o.op.cls != .r || match o.op.place with
    | some (.t _) => true
    | some (.c (.s _)) => true
    | _ => false

/-- Every two operations that conflict are ordered by the edges. -/
def okOrder (bf : List Nat) (chk : List (Nat × Nat)) (ops : List AOper) : Bool :=
  (chk.all fun p => stayA ops p.1 && stayA ops p.2) && ops.all placeOk && (List.range ops.length).all fun j => (List.range j).all fun i =>
    !conflictA (ops.getD i default) (ops.getD j default) || orderedB bf i j || (lateA (ops.getD i default) (ops.getD j default) && chk.contains (i, j))

/-- The edges lead back. -/
def backB (ops : Array Oper) : Bool :=
  (List.range ops.size).all fun j => match ops[j]? with
    | some o => o.after.all fun e => !(Region.binds .any e) || decide (e.on < j)
    | none => true

def lates (bf : List Nat) (ops : List AOper) : List (Nat × Nat) :=
  (List.range ops.length).flatMap fun j => (List.range j).filterMap fun i =>
    if conflictA (ops.getD i default) (ops.getD j default) && !orderedB bf i j && lateA (ops.getD i default) (ops.getD j default) then some (i, j) else none

/-- A call that is not ordered against all other looks at memory is made so that it writes nothing that was there. -/
def settleCalls (bf : List Nat) (ops : List AOper) : List AOper :=
  (List.range ops.length).map fun i =>
    let o := ops.getD i default
    match o.op with
    | .call f xs =>
      if (List.range ops.length).all fun j => j == i || (ops.getD j default).op.cls == .t || (if i < j then orderedB bf i j else orderedB bf j i) then o
      else { o with op := .callR f xs }
    | .callP f xs =>
      if (List.range ops.length).all fun j => j == i || (ops.getD j default).op.cls == .t || (if i < j then orderedB bf i j else orderedB bf j i) then o
      else { o with op := .callQ f xs }
    | _ => o

def compGuard (ops : Array Oper) : Option (Nat × Bool) → Option (Option (Nat × Bool))
  | none => some none
  | some (j, b) => match ops[j]? with
    | some o => match o.dst with
      | some d => some (some (d, b))
      | none => none
    | none => none

def compOper (pure' : Nat → Bool) (ops : Array Oper) (o : Oper) : Option AOper := do
  return { dst := o.dst, op := ← compOp2 P pure' o, guard := ← compGuard ops o.guard }

def compRegion (pure' : Nat → Bool) (ops : Array Oper) (draw : Bool) : Option (List AOper × List (Nat × Nat)) := do
  let l ← ops.toList.mapM (compOper P pure' ops)
  if draw then
    let bf := (Region.before ops).toList
    let l := settleCalls bf l
    let chk := lates bf l
    if okOrder bf chk l && backB ops then return (l, chk) else none
  else return (l, [])

def AOper.occ (o : AOper) : List Nat := o.names

def ACode.occ : ACode → List Nat
  | .skip | .exit _ | .ret => []
  | .region ops _ _ => ops.flatMap AOper.occ
  | .regionE ops _ _ => ops.flatMap AOper.occ
  | .seq a b => a.occ ++ b.occ
  | .cond c a b => c.slots ++ a.occ ++ b.occ
  | .block _ c => c.occ
  | .loop _ c => c.occ
  | .rangeFunc f ps a b => f.slots ++ ps ++ a.occ ++ b.occ

def compC (pure' : Nat → Bool) : Code → Option ACode
  | .skip => some .skip
  | .region _ ops draw => (compRegion P pure' ops draw).map fun p => .region p.1 p.2 []
  | .seq a b => do return .seq (← compC pure' a) (← compC pure' b)
  | .cond c a b => do return .cond (← compOpd c) (← compC pure' a) (← compC pure' b)
  | .block id c => do return .block id (← compC pure' c)
  | .loop c => do return .loop [] (← compC pure' c)
  | .rangeFunc f ps a b => do return .rangeFunc (← compOpd f) ps.toList (← compC pure' a) (← compC pure' b)
  | .exit id => some (.exit id)
  | .label _ => some .skip
  | .ret => some .ret
  | .scope _ | .goto _ | .refuse _ => none

def countIn (l : List Nat) (t : Nat) : Nat := l.foldl (fun n x => if x == t then n + 1 else n) 0

/-- Lays into each loop the slots that occur in it alone. -/
def addKill (all : List Nat) : ACode → ACode
  | .loop _ c => let o := c.occ; .loop (o.eraseDups.filter fun t => countIn o t == countIn all t) (addKill all c)
  | .seq a b => .seq (addKill all a) (addKill all b)
  | .cond c a b => .cond c (addKill all a) (addKill all b)
  | .block id c => .block id (addKill all c)
  | .rangeFunc f ps a b => .rangeFunc f ps (addKill all a) (addKill all b)
  | c => c

def compRes : ResultVar → Option ARes
  | .tmp t => some (.tmp t)
  | .cell a t => (shapeT P t).map fun (agg, n) => .cell a agg n

def ARes.slot : ARes → Nat
  | .tmp t => t
  | .cell t _ _ => t

def compFn (pure' : Nat → Bool) (fn : Func) : Option ACFun := do
  let body ← fn.body
  let c ← compC P pure' body
  let rs ← fn.results.toList.mapM (compRes P)
  return { ntmps := fn.ntmps, results := rs, body := addKill (c.occ ++ rs.map ARes.slot ++ List.range (fn.params.size + fn.nfree)) c }

def compF (pure' : Nat → Bool) (k : Nat) : Option ACFun :=
  match P.funcs[k]? with
  | some fn => compFn P pure' fn
  | none => none
end

/-- The code without what was laid into its loops. -/
def ACode.bare : ACode → ACode
  | .region ops chk _ => .region ops chk []
  | .regionE ops _ _ => .region ops [] []
  | .loop _ c => .loop [] c.bare
  | .seq a b => .seq a.bare b.bare
  | .cond c a b => .cond c a.bare b.bare
  | .block id c => .block id c.bare
  | .rangeFunc f ps a b => .rangeFunc f ps a.bare b.bare
  | c => c

/-! ### Which code reads as which -/

section
variable (P : Program) (pure' : Nat → Bool)

/-- An operation reads as one, but for a call that is made under a floor. -/
def CompR (o : Oper) (ao : AOp) : Prop :=
  compOp2 P pure' o = some ao ∨ (∃ f xs, compOp2 P pure' o = some (.call f xs) ∧ ao = .callR f xs) ∨ ∃ k xs, compOp2 P pure' o = some (.callP k xs) ∧ ao = .callQ k xs

def RegR (ops : Array Oper) (l : List AOper) : Prop :=
  l.length = ops.size ∧ ∀ (i : Nat) (o : Oper) (ao : AOper), ops[i]? = some o → l[i]? = some ao → ao.dst = o.dst ∧ CompR P pure' o ao.op ∧ compGuard ops o.guard = some ao.guard

inductive CodeR : Code → ACode → Prop
  | skip : CodeR .skip .skip
  | region (id : Nat) (ops : Array Oper) (draw : Bool) (l : List AOper) (chk : List (Nat × Nat)) (kill : List Nat) (h : RegR P pure' ops l) (hd : draw = true → okOrder (Region.before ops).toList chk l = true ∧ backB ops = true) : CodeR (.region id ops draw) (.region l chk kill)
  | regionE (id : Nat) (ops : Array Oper) (draw : Bool) (l : List AOper) (kill outs : List Nat) (h : RegR P pure' ops l) (hd : draw = true → okOrder (Region.before ops).toList [] l = true ∧ backB ops = true) : CodeR (.region id ops draw) (.regionE l kill outs)
  | seq (a b : Code) (x y : ACode) (h : CodeR a x) (k : CodeR b y) : CodeR (.seq a b) (.seq x y)
  | cond (c : Operand) (o : Opd) (a b : Code) (x y : ACode) (hc : compOpd c = some o) (h : CodeR a x) (k : CodeR b y) : CodeR (.cond c a b) (.cond o x y)
  | block (id : Nat) (c : Code) (x : ACode) (h : CodeR c x) : CodeR (.block id c) (.block id x)
  | loop (c : Code) (kill : List Nat) (x : ACode) (h : CodeR c x) : CodeR (.loop c) (.loop kill x)
  | rangeFunc (f : Operand) (o : Opd) (ps : Array Tmp) (a b : Code) (x y : ACode) (hf : compOpd f = some o) (h : CodeR a x) (k : CodeR b y) : CodeR (.rangeFunc f ps a b) (.rangeFunc o ps.toList x y)
  | exit (id : Nat) : CodeR (.exit id) (.exit id)
  | label (l : Nat) : CodeR (.label l) .skip
  | ret : CodeR .ret .ret
end

end Go.AM
