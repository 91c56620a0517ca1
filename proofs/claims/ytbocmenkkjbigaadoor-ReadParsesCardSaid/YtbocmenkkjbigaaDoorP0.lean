/- Texts of the proof: RdSh, Am1, Am2, Am3, Am4, Am5, Am6, Am7, Am8, Am9, Am10. -/
import Derived.Shelf.Small.Strs
import Derived.Shelf.Strconv.Atoi
import Derived.Test.YtbocmenkkjbigaaDoorProg
import GoSem.Step
import Derived.KernelRfl
import Derived.Laws.AppendOwn
import Derived.Laws.StructEq
import Derived.WalkKit
import Derived.MapKept
import Derived.LaidEql
import Derived.Laws.BytesArg
set_option linter.all false
namespace Go
def cC:=@List.getElem?_eq_some_iff
def qS:=@Array.getElem?_eq_some_iff
def eb:=@Result.andThen_ok
def a8:=@And.intro
def cf:=@List.getElem?_set_ne
def dy:=@List.getElem?_eq_getElem
def d':=@List.getElem?_append_left
def bS:=@Nat.le_refl
def eL:=@Option.bind_eq_some_iff
def dr:=@Bool.and_eq_true
def fI:=@List.take_succ_cons
def h5:=@List.cons_append
def bi:=@List.length_singleton
def gP:=@List.length_cons
def dU:=@List.all_eq_true
def fo:=@Option.map_eq_some_iff
def gB:=@List.getElem?_append_right
def eZ:=@beq_eq_false_iff_ne
def B4:=@List.drop_succ_cons
def km:=@List.nil_append
def a':=@if_pos
def l3:=@List.drop_zero
def cG:=@beq_iff_eq
def d9:=@List.length_nil
def hN:=@List.drop_eq_getElem_cons
def fj:=@List.mem_singleton
def eF:=@List.length_set
def fW:=@Option.bind_eq_bind
def gq:=@List.take_zero
def bm:=@if_neg
def fU:=@List.length_append
def qM:=@List.all_cons
def iB:=@List.getElem?_take_of_lt
def oX:=@Bool.and_true
def fc:=@Bool.eq_iff_iff
def lk:=@Bool.false_eq_true
def fJ:=@List.length_drop
def hR:=@List.mem_of_getElem?
def hP:=@List.mem_cons_of_mem
def s7:=@List.all_nil
def fF:=@Option.pure_def
def anJ:=@Option.isSome_some
def lO:=@List.eq_nil_of_length_eq_zero
def h4:=@List.getElem?_drop
def hW:=@Option.some.injEq
def fl:=@if_true
def iA:=@decide_eq_true_iff
def iH:=@List.mem_cons_self
def jg:=@List.getD_cons_zero
def hc:=@Option.some.inj
def mI:=@List.getD_eq_getElem?_getD
def fa:=@Nat.zero_le
def mo:=@List.getD_cons_succ
def dX:=@congrArg
def mm:=@List.getElem?_eq_none
def lH:=@List.mem_append_left
def o8:=@Array.getElem?_eq_getElem
def jq:=@Bool.or_eq_true
def kG:=@List.append_assoc
def lX:=@Nat.lt_of_lt_of_le
def gx:=@if_false
def lz:=@beq_self_eq_true
def pf:=@List.mem_append_right
def nv:=@Bool.false_and
def lm:=@decide_eq_true_eq
def k7:=@Bool.and_self
def lG:=@List.length_take
def Hf:=@and_self
def qq:=@List.getElem?_set_self
def qO:=@List.drop_eq_nil_of_le
def mD:=@Option.map_some
def l1:=@List.mem_append
def kf:=@List.mem_cons
def j2:=@Nat.zero_add
def px:=@Bool.true_and
def hU:=@bne_iff_ne
def oi:=@List.getElem?_map
def oH:=@Int.toNat_natCast
def nz:=@Bool.not_eq_true
def ahW:=@List.drop_nil
def rq:=@Bool.or_eq_false_iff
def oL:=@Nat.add_zero
def lL:=@List.map_cons
def pu:=@Nat.le_max_right
def k9:=@Nat.le_trans
def nL:=@List.drop_drop
def tu:=@Nat.mul_le_mul_right
def n1:=@List.mapM_cons
def nq:=@Int.lt_irrefl
def o5:=@Bool.false_or
def tl:=@List.flatten_append
def wu:=@Bool.and_false
def wW:=@List.take_of_length_le
def tU:=@Bool.true_or
def gG:=@Ne.symm
def vO:=@List.take_append_drop
def s0:=@List.size_toArray
def wb:=@List.map_congr_left
def Rl:=@Bool.not_false
def uV:=@List.flatten_cons
def zW:=@List.drop_of_length_le
def tD:=@decide_eq_false
def sS:=@Nat.le_max_left
def xZ:=@List.getElem_of_mem
def zn:=@List.getElem?_toArray
def vU:=@List.ext_getElem?
def Av:=@List.getElem?_cons_succ
def yF:=@Array.toArray_toList
def xa:=@List.not_mem_nil
def wa:=@List.getElem_mem
def xy:=@Bool.not_eq_true'
def pq:=@Array.ext'
def u1:=@decide_eq_true
def tF:=@Nat.add_assoc
def SO:=@Bool.not_true
def r0:=@Nat.sub_self
def vC:=@List.append_nil
def CR:=@decide_eq_false_iff_not
def Da:=@List.getElem?_cons_zero
def uE:=@Bool.or_false
def azZ:=@decide_true
def sv:=@Nat.add_mul
def zF:=@List.drop_append
def aAw:=@decide_false
def BJ:=@Bool.false_ne_true
def DO:=@List.set_append_left
def zw:=@List.length_map
def za:=@Int.natCast_one
def vE:=@List.mem_map
def C7:=@Array.getElem?_push
def BP:=@Nat.lt_succ_self
def EJ:=@List.contains_cons
def AX:=@Option.map_none
def w5:=@Nat.mul_one
def x7:=@List.map_nil
def EG:=@of_decide_eq_true
def y1:=@Nat.lt_irrefl
def HD:=@List.mem_of_mem_take
def Dw:=@List.any_eq_true
def FA:=@List.getElem?_range
def Kg:=@List.set_eq_of_length_le
def DI:=@List.nodup_cons
def Tc:=@Array.all_eq_true_iff_forall_mem
def Ly:=@Array.toList_replicate
def Kt:=@List.contains_nil
def GF:=@Decidable.not_not
def JB:=@List.length_replicate
def B8:=@Bool.or_true
def Ma:=@Array.mem_of_getElem?
def Ou:=@Array.eq_empty_of_size_eq_zero
def Hu:=@Option.getD_some
def Fm:=@List.take_length
def Ho:=@List.take_append
def LA:=@List.mem_of_mem_drop
def QT:=@List.dropLast_concat_getLast
def L0:=@Nat.mul_le_mul_left
def EK:=@Nat.min_eq_left
def Gz:=@List.foldl_cons
def K0:=@Array.toList_append
def GM:=@Array.size_push
def Qd:=@Array.getD_eq_getD_getElem?
def MT:=@Array.getElem?_append_left
def wR:=@true_and
def vN:=@or_false
def LD:=@Option.toList_some
def JY:=@List.mem_replicate
def Mc:=@Array.foldl_toList
def Oj:=@Decidable.byContradiction
def RJ:=@Classical.byContradiction
def KZ:=@List.take_add_one
def Im:=@Array.toList_push
def Mp:=@Array.size_append
def Fi:=@Prod.mk.injEq
def J0:=@Nat.min_eq_right
def Mh:=@List.mem_flatten
def alw:=@cond_true
def H8:=@Nat.zero_mul
def J6:=@Nat.one_ne_zero
def K4:=@Nat.not_lt_zero
def Tr:=@List.countP_le_length
def JO:=@Int.natCast_inj
def anL:=@Array.getElem?_setIfInBounds_self_of_lt
def QO:=@Array.mem_toList_iff
def I':=@List.mem_range
def GG:=@Prod.mk.inj
def AJ:=@congrFun
def IE:=@List.mapM_nil
def MP:=@not_true_eq_false
def SE:=@Function.comp_def
def aDt:=@Bool.not_eq_false
def WH:=@Array.getElem?_setIfInBounds_ne
def Mk:=@Bool.or_self
def MS:=@List.ext_getElem
def LC:=@Nat.one_mul
def Mn:=@Nat.le_succ
def OP:=@List.map_append
def O2:=@List.find?_cons
def adW:=@List.mem_of_find?_eq_some
def Yx:=@Array.mapM_eq_mapM_toList
def zU:=@not_or
def aiV:=@cond_false
def ake:=@Nat.mul_div_cancel_left
def Wo:=@List.getElem?_replicate
def SY:=@Bool.or_assoc
def adw:=@Array.getElem?_eq_none
def QW:=@Nat.sub_zero
def O8:=@Nat.min_zero
def amo:=@List.singleton_append
def afD:=@Classical.choose_spec
def agk:=@List.length_eraseIdx
def Zr:=@List.contains_eq_mem
def afn:=@bne_eq_false_iff_eq
def amp:=@List.replicate_succ
def agK:=@List.mem_map_of_mem
def Xh:=@List.map_eq_nil_iff
def alq:=@List.countP_eq_zero
def HO:=@Iff.rfl
end Go
namespace Go.Proofs
open Go.Shelf
def Tryd.awC:Go.Shelf.Ren:=⟨fun|137=>27|217=>46|266=>54|n=>n,fun|9=>9|5=>5|3=>3|n=>n,fun|n=>n⟩
def Tryd.avg:Go.Proofs.Lays.n137 Tryd.prog Tryd.awC:={
 mixed:=by kernel_rfl
 f137:=Tryd.func27.trans (dX some (by kernel_rfl))
 f217:=Tryd.func46.trans (dX some (by kernel_rfl))
 f266:=Tryd.func54.trans (dX some (by kernel_rfl))
 t3:=Tryd.underlying3
 a3:=Tryd.isAgg3
 z3:=Tryd.sizeOf3
 v3:=Tryd.zeroValue3
 t5:=Tryd.underlying5
 a5:=Tryd.isAgg5
 z5:=Tryd.sizeOf5
 v5:=Tryd.zeroValue5
 t9:=Tryd.underlying9
 a9:=Tryd.isAgg9
 z9:=Tryd.sizeOf9
 v9:=Tryd.zeroValue9 }
def Tryd.acu:Go.Shelf.Ren:=⟨fun|172=>33|244=>47|245=>48|247=>55|279=>56|280=>57|281=>58|282=>59|287=>72|316=>73|171=>75|205=>74|321=>76|322=>77|243=>78|246=>79|283=>80|284=>81|285=>82|286=>83|129=>85|317=>84|318=>86|319=>87|320=>88|337=>89|338=>90|n=>n,fun|9=>9|3=>3|75=>83|76=>84|4=>4|5=>5|167=>103|37=>33|0=>0|85=>104|2=>2|168=>106|53=>110|175=>111|46=>113|210=>116|127=>120|145=>123|143=>121|21=>21|171=>125|173=>128|212=>132|51=>133|20=>20|213=>134|232=>138|233=>139|80=>86|n=>n,fun|15=>1|16=>2|17=>3|18=>4|19=>5|n=>n⟩
def Tryd.atM:Go.Proofs.Lays.n172 Tryd.prog Tryd.acu:={
 mixed:=by kernel_rfl
 f129:=Tryd.func85.trans (dX some (by kernel_rfl))
 f171:=Tryd.func75.trans (dX some (by kernel_rfl))
 f172:=Tryd.func33.trans (dX some (by kernel_rfl))
 f205:=Tryd.func74.trans (dX some (by kernel_rfl))
 f243:=Tryd.func78.trans (dX some (by kernel_rfl))
 f244:=Tryd.func47.trans (dX some (by kernel_rfl))
 f245:=Tryd.func48.trans (dX some (by kernel_rfl))
 f246:=Tryd.func79.trans (dX some (by kernel_rfl))
 f247:=Tryd.func55.trans (dX some (by kernel_rfl))
 f279:=Tryd.func56.trans (dX some (by kernel_rfl))
 f280:=Tryd.func57.trans (dX some (by kernel_rfl))
 f281:=Tryd.func58.trans (dX some (by kernel_rfl))
 f282:=Tryd.func59.trans (dX some (by kernel_rfl))
 f283:=Tryd.func80.trans (dX some (by kernel_rfl))
 f284:=Tryd.func81.trans (dX some (by kernel_rfl))
 f285:=Tryd.func82.trans (dX some (by kernel_rfl))
 f286:=Tryd.func83.trans (dX some (by kernel_rfl))
 f287:=Tryd.func72.trans (dX some (by kernel_rfl))
 f316:=Tryd.func73.trans (dX some (by kernel_rfl))
 f317:=Tryd.func84.trans (dX some (by kernel_rfl))
 f318:=Tryd.func86.trans (dX some (by kernel_rfl))
 f319:=Tryd.func87.trans (dX some (by kernel_rfl))
 f320:=Tryd.func88.trans (dX some (by kernel_rfl))
 f321:=Tryd.func76.trans (dX some (by kernel_rfl))
 f322:=Tryd.func77.trans (dX some (by kernel_rfl))
 f337:=Tryd.func89.trans (dX some (by kernel_rfl))
 f338:=Tryd.func90.trans (dX some (by kernel_rfl))
 t0:=Tryd.underlying0
 a0:=Tryd.isAgg0
 z0:=Tryd.sizeOf0
 v0:=Tryd.zeroValue0
 t2:=Tryd.underlying2
 a2:=Tryd.isAgg2
 z2:=Tryd.sizeOf2
 v2:=Tryd.zeroValue2
 t3:=Tryd.underlying3
 a3:=Tryd.isAgg3
 z3:=Tryd.sizeOf3
 v3:=Tryd.zeroValue3
 t4:=Tryd.underlying4
 a4:=Tryd.isAgg4
 z4:=Tryd.sizeOf4
 v4:=Tryd.zeroValue4
 t5:=Tryd.underlying5
 a5:=Tryd.isAgg5
 z5:=Tryd.sizeOf5
 v5:=Tryd.zeroValue5
 t9:=Tryd.underlying9
 a9:=Tryd.isAgg9
 z9:=Tryd.sizeOf9
 v9:=Tryd.zeroValue9
 t20:=Tryd.underlying20
 a20:=Tryd.isAgg20
 z20:=Tryd.sizeOf20
 v20:=Tryd.zeroValue20
 t21:=Tryd.underlying21
 a21:=Tryd.isAgg21
 z21:=Tryd.sizeOf21
 v21:=Tryd.zeroValue21
 t37:=Tryd.underlying33
 a37:=Tryd.isAgg33
 z37:=Tryd.sizeOf33
 v37:=Tryd.zeroValue33
 t46:=Tryd.underlying113
 a46:=Tryd.isAgg113
 z46:=Tryd.sizeOf113
 v46:=Tryd.zeroValue113
 t51:=Tryd.underlying133
 a51:=Tryd.isAgg133
 z51:=Tryd.sizeOf133
 v51:=Tryd.zeroValue133
 t53:=Tryd.underlying110
 a53:=Tryd.isAgg110
 z53:=Tryd.sizeOf110
 v53:=Tryd.zeroValue110
 t75:=Tryd.underlying83
 a75:=Tryd.isAgg83
 z75:=Tryd.sizeOf83
 v75:=Tryd.zeroValue83
 t76:=Tryd.underlying84
 a76:=Tryd.isAgg84
 z76:=Tryd.sizeOf84
 v76:=Tryd.zeroValue84
 t85:=Tryd.underlying104
 a85:=Tryd.isAgg104
 z85:=Tryd.sizeOf104
 v85:=Tryd.zeroValue104
 t127:=Tryd.underlying120
 a127:=Tryd.isAgg120
 z127:=Tryd.sizeOf120
 v127:=Tryd.zeroValue120
 t143:=Tryd.underlying121
 a143:=Tryd.isAgg121
 z143:=Tryd.sizeOf121
 v143:=Tryd.zeroValue121
 t145:=Tryd.underlying123
 a145:=Tryd.isAgg123
 z145:=Tryd.sizeOf123
 v145:=Tryd.zeroValue123
 t167:=Tryd.underlying103
 a167:=Tryd.isAgg103
 z167:=Tryd.sizeOf103
 v167:=Tryd.zeroValue103
 t168:=Tryd.underlying106
 a168:=Tryd.isAgg106
 z168:=Tryd.sizeOf106
 v168:=Tryd.zeroValue106
 t171:=Tryd.underlying125
 a171:=Tryd.isAgg125
 z171:=Tryd.sizeOf125
 v171:=Tryd.zeroValue125
 t173:=Tryd.underlying128
 a173:=Tryd.isAgg128
 z173:=Tryd.sizeOf128
 v173:=Tryd.zeroValue128
 t175:=Tryd.underlying111
 a175:=Tryd.isAgg111
 z175:=Tryd.sizeOf111
 v175:=Tryd.zeroValue111
 t210:=Tryd.underlying116
 a210:=Tryd.isAgg116
 z210:=Tryd.sizeOf116
 v210:=Tryd.zeroValue116
 t212:=Tryd.underlying132
 a212:=Tryd.isAgg132
 z212:=Tryd.sizeOf132
 v212:=Tryd.zeroValue132
 t213:=Tryd.underlying134
 a213:=Tryd.isAgg134
 z213:=Tryd.sizeOf134
 t232:=Tryd.underlying138
 a232:=Tryd.isAgg138
 z232:=Tryd.sizeOf138
 v232:=Tryd.zeroValue138
 t233:=Tryd.underlying139
 a233:=Tryd.isAgg139
 z233:=Tryd.sizeOf139
 v233:=Tryd.zeroValue139
 g15:=by kernel_rfl
 g16:=by kernel_rfl
 g17:=by kernel_rfl
 g18:=by kernel_rfl
 g19:=by kernel_rfl }
end Go.Proofs
namespace Go.dO
inductive V where
 |s (v:Value)
 |agg (cs:List V)
 |bV (vs:List V)
 |ref (id g off:Nat)
 |eu (cs:List V)
 |aB (id g off len sz:Nat)
 |du (es:List (List V)) (sz:Nat)
 |db
 |mp (id:Nat)
 |fn (f:Nat) (fst cap:List V)
 |fg (id:Nat)
 |Yy (t:TypeId) (v:V)
 |bs
 deriving Inhabited
inductive cY where
 |t (i:Nat)
 |c (v:V)
 deriving Inhabited
inductive mr where
 |int (k:IntKind)|bool|str
 deriving DecidableEq,Inhabited
inductive r6 where
 |p|s|m|f
 deriving DecidableEq,Inhabited
inductive b3 where
 |move (x:cY)
 |pick (c a b:cY)
 |alloc (zero:List V)
 |box (x:cY)
 |build (zero:List V) (places:List (Nat × Nat)) (parts:List (Nat × cY))
 |fy (sz len:Nat) (zero:List V) (parts:List (Nat × cY))
 |zr
 |l8 (kind:TypeDesc) (m k v:cY)
 |j6 (kind:TypeDesc) (zero:V) (m k:cY) (ok:Bool)
 |load (agg:Bool) (n:Nat) (a:cY)
 |store (n:Nat) (a v:cY)
 |nilCheck (x:cY)
 |bin (op:BinOp) (x y:cY)
 |uO (neg:Bool) (x y:cY)
 |Gf (neg:Bool) (x y:cY)
 |we (k:r6) (neg:Bool) (x:cY)
 |sx (neg:Bool) (ls:List mr) (x y:cY)
 |un (op:UnOp) (x:cY)
 |conv (k:IntKind) (x:cY)
 |yC (x:cY)
 |mu (f:Nat) (fst cap:List cY)
 |H9 (zero:List V) (sz bytes:Nat) (len cap:cY)
 |mT (x:cY) (cz hi:Option cY)
 |ll (sz:Nat) (x:cY) (cz hi ft:Option cY)
 |fieldAddr (off:Nat) (x:cY)
 |field (agg:Bool) (off n:Nat) (x:cY)
 |indexAddr (sz:Nat) (x i:cY)
 |h6 (x i:cY)
 |extract (x:cY) (i:Nat)
 |dD (k:r6) (x:cY)
 |append (sz bytes:Nat) (s x:cY)
 |xT (sz bytes:Nat) (s x:cY)
 |delete (kind:TypeDesc) (m k:cY)
 |pk (ft:Bool) (x y:cY)
 |call (f:cY) (args:List cY)
 |oe (f:cY) (args:List cY)
 |rA (f:Nat) (args:List cY)
 |wK (f:Nat) (args:List cY)
 |Gl (sz:Nat) (zero:List V) (x:cY)
 |copy (sz:Nat) (d s:cY)
 |HI (x:cY)
 |stuck
 deriving Inhabited
structure cF where
 dst:Option Nat
 op:b3
 guard:Option (Nat × Bool)
 deriving Inhabited
inductive cM where
 |skip
 |region (ops:List cF) (b9:List (Nat × Nat)) (kill:List Nat)
 |bc (ops:List cF) (kill jL:List Nat)
 |seq (a b:cM)
 |cond (c:cY) (a b:cM)
 |block (id:Nat) (c:cM)
 |loop (kill:List Nat) (c:cM)
 |rangeFunc (f:cY) (params:List Nat) (assign body:cM)
 |exit (id:Nat)
 |ret
 deriving Inhabited
inductive rC where
 |bH
 |ext (id:Nat)
 |ret
 deriving DecidableEq,Inhabited
inductive bq where
 |cells (g:Nat) (c:List V)
 |map (es:List (Value × V))
 |loop (st:LoopState) (rP:Option rC) (tmps:List V) (params:List Nat) (assign body:cM)
 |dead
 |bytes (g:Nat) (l:List UInt8)
 deriving Inhabited
abbrev az:=List bq
inductive lj where
 |tmp (t:Nat)
 |cell (t:Nat) (agg:Bool) (n:Nat)
 deriving Inhabited
structure eI where
 ntmps:Nat
 results:List lj
 body:cM
 deriving Inhabited
inductive c7 where
 |code (c:eI)
 |oD (g:List V->Nat->az->Option (V × az))
def aX(fr:List V):cY->V
 |.t i=>fr.getD i .bs
 |.c v=>v
def V.one:V->Bool
 |.s v=>match v with|.agg _=>false|.tuple _=>false|_=>true
 |.agg _=>false
 |.bV _=>false
 |.bs=>false
 |_=>true
def V.cells:V->List V
 |.agg cs=>cs
 |v=>[v]
def V.flat:V->Bool
 |.s _=>true
 |_=>false
def V.oY:V->Bool
 |.s _=>true
 |.agg cs=>cs.all V.flat
 |.bV cs=>cs.all fun|.s _=>true|.agg cs=>cs.all V.flat|_=>false
 |_=>false
def ao(H:az)(id g:Nat):Option (List V):=
 match H[id]? with
 |some (.cells g' c)=>if g'=g then some c else none
 |_=>none
def iy(c:List V)(off:Nat)(vs:List V):List V:=c.take off++vs++c.drop (off+vs.length)
def shut(agg:Bool)(cs:List V):Option V:=
 if agg then some (.agg cs)else match cs with
  | [v]=>some v
  |_=>none
def iT(H:az)(agg:Bool)(n:Nat):V->Option V
 |.ref id g off=>match ao H id g with
   |some c=>let cs:=(c.drop off).take n;if cs.length=n then shut agg cs else none
   |none=>none
 |.eu cs=>let cs:=cs.take n;if cs.length=n then shut agg cs else none
 |_=>none
def Am(H:az)(base n:Nat)(v:V):V->Option az
 |.ref id g off=>
   if base<=id then match ao H id g with
    |some c=>if v.cells.length=n/\off+n<=c.length/\v.cells.all V.one then some (H.set id (.cells g (iy c off v.cells)))else none
    |none=>none
   else none
 |_=>none
def kv(place:Nat->Option (Nat × Nat))(cells:List V):List (Nat × V)->Option (List V)
 | []=>some cells
 |(i,v)::rest=>match place i with
   |none=>none
   |some (off,size)=>if v.cells.length=size/\off+size<=cells.length/\v.cells.all V.one then kv place (iy cells off v.cells) rest else none
def pY(kind:TypeDesc)(k:Value):List (Value × V)->Nat->Option (Option (Nat × V))
 | [],_=>some none
 |(gT,v)::es,i=>match Instr.sameNow kind k gT with
   |some true=>some (some (i,v))
   |some false=>pY kind k es (i+1)
   |none=>none
def oO:TypeDesc->Value->Bool
 |.int k,.int gT _=>k==gT
 |.string,.string _=>true
 |.bool,.bool _=>true
 |_,_=>false
def ir(op:BinOp):Value->Value->Option Value
 |.int k a,.int gT b=>
   match op with
   |.shl=>if b<0 then none else some (.int k (k.wrap (a*2^(min b.toNat k.bits))))
   |.shr=>if b<0 then none else some (.int k (a.fdiv (2^(min b.toNat k.bits))))
   |_=>if k≠gT then none else match op with
     |.add=>some (.int k (k.wrap (a+b)))
     |.sub=>some (.int k (k.wrap (a-b)))
     |.mul=>some (.int k (k.wrap (a*b)))
     |.quo=>if b=0 then none else some (.int k (k.wrap (a.tdiv b)))
     |.rem=>if b=0 then none else some (.int k (a.tmod b))
     |.and=>some (.int k (k.wrap (BitVec.ofInt k.bits a &&& BitVec.ofInt k.bits b).toNat))
     |.or=>some (.int k (k.wrap (BitVec.ofInt k.bits a ||| BitVec.ofInt k.bits b).toNat))
     |.xor=>some (.int k (k.wrap (BitVec.ofInt k.bits a ^^^ BitVec.ofInt k.bits b).toNat))
     |.andNot=>some (.int k (k.wrap (BitVec.ofInt k.bits a &&& ~~~ (BitVec.ofInt k.bits b)).toNat))
     |.eql=>some (.bool (a==b))
     |.neq=>some (.bool (a != b))
     |.lss=>some (.bool (decide (a<b)))
     |.leq=>some (.bool (decide (a<=b)))
     |.gtr=>some (.bool (decide (a > b)))
     |.geq=>some (.bool (decide (a ≥ b)))
     |_=>none
 |.string a,.string b=>
   match op with
   |.add=>if((a.size+b.size:Nat):Int) > IntKind.i64.max then none else some (.string (a++b))
   |.eql=>some (.bool (a.data.toList==b.data.toList))
   |.neq=>some (.bool (!(a.data.toList==b.data.toList)))
   |.lss=>some (.bool (Op.bytesLess a.data.toList b.data.toList))
   |.leq=>some (.bool (Op.bytesLess a.data.toList b.data.toList||a.data.toList==b.data.toList))
   |.gtr=>some (.bool (!(Op.bytesLess a.data.toList b.data.toList||a.data.toList==b.data.toList)))
   |.geq=>some (.bool (!(Op.bytesLess a.data.toList b.data.toList)))
   |_=>none
 |_,_=>none
def Gt:mr->V->V->Option Bool
 |.int k,.s (.int j a),.s (.int m' b)=>if j=k/\m'=k then some (a==b)else none
 |.bool,.s (.bool a),.s (.bool b)=>some (a==b)
 |.str,.s (.string a),.s (.string b)=>some (a.data.toList==b.data.toList)
 |_,_,_=>none
def jA:List mr->List V->List V->Option Bool
 | [],[],[]=>some true
 |l::ls,x::xs,y::dW=>match Gt l x y,jA ls xs dW with
   |some a,some b=>some (a&&b)
   |_,_=>none
 |_,_,_=>none
def V.isNil:r6->V->Option Bool
 |.p,.s (.pointer none)=>some true
 |.p,.ref ..=>some false
 |.p,.eu ..=>some false
 |.s,.s (.slice none 0 0)=>some true
 |.s,.aB ..=>some false
 |.s,.du ..=>some false
 |.s,.db=>some false
 |.m,.s (.map none)=>some true
 |.m,.mp ..=>some false
 |.f,.s .nilFunc=>some true
 |.f,.fn ..=>some false
 |.f,.fg ..=>some false
 |_,_=>none
def i64(n:Int):V:=.s (.int .i64 n)
def aL(b:Bool):V:=.s (.bool b)
def str(b:ByteArray):V:=.s (.string b)
def bz:V:=.s (.slice none 0 0)
def bR:V:=.s Go.undef
def elems(H:az)(sz:Nat):V->Option (Nat × List V)
 |.s (.slice none 0 0)=>some (0,[])
 |.db=>some (0,[])
 |.du es dF=>if dF=sz then some (es.length,es.flatten)else none
 |.aB id g off len dF=>if dF=sz then match ao H id g with
    |some c=>let cs:=(c.drop off).take (len*sz);if cs.length=len*sz then some (len,cs)else none
    |none=>none
   else none
 |_=>none
def D9(H:az)(base sz bytes:Nat)(s x:V):Option (V × az):=
 match x with
 |.s (.string b)=>if sz=1/\bytes=1 then
    match s with
    |.s (.slice none 0 0)=>
      if b.size=0 then some (s,H)else
      if b.size<=2^47 then some (.aB H.length 0 0 b.size 1,H++[.bytes 0 b.data.toList])else none
    |.aB id g 0 len 1=>
      if base<=id then match H[id]? with
       |some (.bytes g' l)=>
         if g'=g/\len=l.length then
          if b.size=0 then some (s,H)else
          if len+b.size<=2^47 then some (.aB id (g+1) 0 (len+b.size) 1,H.set id (.bytes (g+1) (l++b.data.toList)))else none
         else none
       |_=>none
      else none
    |_=>none
   else none
 |_=>none
def gW(H:az)(base sz bytes:Nat)(s x:V):Option (V × az):=
 match elems H sz x with
 |none=>D9 H base sz bytes s x
 |some (m,xs)=>
   if xs.all V.one then
   match s with
   |.s (.slice none 0 0)=>
     if m=0 then some (s,H)else
     if m*bytes<=2^47 then some (.aB H.length 0 0 m sz,H++[.cells 0 xs])else none
   |.db=>
     if m=0 then some (s,H)else
     if m*bytes<=2^47 then some (.aB H.length 0 0 m sz,H++[.cells 0 xs])else none
   |.du es dF=>if m=0/\dF=sz then some (s,H)else none
   |.aB id g off len dF=>
     if dF=sz/\base<=id then match ao H id g with
      |some c=>
        if off+len*sz<=c.length then
         if m=0 then some (s,H)else
         if(len+m)*bytes<=2^47 then
          some (.aB id (g+1) 0 (len+m) sz,H.set id (.cells (g+1) ((c.drop off).take (len*sz)++xs)))
         else none
        else none
      |none=>none
     else none
   |_=>none
   else none
def copyV(H:az)(base sz:Nat)(d s:V):Option (V × az):=
 match s with
 |.s (.string _)=>none
 |s=>match elems H sz s with
   |none=>none
   |some (m,xs)=>if xs.all V.one then
      match d with
      |.s (.slice none 0 0)=>some (i64 0,H)
      |.db=>some (i64 0,H)
      |.aB id g off len dF=>
        if dF=sz/\base<=id then match ao H id g with
         |some c=>if off+len*sz<=c.length then some (i64 (min m len:Nat),H.set id (.cells g (iy c off (xs.take (min m len*sz)))))else none
         |none=>none
        else none
      |_=>none
     else none
def Jd:List V->Option (List UInt8)
 | []=>some []
 |.s (.int .u8 n)::xs=>match Jd xs with
   |some bU=>some (UInt8.ofNat n.toNat::bU)
   |none=>none
 |_=>none
def Nx(H:az)(x:V):Option V:=
 match x with
 |.s (.string _)=>none
 |x=>match elems H 1 x with
   |some (_,xs)=>match Jd xs with
     |some bU=>some (.s (.string ⟨bU.toArray⟩))
     |none=>none
   |none=>none
def Bi:V->Option Int
 |.s (.int _ n)=>some n
 |_=>none
def gV(H:az):Nat->V->Option V
 |0,_=>none
 |n+1,v=>match v with
   |.s x=>some (.s x)
   |.agg cs=>(cs.mapM (gV H n)).map .agg
   |.bV cs=>(cs.mapM (gV H n)).map .bV
   |.ref id g off=>match ao H id g with
     |some c=>if off<=c.length then((c.drop off).mapM (gV H n)).map .eu else none
     |none=>none
   |.aB id g off len sz=>match ao H id g with
     |some c=>
       let cs:=(c.drop off).take (len*sz)
       if cs.length=len*sz then
        match cs.mapM (gV H n)with
        |some us=>some (.du ((List.range len).map fun i=>(us.drop (i*sz)).take sz) sz)
        |none=>none
       else none
     |none=>none
   |.eu cs=>some (.eu cs)
   |.du es sz=>some (.du es sz)
   |.db=>some .db
   |.fn f a b=>match a.mapM (gV H n),b.mapM (gV H n)with
     |some a,some b=>some (.fn f a b)
     |_,_=>none
   |_=>none
def ji:Nat->V->Bool
 |0,_=>false
 |n+1,v=>match v with
   |.s _=>true
   |.agg cs=>cs.all (ji n)
   |.bV cs=>cs.all (ji n)
   |.eu _|.du .. | .db=>true
   |.fn _ a b=>a.all (ji n)&&b.all (ji n)
   |_=>false
def im(m:Nat):Nat->V->Bool
 |0,_=>false
 |n+1,v=>match v with
   |.s _=>true
   |.agg cs=>cs.all (im m n)
   |.bV cs=>cs.all (im m n)
   |.ref id _ _=>decide (id<m)
   |.aB id _ _ _ _=>decide (id<m)
   |.mp id=>decide (id<m)
   |.fg id=>decide (id<m)
   |.eu _|.du .. | .db=>true
   |.fn _ a b=>a.all (im m n)&&b.all (im m n)
   |.Yy _ _=>false
   |.bs=>true
def bq.under(m:Nat):bq->Bool
 |.cells _ c=>c.all (im m 8)
 |.map es=>es.all fun e=>im m 8 e.2
 |.loop _ _ t _ _ _=>t.all (im m 8)
 |.dead=>true
 |.bytes ..=>true
def ut(kill:List Nat)(fr:List V):List V:=kill.foldl (fun fr t=>fr.set t .bs) fr
def trim(m:Nat)(fr:List V)(H:az):az:=
 if fr.all (im m 8)&&(H.take m).all (bq.under m)then H.take m else H
def put(dst:Option Nat)(v:V)(fr:List V):List V:=
 match dst with
 |some d=>fr.set d v
 |none=>fr
def want(o:cF)(fr:List V):Option Bool:=
 match o.guard with
 |none=>some true
 |some (t,b)=>match fr.getD t .bs with
   |.s (.bool x)=>some (x==b)
   |.s (.tuple _)=>some false
   |_=>none
abbrev c5:=V->List V->Nat->az->Option (V × az)
def hg(fr:List V)(d:Nat):Option cY->Option Int
 |none=>some d
 |some x=>Bi (aX fr x)
def bf(call:c5)(base:Nat)(fr:List V)(H:az):b3->Option (V × az)
 |.move x=>some (aX fr x,H)
 |.pick c a b=>match aX fr c with
   |.s (.bool true)=>some (aX fr a,H)
   |.s (.bool false)=>some (aX fr b,H)
   |_=>none
 |.alloc zero=>some (.ref H.length 0 0,H++[.cells 0 zero])
 |.box x=>let v:=aX fr x;if v.cells.all V.one then some (.ref H.length 0 0,H++[.cells 0 v.cells])else none
 |.build zero places parts=>match kv (places[·]?) zero (parts.map fun p=>(p.1,aX fr p.2))with
   |some cs=>some (.agg cs,H)
   |none=>none
 |.fy sz len zero parts=>match kv (fun i=>some (i*sz,sz)) zero (parts.map fun p=>(p.1,aX fr p.2))with
   |some cs=>some (if len=0 then .db else .aB H.length 0 0 len sz,H++[.cells 0 cs])
   |none=>none
 |.zr=>some (.mp H.length,H++[.map []])
 |.l8 kind m k v=>match aX fr m,aX fr k with
   |.mp id,.s key=>if base<=id/\oO kind key then match H[id]? with
      |some (.map es)=>match pY kind key es 0 with
        |some (some (i,_))=>some (bR,H.set id (.map (es.set i (key,aX fr v))))
        |some none=>some (bR,H.set id (.map (es++[(key,aX fr v)])))
        |none=>none
      |_=>none
     else none
   |_,_=>none
 |.j6 kind zero m k ok=>match aX fr k with
   |.s key=>if oO kind key then
      match aX fr m with
      |.s (.map none)=>some (if ok then .bV [zero,aL false]else zero,H)
      |.mp id=>match H[id]? with
        |some (.map es)=>match pY kind key es 0 with
          |some (some (_,v))=>some (if ok then .bV [v,aL true]else v,H)
          |some none=>some (if ok then .bV [zero,aL false]else zero,H)
          |none=>none
        |_=>none
      |_=>none
     else none
   |_=>none
 |.load agg n a=>(iT H agg n (aX fr a)).map fun v=>(v,H)
 |.store n a v=>(Am H base n (aX fr v) (aX fr a)).map fun H=>(bR,H)
 |.nilCheck x=>match aX fr x with
   |.ref id g off=>some (.ref id g off,H)
   |.eu cs=>some (.eu cs,H)
   |.fn f a b=>some (.fn f a b,H)
   |.fg id=>some (.fg id,H)
   |_=>none
 |.bin op x y=>match aX fr x,aX fr y with
   |.s a,.s b=>(ir op a b).map fun v=>(.s v,H)
   |_,_=>none
 |.uO neg x y=>match aX fr x,aX fr y with
   |.s (.bool a),.s (.bool b)=>some (aL ((a==b) != neg),H)
   |_,_=>none
 |.Gf neg x y=>match aX fr x,aX fr y with
   |.ref i g _,.ref j h _=>if i=j then none else match ao H i g,ao H j h with
     |some _,some _=>some (aL neg,H)
     |_,_=>none
   |_,_=>none
 |.we k neg x=>match(aX fr x).isNil k with
   |some b=>some (aL (b != neg),H)
   |none=>none
 |.sx neg ls x y=>match aX fr x,aX fr y with
   |.agg xs,.agg dW=>match jA ls xs dW with
     |some b=>some (aL (b != neg),H)
     |none=>none
   |_,_=>none
 |.un op x=>match op,aX fr x with
   |.not,.s (.bool b)=>some (aL (!b),H)
   |.neg,.s (.int k n)=>some (.s (.int k (k.wrap (0-n))),H)
   |.xor,.s (.int k n)=>(ir .xor (.int k (if k.signed then -1 else k.max)) (.int k n)).map fun v=>(.s v,H)
   |_,_=>none
 |.conv k x=>match aX fr x with
   |.s (.int _ n)=>some (.s (.int k (k.wrap n)),H)
   |_=>none
 |.yC x=>match aX fr x with
   |.s (.string b)=>some (.s (.string b),H)
   |_=>none
 |.mu f fst cap=>some (.fn f (fst.map (aX fr)) (cap.map (aX fr)),H)
 |.H9 zero sz bytes len cap=>match aX fr len,aX fr cap with
   |.s (.int _ l),.s (.int _ c)=>
     if 0<=l/\l<=c/\c*bytes<=2^47 then some (.aB H.length 0 0 l.toNat sz,H++[.cells 0 (List.replicate l.toNat zero).flatten])else none
   |_,_=>none
 |.mT x cz hi=>match aX fr x with
   |.s (.string b)=>match hg fr 0 cz,hg fr b.size hi with
     |some l,some h=>if 0<=l/\l<=h/\h<=b.size then some (.s (.string (b.extract l.toNat h.toNat)),H)else none
     |_,_=>none
   |_=>none
 |.ll sz x cz hi ft=>
   match ft with
   |none=>match aX fr x with
     |.s (.slice none 0 0)=>match hg fr 0 cz,hg fr 0 hi with
       |some 0,some 0=>some (bz,H)
       |_,_=>none
     |.db=>match hg fr 0 cz,hg fr 0 hi with
       |some 0,some 0=>some (.db,H)
       |_,_=>none
     |.du es dF=>match hg fr 0 cz,hg fr es.length hi with
       |some l,some h=>if 0<=l/\l<=h/\h<=es.length/\dF=sz then some (.du ((es.drop l.toNat).take (h-l).toNat) sz,H)else none
       |_,_=>none
     |.aB id g off len dF=>match hg fr 0 cz,hg fr len hi with
       |some l,some h=>if 0<=l/\l<=h/\h<=len/\dF=sz then some (.aB id g (off+l.toNat*sz) (h-l).toNat sz,H)else none
       |_,_=>none
     |_=>none
   |some m=>match hi,hg fr 0 cz with
     |some h,some 0=>match Bi (aX fr h),Bi (aX fr m)with
       |some 0,some 0=>match aX fr x with
         |.s (.slice none 0 0)=>some (bz,H)
         |.db=>some (.db,H)
         |.du _ _=>some (.db,H)
         |.aB _ _ _ _ _=>some (.db,H)
         |_=>none
       |_,_=>none
     |_,_=>none
 |.fieldAddr off x=>match aX fr x with
   |.ref id g o=>some (.ref id g (o+off),H)
   |.eu cs=>if off<=cs.length then some (.eu (cs.drop off),H)else none
   |_=>none
 |.field agg off n x=>match aX fr x with
   |.agg cs=>let cs:=(cs.drop off).take n;if cs.length=n then(shut agg cs).map fun v=>(v,H)else none
   |_=>none
 |.indexAddr sz x i=>match aX fr x,aX fr i with
   |.aB id g off len dF,.s (.int _ n)=>if 0<=n/\n<len/\dF=sz then some (.ref id g (off+n.toNat*sz),H)else none
   |.du es dF,.s (.int _ n)=>if 0<=n/\dF=sz then match es[n.toNat]? with
      |some e=>some (.eu e,H)
      |none=>none
     else none
   |_,_=>none
 |.h6 x i=>match aX fr x,aX fr i with
   |.s (.string b),.s (.int _ n)=>if 0<=n then match b.data.toList[n.toNat]? with
      |some c=>some (.s (.int .u8 c.toNat),H)
      |none=>none
     else none
   |_,_=>none
 |.extract x i=>match aX fr x with
   |.bV vs=>match vs[i]? with
     |some v=>some (v,H)
     |none=>none
   |_=>none
 |.dD k x=>match k,aX fr x with
   |.p,.s (.string b)=>some (i64 b.size,H)
   |.s,.s (.slice none 0 0)=>some (i64 0,H)
   |.m,.s (.map none)=>some (i64 0,H)
   |.s,.db=>some (i64 0,H)
   |.s,.du es _=>some (i64 es.length,H)
   |.s,.aB _ _ _ len _=>some (i64 len,H)
   |.m,.mp id=>match H[id]? with
     |some (.map es)=>some (i64 es.length,H)
     |_=>none
   |_,_=>none
 |.xT sz bytes s x=>gW H H.length sz bytes (aX fr s) (aX fr x)
 |.append sz bytes s x=>gW H base sz bytes (aX fr s) (aX fr x)
 |.delete kind m k=>match aX fr m,aX fr k with
   |.mp id,.s key=>if base<=id/\oO kind key then match H[id]? with
      |some (.map es)=>match pY kind key es 0 with
        |some (some (i,_))=>some (bR,H.set id (.map (es.eraseIdx i)))
        |some none=>some (bR,H)
        |none=>none
      |_=>none
     else none
   |_,_=>none
 |.pk ft x y=>match aX fr x,aX fr y with
   |.s (.int k a),.s (.int gT b)=>if k=gT then some (.s (.int k (if ft then(if a<b then b else a)else(if b<a then b else a))),H)else none
   |_,_=>none
 |.call f args=>call (aX fr f) (args.map (aX fr)) base H
 |.oe f args=>call (aX fr f) (args.map (aX fr)) H.length H
 |.rA f args=>
   let vs:=args.map (aX fr)
   match vs.mapM (gV H 12)with
   |some us=>match call (.fn f [] []) us 0 []with
     |some (v,H')=>match gV H' 12 v with
       |some u=>if vs.all (ji 12)||u.oY then some (u,H)else none
       |none=>none
     |none=>none
   |none=>none
 |.wK f args=>
   if(args.map (aX fr)).all (ji 12)then
    match call (.fn f [] []) (args.map (aX fr)) 0 []with
    |some (v,H')=>match gV H' 12 v with
      |some u=>some (u,H)
      |none=>none
    |none=>none
   else none
 |.copy sz d s=>copyV H base sz (aX fr d) (aX fr s)
 |.HI x=>(Nx H (aX fr x)).map fun v=>(v,H)
 |.stuck=>none
 |.Gl sz zero x=>match aX fr x with
   |.s (.slice none 0 0)=>some (bR,H)
   |.db=>some (bR,H)
   |.aB id g off len dF=>if len=0 then some (bR,H)else if base<=id/\dF=sz then match ao H id g with
      |some c=>if zero.length=sz/\off+len*sz<=c.length/\zero.all V.one then some (bR,H.set id (.cells g (iy c off (List.replicate len zero).flatten)))else none
      |none=>none
     else none
   |_=>none
def cu(call:c5)(base:Nat):List cF->List V->az->Option (List V × az)
 | [],fr,H=>some (fr,H)
 |o::os,fr,H=>match want o fr with
   |none=>none
   |some false=>cu call base os (put o.dst bR fr) H
   |some true=>match bf call base fr H o.op with
     |some (v,H')=>cu call base os (put o.dst v fr) H'
     |none=>none
def b3.place:b3->Option cY
 |.load _ _ a=>some a
 |.store _ a _=>some a
 |.dD _ m=>some m
 |.j6 _ _ m _ _=>some m
 |.append _ _ s _=>some s
 |_=>none
def V.jM:V->Option (Option Nat)
 |.ref id _ _=>some (some id)
 |.mp id=>some (some id)
 |.s _|.eu _|.du .. | .db|.aB ..=>some none
 |_=>none
def V.y6:V->Option (Option Nat)
 |.aB id _ _ _ _=>some (some id)
 |.s _|.db|.du ..=>some none
 |_=>none
def b3.obj(o:b3)(v:V):Option (Option Nat):=
 match o with
 |.append ..=>v.y6
 |_=>v.jM
def y8(ops:List cF)(fr:List V)(p:Nat × Nat):Bool:=
 match(ops.getD p.1 default).op.place,(ops.getD p.2 default).op.place with
 |some a,some b=>match(ops.getD p.1 default).op.obj (aX fr a),(ops.getD p.2 default).op.obj (aX fr b)with
   |some (some i),some (some j)=>i != j
   |some _,some _=>true
   |_,_=>false
 |_,_=>false
abbrev cJ:=rC × List V × az
def b3.z1:b3->Bool
 |.call ..=>true
 |_=>false
def Nd(fr:List V)(o:b3):Option (Option Nat):=
 match o.place with
 |some x=>o.obj (aX fr x)
 |none=>none
noncomputable def AB(call:c5)(base:Nat)(ops:List cF)(fr:List V)(H:az)(aW:List V)(c r:Nat):Bool:=
 match cu call base (ops.take c) fr H,cu call base (ops.take (c+1)) fr H,Nd aW (ops.getD r default).op with
 |some a,some b,some (some id)=>@decide (b.2[id]?=a.2[id]?) (Classical.propDecidable _)
 |some _,some _,some none=>true
 |_,_,_=>false
noncomputable def j8(call:c5)(base:Nat)(ops:List cF)(fr:List V)(H:az)(aW:List V)(p:Nat × Nat):Bool:=
 y8 ops aW p||((ops.getD p.1 default).op.z1&&AB call base ops fr H aW p.1 p.2)||((ops.getD p.2 default).op.z1&&AB call base ops fr H aW p.2 p.1)
def b3.quiet:b3->Bool
 |.move _|.pick .. | .build .. | .nilCheck _|.bin .. | .uO .. | .we .. | .sx .. | .un .. | .conv .. | .yC _|.mu ..
 |.mT .. | .ll .. | .fieldAddr .. | .field .. | .indexAddr .. | .h6 .. | .extract .. | .pk .. | .j6 .. | .load .. | .dD ..=>true
 |_=>false
inductive E where
 |t (i:Nat)
 |c (v:V)
 |pick (c a b:E)
 |op (o:b3) (xs:List E)
 deriving Inhabited
def cY.num:cY->Nat->cY
 |.t _,k=>.t k
 |.c v,_=>.c v
def pF(o:Option cY)(k:Nat):Option cY:=o.map fun x=>x.num k
def F7(k:Nat):List cY->List cY
 | []=>[]
 |x::xs=>x.num k::F7 (k+1) xs
def Jo(k:Nat):List (Nat × cY)->List (Nat × cY)
 | []=>[]
 |p::ps=>(p.1,p.2.num k)::Jo (k+1) ps
def b3.mN:b3->b3
 |.move x=>.move (x.num 0)
 |.nilCheck x=>.nilCheck (x.num 0)
 |.we k n x=>.we k n (x.num 0)
 |.un o x=>.un o (x.num 0)
 |.conv k x=>.conv k (x.num 0)
 |.yC x=>.yC (x.num 0)
 |.fieldAddr o x=>.fieldAddr o (x.num 0)
 |.field a o n x=>.field a o n (x.num 0)
 |.extract x i=>.extract (x.num 0) i
 |.dD k x=>.dD k (x.num 0)
 |.load a n x=>.load a n (x.num 0)
 |.pick c a b=>.pick (c.num 0) (a.num 1) (b.num 2)
 |.build z p ps=>.build z p (Jo 0 ps)
 |.j6 k z m x ok=>.j6 k z (m.num 0) (x.num 1) ok
 |.bin o x y=>.bin o (x.num 0) (y.num 1)
 |.uO n x y=>.uO n (x.num 0) (y.num 1)
 |.sx n l x y=>.sx n l (x.num 0) (y.num 1)
 |.indexAddr s x y=>.indexAddr s (x.num 0) (y.num 1)
 |.h6 x y=>.h6 (x.num 0) (y.num 1)
 |.pk m x y=>.pk m (x.num 0) (y.num 1)
 |.mu f a b=>.mu f (F7 0 a) (F7 a.length b)
 |.mT x cz hi=>.mT (x.num 0) (pF cz 1) (pF hi (1+cz.toList.length))
 |.ll s x cz hi ft=>.ll s (x.num 0) (pF cz 1) (pF hi (1+cz.toList.length)) (pF ft (1+cz.toList.length+hi.toList.length))
 |o=>o
def cY.vq:cY->List Nat
 |.t i=>[i]
 |.c _=>[]
def b3.qo:b3->List cY
 |.move x|.box x|.nilCheck x|.we _ _ x|.un _ x|.conv _ x|.yC x|.fieldAddr _ x|.field _ _ _ x|.extract x _|.dD _ x|.load _ _ x=>[x]
 |.pick c a b=>[c,a,b]
 |.alloc _|.zr=>[]
 |.build _ _ ps|.fy _ _ _ ps=>ps.map (·.2)
 |.l8 _ m k v=>[m,k,v]
 |.j6 _ _ m k _=>[m,k]
 |.store _ a v=>[a,v]
 |.bin _ x y|.uO _ x y|.Gf _ x y|.sx _ _ x y|.indexAddr _ x y|.h6 x y|.append _ _ x y|.xT _ _ x y|.pk _ x y|.delete _ x y|.H9 _ _ _ x y=>[x,y]
 |.mu _ a b=>a++b
 |.mT x cz hi=>x::(cz.toList++hi.toList)
 |.ll _ x cz hi ft=>x::(cz.toList++hi.toList++ft.toList)
 |.call f xs|.oe f xs=>f::xs
 |.rA _ xs|.wK _ xs=>xs
 |.Gl _ _ x=>[x]
 |.copy _ d s=>[d,s]
 |.HI x=>[x]
 |.stuck=>[]
def yt(c x y:Option V):Option V:=
 match c with
 |some (.s (.bool true))=>x
 |some (.s (.bool false))=>y
 |_=>none
def xL(c:Option V)(b r:Bool):Bool:=
 match c with
 |some (.s (.bool z))=>if z=b then r else true
 |_=>false
mutual
def cc(fr:List V)(H:az):E->Option V
 |.t i=>some (fr.getD i .bs)
 |.c v=>some v
 |.pick c a b=>yt (cc fr H c) (cc fr H a) (cc fr H b)
 |.op o xs=>match nT fr H xs with
   |some vs=>match bf (fun _ _ _ _=>none) 0 vs H o with
     |some (v,_)=>some v
     |none=>none
   |none=>none
def nT(fr:List V)(H:az):List E->Option (List V)
 | []=>some []
 |x::xs=>match cc fr H x,nT fr H xs with
   |some v,some vs=>some (v::vs)
   |_,_=>none
end
structure rz where
 g:List (Nat × Bool × E)
 e:E
 deriving Inhabited
def kl:List (Nat × rz)->Nat->rz
 | [],s=>⟨[],.t s⟩
 |(k,dM)::dp,s=>if k=s then dM else kl dp s
def under(G K:List (Nat × Bool × E)):Bool:=G.all fun p=>K.any fun q=>p.1==q.1&&p.2.1==q.2.1
def Bq(dp:List (Nat × rz))(G:List (Nat × Bool × E)):cY->Option E
 |.c v=>some (.c v)
 |.t s=>if under (kl dp s).g G then some (kl dp s).e else none
def HN(dp:List (Nat × rz))(G:List (Nat × Bool × E)):List cY->Option (List E)
 | []=>some []
 |x::xs=>match Bq dp G x,HN dp G xs with
   |some e,some es=>some (e::es)
   |_,_=>none
def l5(dp:List (Nat × rz)):Option (Nat × Bool)->List (Nat × Bool × E)
 |none=>[]
 |some (t,b)=>(kl dp t).g++[(t,b,(kl dp t).e)]
def KE(dp:List (Nat × rz))(G:List (Nat × Bool × E))(o:b3):Option E:=
 match o with
 |.move x=>Bq dp G x
 |.pick (.t c) a b=>match Bq dp G (.t c),Bq dp (G++[(c,true,(kl dp c).e)]) a,Bq dp (G++[(c,false,(kl dp c).e)]) b with
   |some x,some y,some z=>some (.pick x y z)
   |_,_,_=>none
 |o=>if o.quiet then match HN dp G o.qo with
    |some xs=>some (.op o.mN xs)
    |none=>none
   else none
def Br:List (Nat × rz)->List (List (Nat × Bool × E) × E)->List cF->Option (List (Nat × rz) × List (List (Nat × Bool × E) × E))
 |dp,R,[]=>some (dp,R)
 |dp,R,o::os=>match KE dp (l5 dp o.guard) o.op with
   |some e=>match o.dst with
     |some d=>if(l5 dp o.guard).all (fun p=>p.1 != d)&&dp.all (fun q=>q.2.g.all fun p=>p.1 != d)then Br ((d,⟨l5 dp o.guard,e⟩)::dp) (R++[(l5 dp o.guard,e)]) os else none
     |none=>Br dp (R++[(l5 dp o.guard,e)]) os
   |none=>none
def ka(fr:List V)(H:az):List (Nat × Bool × E)->E->Bool
 | [],e=>(cc fr H e).isSome
 |p::G,e=>xL (cc fr H p.2.2) p.2.1 (ka fr H G e)
def Cx:List cF->Nat
 | []=>0
 |o::os=>match o.dst with
   |some d=>max (d+1) (Cx os)
   |none=>Cx os
abbrev adX:=Option (Nat × List (List (Nat × Bool × E) × E) × List (Nat × E))
def lZ(ops:List cF)(kill jL:List Nat):adX:=
 match Br [] [] ops with
 |some (dp,R)=>
   if jL.all (fun s=>(kl dp s).g.isEmpty)&&ops.all (fun o=>match o.dst with|some d=>kill.contains d||jL.contains d|none=>true)&&jL.all (fun s=>!kill.contains s)
   then some (Cx ops,R,jL.map fun s=>(s,(kl dp s).e))else none
 |none=>none
def qi(fr:List V)(H:az):List (Nat × E)->List V->Option (List V)
 | [],aW=>some aW
 |(s,e)::os,aW=>match cc fr H e with
   |some v=>qi fr H os (aW.set s v)
   |none=>none
def iO(au9:adX)(kill:List Nat)(fr:List V)(H:az):Option (List V):=
 match au9 with
 |some (m,R,os)=>if m<=fr.length then if R.all (fun r=>ka fr H r.1 r.2)then qi fr H os (ut kill fr)else none else none
 |none=>none
def fR(body:List V->az->Option cJ)(kill:List Nat)(m:Nat):Nat->List V->az->Option cJ
 |0,_,_=>none
 |n+1,fr,H=>match body fr H with
   |some (.bH,aW,H')=>let aW:=ut kill aW;fR body kill m n aW (trim m aW H')
   |some (e,aW,H')=>let aW:=ut kill aW;some (e,aW,trim m aW H')
   |none=>none
def Jz:rC->Option rC
 |.bH=>none
 |e=>some e
abbrev gS:=(List V->az->Option cJ)->List Nat->Nat->List V->az->Option cJ
noncomputable def aC(call:c5)(it:gS)(base:Nat):cM->List V->az->Option cJ
 |.skip,fr,H=>some (.bH,fr,H)
 |.region ops b9 kill,fr,H=>match cu call base ops fr H with
   |some (aW,H')=>if b9.all (j8 call base ops fr H aW)then some (.bH,ut kill aW,H')else none
   |none=>none
 |.bc ops kill jL,fr,H=>match iO (lZ ops kill jL) kill fr H with
   |some aW=>some (.bH,aW,H)
   |none=>none
 |.seq a b,fr,H=>match aC call it base a fr H with
   |some (.bH,fr,H)=>aC call it base b fr H
   |r=>r
 |.cond c a b,fr,H=>match aX fr c with
   |.s (.bool true)=>aC call it base a fr H
   |.s (.bool false)=>aC call it base b fr H
   |_=>none
 |.block id c,fr,H=>match aC call it base c fr H with
   |some (.ext eX,fr,H)=>some (if eX=id then .bH else .ext eX,fr,H)
   |r=>r
 |.loop kill c,fr,H=>it (fun fr H=>aC call it base c fr H) kill H.length (ut kill fr) H
 |.rangeFunc f params assign body,fr,H=>
   match aX fr f with
   |.fn k x y=>match call (.fn k x y) [.fg H.length] base (H++[.loop .ready none fr params assign body])with
     |some (_,H')=>match H'[H.length]? with
       |some (.loop .ready none _ _ _ _)=>some (.bH,fr,trim H.length fr (H'.set H.length .dead))
       |some (.loop .done (some e) _ _ _ _)=>some (e,fr,trim H.length fr (H'.set H.length .dead))
       |_=>none
     |none=>none
   |_=>none
 |.exit id,fr,H=>some (.ext id,fr,H)
 |.ret,fr,H=>some (.ret,fr,H)
def Cw:List Nat->List V->List V->Option (List V)
 | [],[],fr=>some fr
 |p::ps,v::vs,fr=>Cw ps vs (fr.set p v)
 |_,_,_=>none
def j'(fr:List V)(H:az):lj->Option V
 |.tmp t=>some (fr.getD t .bs)
 |.cell t agg n=>iT H agg n (fr.getD t .bs)
def kB(rs:List lj)(fr:List V)(H:az):Option V:=
 match rs.mapM (j' fr H)with
 |some [v]=>some v
 |some vs=>some (.bV vs)
 |none=>none
noncomputable def kN(bX:Nat->Option c7)(call:c5)(it:gS)(v:V)(args:List V)(base:Nat)(H:az):Option (V × az):=
 match v with
 |.fn f fst cap=>match bX f with
   |some (.code c)=>
     let vs:=fst++args++cap
     match aC call it base c.body (vs++List.replicate (c.ntmps-vs.length) bR) H with
     |some (.bH,fr,H')=>(kB c.results fr H').map fun v=>(v,H')
     |some (.ret,fr,H')=>(kB c.results fr H').map fun v=>(v,H')
     |_=>none
   |some (.oD g)=>g (fst++args++cap) base H
   |none=>none
 |.fg id=>if base<=id then match H[id]? with
   |some (.loop .ready none tmps params assign body)=>match Cw params args tmps with
     |some fr=>match aC call it base assign fr H with
       |some (.bH,fr,H)=>match H[id]? with
         |some (.loop .ready none t p a b)=>match aC call it base body fr (H.set id (.loop .busy none t p a b))with
           |some (e,_,H)=>match H[id]? with
             |some (.loop .busy none t p a b)=>some (aL (e=.bH),H.set id (.loop (if e=.bH then .ready else .done) (Jz e) t p a b))
             |_=>none
           |none=>none
         |_=>none
       |_=>none
     |none=>none
   |_=>none
   else none
 |_=>none
noncomputable def hZ(bX:Nat->Option c7):Nat->c5
 |0=>fun _ _ _ _=>none
 |n+1=>kN bX (hZ bX n) (fun b k m=>fR b k m n)
def Dy(v:Value):Option V:=
 match v with
 |.bool _|.int _ _|.string _|.nilFunc|.nilIface|.pointer none|.slice none 0 0|.map none=>some (.s v)
 |_=>none
def B1(v:Value):Option V:=
 match v with
 |.agg cs=>(cs.toList.mapM Dy).map .agg
 |v=>Dy v
def lc:Operand->Option cY
 |.tmp t=>some (.t t)
 |.const v=>(B1 v).map .c
 |.func f=>some (.c (.fn f [] []))
 |.global _=>none
section
variable (P:Program)
def mn(t:TypeId):Option Bool:=
 match P.underlying t with
 |some (.struct _)=>some true
 |some (.array _ _)=>some true
 |some _=>some false
 |none=>none
def fT(t:TypeId):Option Nat:=(P.info? t).map (·.size)
def uK(t:TypeId):Option (Bool × Nat):=
 match mn P t,fT P t with
 |some true,some n=>some (true,n)
 |some false,some 1=>some (false,1)
 |_,_=>none
def nk(t:TypeId):Option V:=
 match P.info? t with
 |some i=>match i.zero with
   |some z=>B1 z
   |none=>none
 |none=>none
def yJ(t:TypeId):Option TypeDesc:=
 match P.underlying t with
 |some (.int k)=>some (.int k)
 |some .string=>some .string
 |some .bool=>some .bool
 |_=>none
mutual
def DT:Nat->TypeId->Option (List mr)
 |0,_=>none
 |d+1,t=>match P.underlying t with
   |some (.int k)=>if fT P t=some 1 then some [.int k]else none
   |some .bool=>if fT P t=some 1 then some [.bool]else none
   |some .string=>if fT P t=some 1 then some [.str]else none
   |some (.struct bG)=>if P.stoodInHeld t then none else DM d 0 bG.toList
   |_=>none
def DM:Nat->Nat->List Field->Option (List mr)
 |0,_,_=>none
 |_+1,_,[]=>some []
 |d + 1, off, f::bG => if f.offset = off /\ f.name ≠ "_" then match DT d f.type, fT P f.type with
     |some ls,some n=>if ls.length=n then match DM d (off+n) bG with
        |some rest=>some (ls++rest)
        |none=>none
       else none
     |_,_=>none
   else none
end
def Dj:Option TypeDesc->Operand->Option r6
 |some (.pointer _),.const (.pointer none)=>some .p
 |some (.slice _),.const (.slice none 0 0)=>some .s
 |some (.map _ _),.const (.map none)=>some .m
 |some (.func _ _ _),.const .nilFunc=>some .f
 |_,_=>none
def og:BinOp->Option Bool
 |.eql=>some false
 |.neq=>some true
 |_=>none
def Jg(op:BinOp)(t:TypeId)(x y:Operand):Option b3:=
 match og op,Dj (P.underlying t) y,Dj (P.underlying t) x with
 |some neg,some k,_=>(lc x).map (.we k neg)
 |some neg,none,some k=>(lc y).map (.we k neg)
 |e,_,_=>match P.underlying t,lc x,lc y with
   |some (.int _),some x,some y=>some (.bin op x y)
   |some .string,some x,some y=>some (.bin op x y)
   |some .bool,some x,some y=>match e with
     |some neg=>some (.uO neg x y)
     |none=>none
   |some (.pointer bw),some x,some y=>match e,fT P bw with
     |some neg,some n=>if n≠0 then some (.Gf neg x y)else none
     |_,_=>none
   |some (.struct _),some x,some y=>match e,DT P 12 t with
     |some neg,some ls=>if P.eqGuardType P.depth t then none else some (.sx neg ls x y)
     |_,_=>none
   |_,_,_=>none
def Ak(ps:Array (Nat × Operand)):Option (List (Nat × cY)):=
 ps.toList.mapM fun p=>(lc p.2).map fun x=>(p.1,x)
def zj(xs:Array Operand):Option (List cY):=xs.toList.mapM lc
def tN:Option Operand->Option (Option cY)
 |none=>some none
 |some x=>(lc x).map some
def ry(t:TypeId):Option TypeId:=
 match P.underlying t with
 |some (.slice e)=>some e
 |_=>none
def CV(t:TypeId):Bool:=
 match P.underlying t with
 |some (.int .u8)=>P.cellsOf t==1
 |_=>false
def CA(e:TypeId)(b:Nat):Nat:=if b=1 then(if CV P e then 1 else 2)else b
def SD(t:TypeId):Bool:=
 match P.types[t]? with
 |some i => i.str == "strings.Builder"
 |none=>false
def OY(z:V):Option (List V):=
 match z with
 |.agg [.s (.pointer none),v]=>some [.bs,v]
 |_=>none
def tR(pure':Nat->Bool)(o:Oper):Option b3:=
 match o.op with
 |.move x=>(lc x).map .move
 |.assign x=>(lc x).map .move
 |.pick c a b=>do return .pick (<- lc c) (<- lc a) (<- lc b)
 |.alloc t=>match nk P t with
   |some z=>if SD P t then(OY z).map .alloc else some (.alloc z.cells)
   |none=>none
 |.box _ x=>(lc x).map .box
 |.build t parts=>do
   let z <- nk P t
   match P.underlying t with
   |some (.struct bG)=>
     let places <- bG.toList.mapM fun f=>(fT P f.type).map fun n=>(f.offset,n)
     return .build z.cells places (<- Ak parts)
   |_=>none
 |.buildSlice t len parts=>do
   let e <- ry P t
   let sz <- fT P e
   let z <- nk P e
   if 0<sz/\len*sz<=2^24/\z.cells.length=sz then
    return .fy sz len (List.replicate len z.cells).flatten (<- Ak parts)
   else none
 |.insert t m k v|.mapUpdate t m k v=>match P.underlying t with
   |some (.map nK _)=>do return .l8 (<- yJ P nK) (<- lc m) (<- lc k) (<- lc v)
   |_=>none
 |.lookup t m k ok=>match P.underlying t with
   |some (.map nK e)=>do return .j6 (<- yJ P nK) (<- nk P e) (<- lc m) (<- lc k) ok
   |_=>none
 |.load t a=>do
   let (agg,n) <- uK P t
   return .load agg n (<- lc a)
 |.store t a v=>do
   let (_,n) <- uK P t
   return .store n (<- lc a) (<- lc v)
 |.nilCheck x=>(lc x).map .nilCheck
 |.binOp op t x y _=>Jg P op t x y
 |.unOp op _ x=>do
   match op with
   |.not|.neg|.xor=>return .un op (<- lc x)
   |.plus=>none
 |.convert src dst x=>match P.underlying src,P.underlying dst with
   |some (.int _),some (.int k)=>(lc x).map (.conv k)
   |some .string,some .string=>(lc x).map .yC
   |some (.slice e),some .string=>match P.underlying e with
     |some (.int .u8)=>(lc x).map .HI
     |_=>none
   |_,_=>none
 |.makeFunc (.func f) fst cap=>do return .mu f (<- zj fst) (<- zj cap)
 |.makeMap _ none=>some .zr
 |.makeSlice t len cap=>do
   let e <- ry P t
   let i <- P.info? e
   let z <- nk P e
   if 0<i.size/\0<i.bytes/\z.cells.length=i.size then return .H9 z.cells i.size i.bytes (<- lc len) (<- lc cap)else none
 |.slice t x cz hi ft=>match P.underlying t with
   |some .string=>match ft with
     |none=>do return .mT (<- lc x) (<- tN cz) (<- tN hi)
     |some _=>none
   |some (.slice e)=>do
     let sz <- fT P e
     if 0<sz then return .ll sz (<- lc x) (<- tN cz) (<- tN hi) (<- tN ft)else none
   |_=>none
 |.fieldAddr t x f=>match P.underlying t with
   |some (.struct bG)=>do
     let f <- bG[f]?
     let n <- fT P f.type
     if n≠0 then return .fieldAddr f.offset (<- lc x)else none
   |_=>none
 |.field t x f=>match P.underlying t with
   |some (.struct bG)=>do
     let f <- bG[f]?
     let (agg,n) <- uK P f.type
     return .field agg f.offset n (<- lc x)
   |_=>none
 |.indexAddr t x i=>do
   let e <- ry P t
   let sz <- fT P e
   if 0<sz then return .indexAddr sz (<- lc x) (<- lc i)else none
 |.index t x i=>match P.underlying t with
   |some .string=>do return .h6 (<- lc x) (<- lc i)
   |_=>none
 |.extract x i=>(lc x).map fun x=>.extract x i
 |.call { callee:=.builtin b,args,argTypes }=>match b,args.toList,argTypes.toList with
   |.len,[x],[t]=>match P.underlying t with
     |some .string=>(lc x).map (.dD .p)
     |some (.slice _)=>(lc x).map (.dD .s)
     |some (.map _ _)=>(lc x).map (.dD .m)
     |_=>none
   |.append,[s,x],[t,jt]=>do
     let e <- ry P t
     let i <- P.info? e
     let z <- nk P e
     match P.underlying jt with
     |some (.slice _)|some .string=>if 0<i.size/\0<i.bytes/\z.cells.length=i.size then return .append i.size (CA P e i.bytes) (<- lc s) (<- lc x)else none
     |_=>none
   |.delete,[m,k],[t,_]=>match P.underlying t with
     |some (.map nK _)=>do return .delete (<- yJ P nK) (<- lc m) (<- lc k)
     |_=>none
   |.clear,[x],[t]=>do
     let e <- ry P t
     let sz <- fT P e
     let z <- nk P e
     if 0<sz/\z.cells.length=sz then return .Gl sz z.cells (<- lc x)else none
   |.copy,[d,s],[t,jt]=>do
     let e <- ry P t
     let sz <- fT P e
     match P.underlying jt with
     |some (.slice _)=>if 0<sz then return .copy sz (<- lc d) (<- lc s)else none
     |_=>none
   |.min,[x,y],_=>do return .pk false (<- lc x) (<- lc y)
   |.max,[x,y],_=>do return .pk true (<- lc x) (<- lc y)
   |_,_,_=>none
 |.call { callee:=.value f,args,.. }=>do
   let xs <- zj args
   match f with
   |.func k=>if pure' k then return .rA k xs else return .call (<- lc f) xs
   |_=>return .call (<- lc f) xs
 |_=>none
end
def b3.kh:b3->Bool
 |.call .. | .oe .. | .rA .. | .wK ..=>true
 |_=>false
section
variable (P:Program)
def p4(pure':Nat->Bool)(o:Oper):Option b3:=
 match o.op with
 |.call { callee:=.value f,args,.. }=>
   match zj args,lc f with
   |some xs,some y=>match f with
     |.func k=>if pure' k then some (.rA k xs)else some (.call y xs)
     |_=>some (.call y xs)
   |_,_=>none
 |_=>match tR P pure' o with
   |some h7=>if h7.kh then none else some h7
   |none=>none
inductive asv where
 |t|r|a|w
 deriving DecidableEq,Inhabited
def b3.cls:b3->asv
 |.move _|.pick .. | .build .. | .nilCheck _|.bin .. | .uO .. | .we .. | .sx .. | .un .. | .conv .. | .yC _|.mu ..
 |.mT .. | .ll .. | .fieldAddr .. | .field .. | .indexAddr .. | .h6 .. | .extract .. | .pk .. | .wK .. | .stuck=>.t
 |.j6 .. | .load .. | .dD ..=>.r
 |.alloc _|.box _|.fy .. | .zr|.H9 .. | .oe .. | .xT ..=>.a
 |.l8 .. | .store .. | .append .. | .delete .. | .call .. | .rA .. | .Gl .. | .Gf .. | .copy .. | .HI _=>.w
def b3.gN(o:b3):Bool:=o.cls==.a||o.cls==.w
def cF.reads(o:cF):List Nat:=o.op.qo.flatMap cY.vq++(match o.guard with|some (t,_)=>[t]|none=>[])
def cF.names(o:cF):List Nat:=o.dst.toList++o.reads
def qe(a b:cF):Bool:=
 (match a.dst with|some d=>b.names.contains d|none=>false)||(match b.dst with|some d=>a.names.contains d|none=>false)
def tM(a b:cF):Bool:=
 (a.op.gN&&b.op.gN)||(a.op.cls==.w&&b.op.cls==.r)||(b.op.cls==.w&&a.op.cls==.r)||qe a b
def rv(a b:cF):Bool:=
 !qe a b&&(match a.op,b.op with
 |.store ..,.load .. | .store ..,.dD .. | .store ..,.j6 .. | .load ..,.store .. | .dD ..,.store .. | .j6 ..,.store ..
 |.append ..,.load .. | .append ..,.dD .. | .append ..,.j6 .. | .load ..,.append .. | .dD ..,.append .. | .j6 ..,.append ..=>true
 |.call ..,.load .. | .call ..,.dD .. | .call ..,.j6 .. | .load ..,.call .. | .dD ..,.call .. | .j6 ..,.call ..=>true
 |_,_=>false)
def iP(kH:List Nat)(i j:Nat):Bool:=(kH.getD j 0).testBit i
def HT(ops:List cF)(i:Nat):Bool:=
 match(ops.getD i default).op.place with
 |some x=>x.vq.all fun s=>(List.range ops.length).all fun k=>decide (k<i)||(ops.getD k default).dst != some s
 |none=>(ops.getD i default).op.z1
def Ck(o:cF):Bool:=
 o.op.cls != .r||match o.op.place with
  |some (.t _)=>true
  |some (.c (.s _))=>true
  |_=>false
def uU(kH:List Nat)(b9:List (Nat × Nat))(ops:List cF):Bool:=
 (b9.all fun p=>HT ops p.1&&HT ops p.2)&&ops.all Ck&&(List.range ops.length).all fun j=>(List.range j).all fun i=>
  !tM (ops.getD i default) (ops.getD j default)||iP kH i j||(rv (ops.getD i default) (ops.getD j default)&&b9.contains (i,j))
def b3.Aj:b3->Bool
 |.alloc _|.box _|.fy .. | .zr|.H9 ..=>true
 |_=>false
def b3.hB:b3->Bool
 |.store ..=>true
 |_=>false
def b3.rL:b3->Bool
 |.oe ..=>true
 |.xT ..=>true
 |_=>false
def D5(o:b3):Bool:=(o.cls==.t&&!o.kh)||o.cls==.r||o.Aj||o.hB||o.rL
def HL(ops:List cF):Nat->Nat->Bool
 |0,_=>false
 |n+1,i=>(((ops.getD i default).op.cls==.t&&!(ops.getD i default).op.kh)||(ops.getD i default).op.cls==.r) &&
    (ops.getD i default).reads.all fun s=>(List.range ops.length).all fun k=>(ops.getD k default).dst != some s||(decide (k<i)&&HL ops n k)
def b3.Tf:b3->Bool
 |.alloc _|.box _=>true
 |_=>false
def Xp(ops:List cF)(i:Nat):Bool:=
 match(ops.getD i default).op with
 |.store _ (.t s) _=>(List.range ops.length).any (fun k=>decide (k<i)&&(ops.getD k default).dst==some s) &&
    (List.range ops.length).all fun k=>(ops.getD k default).dst != some s||((ops.getD k default).op.Tf&&(ops.getD k default).guard.isNone)
 |.store ..=>false
 |_=>true
def zR(ops:List cF):Bool:=(List.range ops.length).all (Xp ops)
def zc(ops:List cF)(i:Nat):Bool:=(ops.getD i default).op.cls==.r&&zR ops&&HL ops ops.length i
def yq(ops:List cF)(i j:Nat):Bool:=
 qe (ops.getD i default) (ops.getD j default) ||
 ((ops.getD i default).op.hB&&((ops.getD j default).op.hB||((ops.getD j default).op.cls==.r&&!zc ops j)||(ops.getD j default).op.rL)) ||
 ((ops.getD j default).op.hB&&((ops.getD i default).op.hB||((ops.getD i default).op.cls==.r&&!zc ops i)||(ops.getD i default).op.rL))
def Ep(kH:List Nat)(ops:List cF):Bool:=
 ops.all Ck&&ops.all (fun o=>D5 o.op)&&(List.range ops.length).all fun j=>(List.range j).all fun i=>
  !yq ops i j||iP kH i j
def pG(kH:List Nat)(b9:List (Nat × Nat))(ops:List cF):Bool:=uU kH b9 ops||(b9.isEmpty&&Ep kH ops)
def oh(ops:Array Oper):Bool:=
 (List.range ops.size).all fun j=>match ops[j]? with
  |some o=>o.after.all fun e=>!(Region.binds .any e)||decide (e.on<j)
  |none=>true
def aER(kH:List Nat)(ops:List cF):List (Nat × Nat):=
 (List.range ops.length).flatMap fun j=>(List.range j).filterMap fun i=>
  if tM (ops.getD i default) (ops.getD j default)&&!iP kH i j&&rv (ops.getD i default) (ops.getD j default)then some (i,j)else none
def aro(lt:List Nat):cY->Bool
 |.c (.fn k _ _)=>lt.contains k
 |_=>false
def zh(lt:List Nat)(kH:List Nat)(ops:List cF):List cF:=
 (List.range ops.length).map fun i=>
  let o:=ops.getD i default
  match o.op with
  |.call f xs=>
    if(List.range ops.length).all fun j=>j==i||(ops.getD j default).op.cls==.t||(aro lt f&&(ops.getD j default).op.cls==.r)||(if i<j then iP kH i j else iP kH j i)then o
    else { o with op:=.oe f xs }
  |.rA f xs=>
    if(List.range ops.length).all fun j=>j==i||(ops.getD j default).op.cls==.t||(if i<j then iP kH i j else iP kH j i)then o
    else { o with op:=.wK f xs }
  |_=>o
def Ef(l:List cF):List cF:=
 l.map fun o=>match o.op with
  |.append a b s x=>{ o with op:=.xT a b s x }
  |_=>o
def aqb(ops:Array Oper)(done:List Nat):Option Nat:=
 (List.range ops.size).find? fun i=>!done.contains i&&match ops[i]? with
  |some o=>o.after.all fun e=>!(Region.binds .any e)||done.contains e.on
  |none=>false
def Vi(ops:Array Oper):Nat->List Nat->List Nat
 |0,done=>done
 |n+1,done=>match aqb ops done with
   |some i=>Vi ops n (done++[i])
   |none=>done
def ZX(ops:Array Oper):List Nat:=Vi ops ops.size []
def oU(cR:List Nat)(i:Nat):Nat:=cR.findIdx (·==i)
def zX(cR:List Nat)(o:Oper):Oper:={ o with after:=o.after.map fun e=>{ e with on:=oU cR e.on },guard:=o.guard.map fun p=>(oU cR p.1,p.2) }
def lA(cR:List Nat)(ops:Array Oper):Array Oper:=(cR.map fun i=>zX cR (ops.getD i default)).toArray
def Dt(cR:List Nat)(ops:Array Oper):Bool:=
 cR.length==ops.size&&cR.all (fun i=>decide (i<ops.size))&&(List.range ops.size).all (fun i=>cR.contains i)&&decide (cR.Nodup) &&
 ops.toList.all fun o=>o.after.all (fun e=>decide (e.on<ops.size))&&match o.guard with
  |some p=>decide (p.1<ops.size)
  |none=>true
def Hc(ops:Array Oper):Option (Nat × Bool)->Option (Option (Nat × Bool))
 |none=>some none
 |some (j,b)=>match ops[j]? with
   |some o=>match o.dst with
     |some d=>some (some (d,b))
     |none=>none
   |none=>none
def aeh(pure':Nat->Bool)(ops:Array Oper)(o:Oper):Option cF:=do
 return { dst:=o.dst,op:=(p4 P pure' o).getD .stuck,guard:=<- Hc ops o.guard }
def Mz(lt:List Nat)(pure':Nat->Bool)(ops:Array Oper)(draw:Bool):Option (List cF × List (Nat × Nat)):=do
 let l <- ops.toList.mapM (aeh P pure' ops)
 if draw then
  let kH:=(Region.before ops).toList
  let l:=zh lt kH l
  let b9:=aER kH l
  if uU kH b9 l&&oh ops then return (l,b9)else if Ep kH l&&oh ops then return (l,[])else if Ep kH (Ef l)&&oh ops then return (Ef l,[])else none
 else return (l,[])
def lr(lt:List Nat)(pure':Nat->Bool):Code->Option cM
 |.skip=>some .skip
 |.region _ ops draw=>match Mz P lt pure' ops draw with
   |some p=>some (.region p.1 p.2 [])
   |none=>if draw&&Dt (ZX ops) ops then(Mz P lt pure' (lA (ZX ops) ops) true).map fun p=>.region p.1 p.2 []else none
 |.seq a b=>do return .seq (<- lr lt pure' a) (<- lr lt pure' b)
 |.cond c a b=>do return .cond (<- lc c) (<- lr lt pure' a) (<- lr lt pure' b)
 |.block id c=>do return .block id (<- lr lt pure' c)
 |.loop c=>do return .loop [] (<- lr lt pure' c)
 |.rangeFunc f ps a b=>do return .rangeFunc (<- lc f) ps.toList (<- lr lt pure' a) (<- lr lt pure' b)
 |.exit id=>some (.exit id)
 |.label _=>some .skip
 |.ret=>some .ret
 |.scope _|.goto _|.refuse _=>none
def AK:ResultVar->Option lj
 |.tmp t=>some (.tmp t)
 |.cell a t=>(uK P t).map fun(agg,n)=>.cell a agg n
def lj.slot:lj->Nat
 |.tmp t=>t
 |.cell t _ _=>t
end
def cM.bare:cM->cM
 |.region ops b9 _=>.region ops b9 []
 |.bc ops _ _=>.region ops [] []
 |.loop _ c=>.loop [] c.bare
 |.seq a b=>.seq a.bare b.bare
 |.cond c a b=>.cond c a.bare b.bare
 |.block id c=>.block id c.bare
 |.rangeFunc f ps a b=>.rangeFunc f ps a.bare b.bare
 |c=>c
section
variable (P:Program) (pure':Nat->Bool)
def BZ(o:Oper)(h7:b3):Prop:=
 p4 P pure' o=some h7\/(∃f xs,p4 P pure' o=some (.call f xs)/\h7=.oe f xs)\/(∃k xs,p4 P pure' o=some (.rA k xs)/\h7=.wK k xs)\/(∃a b s x,p4 P pure' o=some (.append a b s x)/\h7=.xT a b s x)\/h7=.stuck
def pb(ops:Array Oper)(l:List cF):Prop:=
 l.length=ops.size/\∀(i:Nat) (o:Oper) (h7:cF),ops[i]?=some o->l[i]?=some h7->h7.dst=o.dst/\BZ P pure' o h7.op/\Hc ops o.guard=some h7.guard
inductive ha:Code->cM->Prop
 |skip:ha .skip .skip
 |region (id:Nat) (ops:Array Oper) (draw:Bool) (l:List cF) (b9:List (Nat × Nat)) (kill:List Nat) (h:pb P pure' ops l) (aQ:draw=true->pG (Region.before ops).toList b9 l=true/\oh ops=true):ha (.region id ops draw) (.region l b9 kill)
 |bc (id:Nat) (ops:Array Oper) (draw:Bool) (l:List cF) (kill jL:List Nat) (h:pb P pure' ops l) (aQ:draw=true->pG (Region.before ops).toList [] l=true/\oh ops=true):ha (.region id ops draw) (.bc l kill jL)
 |LY (id:Nat) (ops:Array Oper) (cR:List Nat) (l:List cF) (b9:List (Nat × Nat)) (kill:List Nat) (aj:Dt cR ops=true) (h:pb P pure' (lA cR ops) l) (aQ:pG (Region.before (lA cR ops)).toList b9 l=true/\oh (lA cR ops)=true):ha (.region id ops true) (.region l b9 kill)
 |KR (id:Nat) (ops:Array Oper) (cR:List Nat) (l:List cF) (kill jL:List Nat) (aj:Dt cR ops=true) (h:pb P pure' (lA cR ops) l) (aQ:pG (Region.before (lA cR ops)).toList [] l=true/\oh (lA cR ops)=true):ha (.region id ops true) (.bc l kill jL)
 |seq (a b:Code) (x y:cM) (h:ha a x) (k:ha b y):ha (.seq a b) (.seq x y)
 |cond (c:Operand) (o:cY) (a b:Code) (x y:cM) (aa:lc c=some o) (h:ha a x) (k:ha b y):ha (.cond c a b) (.cond o x y)
 |block (id:Nat) (c:Code) (x:cM) (h:ha c x):ha (.block id c) (.block id x)
 |loop (c:Code) (kill:List Nat) (x:cM) (h:ha c x):ha (.loop c) (.loop kill x)
 |rangeFunc (f:Operand) (o:cY) (ps:Array Tmp) (a b:Code) (x y:cM) (al:lc f=some o) (h:ha a x) (k:ha b y):ha (.rangeFunc f ps a b) (.rangeFunc o ps.toList x y)
 |exit (id:Nat):ha (.exit id) (.exit id)
 |label (l:Nat):ha (.label l) .skip
 |ret:ha .ret .ret
end
open Go.RowKit
structure gH where
 b:Nat->Bool
 sB:Nat->Option (Array Value × TypeId × Nat × Nat)
instance:CoeFun gH fun _=>Nat->Bool:=⟨gH.b⟩
instance:Coe gH (Nat->Bool):=⟨gH.b⟩
instance:Coe (Nat->Bool) gH:=⟨fun b=>⟨b,fun _=>none⟩⟩
structure fD where
 r:Code->cM->Prop
 sB:Nat->Option (Array Value × TypeId × Nat × Nat)
 N2:TypeId->Bool:=fun _=>false
 mG:TypeId->Bool:=fun _=>false
instance:CoeFun fD fun _=>Code->cM->Prop:=⟨fD.r⟩
abbrev eT(P:Program)(pure':gH):fD:=⟨ha P pure'.b,pure'.sB,SD P,CV P⟩
class oG (aE:fD) (P:Program):Prop where
 ok:∀t,SD P t=true->aE.N2 t=true
 aym:∀t,CV P t=true->aE.mG t=true
instance (P:Program) (pure':gH):oG (eT P pure') P:=⟨fun _ h=>h,fun _ h=>h⟩
abbrev dn:=Nat->Nat->Option (Nat × Nat)
inductive gE (ab:Nat->Prop) (w:World):V->Value->Prop
 |s (v:Value):gE ab w (.s v) v
 |agg (cs:List V) (vs:Array Value) (ak:cs.length=vs.size) (h:∀(i:Nat) (a:V) (b:Value),cs[i]?=some a->vs[i]?=some b->gE ab w a b):gE ab w (.agg cs) (.agg vs)
 |bV (cs:List V) (vs:Array Value) (ak:cs.length=vs.size) (h:∀(i:Nat) (a:V) (b:Value),cs[i]?=some a->vs[i]?=some b->gE ab w a b):gE ab w (.bV cs) (.tuple vs)
 |eu (cs:List V) (B o:Nat) (arr:Array Value) (e:TypeId) (fr:Nat × Nat) (aI:w.heap[B]?=some (.cells arr e fr)) (bJ:¬ab B) (aq:o+cs.length<=arr.size)
    (h:∀(i:Nat) (a:V) (b:Value),cs[i]?=some a->arr[o+i]?=some b->gE ab w a b):gE ab w (.eu cs) (.pointer (some ⟨B,o,none⟩))
 |du (es:List (List V)) (sz B o cap:Nat) (arr:Array Value) (e:TypeId) (fr:Nat × Nat) (aI:w.heap[B]?=some (.cells arr e fr)) (bJ:¬ab B) (aa:es.length<=cap)
    (b5:∀(i:Nat) (el:List V),es[i]?=some el->el.length=sz) (aq:o+es.length*sz<=arr.size)
    (h:∀(i:Nat) (el:List V) (j:Nat) (a:V) (b:Value),es[i]?=some el->el[j]?=some a->arr[o+i*sz+j]?=some b->gE ab w a b):gE ab w (.du es sz) (.slice (some ⟨B,o,none⟩) es.length cap)
 |il (sz cap:Nat) (a:Addr):gE ab w (.du [] sz) (.slice (some a) 0 cap)
 |db (a:Addr):gE ab w .db (.slice (some a) 0 0)
 |fn (f:Nat) (fst cap:List V) (fs eP:Array Value) (al:fst.length=fs.size) (aa:cap.length=eP.size) (J:∀(i:Nat) (a:V) (b:Value),fst[i]?=some a->fs[i]?=some b->gE ab w a b)
    (U:∀(i:Nat) (a:V) (b:Value),cap[i]?=some a->eP[i]?=some b->gE ab w a b):gE ab w (.fn f fst cap) (.func (.func f) fs eP)
inductive bM (μ:dn) (ab:Nat->Prop) (w:World):V->Value->Prop
 |s (v:Value):bM μ ab w (.s v) v
 |bs (v:Value):bM μ ab w .bs v
 |agg (cs:List V) (vs:Array Value) (ak:cs.length=vs.size) (h:∀(i:Nat) (a:V) (b:Value),cs[i]?=some a->vs[i]?=some b->bM μ ab w a b):bM μ ab w (.agg cs) (.agg vs)
 |bV (cs:List V) (vs:Array Value) (ak:cs.length=vs.size) (h:∀(i:Nat) (a:V) (b:Value),cs[i]?=some a->vs[i]?=some b->bM μ ab w a b):bM μ ab w (.bV cs) (.tuple vs)
 |ref (id g off B b:Nat) (hm:μ id g=some (B,b)):bM μ ab w (.ref id g off) (.pointer (some ⟨B,b+off,none⟩))
 |eu (cs:List V) (B o:Nat) (arr:Array Value) (e:TypeId) (fr:Nat × Nat) (aI:w.heap[B]?=some (.cells arr e fr)) (bJ:¬ab B) (aq:o+cs.length<=arr.size)
    (h:∀(i:Nat) (a:V) (b:Value),cs[i]?=some a->arr[o+i]?=some b->gE ab w a b):bM μ ab w (.eu cs) (.pointer (some ⟨B,o,none⟩))
 |aB (id g off len sz B b cap:Nat) (arr:Array Value) (e:TypeId) {fr:Nat × Nat} (hm:μ id g=some (B,b)) (aI:w.heap[B]?=some (.cells arr e fr)) (aa:len<=cap) (aq:b+off+cap*sz<=arr.size):
    bM μ ab w (.aB id g off len sz) (.slice (some ⟨B,b+off,none⟩) len cap)
 |js (id g off sz B b:Nat) (a:Addr) (hm:μ id g=some (B,b)):bM μ ab w (.aB id g off 0 sz) (.slice (some a) 0 0)
 |du (es:List (List V)) (sz B o cap:Nat) (arr:Array Value) (e:TypeId) (fr:Nat × Nat) (aI:w.heap[B]?=some (.cells arr e fr)) (bJ:¬ab B) (aa:es.length<=cap)
    (b5:∀(i:Nat) (el:List V),es[i]?=some el->el.length=sz) (aq:o+es.length*sz<=arr.size)
    (h:∀(i:Nat) (el:List V) (j:Nat) (a:V) (b:Value),es[i]?=some el->el[j]?=some a->arr[o+i*sz+j]?=some b->gE ab w a b):bM μ ab w (.du es sz) (.slice (some ⟨B,o,none⟩) es.length cap)
 |il (sz cap:Nat) (a:Addr):bM μ ab w (.du [] sz) (.slice (some a) 0 cap)
 |db (a:Addr):bM μ ab w .db (.slice (some a) 0 0)
 |mp (id B:Nat) (hm:μ id 0=some (B,0)):bM μ ab w (.mp id) (.map (some B))
 |fn (f:Nat) (fst cap:List V) (fs eP:Array Value) (al:fst.length=fs.size) (aa:cap.length=eP.size) (J:∀(i:Nat) (a:V) (b:Value),fst[i]?=some a->fs[i]?=some b->bM μ ab w a b)
    (U:∀(i:Nat) (a:V) (b:Value),cap[i]?=some a->eP[i]?=some b->bM μ ab w a b):bM μ ab w (.fn f fst cap) (.func (.func f) fs eP)
 |fg (id B:Nat) (hm:μ id 0=some (B,0)):bM μ ab w (.fg id) (.func (.yield B) #[] #[])
def b0(μ:dn)(ab:Nat->Prop)(w:World)(vs:List V)(cs:List Value):Prop:=
 vs.length=cs.length/\∀(i:Nat) (a:V) (b:Value),vs[i]?=some a->cs[i]?=some b->bM μ ab w a b
structure Cb (μ:dn) (w w':World):Prop where
 size:w.heap.size<=w'.heap.size
 shape:∀(B:Nat) (arr:Array Value) (e:TypeId) (fr:Nat × Nat),w.heap[B]?=some (.cells arr e fr)->∃eB aW,w'.heap[B]?=some (.cells eB e aW)/\eB.size=arr.size
 loops:∀(B:Nat) (l:Loop),w.heap[B]?=some (.loop l)->∃tx,w'.heap[B]?=some (.loop tx)
 bT:∀B,B<w.heap.size->(∀id g b,μ id g≠some (B,b))->w'.heap[B]?=w.heap[B]?
 back:∀(B:Nat) (arr:Array Value) (e:TypeId),w'.heap[B]?=some (.cells arr e (0,0))->(∃nQ,w.heap[B]?=some (.cells nQ e (0,0)))\/w.heap.size<=B
 os:w'.os=w.os
 tape:w'.tape=w.tape
 output:w'.output=w.output
def hl{w:World}{B:Nat}{o:Obj}(h:w.heap[B]?=some o):B<w.heap.size:=(qS.1 h).1
def Cb.refl(μ w):Cb μ w w:=⟨bS _,fun _ arr _ fr h=>⟨arr,fr,h,rfl⟩,fun _ l h=>⟨l,h⟩,fun _ _ _=>rfl,fun _ arr _ h=>.inl ⟨arr,h⟩,rfl,rfl,rfl⟩
def gE.vy{μ}{ab:Nat->Prop}{w v c}(h:gE ab w v c):bM μ ab w v c:=by
 induction h with
 |s v=>exact .s v
 |agg cs vs ak _ aw=>exact .agg cs vs ak aw
 |bV cs vs ak _ aw=>exact .bV cs vs ak aw
 |eu cs B o arr e fr aI hQ aq h _=>exact .eu cs B o arr e fr aI hQ aq h
 |du es sz B o cap arr e fr aI hQ aa b5 aq h _=>exact .du es sz B o cap arr e fr aI hQ aa b5 aq h
 |il sz cap a=>exact .il sz cap a
 |db a=>exact .db a
 |fn f fst cap fs eP al aa _ _ qJ nt=>exact .fn f fst cap fs eP al aa qJ nt
def gE.mono{ab b6:Nat->Prop}{w w':World}(bJ:∀B,B<w.heap.size->b6 B->ab B)(an:∀B,B<w.heap.size->¬ab B->w'.heap[B]?=w.heap[B]?){v:V}{c:Value}(h:gE ab w v c):gE b6 w' v c:=by
 induction h with
 |s v=>exact .s v
 |agg cs vs ak _ aw=>exact .agg cs vs ak aw
 |bV cs vs ak _ aw=>exact .bV cs vs ak aw
 |eu cs B o arr e fr aI hQ aq _ aw=>exact .eu cs B o arr e fr ((an B (hl aI) hQ).trans aI) (fun h=>hQ (bJ B (hl aI) h)) aq aw
 |du es sz B o cap arr e fr aI hQ aa b5 aq _ aw=>exact .du es sz B o cap arr e fr ((an B (hl aI) hQ).trans aI) (fun h=>hQ (bJ B (hl aI) h)) aa b5 aq aw
 |il sz cap a=>exact .il sz cap a
 |db a=>exact .db a
 |fn f fst cap fs eP al aa _ _ qJ nt=>exact .fn f fst cap fs eP al aa qJ nt
def bM.mono{μ ca:dn}{ab b6:Nat->Prop}{w w':World}(gd:∀id g p,μ id g=some p->ca id g=some p)(bJ:∀B,B<w.heap.size->b6 B->ab B)(an:∀B,B<w.heap.size->¬ab B->w'.heap[B]?=w.heap[B]?)(h1:∀(B:Nat) (arr:Array Value) (e:TypeId) (fr:Nat × Nat),w.heap[B]?=some (.cells arr e fr)->∃eB aW,w'.heap[B]?=some (.cells eB e aW)/\eB.size=arr.size){v:V}{c:Value}(h:bM μ ab w v c):bM ca b6 w' v c:=by
 induction h with
 |s v=>exact .s v
 |bs v=>exact .bs v
 |agg cs vs ak _ aw=>exact .agg cs vs ak aw
 |bV cs vs ak _ aw=>exact .bV cs vs ak aw
 |ref id g off B b hm=>exact .ref id g off B b (gd _ _ _ hm)
 |eu cs B o arr e fr aI hQ aq h=>exact .eu cs B o arr e fr ((an B (hl aI) hQ).trans aI) (fun h=>hQ (bJ B (hl aI) h)) aq (fun i a b aD af=>(h i a b aD af).mono bJ an)
 |aB id g off len sz B b cap arr e hm aI aa aq=>
   obtain⟨eB,aW,J,U⟩:=h1 B arr e _ aI
   exact .aB id g off len sz B b cap eB e (gd _ _ _ hm) J aa (by omega)
 |js id g off sz B b a hm=>exact .js id g off sz B b a (gd _ _ _ hm)
 |du es sz B o cap arr e fr aI hQ aa b5 aq h=>exact .du es sz B o cap arr e fr ((an B (hl aI) hQ).trans aI) (fun h=>hQ (bJ B (hl aI) h)) aa b5 aq (fun i el j a b he aD af=>(h i el j a b he aD af).mono bJ an)
 |il sz cap a=>exact .il sz cap a
 |db a=>exact .db a
 |mp id B hm=>exact .mp id B (gd _ _ _ hm)
 |fn f fst cap fs eP al aa _ _ qJ nt=>exact .fn f fst cap fs eP al aa qJ nt
 |fg id B hm=>exact .fg id B (gd _ _ _ hm)
def bq.cur:bq->Nat->Prop
 |.cells g' _,g=>g'=g
 |.map _,g=>g=0
 |.loop ..,g=>g=0
 |.dead,_=>False
 |.bytes g' _,g=>g'=g
def bq.gen:bq->Option Nat
 |.cells g _=>some g
 |.bytes g _=>some g
 |_=>none
def bq.aha{bo:bq}{g:Nat}(h:bo.gen=some g):bo.cur g:=by
 cases bo<;>simp[bq.gen]at h<;>exact h
def KV(st:LoopState)(rP:Option rC)(Pl:Option Code):Prop:=
 match st,rP with
 |.ready,none=>Pl=none
 |.busy,none=>True
 |.done,some .ret=>Pl=some .ret
 |.done,some (.ext id)=>Pl=some (.exit id)
 |_,_=>False
def atX(aE:fD)(μ:dn)(ab:Nat->Prop)(w:World)(st:LoopState)(rP:Option rC)(tmps:List V)(params:List Nat)(assign body:cM)(l:Loop):Prop:=
 l.state=st/\KV st rP l.pending/\b0 μ ab w tmps l.tmps.toList/\l.params.toList=params/\aE l.assign assign/\aE l.body body
def sg(aE:fD)(g:Nat)(c:List V)(b:Nat)(arr:Array Value)(e:TypeId):Prop:=g=0->c.head?=some .bs->aE.N2 e=true/\b=0/\arr.size=2/\arr[0]?=some (.pointer none)
def sg.one{aE g c b arr e}(h:c.all V.one=true):sg aE g c b arr e:=fun _ hu=>by
 cases c with
 |nil=>cases hu
 |cons x c=>
   cases hu;rw[qM,dr]at h
   exact absurd h.1 (by decide)
def sg.gen{aE g c b arr e}(h:g≠0):sg aE g c b arr e:=fun a1=>absurd a1 h
def jQ(aE:fD)(μ:dn)(ab:Nat->Prop)(w:World):bq->Nat->Obj->Prop
 |.cells g c,b,.cells arr e fr=>fr=(0,0)/\b+c.length<=arr.size/\(∀(i:Nat) (a:V) (v:Value),c[i]?=some a->arr[b+i]?=some v->bM μ ab w a v)/\sg aE g c b arr e
 |.map es,b,.map arr kp=>(b=0/\MapKept.Stamped arr kp)/\arr.size=es.length/\∀(i:Nat) (k:Value) (v:V) (e:MapEntry),es[i]?=some (k,v)->arr[i]?=some e->e.key=k/\bM μ ab w v e.val
 |.bytes _ l,b,.cells arr e fr=>fr=(0,0)/\aE.mG e=true/\b+l.length<=arr.size/\∀(i:Nat) (x:UInt8),l[i]?=some x->arr[b+i]?=some (.int .u8 x.toNat)
 |.loop st rP tmps params assign body,b,.loop l=>b=0/\atX aE μ ab w st rP tmps params assign body l
 |_,_,_=>False
inductive e' (m:Nat):V->Prop
 |s (v:Value):e' m (.s v)
 |bs:e' m .bs
 |agg (cs:List V) (h:∀v∈cs,e' m v):e' m (.agg cs)
 |bV (cs:List V) (h:∀v∈cs,e' m v):e' m (.bV cs)
 |ref (id g off:Nat) (h:id<m):e' m (.ref id g off)
 |eu (cs:List V):e' m (.eu cs)
 |aB (id g off len sz:Nat) (h:id<m):e' m (.aB id g off len sz)
 |du (es:List (List V)) (sz:Nat):e' m (.du es sz)
 |db:e' m .db
 |mp (id:Nat) (h:id<m):e' m (.mp id)
 |fn (f:Nat) (a b:List V) (aD:∀v∈a,e' m v) (af:∀v∈b,e' m v):e' m (.fn f a b)
 |fg (id:Nat) (h:id<m):e' m (.fg id)
def e'.mono{m jw}(hm:m<=jw){v}(h:e' m v):e' jw v:=by
 induction h with
 |s v=>exact .s v
 |bs=>exact .bs
 |agg cs _ aw=>exact .agg cs aw
 |bV cs _ aw=>exact .bV cs aw
 |ref id g off h=>exact .ref id g off (lX h hm)
 |eu cs=>exact .eu cs
 |aB id g off len sz h=>exact .aB id g off len sz (lX h hm)
 |du es sz=>exact .du es sz
 |db=>exact .db
 |mp id h=>exact .mp id (lX h hm)
 |fn f a b _ _ qJ nt=>exact .fn f a b qJ nt
 |fg id h=>exact .fg id (lX h hm)
def bM.qL{μ}{ab:Nat->Prop}{w m}(aQ:∀id g p,μ id g=some p->id<m){v c}(h:bM μ ab w v c):e' m v:=by
 have lists:∀{cs:List V} {vs:Array Value},cs.length=vs.size->(∀(i:Nat) (a:V) (b:Value),cs[i]?=some a->vs[i]?=some b->e' m a)->∀v∈cs,e' m v:=by
  intro cs vs ak h v av;obtain⟨i,hi,rfl⟩:=xZ av
  exact h i cs[i] vs[i] (dy hi) (o8 (by omega))
 induction h with
 |s v=>exact .s v
 |bs v=>exact .bs
 |agg cs vs ak _ aw=>exact .agg cs (lists ak aw)
 |bV cs vs ak _ aw=>exact .bV cs (lists ak aw)
 |ref id g off B b hm=>exact .ref id g off (aQ _ _ _ hm)
 |eu cs=>exact .eu cs
 |aB id g off len sz B b cap arr e hm=>exact .aB id g off len sz (aQ _ _ _ hm)
 |js id g off sz B b a hm=>exact .aB id g off 0 sz (aQ _ _ _ hm)
 |du es sz=>exact .du es sz
 |il sz=>exact .du [] sz
 |db a=>exact .db
 |mp id B hm=>exact .mp id (aQ _ _ _ hm)
 |fn f fst cap fs eP al aa _ _ qJ nt=>exact .fn f fst cap (lists al qJ) (lists aa nt)
 |fg id B hm=>exact .fg id (aQ _ _ _ hm)
def nG(m:Nat):bq->Prop
 |.cells _ c=>∀v∈c,e' m v
 |.map es=>∀e∈es,e' m e.2
 |.loop _ _ t _ _ _=>∀v∈t,e' m v
 |.dead=>True
 |.bytes ..=>True
def nG.mono{m jw}(hm:m<=jw){bo}(h:nG m bo):nG jw bo:=by
 cases bo with
 |cells g c=>exact fun v av=>(h v av).mono hm
 |map es=>exact fun e he=>(h e he).mono hm
 |loop st I0 t ps a b=>exact fun v av=>(h v av).mono hm
 |dead=>trivial
 |bytes g l=>trivial
def jQ.HM{aE μ}{ab:Nat->Prop}{w m}(aQ:∀id g p,μ id g=some p->id<m){bo b}{o:Obj}(h:jQ aE μ ab w bo b o):nG m bo:=by
 cases bo with
 |cells g c=>
   cases o<;>first|exact h.elim|skip
   intro v av;obtain⟨i,hi,rfl⟩:=xZ av;obtain⟨_,J,U,_⟩:=h
   exact(U i c[i] _ (dy hi) (o8 (by omega))).qL aQ
 |map es=>
   cases o<;>first|exact h.elim|skip
   intro e he;obtain⟨i,hi,rfl⟩:=xZ he;obtain⟨_,J,U⟩:=h
   exact(U i es[i].1 es[i].2 _ (dy hi) (o8 (by omega))).2.qL aQ
 |loop st I0 t ps a b'=>
   cases o<;>first|exact h.elim|skip
   intro v av;obtain⟨_,_,_,ax,_⟩:=h;obtain⟨i,hi,rfl⟩:=xZ av;have ak:=ax.1
   exact(ax.2 i t[i] _ (dy hi) (dy (by omega))).qL aQ
 |dead=>trivial
 |bytes g l=>trivial
def b0.qL{μ}{ab:Nat->Prop}{w m}(aQ:∀id g p,μ id g=some p->id<m){vs cs}(h:b0 μ ab w vs cs):∀v∈vs,e' m v:=by
 intro v av;obtain⟨i,hi,rfl⟩:=xZ av;have ak:=h.1
 exact(h.2 i vs[i] cs[i] (dy hi) (dy (by omega))).qL aQ
structure cB (aE:fD) (μ:dn) (ab:Nat->Prop) (w:World) (H:az):Prop where
 gR:∀id g p,μ id g=some p->id<H.length
 gu:∀id g B b,μ id g=some (B,b)->ab B/\B<w.heap.size
 ly:∀(id:Nat) (bo:bq) (g B b:Nat),H[id]?=some bo->bo.cur g->μ id g=some (B,b)->∃o,w.heap[B]?=some o/\jQ aE μ ab w bo b o
 inj:∀(id g eX g' B b b':Nat),μ id g=some (B,b)->μ eX g'=some (B,b')->id=eX
 nb:∀(id g g':Nat) (bo:bq) (p:Nat × Nat),μ id g=some p->H[id]?=some bo->bo.gen=some g'->g<=g'
 wf:∀(id g:Nat) (p:Nat × Nat) (bo:bq),μ id g=some p->H[id]?=some bo->nG H.length bo
 fix:∀(B:Nat) (o:Array Value × TypeId × Nat × Nat),aE.sB B=some o->w.heap[B]?=some (.cells o.1 o.2.1 o.2.2)/\¬ab B
 zero:∀id B b,μ id 0=some (B,b)->b=0
structure dm (aE:fD) (μ:dn) (ab:Nat->Prop) (w:World) (H:az) (ca:dn) (b6:Nat->Prop) (w':World) (H':az):Prop where
 len:H.length<=H'.length
 ar:cB aE ca b6 w' H'
 ext:∀id g p,μ id g=some p->ca id g=some p
 mt:∀B,B<w.heap.size->(b6 B↔ab B)
 cj:Cb μ w w'
 ed:∀id g B b,ca id g=some (B,b)->B<w.heap.size->∃qa g0 dj,μ qa g0=some (B,dj)
 news:∀id g p,ca id g=some p->id<H.length->∃g0 ku,μ id g0=some ku
def cB.Lw{aE μ}{ab:Nat->Prop}{w H}(h:cB aE μ ab w H){id g bo p}(bu:H[id]?=some bo)(aa:bo.cur g)(hm:μ id g=some p):nG H.length bo:=by
 obtain⟨o,_,ar⟩:=h.ly id bo g p.1 p.2 bu aa hm;exact ar.HM h.gR
def cB.aw3{aE μ}{ab:Nat->Prop}{w H}(h:cB aE μ ab w H){B}(aN:¬ab B):∀id g b,μ id g≠some (B,b):=
 fun id g b e=>aN (h.gu id g B b e).1
def cB.fixed{aE:fD}{μ:dn}{ab b6:Nat->Prop}{w w':World}{H:az}(h:cB aE μ ab w H)(bJ:∀B,B<w.heap.size->b6 B->ab B)(an:∀B,B<w.heap.size->¬ab B->w'.heap[B]?=w.heap[B]?):∀(B:Nat) (o:Array Value × TypeId × Nat × Nat),aE.sB B=some o->w'.heap[B]?=some (.cells o.1 o.2.1 o.2.2)/\¬b6 B:=by
 intro B o e;obtain⟨J,U⟩:=h.fix B o e;exact⟨(an B (hl J) U).trans J,fun hm=>U (bJ B (hl J) hm)⟩
def dm.vy{aE μ}{ab:Nat->Prop}{w H ca}{b6:Nat->Prop}{w' H'}(a1:cB aE μ ab w H)(h:dm aE μ ab w H ca b6 w' H'){v c}(av:bM μ ab w v c):bM ca b6 w' v c:=
 av.mono h.ext (fun B aI hm=>(h.mt B aI).1 hm) (fun B aI hm=>h.cj.bT B aI (a1.aw3 hm)) h.cj.shape
def dm.F4{aE μ}{ab:Nat->Prop}{w H ca}{b6:Nat->Prop}{w' H'}(a1:cB aE μ ab w H)(h:dm aE μ ab w H ca b6 w' H'){v c}(av:b0 μ ab w v c):b0 ca b6 w' v c:=
 ⟨av.1,fun i a b aD af=>h.vy a1 (av.2 i a b aD af)⟩
def dm.refl{aE μ}{ab:Nat->Prop}{w H}(h:cB aE μ ab w H):dm aE μ ab w H μ ab w H:=
 ⟨bS _,h,fun _ _ _ h=>h,fun _ _=>HO,Cb.refl μ w,fun id g _ b h _=>⟨id,g,b,h⟩,fun _ g p h _=>⟨g,p,h⟩⟩
def dm.trans{aE μ}{ab:Nat->Prop}{w H X3}{agP:Nat->Prop}{ai9 Y2 zM}{Df:Nat->Prop}{DL DA}(h:dm aE μ ab w H X3 agP ai9 Y2)(k:dm aE X3 agP ai9 Y2 zM Df DL DA):dm aE μ ab w H zM Df DL DA where
 len:=k9 h.len k.len
 ar:=k.ar
 ext id g p e:=k.ext id g p (h.ext id g p e)
 mt B aI:=(k.mt B (lX aI h.cj.size)).trans (h.mt B aI)
 cj:={
  size:=k9 h.cj.size k.cj.size
  shape:=fun B arr e fr aI=>by
   obtain⟨yM,cg,J,U⟩:=h.cj.shape B arr e fr aI;obtain⟨Pd,nM,ax,aY⟩:=k.cj.shape B yM e cg J;exact⟨Pd,nM,ax,aY.trans U⟩
  loops:=fun B l aI=>by
   obtain⟨en,J⟩:=h.cj.loops B l aI;exact k.cj.loops B en J
  bT:=fun B aI aN=>by
   refine(k.cj.bT B (lX aI h.cj.size) ?_).trans (h.cj.bT B aI aN);intro id g b e;obtain⟨qa,g0,dj,ck⟩:=h.ed id g B b e aI;exact aN qa g0 dj ck
  back:=fun B arr e aI=>by
   rcases k.cj.back B arr e aI with⟨yM,J⟩|J
   .exact h.cj.back B yM e J
   .exact .inr (k9 h.cj.size J)
  os:=k.cj.os.trans h.cj.os
  tape:=k.cj.tape.trans h.cj.tape
  output:=k.cj.output.trans h.cj.output }
 ed id g B b e aI:=by
  obtain⟨sa,g1,dA,aF⟩:=k.ed id g B b e (lX aI h.cj.size);exact h.ed sa g1 B dA aF aI
 news id g p e hid:=by
  obtain⟨g1,cn,aF⟩:=k.news id g p e (lX hid h.len);exact h.news id g1 cn aF hid
section
variable {aE:fD} {μ ca:dn} {ab b6:Nat->Prop} {w w':World} {H:az}
def b0.mono(gd:∀id g p,μ id g=some p->ca id g=some p)(bJ:∀B,B<w.heap.size->b6 B->ab B)(an:∀B,B<w.heap.size->¬ab B->w'.heap[B]?=w.heap[B]?)(h1:∀(B:Nat) (arr:Array Value) (e:TypeId) (fr:Nat × Nat),w.heap[B]?=some (.cells arr e fr)->∃eB aW,w'.heap[B]?=some (.cells eB e aW)/\eB.size=arr.size){v c}(h:b0 μ ab w v c):b0 ca b6 w' v c:=
 ⟨h.1,fun i a b aD af=>(h.2 i a b aD af).mono gd bJ an h1⟩
def jQ.mono(gd:∀id g p,μ id g=some p->ca id g=some p)(bJ:∀B,B<w.heap.size->b6 B->ab B)(an:∀B,B<w.heap.size->¬ab B->w'.heap[B]?=w.heap[B]?)(h1:∀(B:Nat) (arr:Array Value) (e:TypeId) (fr:Nat × Nat),w.heap[B]?=some (.cells arr e fr)->∃eB aW,w'.heap[B]?=some (.cells eB e aW)/\eB.size=arr.size){bo b}{o:Obj}(h:jQ aE μ ab w bo b o):jQ aE ca b6 w' bo b o:=by
 cases bo with
 |cells g c=>cases o<;>first|exact h.elim|exact⟨h.1,h.2.1,fun i a v aD av=>(h.2.2.1 i a v aD av).mono gd bJ an h1,h.2.2.2⟩
 |map es=>cases o<;>first|exact h.elim|exact⟨h.1,h.2.1,fun i k v e he av=>⟨(h.2.2 i k v e he av).1,(h.2.2 i k v e he av).2.mono gd bJ an h1⟩⟩
 |loop st rP tmps params assign body=>
   cases o<;>first|exact h.elim|skip
   obtain⟨a1,J,U,ax,aY,cl,eM⟩:=h;exact⟨a1,J,U,ax.mono gd bJ an h1,aY,cl,eM⟩
 |dead=>cases o<;>exact h.elim
 |bytes g l=>cases o<;>first|exact h.elim|exact h
def jS{o:Obj}(hh:w'.heap=w.heap.push o){B}(aI:B<w.heap.size):w'.heap[B]?=w.heap[B]?:=by
 rw[hh,C7,bm (by omega)]
def x4{o:Obj}(hh:w'.heap=w.heap.push o):w'.heap[w.heap.size]?=some o:=by
 rw[hh,C7,a' rfl]
def l7(μ:dn)(id g:Nat)(p:Nat × Nat):dn:=fun i j=>if i=id/\j=g then some p else μ i j
def mS(μ id g p):l7 μ id g p id g=some p:=by simp[l7]
def wO{μ id g i j p}(h:¬(i=id/\j=g)):l7 μ id g p i j=μ i j:=by simp only[l7,bm h]
def Db{μ id g p}(aN:μ id g=none):∀i j q,μ i j=some q->l7 μ id g p i j=some q:=by
 intro i j q h;by_cases e:i=id/\j=g
 .rw[e.1,e.2,aN]at h;cases h
 .rw[wO e];exact h
def cB.atW(h:cB aE μ ab w H)(g):μ H.length g=none:=by
 cases e:μ H.length g with
 |none=>rfl
 |some p=>exact absurd (h.gR _ _ _ e) (y1 _)
def cB.L1(h:cB aE μ ab w H){id g p}(aj:g=0->p.2=0):∀i B b,l7 μ id g p i 0=some (B,b)->b=0:=by
 intro i B b e;by_cases c:i=id/\0=g
 .obtain⟨rfl,rfl⟩:=c;rw[mS]at e;cases e;exact aj rfl
 .rw[wO c]at e;exact h.zero _ _ _ e
def Hi(h:cB aE μ ab w H)(o:Obj)(bo:bq)(e1:jQ aE μ ab w bo 0 o)(hh:w'.heap=w.heap.push o)(uF:w'.os=w.os)(ua:w'.tape=w.tape)(vd:w'.output=w.output):
 dm aE μ ab w H (l7 μ H.length 0 (w.heap.size,0)) (fun B=>ab B\/B=w.heap.size) w' (H++[bo]):=by
 have gd:=Db (p:=(w.heap.size,0)) (h.atW 0)
 have bJ:∀B,B<w.heap.size->(ab B\/B=w.heap.size)->ab B:=fun B aI hm=>hm.resolve_right (by omega)
 have an:∀B,B<w.heap.size->¬ab B->w'.heap[B]?=w.heap[B]?:=fun B aI _=>jS hh aI;have h1:∀(B:Nat) (arr:Array Value) (e:TypeId) (fr:Nat × Nat),w.heap[B]?=some (.cells arr e fr)->∃eB aW,w'.heap[B]?=some (.cells eB e aW)/\eB.size=arr.size:=
  fun B arr e fr aI=>⟨arr,fr,(jS hh (hl aI)).trans aI,rfl⟩
 have vb:∀(B:Nat) (arr:Array Value) (e:TypeId) (fr:Nat × Nat),w'.heap[B]?=some (.cells arr e fr)->(∃nQ,w.heap[B]?=some (.cells nQ e fr))\/(w.heap.size<=B/\fr=(0,0)):=by
  intro B arr e fr aI;by_cases bt:B<w.heap.size
  .exact .inl ⟨arr,(jS hh bt).symm.trans aI⟩
  .have nB:=aI;rw[hh,C7]at nB;split at nB
   .rename_i apW
    refine .inr ⟨by omega,?_⟩
    cases nB
    cases bo<;>first|exact e1.elim|exact e1.1
   .rw[adw (by omega)]at nB;cases nB
 have de:w'.heap.size=w.heap.size+1:=by rw[hh,GM]
 have gz:∀id g p,l7 μ H.length 0 (w.heap.size,0) id g=some p->(id=H.length/\g=0/\p=(w.heap.size,0))\/(id<H.length/\μ id g=some p):=by
  intro id g p e;by_cases c:id=H.length/\g=0
  .obtain⟨rfl,rfl⟩:=c;rw[mS]at e;exact .inl ⟨rfl,rfl,(hc e).symm⟩
  .rw[wO c]at e;exact .inr ⟨h.gR _ _ _ e,e⟩
 refine⟨by simp,⟨?_,?_,?_,?_,?_,?_,h.fixed bJ an,h.L1 (fun _=>rfl)⟩,gd,fun B aI=>⟨bJ B aI,.inl⟩,⟨by omega,h1,fun B l aI=>⟨l,(jS hh (hl aI)).trans aI⟩,fun B aI _=>jS hh aI,(fun B arr e h=>(vb B arr e (0,0) h).imp (fun x=>x) And.left),uF,ua,vd⟩,?_,?_⟩
 .intro id g p e
  rcases gz id g p e with⟨rfl,_,_⟩|⟨ak,_⟩<;>simp<;>omega
 .intro id g B b e
  rcases gz id g _ e with⟨_,_,aj⟩|⟨_,bw⟩
  .cases aj;exact⟨.inr rfl,by omega⟩
  .exact⟨.inl (h.gu _ _ _ _ bw).1,by have:=(h.gu _ _ _ _ bw).2;omega⟩
 .intro id iF g B b bu aa e
  rcases gz id g _ e with⟨rfl,rfl,aj⟩|⟨ak,bw⟩
  .cases aj;rw[gB (bS _)]at bu;simp at bu;subst bu;exact⟨o,x4 hh,e1.mono gd bJ an h1⟩
  .rw[d' ak]at bu;obtain⟨o',oS,ar⟩:=h.ly id iF g B b bu aa bw;exact⟨o',(jS hh (hl oS)).trans oS,ar.mono gd bJ an h1⟩
 .intro id g eX g' B b b' aF aK
  rcases gz id g _ aF with⟨bC,_,cn⟩|⟨en,ob⟩<;>rcases gz eX g' _ aK with⟨bP,_,dK⟩|⟨e8,nY⟩
  .rw[bC,bP]
  .cases cn;have:=(h.gu _ _ _ _ nY).2;omega
  .cases dK;have:=(h.gu _ _ _ _ ob).2;omega
  .exact h.inj _ _ _ _ _ _ _ ob nY
 .intro id g g' c p e bu
  rcases gz id g _ e with⟨rfl,rfl,_⟩|⟨ak,bw⟩
  .exact fun _=>fa _
  .rw[d' ak]at bu;exact h.nb _ _ _ _ _ bw bu
 .intro id g p iF e bu
  rcases gz id g _ e with⟨rfl,_,_⟩|⟨ak,bw⟩
  .rw[gB (bS _)]at bu;simp at bu;subst bu
   exact(e1.HM h.gR).mono (by simp)
  .rw[d' ak]at bu
   exact(h.wf id g _ iF bw bu).mono (by simp)
 .intro id g B b e aI
  rcases gz id g _ e with⟨_,_,aj⟩|⟨_,bw⟩
  .cases aj;omega
  .exact⟨_,_,_,bw⟩
 .intro id g p e hid
  rcases gz id g _ e with⟨rfl,_,_⟩|⟨_,bw⟩
  .omega
  .exact⟨_,_,bw⟩
def heap_set{o':Obj}{B}(hh:w'.heap=w.heap.setIfInBounds B o'){K}(dq:K≠B):w'.heap[K]?=w.heap[K]?:=by
 rw[hh,WH (by omega)]
def Kj{o':Obj}{B}(hh:w'.heap=w.heap.setIfInBounds B o')(aI:B<w.heap.size):w'.heap[B]?=some o':=by
 rw[hh,anL aI]
def ah9(h:cB aE μ ab w H){id g B b:Nat}{bo iF:bq}{o o':Obj}(g' b':Nat)(hid:H[id]?=some bo)(Hq:bo.cur g)(hm:μ id g=some (B,b))(aT:w.heap[B]?=some o)(vh:∀arr e fr,o=.cells arr e fr->∃eB aW,o'=.cells eB e aW/\eB.size=arr.size)(SL:∀l,o=.loop l->∃tx,o'=.loop tx)(zB:g'=g/\b'=b\/(μ id g'=none/\g'≠0))(k0:∀j,iF.cur j->j=g')(rr:∀j,iF.gen=some j->∀k q,μ id k=some q->k<=j)(hh:w'.heap=w.heap.setIfInBounds B o')(uF:w'.os=w.os)(ua:w'.tape=w.tape)(vd:w'.output=w.output)(FN:nG H.length iF)(e1:iF.cur g'->∀ca b6,(∀i j q,μ i j=some q->ca i j=some q)->(∀K,K<w.heap.size->(b6 K↔ab K))->jQ aE ca b6 w' iF b' o')(QF:∀arr e,o'=.cells arr e (0,0)->∃nQ,o=.cells nQ e (0,0)):
 dm aE μ ab w H (l7 μ id g' (B,b')) ab w' (H.set id iF):=by
 have bt:B<w.heap.size:=hl aT
 have Q1:g'=0->(B,b').2=0:=by
  intro e
  rcases zB with⟨bC,bP⟩|⟨_,aN⟩
  .subst bP;rw[e]at bC;rw[<- bC]at hm;exact h.zero _ _ _ hm
  .exact absurd e aN
 have gd:∀i j q,μ i j=some q->l7 μ id g' (B,b') i j=some q:=by
  rcases zB with⟨rfl,rfl⟩|aN
  .intro i j q e;by_cases c:i=id/\j=g'
   .obtain⟨rfl,rfl⟩:=c;rw[hm]at e;rw[mS];exact e
   .rw[wO c];exact e
  .exact Db aN.1
 have an:∀K,K<w.heap.size->¬ab K->w'.heap[K]?=w.heap[K]?:=fun K _ aN=>heap_set hh (fun e=>aN (e▸(h.gu _ _ _ _ hm).1))
 have h1:∀(K:Nat) (arr:Array Value) (e:TypeId) (fr:Nat × Nat),w.heap[K]?=some (.cells arr e fr)->∃eB aW,w'.heap[K]?=some (.cells eB e aW)/\eB.size=arr.size:=by
  intro K arr e fr bE;by_cases c:K=B
  .subst c;rw[aT]at bE;obtain⟨eB,aW,aF,aK⟩:=vh arr e fr (hc bE)
   exact⟨eB,aW,by rw[Kj hh bt,aF],aK⟩
  .exact⟨arr,fr,(heap_set hh c).trans bE,rfl⟩
 have Ax:∀(K:Nat) (l:Loop),w.heap[K]?=some (.loop l)->∃tx,w'.heap[K]?=some (.loop tx):=by
  intro K l bE;by_cases c:K=B
  .subst c;rw[aT]at bE;obtain⟨tx,aF⟩:=SL l (hc bE)
   exact⟨tx,by rw[Kj hh bt,aF]⟩
  .exact⟨l,(heap_set hh c).trans bE⟩
 have de:w'.heap.size=w.heap.size:=by rw[hh,Array.size_setIfInBounds]
 have vb:∀(K:Nat) (arr:Array Value) (e:TypeId),w'.heap[K]?=some (.cells arr e (0,0))->(∃nQ,w.heap[K]?=some (.cells nQ e (0,0)))\/w.heap.size<=K:=by
  intro K arr e bE;by_cases c:K=B
  .subst c;rw[Kj hh bt]at bE;obtain⟨nQ,a1⟩:=QF arr e (hc bE)
   exact .inl ⟨nQ,by rw[aT,a1]⟩
  .exact .inl ⟨arr,(heap_set hh c).symm.trans bE⟩
 have o0:id<H.length:=(cC.1 hid).1
 have gz:∀i j p,l7 μ id g' (B,b') i j=some p->(i=id/\j=g'/\p=(B,b'))\/(¬(i=id/\j=g')/\μ i j=some p):=by
  intro i j p e;by_cases c:i=id/\j=g'
  .obtain⟨rfl,rfl⟩:=c;rw[mS]at e;exact .inl ⟨rfl,rfl,(hc e).symm⟩
  .rw[wO c]at e;exact .inr ⟨c,e⟩
 refine⟨by simp,⟨?_,?_,?_,?_,?_,?_,h.fixed (fun _ _ h=>h) (fun K bE aN=>heap_set hh (fun e=>aN (e▸(h.gu _ _ _ _ hm).1))),h.L1 Q1⟩,gd,fun _ _=>HO,⟨by omega,h1,Ax,fun K _ aN=>heap_set hh (fun e=>aN id g b (e▸hm)),vb,uF,ua,vd⟩,?_,?_⟩
 .intro i j p e;rw[eF]
  rcases gz i j p e with⟨rfl,_,_⟩|⟨_,bw⟩
  .exact o0
  .exact h.gR _ _ _ bw
 .intro i j K k e
  rcases gz i j _ e with⟨_,_,aj⟩|⟨_,bw⟩
  .cases aj;exact⟨(h.gu _ _ _ _ hm).1,by omega⟩
  .exact⟨(h.gu _ _ _ _ bw).1,by have:=(h.gu _ _ _ _ bw).2;omega⟩
 .intro i Bc j K k bu aa e;by_cases c:i=id
  .subst c;rw[qq o0]at bu;cases bu;have:=k0 j aa;subst this;rw[mS]at e;cases e;exact⟨o',Kj hh bt,e1 aa _ _ gd (fun _ _=>HO)⟩
  .rw[cf (gG c)]at bu
   rcases gz i j _ e with⟨r,_,_⟩|⟨_,bw⟩
   .exact absurd r c
   .have dq:K≠B:=fun eq=>by
     subst eq;exact c (h.inj _ _ _ _ _ _ _ bw hm)
    obtain⟨fK,nx,ar⟩:=h.ly i Bc j K k bu aa bw;exact⟨fK,(heap_set hh dq).trans nx,ar.mono gd (fun _ _ hm=>hm) an h1⟩
 .intro i j wk m' K k gT aF aK
  rcases gz i j _ aF with⟨bC,_,cn⟩|⟨_,ob⟩<;>rcases gz wk m' _ aK with⟨bP,_,dK⟩|⟨_,nY⟩
  .rw[bC,bP]
  .cases cn;rw[bC];exact h.inj _ _ _ _ _ _ _ hm nY
  .cases dK;rw[bP];exact h.inj _ _ _ _ _ _ _ ob hm
  .exact h.inj _ _ _ _ _ _ _ ob nY
 .intro i j m' c p e bu;by_cases ci:i=id
  .subst ci;rw[qq o0]at bu;cases bu
   rcases gz i j _ e with⟨_,rfl,_⟩|⟨_,bw⟩
   .intro bb;have:=k0 m' (bq.aha bb);omega
   .exact fun bb=>rr _ bb _ _ bw
  .rw[cf (gG ci)]at bu
   rcases gz i j _ e with⟨r,_,_⟩|⟨_,bw⟩
   .exact absurd r ci
   .exact h.nb _ _ _ _ _ bw bu
 .intro i j p Bc e bu;rw[eF];by_cases ci:i=id
  .subst ci;rw[qq o0]at bu;cases bu;exact FN
  .rw[cf (gG ci)]at bu
   rcases gz i j _ e with⟨r,_,_⟩|⟨_,bw⟩
   .exact absurd r ci
   .exact h.wf i j _ Bc bw bu
 .intro i j K k e _
  rcases gz i j _ e with⟨_,_,aj⟩|⟨_,bw⟩
  .cases aj;exact⟨_,_,_,hm⟩
  .exact⟨_,_,_,bw⟩
 .intro i j p e _
  rcases gz i j _ e with⟨rfl,_,_⟩|⟨_,bw⟩
  .exact⟨_,_,hm⟩
  .exact⟨_,_,bw⟩
def EA(h:cB aE μ ab w H){id g B b bo iF}{o o':Obj}(g' b')(hid:H[id]?=some bo)(Hq:bo.cur g)(hm:μ id g=some (B,b))(aT:w.heap[B]?=some o)(vh:∀arr e fr,o=.cells arr e fr->∃eB,o'=.cells eB e fr/\eB.size=arr.size)(SL:∀l,o=.loop l->∃tx,o'=.loop tx)(zB:g'=g/\b'=b\/(μ id g'=none/\g'≠0))(k0:∀j,iF.cur j->j=g')(rr:∀j c,iF=.cells j c->∀k q,μ id k=some q->k<=j)(hh:w'.heap=w.heap.setIfInBounds B o')(uF:w'.os=w.os)(ua:w'.tape=w.tape)(vd:w'.output=w.output)(FN:nG H.length iF)(e1:iF.cur g'->∀ca b6,(∀i j q,μ i j=some q->ca i j=some q)->(∀K,K<w.heap.size->(b6 K↔ab K))->jQ aE ca b6 w' iF b' o')(QF:∀arr e fr,o'=.cells arr e fr->∃nQ,o=.cells nQ e fr:=by intro _ _ _ e;cases e<;>exact⟨_,rfl⟩)(tA:∀g l,iF≠.bytes g l:=by intro _ _ e;cases e):
 dm aE μ ab w H (l7 μ id g' (B,b')) ab w' (H.set id iF):=
 ah9 h g' b' hid Hq hm aT (fun arr e fr he=>(vh arr e fr he).imp fun _ x=>⟨fr,x⟩) SL zB k0 (fun j br=>match iF,br,rr,tA with|.cells g c,br,rr,_=>by cases br;exact rr _ _ rfl|.bytes g l,_,_,tA=>(tA g l rfl).elim) hh uF ua vd FN e1 (fun arr e he=>QF arr e (0,0) he)
def akP(h:cB aE μ ab w H){id:Nat}{bo iF:bq}(o':Obj)(g':Nat)(hid:H[id]?=some bo){g0:Nat}{ku:Nat × Nat}(aw0:μ id g0=some ku)(zB:μ id g'=none)(k0:∀j,iF.cur j->j=g')(rr:∀j,iF.gen=some j->∀k q,μ id k=some q->k<=j)(e1:jQ aE μ ab w iF 0 o')(hh:w'.heap=w.heap.push o')(uF:w'.os=w.os)(ua:w'.tape=w.tape)(vd:w'.output=w.output):
 dm aE μ ab w H (l7 μ id g' (w.heap.size,0)) (fun B=>ab B\/B=w.heap.size) w' (H.set id iF):=by
 have gd:=Db (p:=(w.heap.size,0)) zB
 have bJ:∀B,B<w.heap.size->(ab B\/B=w.heap.size)->ab B:=fun B aI hm=>hm.resolve_right (by omega)
 have an:∀B,B<w.heap.size->¬ab B->w'.heap[B]?=w.heap[B]?:=fun B aI _=>jS hh aI;have h1:∀(B:Nat) (arr:Array Value) (e:TypeId) (fr:Nat × Nat),w.heap[B]?=some (.cells arr e fr)->∃eB aW,w'.heap[B]?=some (.cells eB e aW)/\eB.size=arr.size:=
  fun B arr e fr aI=>⟨arr,fr,(jS hh (hl aI)).trans aI,rfl⟩
 have vb:∀(B:Nat) (arr:Array Value) (e:TypeId) (fr:Nat × Nat),w'.heap[B]?=some (.cells arr e fr)->(∃nQ,w.heap[B]?=some (.cells nQ e fr))\/(w.heap.size<=B/\fr=(0,0)):=by
  intro B arr e fr aI;by_cases bt:B<w.heap.size
  .exact .inl ⟨arr,(jS hh bt).symm.trans aI⟩
  .have nB:=aI;rw[hh,C7]at nB;split at nB
   .rename_i apW
    refine .inr ⟨by omega,?_⟩
    cases nB
    cases iF<;>first|exact e1.elim|exact e1.1
   .rw[adw (by omega)]at nB;cases nB
 have de:w'.heap.size=w.heap.size+1:=by rw[hh,GM]
 have o0:id<H.length:=(cC.1 hid).1
 have gz:∀i j p,l7 μ id g' (w.heap.size,0) i j=some p->(i=id/\j=g'/\p=(w.heap.size,0))\/(¬(i=id/\j=g')/\μ i j=some p):=by
  intro i j p e;by_cases c:i=id/\j=g'
  .obtain⟨rfl,rfl⟩:=c;rw[mS]at e;exact .inl ⟨rfl,rfl,(hc e).symm⟩
  .rw[wO c]at e;exact .inr ⟨c,e⟩
 refine⟨by simp,⟨?_,?_,?_,?_,?_,?_,h.fixed bJ an,h.L1 (fun _=>rfl)⟩,gd,fun B aI=>⟨bJ B aI,.inl⟩,⟨by omega,h1,fun B l aI=>⟨l,(jS hh (hl aI)).trans aI⟩,fun B aI _=>jS hh aI,(fun B arr e h=>(vb B arr e (0,0) h).imp (fun x=>x) And.left),uF,ua,vd⟩,?_,?_⟩
 .intro i j p e;rw[eF]
  rcases gz i j p e with⟨rfl,_,_⟩|⟨_,bw⟩
  .exact o0
  .exact h.gR _ _ _ bw
 .intro i j K k e
  rcases gz i j _ e with⟨_,_,aj⟩|⟨_,bw⟩
  .cases aj;exact⟨.inr rfl,by omega⟩
  .exact⟨.inl (h.gu _ _ _ _ bw).1,by have:=(h.gu _ _ _ _ bw).2;omega⟩
 .intro i Bc j K k bu aa e;by_cases c:i=id
  .subst c;rw[qq o0]at bu;cases bu;have:=k0 j aa;subst this;rw[mS]at e;cases e;exact⟨o',x4 hh,e1.mono gd bJ an h1⟩
  .rw[cf (gG c)]at bu
   rcases gz i j _ e with⟨r,_,_⟩|⟨_,bw⟩
   .exact absurd r c
   .obtain⟨fK,nx,ar⟩:=h.ly i Bc j K k bu aa bw;exact⟨fK,(jS hh (hl nx)).trans nx,ar.mono gd bJ an h1⟩
 .intro i j wk m' K k gT aF aK
  rcases gz i j _ aF with⟨bC,_,cn⟩|⟨_,ob⟩<;>rcases gz wk m' _ aK with⟨bP,_,dK⟩|⟨_,nY⟩
  .rw[bC,bP]
  .cases cn;have:=(h.gu _ _ _ _ nY).2;omega
  .cases dK;have:=(h.gu _ _ _ _ ob).2;omega
  .exact h.inj _ _ _ _ _ _ _ ob nY
 .intro i j m' c p e bu;by_cases ci:i=id
  .subst ci;rw[qq o0]at bu;cases bu
   rcases gz i j _ e with⟨_,rfl,_⟩|⟨_,bw⟩
   .intro bb;have:=k0 m' (bq.aha bb);omega
   .exact fun bb=>rr _ bb _ _ bw
  .rw[cf (gG ci)]at bu
   rcases gz i j _ e with⟨r,_,_⟩|⟨_,bw⟩
   .exact absurd r ci
   .exact h.nb _ _ _ _ _ bw bu
 .intro i j p Bc e bu;rw[eF];by_cases ci:i=id
  .subst ci;rw[qq o0]at bu;cases bu;exact e1.HM h.gR
  .rw[cf (gG ci)]at bu
   rcases gz i j _ e with⟨r,_,_⟩|⟨_,bw⟩
   .exact absurd r ci
   .exact h.wf i j _ Bc bw bu
 .intro i j K k e aI
  rcases gz i j _ e with⟨_,_,aj⟩|⟨_,bw⟩
  .cases aj;omega
  .exact⟨_,_,_,bw⟩
 .intro i j p e _
  rcases gz i j _ e with⟨rfl,_,_⟩|⟨_,bw⟩
  .exact⟨_,_,aw0⟩
  .exact⟨_,_,bw⟩
def Xz(h:cB aE μ ab w H)(o:Obj)(hh:w'.heap=w.heap.push o)(uF:w'.os=w.os)(ua:w'.tape=w.tape)(vd:w'.output=w.output):dm aE μ ab w H μ ab w' H:=by
 have an:∀B,B<w.heap.size->¬ab B->w'.heap[B]?=w.heap[B]?:=fun B aI _=>jS hh aI;have h1:∀(B:Nat) (arr:Array Value) (e:TypeId) (fr:Nat × Nat),w.heap[B]?=some (.cells arr e fr)->∃eB aW,w'.heap[B]?=some (.cells eB e aW)/\eB.size=arr.size:=
  fun B arr e fr aI=>⟨arr,fr,(jS hh (hl aI)).trans aI,rfl⟩
 have vb:∀(B:Nat) (arr:Array Value) (e:TypeId) (fr:Nat × Nat),w'.heap[B]?=some (.cells arr e fr)->(∃nQ,w.heap[B]?=some (.cells nQ e fr))\/w.heap.size<=B:=by
  intro B arr e fr aI;by_cases bt:B<w.heap.size
  .exact .inl ⟨arr,(jS hh bt).symm.trans aI⟩
  .exact .inr (by omega)
 have de:w'.heap.size=w.heap.size+1:=by rw[hh,GM]
 refine⟨bS _,⟨h.gR,fun id g B b e=>⟨(h.gu id g B b e).1,by have:=(h.gu id g B b e).2;omega⟩,fun id bo g B b bu aa e=>?_,h.inj,h.nb,h.wf,h.fixed (fun _ _ h=>h) an,h.zero⟩,fun _ _ _ h=>h,fun _ _=>HO,
  ⟨by omega,h1,fun B l aI=>⟨l,(jS hh (hl aI)).trans aI⟩,fun B aI _=>jS hh aI,fun B arr e h=>vb B arr e (0,0) h,uF,ua,vd⟩,fun id g _ b e _=>⟨id,g,b,e⟩,fun _ g p e _=>⟨g,p,e⟩⟩
 obtain⟨fK,nx,ar⟩:=h.ly id bo g B b bu aa e;exact⟨fK,(jS hh (hl nx)).trans nx,ar.mono (fun _ _ _ h=>h) (fun _ _ h=>h) an h1⟩
def KT(h:cB aE μ ab w H)(hh:w'.heap=w.heap)(uF:w'.os=w.os)(ua:w'.tape=w.tape)(vd:w'.output=w.output):dm aE μ ab w H μ ab w' H:=by
 have an:∀B,B<w.heap.size->¬ab B->w'.heap[B]?=w.heap[B]?:=fun B aI _=>by rw[hh]
 have h1:∀(B:Nat) (arr:Array Value) (e:TypeId) (fr:Nat × Nat),w.heap[B]?=some (.cells arr e fr)->∃eB aW,w'.heap[B]?=some (.cells eB e aW)/\eB.size=arr.size:=
  fun B arr e fr aI=>⟨arr,fr,by rw[hh];exact aI,rfl⟩
 refine⟨bS _,⟨h.gR,fun id g B b e=>by rw[hh];exact h.gu id g B b e,fun id bo g B b bu aa e=>?_,h.inj,h.nb,h.wf,h.fixed (fun _ _ h=>h) an,h.zero⟩,fun _ _ _ h=>h,fun _ _=>HO,
  ⟨by rw[hh];exact bS _,h1,fun B l aI=>⟨l,by rw[hh];exact aI⟩,fun B aI _=>by rw[hh],fun B arr e aI=>.inl ⟨arr,by rw[hh]at aI;exact aI⟩,uF,ua,vd⟩,fun id g _ b e _=>⟨id,g,b,e⟩,fun _ g p e _=>⟨g,p,e⟩⟩
 obtain⟨fK,nx,ar⟩:=h.ly id bo g B b bu aa e
 exact⟨fK,by rw[hh];exact nx,ar.mono (fun _ _ _ h=>h) (fun _ _ h=>h) an h1⟩
end
open Go.RowKit
section
variable {aE:fD} {μ ca:dn} {ab b6:Nat->Prop} {w w':World} {H H':az} {P:Program}
def b0.nil:b0 μ ab w [] []:=⟨rfl,fun _ _ _ h=>by simp at h⟩
def b0.cons{v c vs cs}(h:bM μ ab w v c)(t:b0 μ ab w vs cs):b0 μ ab w (v::vs) (c::cs):=
 ⟨by simp[t.1],fun i a b aD af=>by
  cases i with
  |zero=>simp at aD af;subst aD;subst af;exact h
  |succ i=>simp at aD af;exact t.2 i a b aD af⟩
def bM.cons{v c vs cs}(h:bM μ ab w v c)(t:b0 μ ab w vs cs):b0 μ ab w (v::vs) (c::cs):=b0.cons h t
def b0.get{vs cs}(h:b0 μ ab w vs cs){i:Nat}{a}(aD:vs[i]?=some a):∃b,cs[i]?=some b/\bM μ ab w a b:=by
 have ak:i<cs.length:=by rw[<- h.1];exact(cC.1 aD).1
 exact⟨cs[i],dy ak,h.2 i a _ aD (dy ak)⟩
def b0.append{a b c d}(h:b0 μ ab w a c)(k:b0 μ ab w b d):b0 μ ab w (a++b) (c++d):=
 ⟨by simp[h.1,k.1],fun i x y ae bA=>by
  by_cases hi:i<a.length
  .rw[d' hi]at ae
   rw[d' (by rw[<- h.1];exact hi)]at bA
   exact h.2 i x y ae bA
  .rw[gB (by omega)]at ae
   rw[gB (by rw[<- h.1];omega),<- h.1]at bA
   exact k.2 _ x y ae bA⟩
def b0.drop{a c}(h:b0 μ ab w a c)(n):b0 μ ab w (a.drop n) (c.drop n):=
 ⟨by simp[h.1],fun i x y ae bA=>by
  rw[h4]at ae bA;exact h.2 _ x y ae bA⟩
def b0.take{a c}(h:b0 μ ab w a c)(n):b0 μ ab w (a.take n) (c.take n):=
 ⟨by simp[h.1],fun i x y ae bA=>by
  have hi:i<n:=by have:=(cC.1 ae).1;simp at this;omega
  rw[iB hi]at ae bA;exact h.2 _ x y ae bA⟩
def b0.set{a c}(h:b0 μ ab w a c)(i){x y}(azB:bM μ ab w x y):b0 μ ab w (a.set i x) (c.set i y):=
 ⟨by simp[h.1],fun j u v hu av=>by
  by_cases br:i=j
  .subst br
   have ak:i<a.length:=by have:=(cC.1 hu).1;simpa using this
   rw[qq ak]at hu
   rw[qq (by rw[<- h.1];exact ak)]at av
   cases hu;cases av;exact azB
  .rw[cf br]at hu av;exact h.2 j u v hu av⟩
def b0.OC(n){v c}(h:b0 μ ab w v c):b0 μ ab w (List.replicate n v).flatten (List.replicate n c).flatten:=by
 induction n with
 |zero=>exact b0.nil
 |succ n aw=>simp only[amp,uV];exact h.append aw
def b0.aAa{α:Type}{l:List α}{f:α->Option V}{g:α->Value}(al:∀x∈l,∀v,f x=some v->bM μ ab w v (g x)):∀{vs:List V},l.mapM f=some vs->b0 μ ab w vs (l.map g):=by
 induction l with
 |nil=>intro vs h;simp at h;subst h;exact b0.nil
 |cons x l aw=>
   intro vs h;simp only[n1,fF,fW,eL]at h;obtain⟨v,av,us,ic,e⟩:=h;cases e
   exact(al x (by simp) v av).cons (aw (fun y bA=>al y (by simp[bA])) ic)
theorem eA{v c}(h:bM μ ab w (.s v) c):c=v:=by cases h;rfl
def SV{cs c}(h:bM μ ab w (.agg cs) c):∃vs:Array Value,c=.agg vs/\b0 μ ab w cs vs.toList:=by
 cases h with|agg _ vs ak h=>exact⟨vs,rfl,by simpa using ak,fun i a b aD af=>h i a b aD (by simpa using af)⟩
def aBm{cs c}(h:bM μ ab w (.bV cs) c):∃vs:Array Value,c=.tuple vs/\b0 μ ab w cs vs.toList:=by
 cases h with|bV _ vs ak h=>exact⟨vs,rfl,by simpa using ak,fun i a b aD af=>h i a b aD (by simpa using af)⟩
def G1{id g off c}(h:bM μ ab w (.ref id g off) c):∃B b,μ id g=some (B,b)/\c=.pointer (some ⟨B,b+off,none⟩):=by
 cases h with|ref _ _ _ B b hm=>exact⟨B,b,hm,rfl⟩
def Lv{id c}(h:bM μ ab w (.mp id) c):∃B,μ id 0=some (B,0)/\c=.map (some B):=by
 cases h with|mp _ B hm=>exact⟨B,hm,rfl⟩
def H5{cs vs}(h:b0 μ ab w cs vs):bM μ ab w (.agg cs) (.agg vs.toArray):=
 .agg cs _ (by simpa using h.1) (fun i a b aD af=>h.2 i a b aD (by simpa using af))
def aIl{cs vs}(h:b0 μ ab w cs vs):bM μ ab w (.bV cs) (.tuple vs.toArray):=
 .bV cs _ (by simpa using h.1) (fun i a b aD af=>h.2 i a b aD (by simpa using af))
def wG{v c}(h:bM μ ab w v c)(hu:v.cells.all V.one=true):b0 μ ab w v.cells c.cells.toList:=by
 cases h with
 |agg cs vs ak h=>exact⟨by simpa[V.cells,Value.cells]using ak,fun i a b aD af=>h i a b aD (by simpa[Value.cells]using af)⟩
 |s=>cases c<;>first|(simp[V.cells,V.one]at hu;done)|exact bM.cons (.s _) b0.nil
 |bs v=>simp[V.cells,V.one]at hu
 |bV cs vs ak h=>simp[V.cells,V.one]at hu
 |ref id g off B b hm=>exact bM.cons (.ref id g off B b hm) b0.nil
 |eu cs B o arr e fr aI bJ aq h=>exact bM.cons (.eu cs B o arr e fr aI bJ aq h) b0.nil
 |aB id g off len sz B b cap arr e hm aI aa aq=>exact bM.cons (.aB id g off len sz B b cap arr e hm aI aa aq) b0.nil
 |js id g off sz B b a hm=>exact bM.cons (.js id g off sz B b a hm) b0.nil
 |du es sz B o cap arr e fr aI bJ aa b5 aq h=>exact bM.cons (.du es sz B o cap arr e fr aI bJ aa b5 aq h) b0.nil
 |il sz cap a=>exact bM.cons (.il sz cap a) b0.nil
 |db a=>exact bM.cons (.db a) b0.nil
 |mp id B hm=>exact bM.cons (.mp id B hm) b0.nil
 |fn f fst cap fs eP al aa J U=>exact bM.cons (.fn f fst cap fs eP al aa J U) b0.nil
 |fg id B hm=>exact bM.cons (.fg id B hm) b0.nil
def ayb{v c}(h:bM μ ab w v c)(hu:v.one=true):c.oneCell'=true:=by
 cases h<;>first|rfl|(simp[V.one]at hu;done)|skip
 cases c<;>first|rfl|(simp[V.one]at hu;done)
def Oz{vs cs}(h:b0 μ ab w vs cs)(hu:vs.all V.one=true):∀c∈cs,c.oneCell'=true:=by
 intro c aa;obtain⟨i,hi,rfl⟩:=xZ aa
 have ot:i<vs.length:=by rw[h.1];exact hi
 exact ayb (h.2 i vs[i] cs[i] (dy ot) (dy hi)) (by rw[dU]at hu;exact hu _ (wa ot))
def N9{v x}(h:Dy v=some x):x=.s v/\v.oneCell'=true:=by
 unfold Dy at h;split at h<;>simp_all[Value.oneCell']
def xU{v x}(h:B1 v=some x):bM μ ab w x v:=by
 unfold B1 at h;split at h
 .rename_i cs;rw[fo]at h;obtain⟨us,ic,rfl⟩:=h
  have:=b0.aAa (μ:=μ) (ab:=ab) (w:=w) (g:=id) (fun x _ v av=>by rw[(N9 av).1];exact .s x) ic
  simp at this
  simpa using H5 this
 .rw[(N9 h).1];exact .s v
def c9(μ:dn)(ab:Nat->Prop)(w:World)(fr:List V)(tmps:Array Value):Prop:=b0 μ ab w fr tmps.toList
def c9.getD{fr tmps}(h:c9 μ ab w fr tmps)(t:Nat):bM μ ab w (fr.getD t .bs) (tmps.getD t Go.undef):=by
 by_cases ak:t<fr.length
 .obtain⟨b,af,av⟩:=h.get (dy ak)
  have fY:tmps[t]?=some b:=by simpa using af
  have aF:fr.getD t .bs=fr[t]:=by simp[List.getD,ak]
  have aK:tmps.getD t Go.undef=b:=by simp[fY]
  rw[aF,aK];exact av
 .have aF:fr.getD t .bs=.bs:=by simp[List.getD,ak]
  rw[aF];exact .bs _
def dY{a:Act}{fr:List V}(h:c9 μ ab w fr a.tmps){x:Operand}{y:cY}(aa:lc x=some y):bM μ ab w (aX fr y) (a.eval x):=by
 cases x with
 |tmp t=>simp[lc]at aa;subst aa;exact h.getD t
 |const v=>
   simp only[lc,fo]at aa;obtain⟨u,hu,rfl⟩:=aa;exact xU hu
 |global g=>simp[lc]at aa
 |func f=>
   simp[lc]at aa;subst aa
   exact .fn f [] [] #[] #[] rfl rfl (fun _ _ _ h=>by simp at h) (fun _ _ _ h=>by simp at h)
def Di{a:Act}{fr:List V}(h:c9 μ ab w fr a.tmps){xs:Array Operand}{dW:List cY}(aa:zj xs=some dW):b0 μ ab w (dW.map (aX fr)) (xs.map a.eval).toList:=by
 rw[Array.toList_map];unfold zj at aa;generalize xs.toList=l at aa
 induction l generalizing dW with
 |nil=>simp at aa;subst aa;exact b0.nil
 |cons x l aw=>
   simp only[n1,fF,fW,eL]at aa;obtain⟨v,av,us,ic,e⟩:=aa;cases e;exact(dY h av).cons (aw ic)
def au4{a:Act}{fr:List V}(h:c9 μ ab w fr a.tmps){ps:Array (Nat × Operand)}{mW:List (Nat × cY)}(aa:Ak ps=some mW):
 (mW.map (·.1))=ps.toList.map (·.1)/\b0 μ ab w (mW.map fun p=>aX fr p.2) (ps.toList.map fun p=>a.eval p.2):=by
 unfold Ak at aa;generalize ps.toList=l at aa
 induction l generalizing mW with
 |nil=>simp at aa;subst aa;exact⟨rfl,b0.nil⟩
 |cons x l aw=>
   simp only[n1,fF,fW,eL,fo]at aa;obtain⟨v,⟨y,bA,rfl⟩,us,ic,e⟩:=aa;cases e;obtain⟨i1,i2⟩:=aw ic
   exact⟨by simp[i1],(dY h bA).cons i2⟩
def z7(μ:dn)(ab:Nat->Prop)(w:World)(cs:List V)(a:Addr):Prop:=
 ∃vs:List Value,b0 μ ab w cs vs/\∀(j:Nat) (v:Value),vs[j]?=some v->w.cell? (a.add j)=some v
theorem wZ(B o j):(⟨B,o,none⟩:Addr).add j=⟨B,o+j,none⟩:=by
 unfold Addr.add;split
 .rename_i h;subst h;rfl
 .rfl
def cell_of_heap{B o arr e fr}(h:w.heap[B]?=some (.cells arr e fr)):w.cell? ⟨B,o,none⟩=arr[o]?:=by
 simp[World.cell?,h]
def Qk{B o arr e fr cs}(aI:w.heap[B]?=some (.cells arr e fr))(aq:o+cs.length<=arr.size)(h:∀(i:Nat) (a:V) (b:Value),cs[i]?=some a->arr[o+i]?=some b->bM μ ab w a b):z7 μ ab w cs ⟨B,o,none⟩:=by
 refine⟨(arr.toList.drop o).take cs.length,⟨?_,?_⟩,?_⟩
 .simp;omega
 .intro i a b aD af;have hi:i<cs.length:=(cC.1 aD).1;rw[iB hi,h4]at af
  exact h i a b aD (by simpa using af)
 .intro j v av
  have hi:j<cs.length:=by have:=(cC.1 av).1;simp at this;omega
  rw[iB hi,h4]at av;rw[wZ,cell_of_heap aI]
  simpa using av
def rB{id g c}(h:ao H id g=some c):H[id]?=some (.cells g c):=by
 unfold ao at h;split at h
 .rename_i g' c' e;split at h
  .rename_i bb;subst bb;simp at h;subst h;exact e
  .simp at h
 .simp at h
def cB.row(h:cB aE μ ab w H){id g B b c}(aa:ao H id g=some c)(hm:μ id g=some (B,b)):
 ∃arr e,w.heap[B]?=some (.cells arr e (0,0))/\b+c.length<=arr.size/\∀(i:Nat) (a:V) (v:Value),c[i]?=some a->arr[b+i]?=some v->bM μ ab w a v:=by
 obtain⟨o,aT,ar⟩:=h.ly id _ g B b (rB aa) rfl hm
 cases o<;>first|exact ar.elim|skip
 rename_i arr e fr;obtain⟨rfl,J,U,_⟩:=ar;exact⟨arr,e,aT,J,U⟩
def cB.fresh(h:cB aE μ ab w H){id g B b c}(aa:ao H id g=some c)(hm:μ id g=some (B,b)){arr e fr}(aI:w.heap[B]?=some (.cells arr e fr)):sg aE g c b arr e:=by
 obtain⟨o,aT,ar⟩:=h.ly id _ g B b (rB aa) rfl hm;rw[aI]at aT;cases aT;exact ar.2.2.2
def cB.place(h:cB aE μ ab w H){id g B b off n c}(aa:ao H id g=some c)(hm:μ id g=some (B,b))(aN:((c.drop off).take n).length=n):
 z7 μ ab w ((c.drop off).take n) ⟨B,b+off,none⟩:=by
 obtain⟨arr,e,aI,aq,av⟩:=h.row aa hm;simp at aN;by_cases GL:n=0
 .subst GL
  exact⟨[],⟨by simp,fun i a b aD _=>by simp at aD⟩,fun j v av=>by simp at av⟩
 refine Qk aI (by simp;omega) ?_
 intro i a v aD Gh
 have hi:i<n:=by have:=(cC.1 aD).1;simp at this;omega
 rw[iB hi,h4]at aD
 exact av _ a v aD (by rw[<- tF];exact Gh)
def z7.take{cs a}(h:z7 μ ab w cs a)(n):z7 μ ab w (cs.take n) a:=by
 obtain⟨vs,J,U⟩:=h;refine⟨vs.take n,J.take n,fun j v av=>U j v ?_⟩
 have hi:j<n:=by have:=(cC.1 av).1;simp at this;omega
 rwa[iB hi]at av
def Rx{cs c}(h:bM μ ab w (.eu cs) c):∃a,c=.pointer (some a)/\z7 μ ab w cs a:=by
 cases h with|eu _ B o arr e fr aI bJ aq av=>exact⟨_,rfl,Qk aI aq (fun i a b aD af=>(av i a b aD af).vy)⟩
theorem Ed{t b}(h:mn P t=some b):(isAgg t).run P w=.ok b w:=by
 unfold mn at h;simp only[isAgg,Sem.run_bind];cases e:P.underlying t with
 |none=>rw[e]at h;simp at h
 |some d=>
   rw[run_underlying e];rw[e]at h;cases d<;>simp at h<;>subst h<;>rfl
def run_sizeOf{t n}(h:fT P t=some n):(sizeOf t).run P w=.ok n w:=by
 unfold fT at h;rw[fo]at h;obtain⟨i,hi,rfl⟩:=h;simp[sizeOf,typeInfo,hi]
def QV{t b n}(h:uK P t=some (b,n)):mn P t=some b/\fT P t=some n/\(b=false->n=1):=by
 unfold uK at h;split at h<;>simp at h<;>obtain⟨rfl,rfl⟩:=h<;>simp_all
def Yj{t agg}{n:Nat}(aq:uK P t=some (agg,n)){cs a}(aj:z7 μ ab w cs a)(ak:cs.length=n){v}(av:shut agg cs=some v):
 ∃c,(loadVar t a).run P w=.ok c w/\bM μ ab w v c:=by
 obtain⟨J,U,ax⟩:=QV aq;obtain⟨vs,ar,aa⟩:=aj;cases agg with
 |true=>
   simp[shut]at av;subst av;refine⟨.agg vs.toArray,?_,H5 ar⟩;have:=run_loadCells_list (P:=P) w a vs aa;rw[<- ar.1,ak]at this;simp[loadVar,Sem.run_bind,Ed J,Result.andThen,run_sizeOf U,this]
 |false=>
   have aN:=ax rfl;subst aN
   match cs,ak,av with
   | [x],_,av=>
     simp[shut]at av;subst av;obtain⟨b,af,ae⟩:=ar.get (i:=0) (a:=x) rfl;have As:=aa 0 b af
     have ck:a.add 0=a:=by simp[Addr.add]
     rw[ck]at As
     exact⟨b,by simp[loadVar,Sem.run_bind,Ed J,Result.andThen,As],ae⟩
def aep{t agg n}(aq:uK P t=some (agg,n))(h:cB aE μ ab w H){x v c}(ae:bM μ ab w x c)(av:iT H agg n x=some v):
 ∃r,(Instr.loadAt t c).run P w=.ok r w/\bM μ ab w v r:=by
 unfold iT at av;dsimp only at av;split at av
 .rename_i id g off;obtain⟨B,b,hm,rfl⟩:=G1 ae;split at av
  .rename_i cs aa;split at av
   .rename_i ak;obtain⟨r,J,U⟩:=Yj (P:=P) aq (h.place aa hm ak) ak av
    exact⟨r,by simp[Instr.loadAt,Instr.sureAddr,J],U⟩
   .simp at av
  .simp at av
 .rename_i cs;obtain⟨a,rfl,aj⟩:=Rx ae;split at av
  .rename_i ak;obtain⟨r,J,U⟩:=Yj (P:=P) aq (aj.take n) ak av
   exact⟨r,by simp[Instr.loadAt,Instr.sureAddr,J],U⟩
  .simp at av
 .simp at av
def di(aE:fD)(μ:dn)(ab:Nat->Prop)(w:World)(H:az)(r:Result Next)(v:V)(H':az):Prop:=
 ∃bZ w' ca b6,(r=.ok (.value bZ) w'\/(r=.ok .skip w'/\bZ=Go.undef))/\bM ca b6 w' v bZ/\dm aE μ ab w H ca b6 w' H'
def di.still(h:cB aE μ ab w H){v c}(av:bM μ ab w v c){r:Result Next}(ar:r=.ok (.value c) w):di aE μ ab w H r v H:=
 ⟨c,w,μ,ab,.inl ar,av,dm.refl h⟩
def Nl{B:Nat}{arr eB:Array Value}{e:TypeId}{fr:Nat × Nat}(h:w.heap[B]?=some (.cells arr e fr)):(w.setRow B eB).heap=w.heap.setIfInBounds B (.cells eB e fr):=by
 apply Array.ext_getElem?;intro i;by_cases hi:i=B
 .subst hi;rw[setRow_heap w i arr eB e fr h,anL (hl h)]
 .rw[setRow_other w B i eB hi,WH (gG hi)]
def apq{g b off c vs us arr e}(h:sg aE g c b arr e)(J:vs.all V.one=true)(ak:off+vs.length<=c.length)(L5:us.length=vs.length)(ds:b+c.length<=arr.size):sg aE g (iy c off vs) b (arr.toList.take (b+off)++us++arr.toList.drop (b+off+us.length)).toArray e:=by
 intro a1 hu;have aK:arr.toList.length=arr.size:=rfl;by_cases av:vs=[]
 .subst av;have apE:us=[]:=List.length_eq_zero_iff.1 L5;subst apE
  have u9:iy c off []=c:=by simp[iy]
  rw[u9]at hu;obtain⟨f1,f2,f3,f4⟩:=h a1 hu
  have R3:(arr.toList.take (b+off)++[]++arr.toList.drop (b+off+([]:List Value).length)).toArray=arr:=by simp
  rw[R3];exact⟨f1,f2,f3,f4⟩
 .have Sq:off≠0:=by
   intro ck;subst ck;cases vs with
   |nil=>exact av rfl
   |cons x vs=>
     have:iy c 0 (x::vs)=x::(vs++c.drop (0+(x::vs).length)):=by simp[iy]
     rw[this]at hu;cases hu;rw[qM,dr]at J
     exact absurd J.1 (by decide)
  have aa:c.head?=some .bs:=by
   cases c with
   |nil=>cases vs with
     |nil=>exact absurd rfl av
     |cons x vs=>simp at ak
   |cons y c=>
     obtain⟨o,rfl⟩:∃o,off=o+1:=⟨off-1,by omega⟩
     simpa[iy]using hu
  obtain⟨f1,f2,f3,f4⟩:=h a1 aa;subst f2;refine⟨f1,rfl,?_,?_⟩
  .simp only[s0,fU,lG,fJ];omega
  .have U:0<(arr.toList.take (0+off)).length:=by
    rw[lG];omega
   have:((arr.toList.take (0+off)++us++arr.toList.drop (0+off+us.length)).toArray)[0]?=arr[0]?:=by
    rw[zn,kG,d' U,iB (by omega)]
    simp
   rw[this];exact f4
def SN(h:cB aE μ ab w H){id g B b off c vs us}(aa:ao H id g=some c)(hm:μ id g=some (B,b))(ak:off+vs.length<=c.length)(av:b0 μ ab w vs us)(J:vs.all V.one=true):
 ∃w',(storeCells ⟨B,b+off,none⟩ us).run P w=.ok () w'/\dm aE μ ab w H (l7 μ id g (B,b)) ab w' (H.set id (.cells g (iy c off vs))):=by
 obtain⟨arr,e,aI,aq,ar⟩:=h.row aa hm;have L5:us.length=vs.length:=av.1.symm
 have fp:=run_storeCells_at P B (b+off) e us 0 arr w aI (by omega) (Oz av J)
 refine⟨_,fp,?_⟩;simp only[oL]
 have de:((arr.toList.take (b+off)++us++arr.toList.drop (b+off+us.length)).toArray).size=arr.size:=by simp;omega
 refine EA h (o':=.cells (arr.toList.take (b+off)++us++arr.toList.drop (b+off+us.length)).toArray e (0,0)) g b (rB aa) rfl hm aI ?_ (by simp) (.inl ⟨rfl,rfl⟩) (fun j br=>br.symm) (fun j c' bw k q an=>by cases bw;exact h.nb _ _ _ _ _ an (rB aa) rfl) (Nl aI) rfl rfl rfl ?_ ?_
 .intro nQ ck AE a1;cases a1;exact⟨_,rfl,de⟩
 .intro v ae;have ae:v∈iy c off vs:=ae;unfold iy at ae;have yH:∀v∈c,e' H.length v:=h.Lw (rB aa) rfl hm
  rcases l1.1 ae with ae|ae
  .rcases l1.1 ae with ae|ae
   .exact yH v (HD ae)
   .exact av.qL h.gR v ae
  .exact yH v (LA ae)
 .intro _ ca b6 gd bJ;have an:∀K,K<w.heap.size->¬ab K->(w.setRow B (arr.toList.take (b+off)++us++arr.toList.drop (b+off+us.length)).toArray).heap[K]?=w.heap[K]?:=
   fun K _ aN=>setRow_other w B K _ (fun e=>aN (e▸(h.gu _ _ _ _ hm).1))
  have h1:∀(K:Nat) (a0:Array Value) (e:TypeId) (fr:Nat × Nat),w.heap[K]?=some (.cells a0 e fr)->∃eB aW,(w.setRow B (arr.toList.take (b+off)++us++arr.toList.drop (b+off+us.length)).toArray).heap[K]?=some (.cells eB e aW)/\eB.size=a0.size:=by
   intro K a0 ck AE bE;by_cases AA:K=B
   .subst AA;rw[aI]at bE;cases bE;exact⟨_,_,setRow_heap w K arr _ e (0,0) aI,de⟩
   .exact⟨a0,_,(setRow_other w B K _ AA).trans bE,rfl⟩
  refine⟨rfl,by rw[de];simp[iy];omega,?_,apq (h.fresh aa hm aI) J ak L5 aq⟩
  intro i a v aD Gh;have mono:bM μ ab w a v->bM ca b6 (w.setRow B (arr.toList.take (b+off)++us++arr.toList.drop (b+off+us.length)).toArray) a v:=
   fun x=>x.mono gd (fun K bE hm=>(bJ K bE).1 hm) an h1
  apply mono
  have mV:(arr.toList.take (b+off)++us++arr.toList.drop (b+off+us.length))[b+i]?=some v:=by simpa using Gh
  have hi:i<(iy c off vs).length:=(cC.1 aD).1
  have dd:(iy c off vs).length=c.length:=by simp[iy];omega
  rw[dd]at hi;unfold iy at aD;by_cases cq:i<off
  .rw[kG,d' (by simp;omega),iB cq]at aD
   rw[kG,d' (by simp;omega),iB (by omega)]at mV
   exact ar i a v aD (by simpa using mV)
  .by_cases cN:i<off+vs.length
   .rw[kG,gB (by simp;omega),d' (by simp;omega)]at aD
    rw[kG,gB (by simp;omega),d' (by simp;omega)]at mV
    have aF:i-(List.take off c).length=i-off:=by simp;omega
    have aK:b+i-(List.take (b+off) arr.toList).length=i-off:=by simp;omega
    rw[aF]at aD;rw[aK]at mV;exact av.2 _ a v aD mV
   .rw[gB (by simp;omega)]at aD
    rw[gB (by simp;omega)]at mV
    rw[h4]at aD mV
    have aF:off+vs.length+(i-(List.take off c++vs).length)=i:=by simp;omega
    have aK:b+off+us.length+(b+i-(List.take (b+off) arr.toList++us).length)=b+i:=by simp;omega
    rw[aF]at aD;rw[aK]at mV
    exact ar i a v aD (by simpa using mV)
end
open Go.RowKit
section
variable {aE:fD} {μ ca:dn} {ab b6:Nat->Prop} {w w':World} {H H':az} {P:Program}
theorem abG{v x}(h:Dy v=some x):x.one=true:=by
 unfold Dy at h;split at h<;>simp at h<;>subst h<;>rfl
def apf{α β:Type}{f:α->Option β}{p:β->Bool}(al:∀x y,f x=some y->p y=true):∀{l:List α} {us:List β},l.mapM f=some us->us.all p=true:=by
 intro l
 induction l with
 |nil=>intro us h;simp at h;subst h;rfl
 |cons x l aw=>
   intro us h;simp only[n1,fF,fW,eL]at h;obtain⟨v,av,us,ic,e⟩:=h;cases e;simp[al _ _ av,aw ic]
def wi{v x}(h:B1 v=some x):x.cells.all V.one=true:=by
 unfold B1 at h;split at h
 .rw[fo]at h;obtain⟨us,ic,rfl⟩:=h;exact apf (fun _ _ h=>abG h) ic
 .have:=N9 h;have J:=abG h;rw[this.1]at J |-;simp[V.cells,J]
def ye{t z}(h:nk P t=some z):∃ew,(zeroValue t).run P w=.ok ew w/\B1 ew=some z/\∃i,P.info? t=some i/\i.zero=some ew:=by
 unfold nk at h;split at h
 .rename_i i hi;split at h
  .rename_i ew b5
   exact⟨ew,by simp[zeroValue,typeInfo,hi,b5],h,i,hi,b5⟩
  .simp at h
 .simp at h
def aCj{cs vs e}(h:b0 μ ab w cs vs)(g)(J:cs.all V.one=true):jQ aE μ ab w (.cells g cs) 0 (.cells vs.toArray e (0,0)):=
 ⟨rfl,by simp[h.1],fun i a v aD av=>h.2 i a v aD (by simpa using av),sg.one J⟩
def anx{cs arr e}(h:b0 μ ab w cs arr.toList)(g)(J:cs.all V.one=true):jQ aE μ ab w (.cells g cs) 0 (.cells arr e (0,0)):=by
 have:=aCj (aE:=aE) (e:=e) h g J;simpa using this
def vV(aE:fD)(μ:dn)(ab:Nat->Prop)(w:World)(r:Result Next)(yv:Nat->V)(bo:bq):Prop:=
 ∃bZ o,r=.ok (.value bZ) (w.alloc o)/\jQ aE μ ab w bo 0 o/\∀id ca b6,ca id 0=some (w.heap.size,0)->bM ca b6 (w.alloc o) (yv id) bZ
def vV.op(h:cB aE μ ab w H){r:Result Next}{yv:Nat->V}{bo}(aN:vV aE μ ab w r yv bo):di aE μ ab w H r (yv H.length) (H++[bo]):=by
 obtain⟨bZ,o,ar,e1,av⟩:=aN;exact⟨bZ,_,_,_,.inl ar,av _ _ _ (mS _ _ _ _),Hi h o bo e1 rfl rfl rfl rfl⟩
def ZO{cs arr e}(av:b0 μ ab w cs arr.toList)(J:cs.all V.one=true){r:Result Next}(ar:r=.ok (.value (.pointer (some ⟨w.heap.size,0,none⟩))) (w.alloc (.cells arr e))):vV aE μ ab w r (fun id=>.ref id 0 0) (.cells 0 cs):=
 ⟨_,_,ar,anx av 0 J,fun id ca b6 hm=>.ref _ _ _ w.heap.size 0 hm⟩
def afd{t z}(b5:nk P t=some z):
 vV aE μ ab w ((do pure (.value (<- Instr.alloc t true (.tuple #[]))):Sem Next).run P w) (fun id=>.ref id 0 0) (.cells 0 z.cells):=by
 obtain⟨ew,J,U,_⟩:=ye (w:=w) b5;refine ZO (arr:=ew.cells) (e:=t) (wG (xU U) (wi U)) (wi U) ?_;simp[Instr.alloc,Sem.run_bind,J,Result.andThen,newVar,newRow]
def WZ{t z c}(b5:nk P t=some z)(aa:OY z=some c)(af:aE.N2 t=true):
 vV aE μ ab w ((do pure (.value (<- Instr.alloc t true (.tuple #[]))):Sem Next).run P w) (fun id=>.ref id 0 0) (.cells 0 c):=by
 obtain⟨ew,J,U,_⟩:=ye (w:=w) b5
 have ar:((do pure (.value (<- Instr.alloc t true (.tuple #[]))):Sem Next).run P w)=.ok (.value (.pointer (some ⟨w.heap.size,0,none⟩))) (w.alloc (.cells ew.cells t)):=by simp[Instr.alloc,Sem.run_bind,J,Result.andThen,newVar,newRow]
 unfold OY at aa;split at aa
 .rename_i v;cases aa;have av:=wG (μ:=μ) (ab:=ab) (w:=w) (xU U) (wi U);obtain⟨ak,bb⟩:=av
  have de:ew.cells.size=2:=by
   have:[V.s (.pointer none),v].length=ew.cells.toList.length:=ak
   simpa using this.symm
  have a1:ew.cells[0]?=some (.pointer none):=by
   have bt:0<ew.cells.size:=by omega
   have:=bb 0 _ ew.cells[0] rfl (by simp)
   rw[o8 bt];exact dX some (eA this)
  refine⟨_,_,ar,⟨rfl,by simp[de],fun i a x aD ae=>?_,fun _ _=>⟨af,rfl,de,a1⟩⟩,fun id ca b6 hm=>.ref _ _ _ w.heap.size 0 hm⟩
  match i with
  |0=>cases aD;exact .bs _
  |1=>cases aD;exact bb 1 v x rfl (by simpa using ae)
  |i+2=>simp at aD
 .cases aa
def aC4(h:cB aE μ ab w H){t z}(b5:nk P t=some z):
 di aE μ ab w H ((do pure (.value (<- Instr.alloc t true (.tuple #[]))):Sem Next).run P w) (.ref H.length 0 0) (H++[.cells 0 z.cells]):=(afd b5).op h
def ael{t x c}(ae:bM μ ab w x c)(J:x.cells.all V.one=true):
 vV aE μ ab w ((do pure (.value (<- Instr.box t c)):Sem Next).run P w) (fun id=>.ref id 0 0) (.cells 0 x.cells):=by
 refine ZO (arr:=c.cells) (e:=t) (wG ae J) J ?_;simp[Instr.box,newVar,newRow]
def aFF(h:cB aE μ ab w H){t x c}(ae:bM μ ab w x c)(J:x.cells.all V.one=true):
 di aE μ ab w H ((do pure (.value (<- Instr.box t c)):Sem Next).run P w) (.ref H.length 0 0) (H++[.cells 0 x.cells]):=(ael ae J).op h
def abY(off):∀(l:List Value) (k:Nat) (cells:Array Value),off+k+l.length<=cells.size->
 ((l.zipIdx k).foldl (fun cs p=>cs.setIfInBounds (off+p.2) p.1) cells).toList=cells.toList.take (off+k)++l++cells.toList.drop (off+k+l.length)
 | [],k,cells,_=>by simp
 |v::l,k,cells,h=>by
   simp only[gP]at h;simp only[List.zipIdx_cons,Gz]
   rw[abY off l (k+1) _ (by simp;omega)]
   apply vU;intro i;simp only[Array.toList_setIfInBounds];rw[kG,kG];by_cases cq:i<off+k
   .rw[d' (by simp;omega),d' (by simp;omega),iB (by omega),iB cq,cf (by omega)]
   .by_cases cN:i=off+k
    .subst cN
     rw[d' (by simp;omega),gB (by simp;omega),iB (by omega),qq (by simp;omega)]
     have e:off+k-(List.take (off+k) cells.toList).length=0:=by simp;omega
     rw[e];rfl
    .rw[gB (l₁:=List.take (off+(k+1)) _) (by simp;omega),gB (l₁:=List.take (off+k) _) (by simp;omega)]
     have aF:i-(List.take (off+(k+1)) (cells.toList.set (off+k) v)).length=i-(off+k+1):=by simp;omega
     have aK:i-(List.take (off+k) cells.toList).length=(i-(off+k+1))+1:=by simp;omega
     rw[aF,aK,h5,Av];by_cases et:i-(off+k+1)<l.length
     .rw[d' et,d' et]
     .rw[gB (by omega),gB (by omega),h4,h4,cf (by omega)]
      congr 1
      simp only[gP];omega
def b0.iy{a b c d}(h:b0 μ ab w a c)(k:b0 μ ab w b d)(off):b0 μ ab w (iy a off b) (c.take off++d++c.drop (off+d.length)):=by
 have:=k.1;unfold dO.iy;rw[this];exact((h.take off).append k).append (h.drop _)
def WK{place place':Nat->Option (Nat × Nat)}(aj:∀i,place' i=place i):∀{ps:List (Nat × V)} {cs:List (Nat × Value)} {cells r:List V} {arr:Array Value},
 ps.map (·.1)=cs.map (·.1)->b0 μ ab w (ps.map (·.2)) (cs.map (·.2))->b0 μ ab w cells arr.toList->kv place cells ps=some r->
 ∃tt:Array Value,Instr.fill place' arr cs=some tt/\b0 μ ab w r tt.toList:=by
 intro ps
 induction ps with
 |nil=>
   intro cs cells r arr J U ax aY;cases cs with
   |nil=>simp[kv]at aY;subst aY;exact⟨arr,rfl,ax⟩
   |cons=>simp at J
 |cons p ps aw=>
   intro cs cells r arr J U ax aY;cases cs with
   |nil=>simp at J
   |cons c cs=>
     obtain⟨i,v⟩:=p;obtain⟨wk,u⟩:=c;simp only[lL,List.cons.injEq]at J;obtain⟨rfl,J⟩:=J;have azu:bM μ ab w v u:=U.2 0 v u rfl rfl
     have EM:b0 μ ab w (ps.map (·.2)) (cs.map (·.2)):=by
      refine⟨by have:=U.1;simpa using this,fun j a b aD af=>U.2 (j+1) a b (by simpa using aD) (by simpa using af)⟩
     simp only[kv]at aY;split at aY
     .simp at aY
     .rename_i off size e0;split at aY
      .rename_i gi;obtain⟨de,hI,hE⟩:=gi;have gv:=wG azu hE
       have iX:u.cells.size=size:=by rw[<- de,gv.1];simp
       have Cc:arr.size=cells.length:=by rw[ax.1];simp
       have fO:=ax.iy gv off
       have al:=abY off u.cells.toList 0 arr (by simp only[oL,Array.length_toList];omega)
       simp only[oL]at al;rw[<- al]at fO;obtain⟨tt,CW,ar⟩:=aw (arr:=(u.cells.toList.zipIdx 0).foldl (fun cs p=>cs.setIfInBounds (off+p.2) p.1) arr) J EM fO aY;refine⟨tt,?_,ar⟩;unfold Instr.fill;simp only[aj,e0]
       rw[bm (by simp;omega)]
       rw[<- CW]
       congr 1
       rw[<- Mc,Array.toList_zipIdx]
      .simp at aY
def TT{a:Act}{fr:List V}(h:c9 μ ab w fr a.tmps){ps:Array (Nat × Operand)}{mW:List (Nat × cY)}(aa:Ak ps=some mW):
 (mW.map fun p=>(p.1,aX fr p.2)).map (·.1)=((ps.map fun(i,x)=>(i,a.eval x)).toList).map (·.1)/\
 b0 μ ab w ((mW.map fun p=>(p.1,aX fr p.2)).map (·.2)) (((ps.map fun(i,x)=>(i,a.eval x)).toList).map (·.2)):=by
 obtain⟨J,U⟩:=au4 h aa
 refine⟨by simpa[SE]using J,?_⟩
 have:((ps.map fun(i,x)=>(i,a.eval x)).toList).map (·.2)=ps.toList.map fun p=>a.eval p.2:=by simp[SE]
 rw[this]
 simpa[SE]using U
def aBS(bG:Array Field){pl}(h:(bG.toList.mapM fun f=>(fT P f.type).map fun n=>(f.offset,n))=some pl):
 (bG.mapM fun f=>(do pure (f.offset,<- sizeOf f.type):Sem (Nat × Nat))).run P w=.ok pl.toArray w:=by
 have key:∀(l:List Field) (pl:List (Nat × Nat)),(l.mapM fun f=>(fT P f.type).map fun n=>(f.offset,n))=some pl->
  (l.mapM fun f=>(do pure (f.offset,<- sizeOf f.type):Sem (Nat × Nat))).run P w=.ok pl w:=by
  intro l
  induction l with
  |nil=>intro pl h;simp at h;subst h;rfl
  |cons f l aw=>
    intro pl h;simp only[n1,fF,fW,eL,fo]at h;obtain⟨p,⟨n,aN,rfl⟩,us,ic,e⟩:=h;cases e;simp only[n1,Sem.run_bind,run_sizeOf aN,eb,Sem.run_pure,aw us ic]
 rw[Yx];simp only[Sem.run_map,key _ _ h,eb]
def aBi(h:cB aE μ ab w H){a:Act}{fr:List V}(al:c9 μ ab w fr a.tmps){t:TypeId}{z:V}{bG:Array Field}{pl:List (Nat × Nat)}{ps:Array (Nat × Operand)}{mW:List (Nat × cY)}{cs:List V}(b5:nk P t=some z)(aO:P.underlying t=some (.struct bG))(e0:(bG.toList.mapM fun f=>(fT P f.type).map fun n=>(f.offset,n))=some pl)(rZ:Ak ps=some mW)(r8:kv (pl[·]?) z.cells (mW.map fun p=>(p.1,aX fr p.2))=some cs):
 di aE μ ab w H ((do pure (.value (<- Instr.build t (ps.map fun(i,x)=>(i,a.eval x)))):Sem Next).run P w) (.agg cs) H:=by
 obtain⟨ew,J,U,_⟩:=ye (w:=w) b5;obtain⟨cn,dK⟩:=TT al rZ
 obtain⟨tt,CW,ar⟩:=WK (place':=(pl.toArray[·]?)) (by intro i;simp) cn dK (wG (xU U) (wi U)) r8
 refine di.still h (H5 ar) ?_;simp only[Instr.build,Sem.run_bind,J,eb,run_underlying aO,Sem.run_pure,aBS bG e0,CW]
def Ob(l:List Value)(len:Nat)(ak:0<l.length):((Array.range (len*l.length)).map (l.toArray[· % l.toArray.size]!)).toList=(List.replicate len l).flatten:=by
 apply vU;intro i
 have dd:(List.replicate len l).flatten.length=len*l.length:=by simp
 by_cases hi:i<len*l.length
 .have J:(((Array.range (len*l.length)).map (l.toArray[· % l.toArray.size]!)).toList)[i]?=some (l.toArray[i % l.length]!):=by simp[hi]
  rw[J];have hm:i % l.length<l.length:=Nat.mod_lt _ ak
  have:∀(n i:Nat),i<n*l.length->(List.replicate n l).flatten[i]?=l[i % l.length]?:=by
   intro n
   induction n with
   |zero=>intro i hi;simp at hi
   |succ n aw=>
     intro i hi;rw[amp,uV];by_cases c:i<l.length
     .rw[d' c,Nat.mod_eq_of_lt c]
     .rw[gB (by omega),aw (i-l.length) (by rw[sv,LC]at hi;omega),<- Nat.mod_eq_sub_mod (by omega)]
  rw[this len i hi,dy hm];simp[hm]
 .rw[mm (by simp;omega),mm (by omega)]
def aAe{place:Nat->Option (Nat × Nat)}:∀(ps:List (Nat × V)) (c r:List V),c.all V.one=true->kv place c ps=some r->r.all V.one=true:=by
 intro ps
 induction ps with
 |nil=>intro c r a1 h;simp only[kv,hW]at h;rw[<- h];exact a1
 |cons p ps aw=>
   intro c r a1 h;obtain⟨i,v⟩:=p;simp only[kv]at h;split at h
   .cases h
   .split at h
    .rename_i aa;refine aw _ _ ?_ h;rw[dU]at a1 |-;intro x ae;unfold iy at ae
     rcases l1.1 ae with ae|ae
     .rcases l1.1 ae with ae|ae
      .exact a1 x (HD ae)
      .exact dU.1 aa.2.2 x ae
     .exact a1 x (LA ae)
    .cases h
def acK{a:Act}{fr:List V}(al:c9 μ ab w fr a.tmps){t e:TypeId}{z:V}{sz len:Nat}{ps:Array (Nat × Operand)}{mW:List (Nat × cY)}{cs:List V}(aO:P.underlying t=some (.slice e))(de:fT P e=some sz)(b5:nk P e=some z)(a1:0<sz)(af:len*sz<=2^24)(oN:z.cells.length=sz)(rZ:Ak ps=some mW)(r8:kv (fun i=>some (i*sz,sz)) (List.replicate len z.cells).flatten (mW.map fun p=>(p.1,aX fr p.2))=some cs):
 vV aE μ ab w ((do pure (.value (<- Instr.buildSlice t len (ps.map fun(i,x)=>(i,a.eval x)))):Sem Next).run P w) (fun id=>if len=0 then .db else .aB id 0 0 len sz) (.cells 0 cs):=by
 obtain⟨ew,J,U,_⟩:=ye (w:=w) b5;obtain⟨cn,dK⟩:=TT al rZ;have vr:=wG (μ:=μ) (ab:=ab) (w:=w) (xU U) (wi U)
 have rF:ew.cells.size=sz:=by rw[<- oN,vr.1];simp
 have rr:b0 μ ab w (List.replicate len z.cells).flatten ((Array.range (len*sz)).map (ew.cells[· % ew.cells.size]!)).toList:=by
  have:=vr.OC len
  rw[<- Ob ew.cells.toList len (by simp;omega)]at this
  simpa[rF]using this
 obtain⟨tt,CW,ar⟩:=WK (place':=fun i=>some (i*sz,sz)) (fun _=>rfl) cn dK rr r8;have aKl:len*sz<=tt.size\/True:=.inr trivial
 have aJQ:cs.length=len*sz:=by
  have:∀(ps:List (Nat × V)) (c r:List V),kv (fun i=>some (i*sz,sz)) c ps=some r->r.length=c.length:=by
   intro ps
   induction ps with
   |nil=>intro c r h;simp[kv]at h;rw[h]
   |cons p ps aw=>
     intro c r h;obtain⟨i,v⟩:=p;simp only[kv]at h;split at h
     .rename_i aa;rw[aw _ _ h];simp[iy];omega
     .simp at h
  rw[this _ _ _ r8];simp[oN]
 have fp:((do pure (.value (<- Instr.buildSlice t len (ps.map fun(i,x)=>(i,a.eval x)))):Sem Next).run P w)=.ok (.value (.slice (some ⟨w.heap.size,0,none⟩) len len)) (w.alloc (.cells tt e)):=by
  have fY:¬(len*sz > 16777216):=by simpa using af
  by_cases sV:len*sz=0
  .have Ad:Instr.fill (fun i=>some (i*sz,sz)) (Array.map (fun x=>(#[]:Array Value)[x % 0]!) (Array.range 0)) (ps.map fun(i,x)=>(i,a.eval x)).toList=some tt:=by
    have em:∀f:Nat->Value,Array.map f (Array.range 0)=#[]:=fun f=>by apply Ou;simp
    rw[<- CW,sV,em,em]
   simp only[Instr.buildSlice,Sem.run_bind,run_underlying aO,run_sizeOf de,eb,sV,Sem.run_pure,fl,Sem.run_ite];simp at Ad;simp[Ad,newRow]
  .simp only[Instr.buildSlice,Sem.run_bind,run_underlying aO,run_sizeOf de,eb,Sem.run_pure,Sem.run_ite,bm sV,J,CW,newRow,run_newObj,Nat.reducePow,bm fY];rfl
 have hE:cs.all V.one=true:=by
  refine aAe _ _ _ ?_ r8;rw[dU];intro x ae;obtain⟨r,ar,EV⟩:=Mh.1 ae;rw[(JY.1 ar).2]at EV;obtain⟨aKc,_,M7,_⟩:=ye (w:=w) b5;have:=wi M7;rw[dU]at this;exact this x EV
 refine⟨_,_,fp,anx ar 0 hE,fun id ca b6 hm=>?_⟩;dsimp only;split
 .rename_i ak;subst ak;exact .db _
 .refine .aB id 0 0 len sz w.heap.size 0 len tt e hm (x4 (w:=w) rfl) (bS _) ?_;have:=ar.1;simp at this;omega
def aFB(h:cB aE μ ab w H){a:Act}{fr:List V}(al:c9 μ ab w fr a.tmps){t e:TypeId}{z:V}{sz len:Nat}{ps:Array (Nat × Operand)}{mW:List (Nat × cY)}{cs:List V}(aO:P.underlying t=some (.slice e))(de:fT P e=some sz)(b5:nk P e=some z)(a1:0<sz)(af:len*sz<=2^24)(oN:z.cells.length=sz)(rZ:Ak ps=some mW)(r8:kv (fun i=>some (i*sz,sz)) (List.replicate len z.cells).flatten (mW.map fun p=>(p.1,aX fr p.2))=some cs):
 di aE μ ab w H ((do pure (.value (<- Instr.buildSlice t len (ps.map fun(i,x)=>(i,a.eval x)))):Sem Next).run P w) (if len=0 then .db else .aB H.length 0 0 len sz) (H++[.cells 0 cs]):=
 (acK al aO de b5 a1 af oN rZ r8).op h
def aFb(h:cB aE μ ab w H){t e z}{sz:Nat}{ts ty x c}{base:Nat}{v}(rV:ts[0]?=some t)(aO:P.underlying t=some (.slice e))(b5:nk P e=some z)(a1:0<sz)(oN:z.cells.length=sz)(ag:(match x with
  |.s (.slice none 0 0)=>some (bR,H)
  |.db=>some (bR,H)
  |.aB id g off len dF=>if len=0 then some (bR,H)else if base<=id/\dF=sz then match ao H id g with
     |some c=>if z.cells.length=sz/\off+len*sz<=c.length/\z.cells.all V.one then some (bR,H.set id (.cells g (iy c off (List.replicate len z.cells).flatten)))else none
     |none=>none
    else none
  |_=>none)=some (v,H'))(ae:bM μ ab w x c):
 di aE μ ab w H ((do pure (.value (<- Builtin.clear_ ts ty #[c])):Sem Next).run P w) v H':=by
 have quiet:∀c,(Builtin.clear_ ts ty #[c]).run P w=.ok (.tuple #[]) w->di aE μ ab w H ((do pure (.value (<- Builtin.clear_ ts ty #[c])):Sem Next).run P w) bR H:=by
  intro c aa
  exact di.still h (c:=.tuple #[]) (.s _) (by simp only[Sem.run_bind,aa,eb,Sem.run_pure])
 have still:∀c,(c=.slice none 0 0\/∃a n,c=.slice (some a) 0 n)->(Builtin.clear_ ts ty #[c]).run P w=.ok (.tuple #[]) w:=by
  rintro c (rfl|⟨a,n,rfl⟩)
  .simp[Builtin.clear_,rV,run_underlying aO]
  .simp[Builtin.clear_,rV,run_underlying aO]
 revert ae;split at ag
 .intro ae;cases ag;rw[eA ae];exact quiet _ (still _ (.inl rfl))
 .intro ae;cases ag;cases ae with
  |db a=>exact quiet _ (still _ (.inr ⟨a,0,rfl⟩))
 .rename_i id g off len dF;intro ae;split at ag
  .rename_i ak;cases ag;subst ak;cases ae with
   |aB _ _ _ _ _ B b cap arr bw hm aI aa aq=>exact quiet _ (still _ (.inr ⟨_,_,rfl⟩))
   |js _ _ _ _ B b a hm=>exact quiet _ (still _ (.inr ⟨_,_,rfl⟩))
  .rename_i ak;split at ag
   .rename_i af;split at ag
    .rename_i cI mg;split at ag
     .rename_i an;cases ag;obtain⟨ew,J,U,_⟩:=ye (w:=w) b5;have vr:=wG (μ:=μ) (ab:=ab) (w:=w) (xU U) (wi U)
      have rF:ew.cells.size=sz:=by rw[<- oN,vr.1];simp
      have rr:b0 μ ab w (List.replicate len z.cells).flatten (Builtin.zeroCells ew.cells len).toList:=by
       have:=vr.OC len
       rw[<- Ob ew.cells.toList len (by simp;omega)]at this
       simpa[Builtin.zeroCells,rF]using this
      have dd:(List.replicate len z.cells).flatten.length=len*sz:=by simp[oN]
      have hE:(List.replicate len z.cells).flatten.all V.one=true:=by
       rw[dU];intro y bA;rw[Mh]at bA;obtain⟨l,ql,so⟩:=bA;rw[JY]at ql;rw[ql.2]at so;exact(dU.1 an.2.2) y so
      cases ae with
      |js=>exact absurd rfl ak
      |aB _ _ _ _ _ B b cap arr bw hm aI aa aq=>
        obtain⟨w',ar,aj⟩:=SN (P:=P) h mg hm (by rw[dd];exact an.2.1) rr hE
        obtain⟨n,rfl⟩:∃n,len=n+1:=⟨len-1,by omega⟩
        have fp:(Builtin.clear_ ts ty #[.slice (some ⟨B,b+off,none⟩) (n+1) cap]).run P w=.ok (.tuple #[]) w':=by
         simp only[Builtin.clear_,rV,Sem.run_bind,run_underlying aO,eb,zn,Da,J,ar,Sem.run_pure]
        exact⟨.tuple #[],w',_,_,.inl (by simp only[Sem.run_bind,fp,eb,Sem.run_pure]),.s _,aj⟩
     .cases ag
    .cases ag
   .cases ag
 .cases ag
end
open Go.RowKit
section
variable {aE:fD} {μ ca:dn} {ab b6:Nat->Prop} {w w':World} {H H':az} {P:Program}
def IY{op:BinOp}{t x y a b}(h:∀c d,¬(a=.agg c/\b=.agg d))(lh:a≠.nilIface):(eqGuard op t x y a b).run P w=.ok () w:=by
 unfold eqGuard
 cases a<;>cases b<;>first|(exact absurd rfl lh)|(exact absurd ⟨rfl,rfl⟩ (h _ _))|(cases op<;>rfl)
def Y1{op:BinOp}{t x y a b v}(h:ir op a b=some v):
 ((do pure (.value (<- (do eqGuard op t x y a b;binOp op t a b))):Sem Next).run P w)=.ok (.value v) w:=by
 have bb:(eqGuard op t x y a b).run P w=.ok () w:=by
  apply IY
  .rintro c d ⟨rfl,rfl⟩;simp[ir]at h
  .rintro rfl;simp[ir]at h
 have af:(binOp op t a b).run P w=.ok v w:=by
  unfold ir at h;split at h
  .rename_i k a gT b;cases op<;>simp only at h
   case shl=>split at h<;>simp at h;subst h;rename_i af;simp[binOp,Op.shift,af]
   case shr=>split at h<;>simp at h;subst h;rename_i af;simp[binOp,Op.shift,af]
   all_goals
    split at h
    .simp at h
    .rename_i an
     have an:k=gT:=by simpa using an
     subst an
     first
      |(simp only[hW]at h;subst h;simp[binOp,Op.intArith,Op.intBits,Op.intCmp];done)
      |(split at h<;>simp at h;subst h;rename_i af;simp[binOp,Op.intDiv,af];done)
      |(simp at h)
  .rename_i a b;simp only[<- ByteArray.toList_eq]at h;cases op<;>simp only at h
   case add=>
    split at h
    .simp at h
    .rename_i af;simp only[hW]at h;subst h;simp only[binOp,Op.stringOp,bm af];rfl
   all_goals first
    |(simp only[hW]at h;subst h;rfl)
    |(simp at h)
  .simp at h
 simp only[Sem.run_bind,bb,af,eb,Sem.run_pure]
def avN{t x y a b neg}{op:BinOp}(aT:og op=some neg)(aO:P.underlying t=some .bool):
 ((do pure (.value (<- (do eqGuard op t x y (.bool a) (.bool b);binOp op t (.bool a) (.bool b)))):Sem Next).run P w)=.ok (.value (.bool ((a==b) != neg))) w:=by
 have bb:(eqGuard op t x y (.bool a) (.bool b)).run P w=.ok () w:=IY (by simp) (by simp)
 have he:(Op.equal t (.bool a) (.bool b)).run P w=.ok (a==b) w:=run_equalIn_bool' w 9999 t a b aO;simp only[Sem.run_bind,bb,eb];cases op<;>simp[og]at aT<;>subst aT<;>simp[binOp,he]
def aDd(d){t e}{i:TypeInfo}{a b RS Ev Rz tb}(aO:P.underlying t=some (.pointer e))(hi:P.info? e=some i)(aq:i.size≠0)(dq:a≠b)(aD:w.heap[a.block]?=some (.cells RS Rz (0,0)))(af:w.heap[b.block]?=some (.cells Ev tb (0,0))):(Op.equalIn (d+1) t (.pointer (some a)) (.pointer (some b))).run P w=.ok false w:=by
 simp[Op.equalIn,run_underlying aO,sizeOf,typeInfo,hi,aq,run_sameAddr_other w dq aD af]
def aHl{t e x y a b neg}{op:BinOp}{n RS Ev Rz tb}(aT:og op=some neg)(aO:P.underlying t=some (.pointer e))(aN:fT P e=some n)(a1:n≠0)(dq:a≠b)(aD:w.heap[a.block]?=some (.cells RS Rz (0,0)))(af:w.heap[b.block]?=some (.cells Ev tb (0,0))):
 ((do pure (.value (<- (do eqGuard op t x y (.pointer (some a)) (.pointer (some b));binOp op t (.pointer (some a)) (.pointer (some b))))):Sem Next).run P w)=.ok (.value (.bool neg)) w:=by
 have bb:(eqGuard op t x y (.pointer (some a)) (.pointer (some b))).run P w=.ok () w:=IY (by simp) (by simp)
 unfold fT at aN;cases hi:P.info? e with
 |none=>rw[hi]at aN;cases aN
 |some i=>
   rw[hi]at aN
   have aq:i.size≠0:=by
    simp only[mD,hW]at aN;rw[aN];exact a1
   have he:(Op.equal t (.pointer (some a)) (.pointer (some b))).run P w=.ok false w:=by
    exact aDd 9999 aO hi aq dq aD af
   simp only[Sem.run_bind,bb,eb];cases op<;>simp[og]at aT<;>subst aT<;>simp[binOp,he]
def anU{d x}{k:r6}(h:Dj d x=some k):
 (∃e,d=some (.pointer e)/\x=.const (.pointer none)/\k=.p)\/(∃e,d=some (.slice e)/\x=.const (.slice none 0 0)/\k=.s)\/
 (∃a b,d=some (.map a b)/\x=.const (.map none)/\k=.m)\/(∃a b c,d=some (.func a b c)/\x=.const .nilFunc/\k=.f):=by
 unfold Dj at h;split at h<;>simp at h<;>subst h<;>simp
def aBp{k:r6}{x c b}(ae:bM μ ab w x c)(h:V.isNil k x=some b):
 match k with
 |.p=>∃p,c=.pointer p/\b=p.isNone
 |.s=>∃p n m,c=.slice p n m/\b=p.isNone
 |.m=>∃p,c=.map p/\b=p.isNone
 |.f=>(c=.nilFunc/\b=true)\/(∃f a d,c=.func f a d/\b=false):=by
 unfold V.isNil at h;split at h<;>simp at h<;>subst h<;>cases ae<;>simp
theorem aG8(d){t e}(aQ:P.underlying t=some (.pointer e))(p):(Op.equalIn (d+1) t (.pointer p) (.pointer none)).run P w=.ok p.isNone w:=by
 cases p<;>simp only[Op.equalIn,Sem.run_bind,run_underlying aQ,eb]<;>rfl
theorem aqf(d){t e}(aQ:P.underlying t=some (.pointer e))(p):(Op.equalIn (d+1) t (.pointer none) (.pointer p)).run P w=.ok p.isNone w:=by
 cases p<;>simp only[Op.equalIn,Sem.run_bind,run_underlying aQ,eb]<;>rfl
theorem aub(d){t e}(aQ:P.underlying t=some (.slice e))(p n m):(Op.equalIn (d+1) t (.slice p n m) (.slice none 0 0)).run P w=.ok p.isNone w:=by
 cases p<;>simp only[Op.equalIn,Sem.run_bind,run_underlying aQ,eb]<;>rfl
theorem azK(d){t e}(aQ:P.underlying t=some (.slice e))(p n m):(Op.equalIn (d+1) t (.slice none 0 0) (.slice p n m)).run P w=.ok p.isNone w:=by
 cases p<;>simp only[Op.equalIn,Sem.run_bind,run_underlying aQ,eb]<;>rfl
theorem axF(d){t e f}(aQ:P.underlying t=some (.map e f))(p):(Op.equalIn (d+1) t (.map p) (.map none)).run P w=.ok p.isNone w:=by
 cases p<;>simp only[Op.equalIn,Sem.run_bind,run_underlying aQ,eb]<;>rfl
theorem au7(d){t e f}(aQ:P.underlying t=some (.map e f))(p):(Op.equalIn (d+1) t (.map none) (.map p)).run P w=.ok p.isNone w:=by
 cases p<;>simp only[Op.equalIn,Sem.run_bind,run_underlying aQ,eb]<;>rfl
theorem XW(d){t e f g}(aQ:P.underlying t=some (.func e f g)):(Op.equalIn (d+1) t .nilFunc .nilFunc).run P w=.ok true w:=by
 simp only[Op.equalIn,Sem.run_bind,run_underlying aQ,eb];rfl
theorem atb(d){t e f g}(aQ:P.underlying t=some (.func e f g))(x y z):(Op.equalIn (d+1) t (.func x y z) .nilFunc).run P w=.ok false w:=by
 simp only[Op.equalIn,Sem.run_bind,run_underlying aQ,eb];rfl
theorem aAb(d){t e f g}(aQ:P.underlying t=some (.func e f g))(x y z):(Op.equalIn (d+1) t .nilFunc (.func x y z)).run P w=.ok false w:=by
 simp only[Op.equalIn,Sem.run_bind,run_underlying aQ,eb];rfl
def akk{t X Y}{k:r6}{neg b}{op:BinOp}{x c}(aT:og op=some neg)(ae:bM μ ab w x c)(aN:V.isNil k x=some b)(ρ:Operand->Value)(iV:∀v,ρ (.const v)=v)(an:(Dj (P.underlying t) Y=some k/\ρ X=c)\/(Dj (P.underlying t) X=some k/\ρ Y=c)):
 ((do pure (.value (<- (do eqGuard op t X Y (ρ X) (ρ Y);binOp op t (ρ X) (ρ Y)))):Sem Next).run P w)=.ok (.value (.bool (b != neg))) w:=by
 have av:=aBp ae aN
 have key:∀(p q:Value),(∀u v,¬(p=.agg u/\q=.agg v))->p≠.nilIface->(Op.equal t p q).run P w=.ok b w->((binOp op t p q)=(if neg then(do pure (.bool (!(<- Op.equal t p q))))else(do pure (.bool (<- Op.equal t p q)))))->
  ((do pure (.value (<- (do eqGuard op t X Y p q;binOp op t p q))):Sem Next).run P w)=.ok (.value (.bool (b != neg))) w:=by
  intro p q J U he af;simp only[Sem.run_bind,IY J U,eb,af];cases neg<;>simp[he]
 have vQ:∀p q:Value,(ρ X=p/\ρ Y=q)->((do pure (.value (<- (do eqGuard op t X Y p q;binOp op t p q))):Sem Next).run P w)=.ok (.value (.bool (b != neg))) w->
  ((do pure (.value (<- (do eqGuard op t X Y (ρ X) (ρ Y);binOp op t (ρ X) (ρ Y)))):Sem Next).run P w)=.ok (.value (.bool (b != neg))) w:=by
  rintro p q ⟨J,U⟩ h;rw[J,U];exact h
 rcases an with⟨an,aa⟩|⟨an,aa⟩
 .rcases anU an with⟨e,aQ,rfl,rfl⟩|⟨e,aQ,rfl,rfl⟩|⟨e,f,aQ,rfl,rfl⟩|⟨e,f,g,aQ,rfl,rfl⟩
  .obtain⟨p,rfl,rfl⟩:=av
   refine vQ (.pointer p) (.pointer none) ⟨aa,iV _⟩ (key _ _ (by simp) (by simp) ?_ (by cases op<;>simp[og]at aT<;>subst aT<;>rfl))
   exact aG8 9999 aQ p
  .obtain⟨p,n,m,rfl,rfl⟩:=av
   refine vQ (.slice p n m) (.slice none 0 0) ⟨aa,iV _⟩ (key _ _ (by simp) (by simp) ?_ (by cases op<;>simp[og]at aT<;>subst aT<;>rfl))
   exact aub 9999 aQ p n m
  .obtain⟨p,rfl,rfl⟩:=av
   refine vQ (.map p) (.map none) ⟨aa,iV _⟩ (key _ _ (by simp) (by simp) ?_ (by cases op<;>simp[og]at aT<;>subst aT<;>rfl))
   exact axF 9999 aQ p
  .rcases av with⟨rfl,rfl⟩|⟨f,a,d,rfl,rfl⟩
   .refine vQ .nilFunc .nilFunc ⟨aa,iV _⟩ (key _ _ (by simp) (by simp) ?_ (by cases op<;>simp[og]at aT<;>subst aT<;>rfl))
    exact XW 9999 aQ
   .refine vQ (.func f a d) .nilFunc ⟨aa,iV _⟩ (key _ _ (by simp) (by simp) ?_ (by cases op<;>simp[og]at aT<;>subst aT<;>rfl))
    exact atb 9999 aQ f a d
 .rcases anU an with⟨e,aQ,rfl,rfl⟩|⟨e,aQ,rfl,rfl⟩|⟨e,f,aQ,rfl,rfl⟩|⟨e,f,g,aQ,rfl,rfl⟩
  .obtain⟨p,rfl,rfl⟩:=av
   refine vQ (.pointer none) (.pointer p) ⟨iV _,aa⟩ (key _ _ (by simp) (by simp) ?_ (by cases op<;>simp[og]at aT<;>subst aT<;>rfl))
   exact aqf 9999 aQ p
  .obtain⟨p,n,m,rfl,rfl⟩:=av
   refine vQ (.slice none 0 0) (.slice p n m) ⟨iV _,aa⟩ (key _ _ (by simp) (by simp) ?_ (by cases op<;>simp[og]at aT<;>subst aT<;>rfl))
   exact azK 9999 aQ p n m
  .obtain⟨p,rfl,rfl⟩:=av
   refine vQ (.map none) (.map p) ⟨iV _,aa⟩ (key _ _ (by simp) (by simp) ?_ (by cases op<;>simp[og]at aT<;>subst aT<;>rfl))
   exact au7 9999 aQ p
  .rcases av with⟨rfl,rfl⟩|⟨f,a,d,rfl,rfl⟩
   .refine vQ .nilFunc .nilFunc ⟨iV _,aa⟩ (key _ _ (by simp) (by simp) ?_ (by cases op<;>simp[og]at aT<;>subst aT<;>rfl))
    exact XW 9999 aQ
   .refine vQ .nilFunc (.func f a d) ⟨iV _,aa⟩ (key _ _ (by simp) (by simp) ?_ (by cases op<;>simp[og]at aT<;>subst aT<;>rfl))
    exact aAb 9999 aQ f a d
def valOf(P:Program)(t:TypeId)(cs:List Value):Value:=
 match mn P t with
 |some true=>.agg cs.toArray
 |_=>cs.headD Go.undef
theorem ajh{t:TypeId}{n off:Nat}{cs:List Value}(aN:fT P t=some n)(aD:(mn P t).isSome=true)(ak:off+n<=cs.length)(a1:mn P t=some false->n=1):
 (part t cs.toArray off).run P w=.ok (valOf P t ((cs.drop off).take n)) w:=by
 unfold part;obtain⟨b,af⟩:=Option.isSome_iff_exists.1 aD;simp only[Sem.run_bind,Ed af,eb,Sem.run_ite];cases b with
 |true=>
   simp only[fl,run_sizeOf aN,eb,Sem.run_pure,valOf,af]
   congr 2
   apply pq;simp
 |false=>
   have:=a1 af;subst this;simp only[lk,gx,valOf,af]
   have bt:off<cs.length:=by omega
   have aF:cs.toArray[off]?=some cs[off]:=by simp[bt]
   rw[aF];simp only[Sem.run_pure]
   congr 2
   have:(cs.drop off).take 1=[cs[off]]:=by
    rw[hN bt];rfl
   rw[this];rfl
def aCv:∀{en e8:List mr} {xs dW:List V} {b:Bool},jA (en++e8) xs dW=some b->
 ∃dA cV,jA en (xs.take en.length) (dW.take en.length)=some dA/\jA e8 (xs.drop en.length) (dW.drop en.length)=some cV/\b=(dA&&cV):=by
 intro en
 induction en with
 |nil=>intro e8 xs dW b h;exact⟨true,b,by simp[jA],by simpa using h,by simp⟩
 |cons l en aw=>
   intro e8 xs dW b h;cases xs with
   |nil=>simp[jA]at h
   |cons x xs=>
     cases dW with
     |nil=>simp[jA]at h
     |cons y dW=>
       simp only[h5,jA]at h;split at h
       .rename_i a b' aD af;simp at h;obtain⟨dA,cV,J,U,ax⟩:=aw af
        exact⟨a&&dA,cV,by simp[jA,aD,J],by simpa using U,by rw[<- h,ax,Bool.and_assoc]⟩
       .simp at h
def NJ:∀{l:List mr} {xs dW:List V} {b:Bool},jA l xs dW=some b->xs.length=l.length/\dW.length=l.length:=by
 intro l
 induction l with
 |nil=>intro xs dW b h;cases xs<;>cases dW<;>simp[jA]at h |-
 |cons l ls aw=>
   intro xs dW b h;cases xs with
   |nil=>simp[jA]at h
   |cons x xs=>
     cases dW with
     |nil=>simp[jA]at h
     |cons y dW=>
       simp only[jA]at h;split at h
       .rename_i a b' aD af;have:=aw af;simp[this.1,this.2]
       .simp at h
def acG{t}{bG:Array Field}(h:P.underlying t=some (.struct bG)):P.fieldsOf t=bG:=by
 simp[Program.fieldsOf,h]
def Qx{l:mr}{x y b c d}(h:Gt l x y=some b)(ae:bM μ ab w x c)(bA:bM μ ab w y d):
 (∃k p q,l=.int k/\c=.int k p/\d=.int k q/\b=(p==q))\/(∃p q,l=.bool/\c=.bool p/\d=.bool q/\b=(p==q))\/(∃p q:ByteArray,l=.str/\c=.string p/\d=.string q/\b=(p.toList==q.toList)):=by
 unfold Gt at h;split at h
 .rename_i k j p m' q;split at h
  .rename_i an;obtain⟨rfl,rfl⟩:=an;simp at h;rw[eA ae,eA bA];exact .inl ⟨_,p,q,rfl,rfl,rfl,h.symm⟩
  .simp at h
 .rename_i p q;simp at h;rw[eA ae,eA bA];exact .inr (.inl ⟨p,q,rfl,rfl,rfl,h.symm⟩)
 .rename_i p q;simp only[<- ByteArray.toList_eq,hW]at h;rw[eA ae,eA bA];exact .inr (.inr ⟨p,q,rfl,rfl,rfl,h.symm⟩)
 .simp at h
def Nq{t}{l:mr}{ls:List mr}(O5:ls=[l]){xs dW jI kO b}(ae:b0 μ ab w xs jI)(bA:b0 μ ab w dW kO)(h:jA ls xs dW=some b):
 ∃x y c d,xs=[x]/\dW=[y]/\jI=[c]/\kO=[d]/\bM μ ab w x c/\bM μ ab w y d/\Gt l x y=some b/\(mn P t=some false->valOf P t jI=c/\valOf P t kO=d):=by
 subst O5;have ak:=NJ h
 match xs,dW,jI,kO,ak,ae,bA,h with
 | [x],[y],[c],[d],_,ae,bA,h=>
   refine⟨x,y,c,d,rfl,rfl,rfl,rfl,ae.2 0 x c rfl rfl,bA.2 0 y d rfl rfl,?_,fun aD=>by simp[valOf,aD]⟩
   simp only[jA]at h;split at h
   .rename_i a b' aD af;simp at af h;subst af
    simpa[<- h]using aD
   .simp at h
 | [x],[y],[],_,_,ae,_,_=>exact absurd ae.1 (by simp)
 | [x],[y],_::_::_,_,_,ae,_,_=>exact absurd ae.1 (by simp)
 | [x],[y],_,[],_,_,bA,_=>exact absurd bA.1 (by simp)
 | [x],[y],_,_::_::_,_,_,bA,_=>exact absurd bA.1 (by simp)
mutual
def ajJ:∀(d:Nat) (t:TypeId) (ls:List mr) (m:Nat) (xs dW:List V) (jI kO:List Value) (b:Bool),DT P d t=some ls->d<=m->
 b0 μ ab w xs jI->b0 μ ab w dW kO->jA ls xs dW=some b->(Op.equalIn m t (valOf P t jI) (valOf P t kO)).run P w=.ok b w/\(mn P t).isSome=true/\(mn P t=some false->ls.length=1):=by
 intro d t ls m xs dW jI kO b ak hm ae bA h;cases d with
 |zero=>simp[DT]at ak
 |succ d=>
   obtain⟨m,rfl⟩:∃k,m=k+1:=⟨m-1,by omega⟩
   simp only[DT]at ak;split at ak
   .rename_i k an;split at ak<;>simp at ak
    have aD:mn P t=some false:=by simp[mn,an]
    obtain⟨x,y,c,e,rfl,rfl,rfl,rfl,J,U,ax,aY⟩:=Nq (P:=P) (t:=t) ak.symm ae bA h;rw[(aY aD).1,(aY aD).2]
    refine⟨?_,by simp[aD],fun _=>by rw[<- ak];rfl⟩
    rcases Qx ax J U with⟨k,p,q,_,rfl,rfl,rfl⟩|⟨p,q,hh,_⟩|⟨p,q,hh,_⟩
    .exact run_equalIn_int w m t k _ p q an
    .cases hh
    .cases hh
   .rename_i an;split at ak<;>simp at ak
    have aD:mn P t=some false:=by simp[mn,an]
    obtain⟨x,y,c,e,rfl,rfl,rfl,rfl,J,U,ax,aY⟩:=Nq (P:=P) (t:=t) ak.symm ae bA h;rw[(aY aD).1,(aY aD).2]
    refine⟨?_,by simp[aD],fun _=>by rw[<- ak];rfl⟩
    rcases Qx ax J U with⟨k,p,q,hh,_⟩|⟨p,q,_,rfl,rfl,rfl⟩|⟨p,q,hh,_⟩
    .cases hh
    .exact run_equalIn_bool' w m t p q an
    .cases hh
   .rename_i an;split at ak<;>simp at ak
    have aD:mn P t=some false:=by simp[mn,an]
    obtain⟨x,y,c,e,rfl,rfl,rfl,rfl,J,U,ax,aY⟩:=Nq (P:=P) (t:=t) ak.symm ae bA h;rw[(aY aD).1,(aY aD).2]
    refine⟨?_,by simp[aD],fun _=>by rw[<- ak];rfl⟩
    rcases Qx ax J U with⟨k,p,q,hh,_⟩|⟨p,q,hh,_⟩|⟨p,q,_,rfl,rfl,rfl⟩
    .cases hh
    .cases hh
    .exact run_equalIn_string w m t p q an
   .rename_i bG an;split at ak
    .simp at ak
    .rename_i fE
     have aD:mn P t=some true:=by simp[mn,an]
     refine⟨?_,by simp[aD],fun h=>by simp[aD]at h⟩
     simp only[valOf,aD]
     have Nu:P.stoodInHeld t=false:=by simpa using fE
     rw[run_equalIn_struct (P:=P) w m t jI.toArray kO.toArray (by rw[acG an];exact an) Nu,acG an]
     exact amE d 0 bG.toList ls m jI kO xs dW b ak (by omega) (by simpa using ae) (by simpa using bA) h
   .simp at ak
def amE:∀(d off:Nat) (bG:List Field) (ls:List mr) (m:Nat) (jI kO:List Value) (xs dW:List V) (b:Bool),DM P d off bG=some ls->d<=m->
 b0 μ ab w xs (jI.drop off)->b0 μ ab w dW (kO.drop off)->jA ls xs dW=some b->(Op.eqFields m jI.toArray kO.toArray bG).run P w=.ok b w:=by
 intro d off bG ls m jI kO xs dW b ak hm ae bA h;cases d with
 |zero=>simp[DM]at ak
 |succ d=>
   cases bG with
   |nil=>
     simp[DM]at ak;subst ak;have:=NJ h
     match xs,dW,this,h with
     | [],[],_,h=>simp[jA]at h;subst h;rfl
   |cons f bG=>
     simp only[DM]at ak;split at ak
     .rename_i aa;obtain⟨Sq,ar8⟩:=aa;split at ak
      .rename_i en n J U;split at ak
       .rename_i wv;split at ak
        .rename_i rest aCc;simp at ak;subst ak;obtain⟨dA,cV,aF,aK,rfl⟩:=aCv h;have dd:=NJ h;simp only[fU]at dd
         have rf:off+n<=jI.length\/n=0:=by
          have:=ae.1;simp at this;omega
         have qk:=ae.1;have Lm:=bA.1;simp only[fJ]at qk Lm
         obtain⟨bC,bP,dk⟩:=ajJ d f.type en m (xs.take en.length) (dW.take en.length) ((jI.drop off).take n) ((kO.drop off).take n) dA J (by omega) (by rw[wv];exact ae.take n) (by rw[wv];exact bA.take n) aF
         have eC:=amE d (off+n) bG rest m jI kO (xs.drop en.length) (dW.drop en.length) cV aCc (by omega) (by rw[wv,<- nL];exact ae.drop n) (by rw[wv,<- nL];exact bA.drop n) aK
         simp only[Op.eqFields];rw[a' ar8];by_cases b5:off+n<=jI.length/\off+n<=kO.length
         .have cn:=ajh (P:=P) (w:=w) (cs:=jI) U bP b5.1 (fun a1=>by rw[<- wv];exact dk a1)
          have dK:=ajh (P:=P) (w:=w) (cs:=kO) U bP b5.2 (fun a1=>by rw[<- wv];exact dk a1)
          simp only[Sem.run_bind,Sq,cn,dK,eb,bC];cases dA
          .simp
          .simpa using eC
         .
          have GL:n=0:=by omega
          subst GL
          have Wj:mn P f.type=some true:=by
           obtain⟨kU,hS⟩:=Option.isSome_iff_exists.1 bP;cases kU
           .have:=dk hS;omega
           .exact hS
          have pp:∀cs:List Value,(part f.type cs.toArray f.offset).run P w=.ok (valOf P f.type []) w:=by
           intro cs;simp only[part,Sem.run_bind,Ed Wj,eb,fl,run_sizeOf U,Sem.run_pure,valOf,Wj]
           congr 2
           apply pq;simp
          simp only[Sem.run_bind,pp,eb];simp only[gq]at bC;simp only[bC,eb];cases dA
          .simp
          .simpa using eC
        .simp at ak
       .simp at ak
      .simp at ak
     .simp at ak
end
def aHE{t X Y neg b}{op:BinOp}{ls:List mr}{xs dW jI kO}{bG:Array Field}(aT:og op=some neg)(aO:P.underlying t=some (.struct bG))(bb:P.eqGuardType P.depth t=false)(ak:DT P 12 t=some ls)(ae:b0 μ ab w xs jI.toList)(bA:b0 μ ab w dW kO.toList)(h:jA ls xs dW=some b):
 ((do pure (.value (<- (do eqGuard op t X Y (.agg jI) (.agg kO);binOp op t (.agg jI) (.agg kO)))):Sem Next).run P w)=.ok (.value (.bool (b != neg))) w:=by
 have he:=(ajJ 12 t ls 10000 xs dW jI.toList kO.toList b ak (by omega) ae bA h).1
 have aD:mn P t=some true:=by simp[mn,aO]
 simp only[valOf,aD,yF]at he;simp only[Sem.run_bind,run_eqGuard_agg w op t X Y jI kO bb,eb];cases op<;>simp[og]at aT<;>subst aT
 .rw[run_eql_struct,he];simp
 .rw[run_neq_struct,he];simp
end
open Go.RowKit
section
variable {aE:fD} {μ ca:dn} {ab b6:Nat->Prop} {w w':World} {H H':az} {P:Program}
def MI{t k}(h:yJ P t=some k):P.underlying t=some k:=by
 unfold yJ at h;split at h<;>simp at h<;>subst h<;>assumption
def LW{k v}(h:oO k v=true):(∃q n,k=.int q/\v=.int q n)\/(∃s,k=.string/\v=.string s)\/(∃b,k=.bool/\v=.bool b):=by
 unfold oO at h;split at h<;>simp_all
theorem run_checkKey{e}(d){t k v}(aO:P.underlying t=some k)(an:oO k v=true):(Instr.checkKey e (d+1) t v).run P w=.ok () w:=by
 rcases LW an with⟨q,n,rfl,rfl⟩|⟨s,rfl,rfl⟩|⟨b,rfl,rfl⟩ <;>
  simp only[Instr.checkKey,Sem.run_bind,run_underlying aO,eb]<;>rfl
def DG(μ:dn)(ab:Nat->Prop)(w:World)(es:List (Value × V))(l:List MapEntry):Prop:=
 es.length=l.length/\∀(i:Nat) (k:Value) (v:V) (e:MapEntry),es[i]?=some (k,v)->l[i]?=some e->e.key=k/\bM μ ab w v e.val
def CO{kind key}:∀{es:List (Value × V)} {l:List MapEntry} (i:Nat) {r:Option (Nat × V)},DG μ ab w es l->pY kind key es i=some r->
 (r=none->Instr.findNow kind key l i=some none)/\
 (∀j v,r=some (j,v)->i<=j/\∃e gT,Instr.findNow kind key l i=some (some (j,e.val))/\l[j-i]?=some e/\es[j-i]?=some (gT,v)/\Instr.sameNow kind key gT=some true/\bM μ ab w v e.val):=by
 intro es
 induction es with
 |nil=>
   intro l i r h al
   have:l=[]:=lO (by simpa using h.1.symm)
   subst this;simp[pY]at al;subst al
   exact⟨fun _=>rfl,fun j v h=>by simp at h⟩
 |cons e es aw=>
   intro l i r h al;obtain⟨k,v⟩:=e;cases l with
   |nil=>exact absurd h.1 (by simp)
   |cons x l=>
     have ae:=h.2 0 k v x rfl rfl
     have aO:DG μ ab w es l:=⟨by simpa using h.1,fun i k v e J U=>h.2 (i+1) k v e (by simpa using J) (by simpa using U)⟩
     simp only[pY]at al;split at al
     .rename_i aq;simp at al;subst al
      refine⟨fun h=>by simp at h,fun j u hu=>?_⟩
      simp at hu;obtain⟨rfl,rfl⟩:=hu
      refine⟨bS _,x,k,?_,by simp,by simp,aq,ae.2⟩
      simp[Instr.findNow,ae.1,aq]
     .rename_i aq;obtain⟨J,U⟩:=aw (i+1) aO al;refine⟨fun h=>?_,fun j u hu=>?_⟩
      .simp[Instr.findNow,ae.1,aq,J h]
      .obtain⟨hI,e,gT,aF,aK,dS,e3,uJ⟩:=U j u hu
       refine⟨by omega,e,gT,by simp[Instr.findNow,ae.1,aq,aF],?_,?_,e3,uJ⟩
       .rw[show j-i=(j-(i+1))+1 by omega];simpa using aK
       .rw[show j-i=(j-(i+1))+1 by omega];simpa using dS
     .simp at al
def cB.IS(h:cB aE μ ab w H){id B es}(bu:H[id]?=some (.map es))(hm:μ id 0=some (B,0)):
 ∃arr kp,w.heap[B]?=some (.map arr kp)/\DG μ ab w es arr.toList:=by
 obtain⟨o,aT,ar⟩:=h.ly id _ 0 B 0 bu rfl hm
 cases o<;>first|exact ar.elim|skip
 rename_i arr kp;obtain⟨_,J,U⟩:=ar
 exact⟨arr,kp,aT,by simpa using J.symm,fun i k v e a b=>U i k v e a (by simpa using b)⟩
def cB.stamped(h:cB aE μ ab w H){id B es}(bu:H[id]?=some (.map es))(hm:μ id 0=some (B,0)){arr:Array MapEntry}{kp}(aI:w.heap[B]?=some (.map arr kp)):MapKept.Stamped arr kp:=by
 obtain⟨o,aT,ar⟩:=h.ly id _ 0 B 0 bu rfl hm;rw[aI]at aT;cases aT;exact ar.1.2
def toList_inj{a b:ByteArray}(h:a.toList=b.toList):a=b:=by
 have U:(a==b)=true:=by rw[beq_toListBytes];simp[h]
 have ax:(a.data==b.data)=true:=U;exact ByteArray.ext (eq_of_beq ax)
theorem aIT{kind:TypeDesc}{a b:Value}(an:oO kind a=true)(h:Instr.sameNow kind a b=some true):b=a:=by
 rcases LW an with⟨q,n,rfl,rfl⟩|⟨s,rfl,rfl⟩|⟨x,rfl,rfl⟩
 .cases b<;>simp[Instr.sameNow]at h;obtain⟨rfl,h⟩:=h;subst h;rfl
 .cases b<;>simp[Instr.sameNow]at h;rw[beq_toListBytes]at h;simp at h;rw[toList_inj h]
 .cases b<;>simp[Instr.sameNow]at h;subst h;rfl
def aH9{kind a}(an:oO kind a=true):Instr.sameNow kind a a=some true:=by
 rcases LW an with⟨q,n,rfl,rfl⟩|⟨s,rfl,rfl⟩|⟨x,rfl,rfl⟩
 .simp[Instr.sameNow]
 .simp[Instr.sameNow,beq_toListBytes]
 .simp[Instr.sameNow]
def axC{kind key}(an:oO kind key=true):∀{es:List (Value × V)} (i:Nat),pY kind key es i=some none->∀p∈es,p.1≠key:=by
 intro es
 induction es with
 |nil=>intro i _ p aj;cases aj
 |cons e es aw=>
   intro i al p aj;obtain⟨gT,v⟩:=e;simp only[pY]at al;split at al
   .cases al
   .rename_i aq
    rcases kf.1 aj with rfl|aj
    .intro e;simp only at e;subst e;rw[aH9 an]at aq;cases aq
    .exact aw _ al p aj
   .cases al
def DG.key{es}{l:List MapEntry}(h:DG μ ab w es l){e:MapEntry}(he:e∈l):∃v,(e.key,v)∈es:=by
 obtain⟨i,hi,rfl⟩:=xZ he;have ak:=h.1
 have Cl:es[i]?=some es[i]:=dy (by omega)
 have:=h.2 i es[i].1 es[i].2 l[i] Cl (dy hi)
 exact⟨es[i].2,by rw[this.1];exact wa _⟩
def run_getObj_map{B}{arr:Array MapEntry}{kp}(h:w.heap[B]?=some (.map arr kp)):(getObj B).run P w=.ok (.map arr kp) w:=by
 simp[getObj,Sem.run,h]
def run_setObj_map{B}{arr:Array MapEntry}{kp}(o:Obj)(h:w.heap[B]?=some (.map arr kp)):(setObj B o).run P w=.ok () { w with heap:=w.heap.setIfInBounds B o }:=by
 simp[setObj,Sem.run,h]
def run_findKey{t k key}{es:List MapEntry}{r}(aO:P.underlying t=some k)(h:Instr.findNow k key es 0=some r):
 (Instr.findKey t key es).run P w=.ok r w:=by
 simp[Instr.findKey,run_underlying aO,h]
def ayX(h:cB aE μ ab w H){t nK e kind zero x v c key ok}(aO:P.underlying t=some (.map nK e))(an:yJ P nK=some kind)(b5:nk P e=some zero)(ae:bM μ ab w x c)(q0:oO kind key=true)(ag:(match(generalizing:=false) x with
  |.s (.map none)=>some (if ok then V.bV [zero,aL false]else zero,H)
  |.mp id=>match H[id]? with
    |some (.map es)=>match pY kind key es 0 with
      |some (some (_,v))=>some (if ok then V.bV [v,aL true]else v,H)
      |some none=>some (if ok then V.bV [zero,aL false]else zero,H)
      |none=>none
    |_=>none
  |_=>none)=some (v,H')):
 di aE μ ab w H ((do pure (.value (<- Instr.lookup t c key ok)):Sem Next).run P w) v H':=by
 obtain⟨ew,gX,z2,_⟩:=ye (w:=w) b5;have y':bM μ ab w zero ew:=xU z2;have sy:=MI an
 have pack:∀(u:V) (d:Value) (b:Bool),bM μ ab w u d->bM μ ab w (if ok then V.bV [u,aL b]else u) (if ok then .tuple #[d,.bool b]else d):=by
  intro u d b hu;cases ok
  .exact hu
  .exact aIl (vs:=[d,.bool b]) (hu.cons (bM.cons (.s _) b0.nil))
 split at ag
 .simp at ag;obtain⟨rfl,rfl⟩:=ag;have:=eA ae;subst this;refine di.still h (pack _ ew false y') ?_;have wD:=run_checkKey (P:=P) (w:=w) (e:=true) 9999 sy q0
  have si:(Instr.findKey nK key []).run P w=.ok none w:=run_findKey sy (by simp[Instr.findNow])
  simp only[Instr.lookup,Sem.run_bind,run_underlying aO,eb,Sem.run_pure,Array.isEmpty_empty,wD,si,gX]
 .rename_i id;obtain⟨B,hm,rfl⟩:=Lv ae;split at ag
  .rename_i es bu;obtain⟨arr,kp,aI,b8⟩:=h.IS bu hm;have wD:=fun b=>run_checkKey (P:=P) (w:=w) (e:=b) 9999 sy q0;split at ag
   .rename_i j u al;simp at ag;obtain⟨rfl,rfl⟩:=ag;obtain⟨_,U⟩:=CO 0 b8 al;obtain⟨_,dM,gT,f1,f2,f3,f4,f5⟩:=U j u rfl;refine di.still h (pack u dM.val true f5) ?_;have si:=run_findKey (P:=P) (w:=w) sy f1;simp only[Instr.lookup,Sem.run_bind,run_underlying aO,eb,run_getObj_map aI,Sem.run_pure,wD,si]
   .rename_i al;simp at ag;obtain⟨rfl,rfl⟩:=ag;obtain⟨J,_⟩:=CO 0 b8 al;refine di.still h (pack _ ew false y') ?_;have si:=run_findKey (P:=P) (w:=w) sy (J rfl);simp only[Instr.lookup,Sem.run_bind,run_underlying aO,eb,run_getObj_map aI,Sem.run_pure,wD,si,gX]
   .simp at ag
  .simp at ag
 .simp at ag
def aIW{kind a b}(an:oO kind a=true)(h:Instr.sameNow kind a b=some true):Instr.sameBits 10000 b a=true:=by
 rcases LW an with⟨q,n,rfl,rfl⟩|⟨s,rfl,rfl⟩|⟨x,rfl,rfl⟩
 .cases b<;>simp[Instr.sameNow]at h;obtain⟨rfl,h⟩:=h;subst h;simp[Instr.sameBits]
 .cases b<;>simp[Instr.sameNow]at h;rw[beq_toListBytes]at h;simp only[Instr.sameBits];rw[beq_toListBytes];simp at h;simp[h]
 .cases b<;>simp[Instr.sameNow]at h;subst h;simp[Instr.sameBits]
def Lg(h:cB aE μ ab w H){id B es es'}{arr eB:Array MapEntry}{kp clock'}(bu:H[id]?=some (.map es))(hm:μ id 0=some (B,0))(aI:w.heap[B]?=some (.map arr kp))(b8:DG μ ab w es' eB.toList)(fE:MapKept.Stamped eB clock'):
 dm aE μ ab w H (l7 μ id 0 (B,0)) ab { w with heap:=w.heap.setIfInBounds B (.map eB clock') } (H.set id (.map es')):=by
 refine EA h (o':=.map eB clock') 0 0 bu rfl hm aI (by simp) (by simp) (.inl ⟨rfl,rfl⟩) (fun j br=>br) (fun _ _ e=>by cases e) rfl rfl rfl rfl ?_ ?_
 .intro e he;have he:e∈es':=he;obtain⟨i,hi,rfl⟩:=xZ he;have ak:=b8.1
  exact(b8.2 i es'[i].1 es'[i].2 _ (dy hi) (dy (by omega))).2.qL h.gR
 intro _ ca b6 gd bJ
 refine⟨⟨rfl,fE⟩,by simpa using b8.1.symm,fun i k v e J U=>?_⟩
 have:=b8.2 i k v e J (by simpa using U)
 refine⟨this.1,this.2.mono gd (fun K bE hm=>(bJ K bE).1 hm) (fun K _ aN=>heap_set (w':={ w with heap:=w.heap.setIfInBounds B (.map eB clock') }) rfl (fun e=>aN (e▸(h.gu _ _ _ _ hm).1))) ?_⟩;intro K a0 ck AE bE
 have dq:K≠B:=fun e=>by subst e;rw[aI]at bE;cases bE
 exact⟨a0,_,(heap_set (w':={ w with heap:=w.heap.setIfInBounds B (.map eB clock') }) rfl dq).trans bE,rfl⟩
def adO(h:cB aE μ ab w H){t nK e kind y v c key d}(aO:P.underlying t=some (.map nK e))(an:yJ P nK=some kind){id}(ae:bM μ ab w (.mp id) c)(bA:bM μ ab w y d)(q0:oO kind key=true){es}(bu:H[id]?=some (.map es))(ag:(match pY kind key es 0 with
      |some (some (i,_))=>some (bR,H.set id (.map (es.set i (key,y))))
      |some none=>some (bR,H.set id (.map (es++[(key,y)])))
      |none=>none)=some (v,H')):
 di aE μ ab w H ((do Instr.mapUpdate t c key d;pure .skip:Sem Next).run P w) v H':=by
 obtain⟨B,hm,rfl⟩:=Lv ae;obtain⟨arr,kp,aI,b8⟩:=h.IS bu hm;have sy:=MI an;have wD:=run_checkKey (P:=P) (w:=w) (e:=false) 9999 sy q0;split at ag
 .rename_i j u al;simp at ag;obtain⟨rfl,rfl⟩:=ag;obtain⟨_,U⟩:=CO 0 b8 al;obtain⟨_,dM,gT,f1,f2,f3,f4,f5⟩:=U j u rfl;simp only[QW]at f2 f3;have si:=run_findKey (P:=P) (w:=w) sy f1
  have mb:j<arr.size:=by have:=(cC.1 f2).1;simpa using this
  have kP:arr[j]?=some dM:=by simpa using f2
  have alP:dM.key=gT:=(b8.2 j gT u dM f3 f2).1
  have asB:Instr.sameBits 10000 dM.key key=true:=by rw[alP];exact aIW q0 f4
  have Ca:(Instr.keyThatStays dM.key key).run P w=.ok key w:=by simp[Instr.keyThatStays,asB]
  refine⟨Go.undef,{ w with heap:=w.heap.setIfInBounds B (.map (arr.modify j fun e=>{ e with key:=key,val:=d }) kp) },_,_,.inr ⟨?_,rfl⟩,.s _,Lg h (es':=es.set j (key,y)) bu hm aI ?_ (MapKept.stamped_modify (h.stamped bu hm aI) j _ (fun _ _=>rfl) fun e _ he=>by rw[kP]at he;cases he;rw[alP];exact(aIT q0 f4).symm)⟩
  .simp only[Instr.mapUpdate,Sem.run_bind,run_underlying aO,eb,run_getObj_map aI,wD,si,kP,mD,Hu,Ca,run_setObj_map _ aI,Sem.run_pure]
  .refine⟨by simpa using b8.1,fun i k v e J U=>?_⟩
   by_cases vK:j=i
   .subst vK
    rw[qq (by have:=(cC.1 f3).1;exact this)]at J
    simp at J;obtain⟨rfl,rfl⟩:=J;simp[mb]at U;subst U;exact⟨rfl,bA⟩
   .rw[cf vK]at J;simp[vK]at U
    exact b8.2 i k v e J (by simpa using U)
 .rename_i al;simp at ag;obtain⟨rfl,rfl⟩:=ag;obtain⟨J,_⟩:=CO 0 b8 al;have si:=run_findKey (P:=P) (w:=w) sy (J rfl)
  refine⟨Go.undef,{ w with heap:=w.heap.setIfInBounds B (.map (arr.push { key,val:=d,born:=kp }) (kp+1)) },_,_,.inr ⟨?_,rfl⟩,.s _,Lg h (es':=es++[(key,y)]) bu hm aI ?_ (MapKept.stamped_push (h.stamped bu hm aI) fun x ae e=>by obtain⟨v,av⟩:=b8.key ae;exact axC q0 0 al _ av e)⟩
  .simp only[Instr.mapUpdate,Sem.run_bind,run_underlying aO,eb,run_getObj_map aI,wD,si,run_setObj_map _ aI,Sem.run_pure]
  .have ak:=b8.1
   refine⟨by simpa using ak,fun i k v e J U=>?_⟩
   by_cases hi:i<es.length
   .rw[d' hi]at J
    rw[Im,d' (by omega)]at U
    exact b8.2 i k v e J U
   .rw[gB (by omega)]at J
    rw[Im,gB (by omega),<- ak]at U
    have:i-es.length=0:=by have:=(cC.1 J).1;simp at this;omega
    rw[this]at J U;simp at J U;obtain⟨rfl,rfl⟩:=J;subst U;exact⟨rfl,bA⟩
 .simp at ag
def aFQ(h:cB aE μ ab w H){t nK e ts ty kind v c key}(rV:ts[0]?=some t)(aO:P.underlying t=some (.map nK e))(an:yJ P nK=some kind){id}(ae:bM μ ab w (.mp id) c)(q0:oO kind key=true){es}(bu:H[id]?=some (.map es))(ag:(match pY kind key es 0 with
      |some (some (i,_))=>some (bR,H.set id (.map (es.eraseIdx i)))
      |some none=>some (bR,H)
      |none=>none)=some (v,H')):
 di aE μ ab w H ((do pure (.value (<- Builtin.delete_ ts ty #[c,key])):Sem Next).run P w) v H':=by
 obtain⟨B,hm,rfl⟩:=Lv ae;obtain⟨arr,kp,aI,b8⟩:=h.IS bu hm;have sy:=MI an;have wD:=fun b=>run_checkKey (P:=P) (w:=w) (e:=b) 9999 sy q0;split at ag
 .rename_i j u al;simp at ag;obtain⟨rfl,rfl⟩:=ag;obtain⟨_,U⟩:=CO 0 b8 al;obtain⟨_,dM,gT,f1,f2,f3,f4,f5⟩:=U j u rfl;simp only[QW]at f2 f3;have si:=run_findKey (P:=P) (w:=w) sy f1;refine⟨.tuple #[],{ w with heap:=w.heap.setIfInBounds B (.map (arr.eraseIdxIfInBounds j) kp) },_,_,.inl ?_,.s _,Lg h (es':=es.eraseIdx j) bu hm aI ?_ (MapKept.stamped_erase (h.stamped bu hm aI) j)⟩
  .simp only[Builtin.delete_,rV,Sem.run_bind,run_underlying aO,eb,run_getObj_map aI,wD,si,run_setObj_map _ aI,Sem.run_pure,zn,Da,Av]
  .have mb:j<arr.size:=by have:=(cC.1 f2).1;simpa using this
   have av3:(arr.eraseIdxIfInBounds j).toList=arr.toList.eraseIdx j:=by simp
   rw[av3]
   refine⟨by rw[agk,agk,b8.1],fun i k v e J U=>?_⟩
   rw[List.getElem?_eraseIdx]at J U;split at J
   .rename_i hi;rw[a' hi]at U;exact b8.2 i k v e J U
   .rename_i hi;rw[bm hi]at U;exact b8.2 (i+1) k v e J U
 .rename_i al;simp at ag;obtain⟨rfl,rfl⟩:=ag;obtain⟨J,_⟩:=CO 0 b8 al;have si:=run_findKey (P:=P) (w:=w) sy (J rfl);have aj:=Lg (aE:=aE) h (clock':=kp) bu hm aI b8 (h.stamped bu hm aI)
  have jX:H.set id (.map es)=H:=by
   apply vU;intro i;by_cases hi:id=i
   .subst hi;rw[qq (cC.1 bu).1,bu]
   .rw[cf hi]
  rw[jX]at aj;refine⟨.tuple #[],{ w with heap:=w.heap.setIfInBounds B (.map arr kp) },_,_,.inl ?_,.s _,aj⟩;simp only[Builtin.delete_,rV,Sem.run_bind,run_underlying aO,eb,run_getObj_map aI,wD,si,run_setObj_map _ aI,Sem.run_pure,zn,Da,Av]
 .simp at ag
def ah1(t):vV aE μ ab w ((do pure (.value (<- Instr.makeMap t none)):Sem Next).run P w) (fun id=>.mp id) (.map []):=by
 refine⟨.map (some w.heap.size),.map #[] 0,?_,⟨⟨rfl,MapKept.stamped_empty 0⟩,rfl,fun i k v e h=>by simp at h⟩,fun id ca b6 hm=>.mp _ _ hm⟩
 simp[Instr.makeMap]
def aDz(h:cB aE μ ab w H)(t):di aE μ ab w H ((do pure (.value (<- Instr.makeMap t none)):Sem Next).run P w) (.mp H.length) (H++[.map []]):=(ah1 t).op h
end
open Go.RowKit
section
variable {aE:fD} {μ ca:dn} {ab b6:Nat->Prop} {w w':World} {H H':az} {P:Program}
def aH6(h:cB aE μ ab w H){t}{bG:Array Field}{f n}{fd:Field}{x v c}(aO:P.underlying t=some (.struct bG))(al:bG[f]?=some fd)(aN:fT P fd.type=some n)(a1:n≠0)(ae:bM μ ab w x c)(ag:(match(generalizing:=false) x with
  |.ref id g o=>some (V.ref id g (o+fd.offset),H)
  |.eu cs=>if fd.offset<=cs.length then some (V.eu (cs.drop fd.offset),H)else none
  |_=>none)=some (v,H')):
 di aE μ ab w H ((do pure (.value (<- Instr.fieldAt t c f)):Sem Next).run P w) v H':=by
 have fp:∀a:Addr,((do pure (.value (<- Instr.fieldAt t (.pointer (some a)) f)):Sem Next).run P w)=.ok (.value (.pointer (some (a.add fd.offset)))) w:=by
  intro a;simp only[Instr.fieldAt,Sem.run_bind,run_underlying aO,eb,al,Instr.sureAddr,Sem.run_pure,fieldPlace,run_sizeOf aN,Sem.run_ite,bm a1]
 split at ag
 .rename_i id g o;simp at ag;obtain⟨rfl,rfl⟩:=ag;obtain⟨B,b,hm,rfl⟩:=G1 ae;refine di.still h ?_ (fp _);rw[wZ,tF];exact .ref id g _ B b hm
 .rename_i cs;split at ag
  .rename_i hI;simp at ag;obtain⟨rfl,rfl⟩:=ag;cases ae with
   |eu _ B o arr e fr aI bJ aq av=>
     refine di.still h ?_ (fp _);rw[wZ]
     refine .eu _ B _ arr e fr aI bJ (by simp;omega) (fun i a b aD af=>?_)
     rw[h4]at aD
     exact av _ a b aD (by rw[<- tF];exact af)
  .simp at ag
 .simp at ag
def aEE(h:cB aE μ ab w H){t}{bG:Array Field}{f n:Nat}{agg}{fd:Field}{cs v c}(aO:P.underlying t=some (.struct bG))(al:bG[f]?=some fd)(aq:uK P fd.type=some (agg,n))(ae:bM μ ab w (.agg cs) c)(ak:((cs.drop fd.offset).take n).length=n)(av:shut agg ((cs.drop fd.offset).take n)=some v):
 di aE μ ab w H ((do pure (.value (<- Instr.field t c f)):Sem Next).run P w) v H:=by
 obtain⟨vs,rfl,dE⟩:=SV ae;obtain⟨J,U,ax⟩:=QV aq
 have dd:fd.offset+n<=vs.toList.length\/n=0:=by
  have:=dE.1;simp at ak this;simp;omega
 cases agg with
 |true=>
   simp[shut]at av;subst av;refine di.still h (H5 ((dE.drop _).take n)) ?_;simp only[Instr.field,Sem.run_bind,run_underlying aO,eb,al,asAgg,Sem.run_pure,part,Ed J,fl,run_sizeOf U]
   congr 3
   apply pq;simp
 |false=>
   have aN:=ax rfl;subst aN;have an:=(dE.drop fd.offset).take 1;revert an av ak;generalize ib:(cs.drop fd.offset).take 1=A;intro ak av an
   match A,ak,av with
   | [x],_,av=>
     simp[shut]at av;subst av;obtain⟨b,af,aA6⟩:=an.get (i:=0) (a:=x) rfl;refine di.still h aA6 ?_
     have fY:vs[fd.offset]?=some b:=by
      rw[iB (by omega),h4]at af
      simpa using af
     simp only[Instr.field,Sem.run_bind,run_underlying aO,eb,al,asAgg,Sem.run_pure,part,Ed J,lk,gx,fY]
def aeJ{t e}{sz len cap:Nat}{k}{n:Int}{a}(aO:P.underlying t=some (.slice e))(aq:fT P e=some sz)(a1:0<=n)(J:n<len):
 ((do pure (.value (<- Instr.indexAt t (.slice (some a) len cap) (.int k n))):Sem Next).run P w)=.ok (.value (.pointer (some (a.add (n.toNat*sz))))) w:=by
 simp only[Instr.indexAt,asIntOf,Sem.run_bind,Sem.run_pure,eb,run_underlying aO,Sem.run_ite];rw[a' ⟨a1,J⟩];simp only[run_sizeOf aq,eb]
def aaG(h:cB aE μ ab w H){t e}{sz:Nat}{x v c k}{n:Int}(aO:P.underlying t=some (.slice e))(aq:fT P e=some sz)(ae:bM μ ab w x c)(ag:(match(generalizing:=false) x with
  |.aB id g off len dF=>if 0<=n/\n<len/\dF=sz then some (V.ref id g (off+n.toNat*sz),H)else none
  |.du es dF=>if 0<=n/\dF=sz then match es[n.toNat]? with
    |some e=>some (V.eu e,H)
    |none=>none
  else none
  |_=>none)=some (v,H')):
 di aE μ ab w H ((do pure (.value (<- Instr.indexAt t c (.int k n))):Sem Next).run P w) v H':=by
 split at ag
 .rename_i id g off len dF;split at ag
  .rename_i aa;obtain⟨a1,J,rfl⟩:=aa;simp at ag;obtain⟨rfl,rfl⟩:=ag;cases ae with
   |aB _ _ _ _ _ B b cap arr bw hm aI oq de=>
     refine di.still h ?_ (aeJ aO aq a1 J);rw[wZ,tF];exact .ref id g _ B b hm
   |js=>simp at J;omega
  .simp at ag
 .rename_i es dF;split at ag
  .rename_i aa;obtain⟨a1,rfl⟩:=aa;split at ag
   .rename_i el lg;simp at ag;obtain⟨rfl,rfl⟩:=ag;have bt:n.toNat<es.length:=(cC.1 lg).1;cases ae with
    |du _ _ B o cap arr bw fr aI bJ oq b5 de av=>
      refine di.still h ?_ (aeJ aO aq a1 (by omega))
      rw[wZ];have qm:=b5 _ _ lg
      have hmul:n.toNat*dF+dF<=es.length*dF:=by
       have:(n.toNat+1)*dF<=es.length*dF:=tu _ bt
       rwa[sv,LC]at this
      exact .eu el B _ arr bw fr aI bJ (by omega) (fun i a b aD af=>av _ el i a b lg aD af)
    |il=>simp at bt
   .simp at ag
  .simp at ag
 .simp at ag
def azc{s:ByteArray}{n:Nat}{c:UInt8}(h:s.data.toList[n]?=some c):s[n]?=some c:=by
 have ak:n<s.size:=by have:=(cC.1 h).1;simpa using this
 rw[getElem?_pos s n ak]
 have:s.data.toList[n]?=some s.data[n]:=by simp
 rw[this]at h;exact h
def azJ{t:TypeId}{s:ByteArray}{k:IntKind}{n:Int}{c:UInt8}(aO:P.underlying t=some .string)(a1:0<=n)(aa:s.data.toList[n.toNat]?=some c):
 ((do pure (.value (<- Instr.index t (.string s) (.int k n))):Sem Next).run P w)=.ok (.value (.int .u8 c.toNat)) w:=by
 simp only[Instr.index,asIntOf,Sem.run_bind,Sem.run_pure,eb,run_underlying aO,a' a1,azc aa]
def nN(o:Option Value)(d l:Int):Prop:=(o=none/\l=d)\/∃k,o=some (.int k l)
def Cg{s}{len cap:Nat}{cz hi}{l h:Int}(ak:nN cz 0 l)(hh:nN hi len h)(a1:0<=l)(J:l<=h)(U:h<=len)(ax:len<=cap):
 (Instr.sliceBounds s len cap cz hi none).run P w=.ok (l.toNat,h.toNat,cap) w:=by
 have af:∀(k:IntKind) (i:Int) (y:Nat) (code:BoundsCode),0<=i->i<=y->(Instr.sliceBound (.int k i) y code).run P w=.ok i.toNat w:=fun k i y code a b=>run_sliceBound w k i y code a b
 rcases hh with⟨rfl,rfl⟩|⟨aiK,rfl⟩<;>rcases ak with⟨rfl,rfl⟩|⟨yI,rfl⟩
 .simp[Instr.sliceBounds]
 .simp only[Instr.sliceBounds,Sem.run_bind,Sem.run_pure,eb,af yI l len _ a1 J];simp
 .simp only[Instr.sliceBounds,Sem.run_bind,Sem.run_pure,eb,af aiK h cap _ (by omega) (by omega)];simp
 .simp only[Instr.sliceBounds,Sem.run_bind,Sem.run_pure,eb,af aiK h cap _ (by omega) (by omega),af yI l h.toNat _ a1 (by omega)]
def aqu{len cap cz k1 k2}(ak:nN cz 0 0):
 (Instr.sliceBounds true len cap cz (some (.int k1 0)) (some (.int k2 0))).run P w=.ok (0,0,0) w:=by
 have af:∀(k:IntKind) (y:Nat) (code:BoundsCode),(Instr.sliceBound (.int k 0) y code).run P w=.ok 0 w:=fun k y code=>by
  have:=run_sliceBound (P:=P) w k 0 y code (by omega) (by omega);simpa using this
 rcases ak with⟨rfl,_⟩|⟨yI,rfl⟩<;>simp only[Instr.sliceBounds,Sem.run_bind,Sem.run_pure,eb,af]
def BV{t e sz len cap a cz hi ft l h m}(aO:P.underlying t=some (.slice e))(aq:fT P e=some sz)(af:(Instr.sliceBounds true len cap cz hi ft).run P w=.ok (l,h,m) w):
 ((do pure (.value (<- Instr.sliceAt t (.slice a len cap) cz hi ft)):Sem Next).run P w)=.ok (.value (.slice (if m=l then a else a.map (·.add (l*sz))) (h-l) (m-l))) w:=by
 simp only[Instr.sliceAt,Sem.run_bind,run_underlying aO,eb,Instr.slice,af,run_sizeOf aq,Sem.run_pure]
def aAq(h:cB aE μ ab w H){t e}{sz:Nat}{x v c cz hi}{l hh:Int}(aO:P.underlying t=some (.slice e))(aq:fT P e=some sz)(ae:bM μ ab w x c)(ak:nN cz 0 l)[∀d:Int,Decidable (nN hi d hh)](ag:(match(generalizing:=false) x with
  |.s (.slice none 0 0)=>if nN hi 0 hh/\l=0/\hh=0 then some bz else none
  |.db=>if nN hi 0 hh/\l=0/\hh=0 then some .db else none
  |.du es dF=>if nN hi es.length hh/\0<=l/\l<=hh/\hh<=es.length/\dF=sz then some (V.du ((es.drop l.toNat).take (hh-l).toNat) sz)else none
  |.aB id g off len dF=>if nN hi len hh/\0<=l/\l<=hh/\hh<=len/\dF=sz then some (V.aB id g (off+l.toNat*sz) (hh-l).toNat sz)else none
  |_=>none)=some v):
 di aE μ ab w H ((do pure (.value (<- Instr.sliceAt t c cz hi none)):Sem Next).run P w) v H:=by
 split at ag
 .split at ag
  .rename_i aa;obtain⟨af,rfl,rfl⟩:=aa;simp at ag;subst ag;have:=eA ae;subst this;refine di.still h (.s _) ?_
   rw[BV (a:=none) (len:=0) (cap:=0) (sz:=sz) aO aq (Cg ak (by simpa using af) (by omega) (by omega) (by omega) (by omega))]
   simp
  .simp at ag
 .split at ag
  .rename_i aa;obtain⟨af,rfl,rfl⟩:=aa;simp at ag;subst ag;cases ae with
   |db a=>
     refine di.still h (.db a) ?_
     rw[BV (a:=some a) (len:=0) (cap:=0) (sz:=sz) aO aq (Cg ak (by simpa using af) (by omega) (by omega) (by omega) (by omega))]
     simp
  .simp at ag
 .rename_i es dF;split at ag
  .rename_i aa;obtain⟨af,a1,J,U,rfl⟩:=aa;simp at ag;subst ag
   have TK:∀i el,((es.drop l.toNat).take (hh-l).toNat)[i]?=some el->es[l.toNat+i]?=some el:=by
    intro i el he
    have hi:i<(hh-l).toNat:=by have:=(cC.1 he).1;simp at this;omega
    rwa[iB hi,h4]at he
   have dd:((es.drop l.toNat).take (hh-l).toNat).length=(hh-l).toNat:=by simp;omega
   cases ae with
   |du _ _ B o cap arr bw fr aI bJ oq b5 de av=>
     have fp:=BV (P:=P) (w:=w) (a:=some ⟨B,o,none⟩) (len:=es.length) (cap:=cap) aO aq (Cg ak af a1 J U oq);refine di.still h ?_ fp
     have FL:hh.toNat-l.toNat=(hh-l).toNat:=by omega
     by_cases iX:cap=l.toNat
     .rw[a' iX,FL]
      have ck:(hh-l).toNat=0:=by omega
      rw[ck]at dd |-;rw[gq];exact .il _ _ _
     .rw[bm iX,FL,mD,wZ]
      have hmul:l.toNat*dF+(hh-l).toNat*dF<=es.length*dF:=by
       rw[<- sv];exact tu _ (by omega)
      have key:bM μ ab w (.du ((es.drop l.toNat).take (hh-l).toNat) dF) (.slice (some ⟨B,o+l.toNat*dF,none⟩) ((es.drop l.toNat).take (hh-l).toNat).length (cap-l.toNat)):=by
       refine .du _ dF B (o+l.toNat*dF) (cap-l.toNat) arr bw fr aI bJ (by rw[dd];omega) (fun i el he=>b5 _ el (TK i el he)) (by rw[dd];omega) (fun i el j a b he aD fY=>?_)
       refine av _ el j a b (TK i el he) aD ?_;rw[sv];rw[<- fY]
       congr 1
       omega
      rw[dd]at key;exact key
   |il _ cap a=>
     have fp:=BV (P:=P) (w:=w) (a:=some a) (len:=0) (cap:=cap) (sz:=dF) aO aq (Cg ak (by simpa using af) a1 J (by simpa using U) (by omega))
     have aF:hh.toNat-l.toNat=0:=by simp at U;omega
     rw[aF]at fp;refine di.still h ?_ fp;simp only[ahW,List.take_nil]
     have aK:l.toNat=0:=by simp at U;omega
     split
     .exact .il _ _ _
     .simp only[mD];exact .il _ _ _
  .simp at ag
 .rename_i id g off len dF;split at ag
  .rename_i aa;obtain⟨af,a1,J,U,rfl⟩:=aa;simp at ag;subst ag
   have FL:hh.toNat-l.toNat=(hh-l).toNat:=by omega
   cases ae with
   |aB _ _ _ _ _ B b cap arr bw hm aI oq de=>
     have fp:=BV (P:=P) (w:=w) (a:=some ⟨B,b+off,none⟩) (len:=len) (cap:=cap) aO aq (Cg ak af a1 J U oq);refine di.still h ?_ fp;by_cases iX:cap=l.toNat
     .rw[a' iX,FL]
      have ck:(hh-l).toNat=0:=by omega
      have aF:cap-l.toNat=0:=by omega
      rw[ck,aF];exact .js _ _ _ _ B b _ hm
     .rw[bm iX,FL,mD,wZ,tF]
      have hmul:l.toNat*dF+(cap-l.toNat)*dF=cap*dF:=by
       rw[<- sv];congr 1;omega
      exact .aB id g _ _ dF B b _ arr bw hm aI (by omega) (by omega)
   |js _ _ _ _ B b a hm=>
     have fp:=BV (P:=P) (w:=w) (a:=some a) (len:=0) (cap:=0) (sz:=dF) aO aq (Cg ak (by simpa using af) a1 J (by simpa using U) (by omega))
     have aF:hh.toNat-l.toNat=0:=by simp at U;omega
     have aK:l.toNat=0:=by simp at U;omega
     rw[aF,aK]at fp;refine di.still h ?_ fp;simp only[fl]
     rw[show(hh-l).toNat=0 by omega]
     exact .js _ _ _ _ B b _ hm
  .simp at ag
 .simp at ag
def aqn(h:cB aE μ ab w H){t e sz x v c cz k1 k2}(aO:P.underlying t=some (.slice e))(aq:fT P e=some sz)(ae:bM μ ab w x c)(ak:nN cz 0 0)(ag:(match(generalizing:=false) x with
      |.s (.slice none 0 0)=>some (bz,H)
      |.db=>some (.db,H)
      |.du _ _=>some (.db,H)
      |.aB _ _ _ _ _=>some (.db,H)
      |_=>none)=some (v,H')):
 di aE μ ab w H ((do pure (.value (<- Instr.sliceAt t c cz (some (.int k1 0)) (some (.int k2 0)))):Sem Next).run P w) v H':=by
 have fp:∀a len cap,((do pure (.value (<- Instr.sliceAt t (.slice a len cap) cz (some (.int k1 0)) (some (.int k2 0)))):Sem Next).run P w)=.ok (.value (.slice a 0 0)) w:=by
  intro a len cap;rw[BV aO aq (aqu ak)];simp
 split at ag<;>simp at ag
 all_goals obtain⟨rfl,rfl⟩:=ag
 .rw[eA ae];exact di.still h (.s _) (fp _ _ _)
 all_goals
  cases ae<;>exact di.still h (.db _) (fp _ _ _)
def aCt{t s cz hi}{l h:Int}(aO:P.underlying t=some .string)(ak:nN cz 0 l)(hh:nN hi s.size h)(a1:0<=l)(J:l<=h)(U:h<=s.size):
 ((do pure (.value (<- Instr.sliceAt t (.string s) cz hi none)):Sem Next).run P w)=.ok (.value (.string (s.extract l.toNat h.toNat))) w:=by
 simp only[Instr.sliceAt,Sem.run_bind,run_underlying aO,eb,Instr.slice,Option.isSome_none,lk,gx,Cg (P:=P) (w:=w) (s:=false) ak hh a1 J U (bS _),Sem.run_pure]
end
open Go.RowKit
section
variable {aE:fD} {μ ca:dn} {ab b6:Nat->Prop} {w w':World} {H H':az} {P:Program}
def abO{t e}{i:TypeInfo}{z k1 k2}{l c:Int}(aO:P.underlying t=some (.slice e))(hi:P.info? e=some i)(b5:nk P e=some z)(aq:0<i.size)(af:0<i.bytes)(oN:z.cells.length=i.size)(a1:0<=l)(J:l<=c)(U:c*i.bytes<=2^47):
 vV aE μ ab w ((do pure (.value (<- Instr.makeSlice t (.int k1 l) (.int k2 c))):Sem Next).run P w) (fun id=>.aB id 0 0 l.toNat i.size) (.cells 0 (List.replicate l.toNat z.cells).flatten):=by
 obtain⟨ew,gX,z2,wk,ot,_⟩:=ye (w:=w) b5;have vr:=wG (μ:=μ) (ab:=ab) (w:=w) (xU z2) (wi z2)
 have rF:ew.cells.size=i.size:=by rw[<- oN,vr.1];simp
 have w4:c<=c*i.bytes:=by
  have:c*1<=c*(i.bytes:Int):=Int.mul_le_mul_of_nonneg_left (by omega) (by omega)
  omega
 have aJi:c<=140737488355328:=by simp at U;omega
 have wl:IntKind.i64.wrap l=l:=IntWalk.i64_in _ (by omega)
 have qF:IntKind.i64.wrap c=c:=IntWalk.i64_in _ (by omega)
 have de:(sizeOf e).run P w=.ok i.size w:=run_sizeOf (by simp[fT,hi])
 have gi:((decide (c<0)||decide ((i.bytes:Int)*c > 2^48))||decide (l<0)||decide (l > c))=false:=by
  have:(i.bytes:Int)*c<=2^47:=by rw[Int.mul_comm];exact U
  simp;simp at this;omega
 have Ze:∀arr:Array Value,arr.toList=(List.replicate c.toNat ew.cells.toList).flatten->((do pure (.value (<- Instr.makeSlice t (.int k1 l) (.int k2 c))):Sem Next).run P w)=.ok (.value (.slice (some ⟨w.heap.size,0,none⟩) l.toNat c.toNat)) (w.alloc (.cells arr e)):=by
  intro arr adb
  have aoD:(typeInfo e).run P w=.ok i w:=by simp[typeInfo,hi]
  simp only[Instr.makeSlice,Sem.run_bind,run_underlying aO,eb,asInt,asIntOf,Sem.run_pure,aoD,wl,qF,Sem.run_ite,gi,lk,gx,run_askRoom,de];by_cases aN:c.toNat*i.size=0
  .have pg:c.toNat=0:=by rcases Nat.mul_eq_zero.1 aN with h|h<;>omega
   have at3:arr=#[]:=by
    apply pq;rw[adb,pg];rfl
   have em:∀f:Nat->Value,Array.map f (Array.range 0)=#[]:=fun f=>by apply Ou;simp
   simp only[aN,fl,Sem.run_pure,eb,em,newRow,Sem.run_bind,run_newObj,at3];rfl
  .have awx:Array.map (fun x=>ew.cells[x % ew.cells.size]!) (Array.range (c.toNat*i.size))=arr:=by
    apply pq
    rw[adb,<- Ob ew.cells.toList c.toNat (by simp;omega)]
    simp[rF]
   simp only[aN,gx,Sem.run_bind,gX,Sem.run_pure,eb,newRow,run_newObj,awx];rfl
 have N7:l.toNat<=c.toNat:=by omega
 have my:b0 μ ab w (List.replicate l.toNat z.cells).flatten (List.replicate l.toNat ew.cells.toList).flatten:=vr.OC _
 have aCe:(List.replicate c.toNat ew.cells.toList).flatten=(List.replicate l.toNat ew.cells.toList).flatten++(List.replicate (c.toNat-l.toNat) ew.cells.toList).flatten:=by
  rw[<- tl,List.replicate_append_replicate]
  congr 2;omega
 have qm:(List.replicate l.toNat ew.cells.toList).flatten.length=l.toNat*i.size:=by simp[rF]
 have iX:(List.replicate c.toNat ew.cells.toList).flatten.length=c.toNat*i.size:=by simp[rF]
 have atG:(List.replicate l.toNat z.cells).flatten.all V.one=true:=by
  rw[dU];intro x ae;obtain⟨r,ar,EV⟩:=Mh.1 ae;rw[(JY.1 ar).2]at EV;have:=wi z2;rw[dU]at this;exact this x EV
 have e1:jQ aE μ ab w (.cells 0 (List.replicate l.toNat z.cells).flatten) 0 (.cells (List.replicate c.toNat ew.cells.toList).flatten.toArray e (0,0)):=by
  refine⟨rfl,?_,fun j a v aD av=>?_,sg.one atG⟩
  .rw[s0,my.1,qm,iX,j2];exact tu _ N7
  .have br:j<(List.replicate l.toNat ew.cells.toList).flatten.length:=by rw[<- my.1];exact(cC.1 aD).1
   rw[j2,zn,aCe,d' br]at av;exact my.2 j a v aD av
 refine⟨_,_,Ze (List.replicate c.toNat ew.cells.toList).flatten.toArray (by simp),e1,fun id ca b6 hm=>?_⟩
 refine .aB id 0 0 l.toNat i.size w.heap.size 0 c.toNat _ e hm (x4 (w:=w) rfl) N7 ?_;rw[s0,iX];simp
def aCT(h:cB aE μ ab w H){t e}{i:TypeInfo}{z k1 k2}{l c:Int}(aO:P.underlying t=some (.slice e))(hi:P.info? e=some i)(b5:nk P e=some z)(aq:0<i.size)(af:0<i.bytes)(oN:z.cells.length=i.size)(a1:0<=l)(J:l<=c)(U:c*i.bytes<=2^47):
 di aE μ ab w H ((do pure (.value (<- Instr.makeSlice t (.int k1 l) (.int k2 c))):Sem Next).run P w) (.aB H.length 0 0 l.toNat i.size) (H++[.cells 0 (List.replicate l.toNat z.cells).flatten]):=
 (abO aO hi b5 aq af oN a1 J U).op h
theorem aqv{sz}(a1:0<sz):∀{es:List (List V)},(∀el∈es,el.length=sz)->∀i,es.flatten[i]?=(es[i / sz]?).bind (·[i % sz]?):=by
 intro es
 induction es with
 |nil=>intro _ i;simp
 |cons el es aw=>
   intro b5 i
   have lg:=b5 el (by simp)
   rw[uV];by_cases hi:i<sz
   .rw[d' (by omega),Nat.div_eq_of_lt hi,Nat.mod_eq_of_lt hi];rfl
   .rw[gB (by omega),aw (fun e he=>b5 e (by simp[he])),lg]
    have aF:i / sz=(i-sz) / sz+1:=by
     rw[Nat.div_eq_sub_div a1 (by omega)]
    have aK:i % sz=(i-sz) % sz:=Nat.mod_eq_sub_mod (by omega)
    rw[aF,aK];rfl
def afK{es sz c}(a1:0<sz)(h:bM μ ab w (.du es sz) c):∃a cap,c=.slice (some a) es.length cap/\es.flatten.length=es.length*sz/\z7 μ ab w es.flatten a:=by
 cases h with
 |du _ _ B o cap arr e fr aI bJ aa b5 aq av=>
   have rh:∀el∈es,el.length=sz:=fun el lg=>by
    obtain⟨i,hi,rfl⟩:=xZ lg;exact b5 i _ (dy hi)
   have dd:es.flatten.length=es.length*sz:=by
    clear av aq aa b5
    induction es with
    |nil=>simp
    |cons e es aw=>rw[uV,fU,aw (fun x ae=>rh x (by simp[ae])),rh e (by simp),gP,sv];omega
   refine⟨_,cap,rfl,dd,Qk aI (by omega) (fun i a b aD af=>?_)⟩
   rw[aqv a1 rh]at aD;rw[eL]at aD;obtain⟨el,lg,aD⟩:=aD;refine(av _ el _ a b lg aD ?_).vy;rw[<- af]
   congr 1
   have:=Nat.div_add_mod i sz;rw[Nat.mul_comm]at this;omega
 |il _ cap a=>exact⟨a,cap,rfl,by simp,[],b0.nil,fun j v av=>by simp at av⟩
def Mi{sz m cap:Nat}{a:Addr}{vs:List Value}(ak:vs.length=m*sz)(aa:∀(j:Nat) (v:Value),vs[j]?=some v->w.cell? (a.add j)=some v){l4:World}(hw:l4.heap=w.heap):
 (Builtin.firstCells sz m (.slice (some a) m cap)).run P l4=.ok vs.toArray l4:=
 run_firstCells_some (P:=P) l4 sz m a m cap vs ak (fun j v av=>by rw[<- aa j v av];simp[World.cell?,hw])
def avo(h:cB aE μ ab w H){sz m:Nat}{x:V}{xs:List V}{c:Value}(a1:0<sz)(ae:bM μ ab w x c)(he:elems H sz x=some (m,xs)):
 xs.length=m*sz/\∃vs:List Value,b0 μ ab w xs vs/\∀l4:World,l4.heap=w.heap->(Builtin.lenOf c).run P l4=.ok m l4/\(Builtin.firstCells sz m c).run P l4=.ok vs.toArray l4:=by
 unfold elems at he;dsimp only at he;split at he
 .cases he;rw[eA ae]
  exact⟨by simp,[],b0.nil,fun l4 _=>⟨rfl,rfl⟩⟩
 .cases he;cases ae with
  |db a=>exact⟨by simp,[],b0.nil,fun l4 _=>⟨rfl,Mi (w:=w) (by simp) (fun j v av=>by simp at av) ‹_›⟩⟩
 .rename_i es dF;split at he
  .rename_i de;subst de;cases he;obtain⟨a,cap,rfl,ak,vs,av,aa⟩:=afK a1 ae
   exact⟨ak,vs,av,fun l4 hw=>⟨rfl,Mi (by rw[<- av.1,ak]) aa hw⟩⟩
  .simp at he
 .rename_i id g off len dF;split at he
  .rename_i de;subst de;split at he
   .rename_i cs kS;split at he
    .rename_i dd;cases he;cases ae with
     |aB _ _ _ _ _ B b cap arr e hm aI oq de=>
       obtain⟨vs,av,aa⟩:=h.place kS hm dd
       exact⟨dd,vs,av,fun l4 hw=>⟨rfl,Mi (by rw[<- av.1,dd]) aa hw⟩⟩
     |js _ _ _ _ B b a hm=>
       refine⟨by simp,[],⟨by simp,fun i a b h=>by simp at h⟩,fun l4 hw=>⟨rfl,Mi (w:=w) (by simp) (fun j v av=>by simp at av) hw⟩⟩
    .simp at he
   .simp at he
  .simp at he
 .simp at he
def MB{ts ty t jt e}{i:TypeInfo}{ew base sLen sCap m c sL vs}(a1:ts[0]?=some t)(J:ts[1]?=some jt)(aO:P.underlying t=some (.slice e))(jx:(∃bw,P.underlying jt=some (.slice bw))\/P.underlying jt=some .string)(hi:P.info? e=some i)(b5:i.zero=some ew)(af:0<i.bytes)(dd:(Builtin.lenOf c).run P w=.ok m w)(hold:(Builtin.firstCells i.size sLen (.slice base sLen sCap)).run P w.drew=.ok sL w.drew)(yh:(Builtin.firstCells i.size m c).run P w.drew=.ok vs w.drew)(bb:sCap<sLen+m)(aGd:(sLen+m)*i.bytes<=140737488355328):
 (Builtin.append_ ts ty #[.slice base sLen sCap,c]).run P w=
  .ok (.slice (some ⟨w.heap.size,0,none⟩) (sLen+m) (grownCap w (sLen+m) sCap e)) (w.drew.alloc (.cells (sL++vs++Builtin.zeroCells ew.cells (grownCap w (sLen+m) sCap e-(sLen+m))) e)):=by
 have aN:¬(sLen+m<=sCap):=by omega
 have Ri:=growslice_fits (bytes:=i.bytes) bb aGd
 have apQ:¬(281474976710656<Builtin.nextslicecap (sLen+m) sCap*i.bytes):=by omega
 have nC:¬(i.bytes=0):=by omega
 rcases jx with⟨bw,jx⟩|jx <;>
  simp[Builtin.append_,run_underlying aO,run_underlying jx,a1,J,sizeOf,typeInfo,zeroValue,hi,b5,dd,aN,apQ,nC,Question.forced,hold,yh,newRow,grownCap]
def L2{ts ty t jt e}{i:TypeInfo}{base sLen sCap m c vs}(a1:ts[0]?=some t)(J:ts[1]?=some jt)(aO:P.underlying t=some (.slice e))(jx:(∃bw,P.underlying jt=some (.slice bw))\/P.underlying jt=some .string)(hi:P.info? e=some i)(dd:(Builtin.lenOf c).run P w=.ok m w)(yh:(Builtin.firstCells i.size m c).run P w=.ok vs w)(ar:sLen+m<=sCap)(fE:∀a,base=some a->(storeCells (a.add (sLen*i.size)) vs.toList).run P w=.ok () w')(Nu:base=none->w'=w):
 (Builtin.append_ ts ty #[.slice base sLen sCap,c]).run P w=.ok (.slice base (sLen+m) sCap) w':=by
 cases base with
 |none=>
   rw[Nu rfl]
   rcases jx with⟨bw,jx⟩|jx <;>
    simp[Builtin.append_,run_underlying aO,run_underlying jx,a1,J,sizeOf,typeInfo,hi,dd,ar,yh]
 |some a=>
   have:=fE a rfl
   rcases jx with⟨bw,jx⟩|jx <;>
    simp[Builtin.append_,run_underlying aO,run_underlying jx,a1,J,sizeOf,typeInfo,hi,dd,ar,yh,this]
end
open Go.RowKit
section
variable {aE:fD} {μ ca:dn} {ab b6:Nat->Prop} {w w':World} {H H':az} {P:Program}
def cB.next(h:cB aE μ ab w H){id g c}(aa:ao H id g=some c):μ id (g+1)=none:=by
 cases e:μ id (g+1)with
 |none=>rfl
 |some p=>have:=h.nb _ _ _ _ _ e (rB aa) rfl;omega
def cB.aaV(h:cB aE μ ab w H){id g l}(aa:H[id]?=some (.bytes g l)):μ id (g+1)=none:=by
 cases e:μ id (g+1)with
 |none=>rfl
 |some p=>have:=h.nb _ _ _ _ _ e aa rfl;omega
def ayy(P e b):b<=CA P e b:=by
 unfold CA;split
 .split<;>omega
 .exact bS _
def aD2(P){e b}(_:0<b):CA P e b=1->CV P e=true:=by
 unfold CA;split
 .split
  .intro _;assumption
  .intro h;cases h
 .rename_i h;intro U;exact absurd U h
def ni(x:UInt8):Value:=.int .u8 x.toNat
theorem aFa [oG aE P] (h:cB aE μ ab w H) {ts:Array TypeId} {ty t jt e:TypeId} {i:TypeInfo} {base bytes:Nat} {s x v:V} {cs c:Value}
 (a1:ts[0]?=some t) (J:ts[1]?=some jt) (aO:P.underlying t=some (.slice e)) (jx:(∃ bw,P.underlying jt=some (.slice bw))∨P.underlying jt=some .string) (hi:P.info? e=some i)
 {ew:Value} (y':i.zero=some ew) (GN:ew.cells.size=i.size) (af:0 < i.bytes) (EO:i.bytes≤bytes) (mR:bytes=1→CV P e=true) (aq:bM μ ab w s cs) (ae:bM μ ab w x c) (ag:D9 H base i.size bytes s x=some (v,H')):
 di aE μ ab w H ((do pure (.value (← Builtin.append_ ts ty #[cs,c])):Sem Next).run P w) v H':=by
 unfold D9 at ag;split at ag
 case h_2=>cases ag
 rename_i b;split at ag
 case isFalse=>cases ag
 rename_i FI;obtain ⟨xp,awd⟩:=FI;have rf:=eA ae;subst rf;have aDg:aE.mG e=true:=oG.aym (P:=P) _ (mR awd)
 have aEk:i.bytes≤1:=by omega
 have u5:(b.data.toList.map ni).length=b.size:=by simp
 have dd:∀ l4:World,(Builtin.lenOf (.string b)).run P l4=.ok b.size l4:=fun _=>rfl
 have x5:∀ l4:World,(Builtin.firstCells i.size b.size (.string b)).run P l4=.ok (b.data.toList.map ni).toArray l4:=by
  intro l4;simp only [Builtin.firstCells,Sem.run_pure]
  congr 1
  apply pq
  have:b.extract 0 b.size=b:=by simp
  rw [this];simp [ni]
 have hE:((b.data.toList.map ni).map V.s).all V.one=true:=by
  rw [dU];intro x ae;simp only [vE] at ae;obtain ⟨_,⟨u,_,rfl⟩,rfl⟩:=ae;rfl
 have dE:b0 μ ab w ((b.data.toList.map ni).map V.s) (b.data.toList.map ni):=by
  refine ⟨by simp,fun i p q aj bD=>?_⟩
  rw [oi,bD] at aj;cases aj;exact .s _
 have stay:∀ (a:Option Addr) (len cap:Nat),b.size=0→len≤cap→((do pure (.value (← Builtin.append_ ts ty #[.slice a len cap,.string b])):Sem Next).run P w)=.ok (.value (.slice a len cap)) w:=by
  intro a len cap hm aa
  have SJ:b.data.toList.map ni=[]:=lO (by omega)
  have U:=x5 w;rw [SJ] at U
  have:=L2 (P:=P) (w:=w) (w':=w) (base:=a) (sLen:=len) (sCap:=cap) (ty:=ty) a1 J aO jx hi (dd w) U (by omega) (fun _ _=>rfl) (fun _=>rfl)
  simp [this,hm]
 have grown:∀ (a:Option Addr) (len cap:Nat) (l:List UInt8),l.length=len→(Builtin.firstCells i.size len (.slice a len cap)).run P w.drew=.ok (l.map ni).toArray w.drew→cap < len+b.size→(len+b.size)≤2 ^ 47→
  ((do pure (.value (← Builtin.append_ ts ty #[.slice a len cap,.string b])):Sem Next).run P w)=.ok (.value (.slice (some ⟨w.heap.size,0,none⟩) (len+b.size) (grownCap w (len+b.size) cap e))) (w.drew.alloc (.cells ((l.map ni).toArray ++ (b.data.toList.map ni).toArray ++ Builtin.zeroCells ew.cells (grownCap w (len+b.size) cap e - (len+b.size))) e)):=by
  intro a len cap l qm hold bb hS
  have:=MB (P:=P) (w:=w) (base:=a) (sLen:=len) (sCap:=cap) (ty:=ty) a1 J aO jx hi y' af (dd w) hold (x5 w.drew) bb (k9 (L0 _ aEk) (by rw [w5];exact hS))
  simp only [Sem.run_bind,this,eb,Sem.run_pure]
 have rF:∀ k,(Builtin.zeroCells ew.cells k).size=k:=fun k=>by rw [size_zeroCells,GN,xp,w5]
 have VL:∀ (g:Nat) (l:List UInt8) (k:Nat),jQ aE μ ab w (.bytes g (l ++ b.data.toList)) 0 (.cells ((l.map ni).toArray ++ (b.data.toList.map ni).toArray ++ Builtin.zeroCells ew.cells k) e (0,0)):=by
  intro g l k
  refine ⟨rfl,aDg,by simp,fun j x br=>?_⟩
  have mb:=(cC.1 br).1
  have aF:(l.map ni).toArray ++ (b.data.toList.map ni).toArray=((l ++ b.data.toList).map ni).toArray:=by simp
  rw [j2,aF,MT (by simpa using mb),zn,oi,br]
  rfl
 split at ag
 ·
  have kS:=eA aq;subst kS;split at ag
  ·rename_i hm;cases ag;exact di.still h (.s _) (stay none 0 0 hm (bS _))
  ·rename_i hm;split at ag
   case isFalse=>cases ag
   rename_i hS;cases ag
   have ar:=grown none 0 0 [] rfl (by simp [Builtin.firstCells]) (by omega) (by omega)
   rw [j2] at ar;refine ⟨_,_,_,_,.inl ar,?_,Hi h _ (.bytes 0 b.data.toList) (VL 0 [] _) rfl rfl rfl rfl⟩;refine .aB H.length 0 0 b.size 1 w.heap.size 0 _ _ e (mS _ _ _ _) (x4 (w:=w) rfl) (grownCap_ge _ _ _ _) ?_;have:=grownCap_ge w b.size 0 e;simp only [j2,Mp,s0,u5,rF,x7,d9];omega
 ·
  rename_i id g len;split at ag
  case isFalse=>cases ag
  rename_i xj;split at ag
  case h_2=>cases ag
  rename_i g' l bu;split at ag
  case isFalse=>cases ag
  rename_i aov;obtain ⟨rfl,ak⟩:=aov;split at ag
  ·rename_i hm;cases ag;cases aq with
   | aB _ _ _ _ _ B b cap arr bw gL aI oq hC=>exact di.still h (.aB _ _ _ _ _ B b cap arr bw gL aI oq hC) (stay _ _ _ hm oq)
   | js _ _ _ _ B b a gL=>exact di.still h (.js _ _ _ _ B b a gL) (stay _ _ _ hm (bS _))
  ·rename_i hm;split at ag
   case isFalse=>cases ag
   rename_i hS;cases ag;have move:∀ (a:Option Addr) (cap:Nat) (ku:Nat × Nat),μ id g'=some ku→(Builtin.firstCells i.size len (.slice a len cap)).run P w.drew=.ok (l.map ni).toArray w.drew→cap < len+b.size→
    di aE μ ab w H ((do pure (.value (← Builtin.append_ ts ty #[.slice a len cap,.string b])):Sem Next).run P w) (.aB id (g'+1) 0 (len+b.size) 1) (H.set id (.bytes (g'+1) (l ++ b.data.toList))):=by
    intro a cap ku oF hold bb;have ar:=grown a len cap l ak.symm hold bb hS
    refine ⟨_,_,_,_,.inl ar,?_,akP h _ (g'+1) bu oF (h.aaV bu) (fun j br=>br.symm) (fun j bw k q an=>by cases bw;have:=h.nb _ _ _ _ _ an bu rfl;omega) (VL _ _ _) rfl rfl rfl rfl⟩
    refine .aB id (g'+1) 0 (len+b.size) 1 w.heap.size 0 _ _ e (mS _ _ _ _) (x4 (w:=w) rfl) (grownCap_ge _ _ _ _) ?_;have:=grownCap_ge w (len+b.size) cap e;simp only [j2,Mp,s0,u5,rF,zw];omega
   cases aq with
   | js _ _ _ _ B kU a gL=>
     have sV:l=[]:=lO ak.symm
     refine move (some a) 0 (B,kU) gL ?_ (by omega)
     rw [sV];simp [Builtin.firstCells,loadCells,loadCellsFrom]
   | aB _ _ _ _ _ B kU cap arr ck gL aI oq hC=>
     obtain ⟨o,aT,ar⟩:=h.ly id _ g' B kU bu rfl gL;rw [aI] at aT;cases aT;obtain ⟨rfl,aDB,Ri,rr⟩:=ar;by_cases CI:len+b.size≤cap
     ·have fE:=run_storeCells_at P B (kU+0+len * i.size) ck (b.data.toList.map ni) 0 arr w aI (by rw [xp];omega) (Oz dE hE)
      have aiC:len * i.size=len:=by rw [xp,w5]
      simp only [oL,aiC,u5] at fE
      have Dq:=L2 (P:=P) (w:=w) (base:=some ⟨B,kU+0,none⟩) (sLen:=len) (sCap:=cap) (ty:=ty) a1 J aO jx hi (dd w) (x5 w) CI (fun a aD=>by cases aD;rw [wZ,aiC];exact fE) (fun h=>by cases h)
      have Rh:((do pure (.value (← Builtin.append_ ts ty #[.slice (some ⟨B,kU+0,none⟩) len cap,.string b])):Sem Next).run P w)=.ok (.value (.slice (some ⟨B,kU+0,none⟩) (len+b.size) cap)) (w.setRow B (arr.toList.take (kU+len) ++ b.data.toList.map ni ++ arr.toList.drop (kU+len+b.size)).toArray):=by
       simp only [Sem.run_bind,Dq,eb,Sem.run_pure]
      have Pr:((arr.toList.take (kU+len) ++ b.data.toList.map ni ++ arr.toList.drop (kU+len+b.size)).toArray).size=arr.size:=by simp;omega
      refine ⟨.slice (some ⟨B,kU+0,none⟩) (len+b.size) cap,_,_,_,.inl Rh,?_,ah9 h (iF:=.bytes (g'+1) (l ++ b.data.toList)) (o':=.cells (arr.toList.take (kU+len) ++ b.data.toList.map ni ++ arr.toList.drop (kU+len+b.size)).toArray ck (0,0)) (g'+1) kU bu rfl gL aI (fun cy aF f1 rj=>by cases rj;exact ⟨_,_,rfl,Pr⟩) (by simp) (.inr ⟨h.aaV bu,by omega⟩) (fun j br=>br.symm) (fun j bw k q an=>by cases bw;have:=h.nb _ _ _ _ _ an bu rfl;omega) (Nl aI) rfl rfl rfl trivial ?_ (fun cy aF rj=>by cases rj;exact ⟨_,rfl⟩)⟩
      ·exact .aB id (g'+1) 0 (len+b.size) 1 B kU cap _ ck (mS _ _ _ _) (setRow_heap w B arr _ ck (0,0) aI) CI (by rw [Pr];omega)
      ·intro _ ca b6 _ _
       refine ⟨rfl,aDB,by rw [Pr,fU,← ak];have:b.data.toList.length=b.size:=by simp
                          omega,fun j x br=>?_⟩
       have ds:b.data.toList.length=b.size:=by simp
       rw [zn];by_cases cq:j < l.length
       ·rw [d' cq] at br;have:=rr j x br
        rw [kG,d' (by simp;omega),iB (by omega),Array.getElem?_toList]
        exact this
       ·rw [gB (by omega)] at br
        have KF:=(cC.1 br).1
        rw [kG,gB (by simp;omega),d' (by simp;omega),oi]
        have aK:kU+j - (arr.toList.take (kU+len)).length=j - l.length:=by simp;omega
        rw [aK,br];rfl
     ·refine move _ cap (B,kU) gL (run_firstCells_some (P:=P) w.drew i.size len _ len cap _ (by rw [xp];simp [ak]) (fun j v av=>?_)) (by omega)
      rw [oi,fo] at av;obtain ⟨x,kn,rfl⟩:=av;rw [wZ];exact (cell_of_heap (w:=w) aI).trans (rr j x kn)
 ·cases ag
def avM[oG aE P](h:cB aE μ ab w H){ts ty t jt e}{i:TypeInfo}{base bytes s x v cs c}(a1:ts[0]?=some t)(J:ts[1]?=some jt)(aO:P.underlying t=some (.slice e))(jx:(∃bw,P.underlying jt=some (.slice bw))\/P.underlying jt=some .string)(hi:P.info? e=some i){z}(b5:nk P e=some z)(oN:z.cells.length=i.size)(de:0<i.size)(af:0<i.bytes)(EO:i.bytes<=bytes)(mR:bytes=1->CV P e=true)(aq:bM μ ab w s cs)(ae:bM μ ab w x c)(ag:gW H base i.size bytes s x=some (v,H')):
 di aE μ ab w H ((do pure (.value (<- Builtin.append_ ts ty #[cs,c])):Sem Next).run P w) v H':=by
 obtain⟨ew,gX,z2,wk,ot,y'⟩:=ye (w:=w) b5;rw[hi]at ot;cases ot;have vr:=wG (μ:=μ) (ab:=ab) (w:=w) (xU z2) (wi z2)
 have GN:ew.cells.size=i.size:=by rw[<- oN,vr.1];simp
 unfold gW at ag;split at ag
 .exact aFa h a1 J aO jx hi y' GN af EO mR aq ae ag
 rename_i m xs he;obtain⟨qk,vs,dE,fp⟩:=avo (P:=P) h de ae he;obtain⟨sV,lU⟩:=fp w rfl;obtain⟨ql,CS⟩:=fp w.drew rfl
 have u5:vs.length=m*i.size:=by rw[<- dE.1,qk]
 split at ag
 case isFalse=>simp at ag
 rename_i hE
 have stay:∀(a:Option Addr) (len cap:Nat),m=0->len<=cap->((do pure (.value (<- Builtin.append_ ts ty #[.slice a len cap,c])):Sem Next).run P w)=.ok (.value (.slice a len cap)) w:=by
  intro a len cap hm aa;subst hm
  have SJ:vs=[]:=lO (by simpa using u5)
  subst SJ
  have:=L2 (P:=P) (w:=w) (w':=w) (base:=a) (sLen:=len) (sCap:=cap) (ty:=ty) a1 J aO jx hi sV lU (by omega) (fun _ _=>rfl) (fun _=>rfl)
  simp[this]
 have fresh:∀(a:Option Addr),(a=none\/∃b,a=some b)->m≠0->m*i.bytes<=2^47->
  ((do pure (.value (<- Builtin.append_ ts ty #[.slice a 0 0,c])):Sem Next).run P w)=.ok (.value (.slice (some ⟨w.heap.size,0,none⟩) m (grownCap w m 0 e))) (w.drew.alloc (.cells (vs.toArray++Builtin.zeroCells ew.cells (grownCap w m 0 e-m)) e))/\m<=grownCap w m 0 e:=by
  intro a _ hm hS
  have hold:(Builtin.firstCells i.size 0 (.slice a 0 0)).run P w.drew=.ok #[] w.drew:=by
   cases a<;>simp[Builtin.firstCells,loadCells,loadCellsFrom]
  have:=MB (P:=P) (w:=w) (base:=a) (sLen:=0) (sCap:=0) (ty:=ty) a1 J aO jx hi y' af sV hold CS (by omega) (by rw[j2];exact hS)
  rw[j2]at this;refine⟨?_,grownCap_ge w m 0 e⟩;simp[this]
 have ZR:∀(a:Option Addr),(a=none\/∃b,a=some b)->m≠0->m*i.bytes<=2^47->cs=.slice a 0 0->
  di aE μ ab w H ((do pure (.value (<- Builtin.append_ ts ty #[cs,c])):Sem Next).run P w) (.aB H.length 0 0 m i.size) (H++[.cells 0 xs]):=by
  intro a aD hm hS kS;obtain⟨ar,kY⟩:=fresh a aD hm hS;rw[kS];have rF:(Builtin.zeroCells ew.cells (grownCap w m 0 e-m)).size=(grownCap w m 0 e-m)*ew.cells.size:=size_zeroCells _ _
  have e1:jQ aE μ ab w (.cells 0 xs) 0 (.cells (vs.toArray++Builtin.zeroCells ew.cells (grownCap w m 0 e-m)) e (0,0)):=by
   refine⟨rfl,by simp;omega,fun j a v aD av=>?_,sg.one hE⟩
   have br:j<vs.length:=by rw[<- dE.1];exact(cC.1 aD).1
   rw[j2,MT (by simpa using br)]at av
   exact dE.2 j a v aD (by simpa using av)
  refine⟨_,_,_,_,.inl ar,?_,Hi h _ _ e1 rfl rfl rfl rfl⟩;refine .aB H.length 0 0 m i.size w.heap.size 0 _ _ e (mS _ _ _ _) (x4 (w:=w) rfl) kY ?_;simp only[j2,Mp,s0,u5,rF,GN,<- sv]
  exact tu _ (by omega)
 split at ag
 .
  have kS:=eA aq;split at ag
  .rename_i hm;cases ag;rw[kS];exact di.still h (.s _) (stay none 0 0 hm (bS _))
  .rename_i hm;split at ag
   .rename_i hS;cases ag;exact ZR none (.inl rfl) hm (k9 (L0 _ EO) hS) kS
   .cases ag
 .
  cases aq with
  |db a=>
    split at ag
    .rename_i hm;cases ag;exact di.still h (.db a) (stay (some a) 0 0 hm (bS _))
    .rename_i hm;split at ag
     .rename_i hS;cases ag;exact ZR (some a) (.inr ⟨a,rfl⟩) hm (k9 (L0 _ EO) hS) rfl
     .cases ag
 .
  rename_i es dF;split at ag
  .rename_i hm;cases ag;cases aq with
   |du es dF B o cap arr bw fr aI bJ aa rh hC av=>
     exact di.still h (.du es dF B o cap arr bw fr aI bJ aa rh hC av) (stay _ _ _ hm.1 aa)
   |il _ cap a=>exact di.still h (.il _ cap a) (stay _ _ _ hm.1 (by omega))
  .cases ag
 .
  rename_i id g off len dF;split at ag
  case isFalse=>cases ag
  rename_i aa;obtain⟨rfl,xj⟩:=aa;split at ag
  case h_2=>cases ag
  rename_i row jZ;split at ag
  case isFalse=>cases ag
  rename_i Ri;split at ag
  .rename_i hm;cases ag;cases aq with
   |aB _ _ _ _ _ B b cap arr bw gL aI oq hC=>exact di.still h (.aB _ _ _ _ _ B b cap arr bw gL aI oq hC) (stay _ _ _ hm oq)
   |js _ _ _ _ B b a gL=>exact di.still h (.js _ _ _ _ B b a gL) (stay _ _ _ hm (bS _))
  .rename_i hm;split at ag
   case isFalse=>cases ag
   rename_i hS;replace hS:=k9 (L0 _ EO) hS;cases ag
   have dd:((row.drop off).take (len*i.size)).length=len*i.size:=by simp;omega
   have o0:id<H.length:=(cC.1 (rB jZ)).1;have move:∀(a:Option Addr) (cap:Nat) (sL:List Value) (g0:Nat) (ku:Nat × Nat),μ id g0=some ku->cap<len+m->b0 μ ab w ((row.drop off).take (len*i.size)) sL->
    (Builtin.firstCells i.size len (.slice a len cap)).run P w.drew=.ok sL.toArray w.drew->
    di aE μ ab w H ((do pure (.value (<- Builtin.append_ ts ty #[.slice a len cap,c])):Sem Next).run P w) (.aB id (g+1) 0 (len+m) i.size) (H.set id (.cells (g+1) ((row.drop off).take (len*i.size)++xs))):=by
    intro a cap sL g0 ku oF bb holds x5;have ar:=MB (P:=P) (w:=w) (base:=a) (sLen:=len) (sCap:=cap) (ty:=ty) a1 J aO jx hi y' af sV x5 CS bb hS;have kY:=grownCap_ge w (len+m) cap e
    have Nt:sL.length=len*i.size:=by rw[<- holds.1,dd]
    have rF:(Builtin.zeroCells ew.cells (grownCap w (len+m) cap e-(len+m))).size=(grownCap w (len+m) cap e-(len+m))*ew.cells.size:=size_zeroCells _ _;have f':=holds.append dE
    have e1:jQ aE μ ab w (.cells (g+1) ((row.drop off).take (len*i.size)++xs)) 0 (.cells (sL.toArray++vs.toArray++Builtin.zeroCells ew.cells (grownCap w (len+m) cap e-(len+m))) e (0,0)):=by
     refine⟨rfl,by have:=f'.1;simp at this |-;omega,fun j a v aD av=>?_,sg.gen (Nat.succ_ne_zero g)⟩
     have br:j<(sL++vs).length:=by rw[<- f'.1];exact(cC.1 aD).1
     rw[j2,MT (by simpa using br)]at av
     exact f'.2 j a v aD (by simpa using av)
    have xr:((do pure (.value (<- Builtin.append_ ts ty #[.slice a len cap,c])):Sem Next).run P w)=.ok (.value (.slice (some ⟨w.heap.size,0,none⟩) (len+m) (grownCap w (len+m) cap e))) (w.drew.alloc (.cells (sL.toArray++vs.toArray++Builtin.zeroCells ew.cells (grownCap w (len+m) cap e-(len+m))) e)):=by
     simp only[Sem.run_bind,ar,eb,Sem.run_pure]
    refine⟨_,_,_,_,.inl xr,?_,akP h _ (g+1) (rB jZ) oF (h.next jZ) (fun j br=>br.symm) (fun j bw k q an=>by cases bw;have:=h.nb _ _ _ _ _ an (rB jZ) rfl;omega) e1 rfl rfl rfl rfl⟩
    refine .aB id (g+1) 0 (len+m) i.size w.heap.size 0 _ _ e (mS _ _ _ _) (x4 (w:=w) rfl) kY ?_;simp only[j2,Mp,s0,Nt,u5,rF,GN,<- sv]
    exact tu _ (by omega)
   cases aq with
   |js _ _ _ _ B b a gL=>
     refine move (some a) 0 [] g (B,b) gL (by omega) ⟨by simp,fun j a v aD _=>by simp at aD⟩ ?_
     simp[Builtin.firstCells,loadCells,loadCellsFrom]
   |aB _ _ _ _ _ B b cap arr bw gL aI oq hC=>
     by_cases CI:len+m<=cap
     .
      obtain⟨nQ,ck,ahc,aJn,Ad⟩:=h.row jZ gL;rw[aI]at ahc;cases ahc
      have aJJ:len*i.size+m*i.size<=cap*i.size:=by rw[<- sv];exact tu _ CI
      have fE:=run_storeCells_at P B (b+off+len*i.size) bw vs 0 arr w aI (by omega) (Oz dE hE)
      simp only[oL]at fE
      have Dq:=L2 (P:=P) (w:=w) (base:=some ⟨B,b+off,none⟩) (sLen:=len) (sCap:=cap) (ty:=ty) a1 J aO jx hi sV lU CI (fun a aD=>by cases aD;rw[wZ];exact fE) (fun h=>by cases h)
      have xp:((arr.toList.take (b+off+len*i.size)++vs++arr.toList.drop (b+off+len*i.size+vs.length)).toArray).size=arr.size:=by simp;omega
      have Rh:((do pure (.value (<- Builtin.append_ ts ty #[.slice (some ⟨B,b+off,none⟩) len cap,c])):Sem Next).run P w)=.ok (.value (.slice (some ⟨B,b+off,none⟩) (len+m) cap)) (w.setRow B (arr.toList.take (b+off+len*i.size)++vs++arr.toList.drop (b+off+len*i.size+vs.length)).toArray):=by
       simp only[Sem.run_bind,Dq,eb,Sem.run_pure]
      refine⟨.slice (some ⟨B,b+off,none⟩) (len+m) cap,_,_,_,.inl Rh,?_,EA h (o':=.cells (arr.toList.take (b+off+len*i.size)++vs++arr.toList.drop (b+off+len*i.size+vs.length)).toArray bw (0,0)) (g+1) (b+off) (rB jZ) rfl gL aI ?_ (by simp) (.inr ⟨h.next jZ,by omega⟩) (fun j br=>br.symm) (fun j c' bw k q an=>by cases bw;have:=h.nb _ _ _ _ _ an (rB jZ) rfl;omega) (Nl aI) rfl rfl rfl ?_ ?_⟩
      .exact .aB id (g+1) 0 (len+m) i.size B (b+off) cap _ bw (mS _ _ _ _) (setRow_heap w B arr _ bw (0,0) aI) CI (by rw[xp];omega)
      .intro yM aF cg rj;cases rj;exact⟨_,rfl,xp⟩
      .intro v ae;have ae:v∈(row.drop off).take (len*i.size)++xs:=ae;have yH:∀v∈row,e' H.length v:=h.Lw (rB jZ) rfl gL
       rcases l1.1 ae with ae|ae
       .exact yH v (LA (HD ae))
       .exact dE.qL h.gR v ae
      .intro _ ca b6 gd bJ;have an:∀K,K<w.heap.size->¬ab K->(w.setRow B (arr.toList.take (b+off+len*i.size)++vs++arr.toList.drop (b+off+len*i.size+vs.length)).toArray).heap[K]?=w.heap[K]?:=
        fun K _ aN=>setRow_other w B K _ (fun e=>aN (e▸(h.gu _ _ _ _ gL).1))
       have h1:∀(K:Nat) (a0:Array Value) (e:TypeId) (fr:Nat × Nat),w.heap[K]?=some (.cells a0 e fr)->∃eB aW,(w.setRow B (arr.toList.take (b+off+len*i.size)++vs++arr.toList.drop (b+off+len*i.size+vs.length)).toArray).heap[K]?=some (.cells eB e aW)/\eB.size=a0.size:=by
        intro K a0 ck AE bE;by_cases AA:K=B
        .subst AA;rw[aI]at bE;cases bE;exact⟨_,_,setRow_heap w K arr _ bw (0,0) aI,xp⟩
        .exact⟨a0,_,(setRow_other w B K _ AA).trans bE,rfl⟩
       refine⟨rfl,by rw[xp];have:=dE.1;simp;omega,?_,sg.gen (Nat.succ_ne_zero g)⟩
       intro j a v aD av;have mono:bM μ ab w a v->bM ca b6 (w.setRow B (arr.toList.take (b+off+len*i.size)++vs++arr.toList.drop (b+off+len*i.size+vs.length)).toArray) a v:=
        fun x=>x.mono gd (fun K bE hm=>(bJ K bE).1 hm) an h1
       apply mono
       have mV:(arr.toList.take (b+off+len*i.size)++vs++arr.toList.drop (b+off+len*i.size+vs.length))[b+off+j]?=some v:=by simpa using av
       by_cases cq:j<len*i.size
       .rw[d' (by omega),iB cq,h4]at aD
        rw[kG,d' (by simp;omega),iB (by omega)]at mV
        exact Ad _ a v aD (by rw[<- tF];simpa using mV)
       .rw[gB (by omega),dd]at aD
        have br:j-len*i.size<vs.length:=by rw[<- dE.1];exact(cC.1 aD).1
        rw[kG,gB (by simp;omega),d' (by simp;omega)]at mV
        have aK:b+off+j-(List.take (b+off+len*i.size) arr.toList).length=j-len*i.size:=by simp;omega
        rw[aK]at mV;exact dE.2 _ a v aD mV
     .obtain⟨sL,holds,As⟩:=h.place jZ gL dd
      exact move (some ⟨B,b+off,none⟩) cap sL g (B,b) gL (by omega) holds (run_firstCells_some (P:=P) w.drew i.size len _ len cap sL (by rw[<- holds.1,dd]) (fun j v av=>by simpa using As j v av))
 .cases ag
def ab1(h:cB aE μ ab w H){sz m x xs c}(a1:0<sz)(mw:∀b,x≠.s (.string b))(ae:bM μ ab w x c)(he:elems H sz x=some (m,xs)):
 xs.length=m*sz/\∃vs:List Value,b0 μ ab w xs vs/\((c=.slice none 0 0/\m=0)\/∃a cap,c=.slice (some a) m cap/\∀(j:Nat) (v:Value),vs[j]?=some v->w.cell? (a.add j)=some v):=by
 unfold elems at he;dsimp only at he;split at he
 .cases he;rw[eA ae]
  exact⟨by simp,[],b0.nil,.inl ⟨rfl,rfl⟩⟩
 .cases he;cases ae with
  |db a=>exact⟨by simp,[],b0.nil,.inr ⟨a,0,rfl,fun j v av=>by simp at av⟩⟩
 .rename_i es dF;split at he
  .rename_i de;subst de;cases he;obtain⟨a,cap,rfl,ak,vs,av,aa⟩:=afK a1 ae;exact⟨ak,vs,av,.inr ⟨a,cap,rfl,aa⟩⟩
  .simp at he
 .rename_i id g off len dF;split at he
  .rename_i de;subst de;split at he
   .rename_i cs kS;split at he
    .rename_i dd;cases he;cases ae with
     |aB _ _ _ _ _ B b cap arr e hm aI oq de=>
       obtain⟨vs,av,aa⟩:=h.place kS hm dd;exact⟨dd,vs,av,.inr ⟨_,cap,rfl,aa⟩⟩
     |js _ _ _ _ B b a hm=>
       refine⟨by simp,[],⟨by simp,fun i a b h=>by simp at h⟩,.inr ⟨a,0,rfl,fun j v av=>by simp at av⟩⟩
    .simp at he
   .simp at he
  .simp at he
 .simp at he
def atp(h:cB aE μ ab w H){t e sz ts ty d s v akj cs base}(rV:ts[0]?=some t)(aO:P.underlying t=some (.slice e))(de:fT P e=some sz)(a1:0<sz)(ag:copyV H base sz d s=some (v,H'))(aQ:bM μ ab w d akj)(aq:bM μ ab w s cs):di aE μ ab w H ((do pure (.value (<- Builtin.copy_ ts ty #[akj,cs])):Sem Next).run P w) v H':=by
 unfold copyV at ag;split at ag
 .cases ag
 rename_i mw;split at ag
 .cases ag
 rename_i m xs he;obtain⟨qk,vs,dE,e0⟩:=ab1 h a1 (fun b e=>mw b e) aq he;split at ag
 case isFalse=>cases ag
 rename_i hE
 have u5:vs.length=m*sz:=by rw[<- dE.1,qk]
 have dd:(Builtin.lenOf cs).run P w=.ok m w:=by
  rcases e0 with⟨rfl,rfl⟩|⟨a,cap,rfl,_⟩<;>rfl
 have pM:∀n,n<=m->(Builtin.firstCells sz n cs).run P w=.ok (vs.take (n*sz)).toArray w:=by
  intro n aN;have hmul:n*sz<=m*sz:=tu _ aN
  rcases e0 with⟨rfl,rfl⟩|⟨a,cap,rfl,aa⟩
  .have GL:n=0:=by omega
   subst GL;simp[Builtin.firstCells]
  .refine run_firstCells_some (P:=P) w sz n a m cap (vs.take (n*sz)) (by simp;omega) fun j v br=>?_
   have mb:j<n*sz:=by have:=(cC.1 br).1;simp at this;omega
   rw[iB mb]at br;exact aa j v br
 have OI:∀(b:Option Addr) (n:Nat),((do pure (.value (<- Builtin.copy_ ts ty #[.slice b 0 n,cs])):Sem Next).run P w)=.ok (.value (.int .i64 0)) w:=by
  intro b n;have al:=pM 0 (fa _);simp only[H8,gq]at al;have qV:Nat.min m 0=0:=O8 _;cases b<;>simp[Builtin.copy_,rV,run_underlying aO,run_sizeOf de,dd,al,storeCells,goInt]
 split at ag
 .cases ag;rw[eA aQ];exact di.still h (.s _) (OI none 0)
 .cases ag;cases aQ with
  |db a=>exact di.still h (.s _) (OI (some a) 0)
 .rename_i id g off len dF;split at ag
  case isFalse=>cases ag
  rename_i aa;obtain⟨rfl,xj⟩:=aa;split at ag
  case h_2=>cases ag
  rename_i row jZ;split at ag
  case isFalse=>cases ag
  rename_i Ri;cases ag;cases aQ with
  |js _ _ _ _ B b a hm=>
    have jX:H.set id (.cells g (iy row off (xs.take (min m 0*dF))))=H:=by
     simp only[O8,H8,gq]
     have fO:iy row off []=row:=by simp[iy]
     rw[fO];apply vU;intro i;by_cases hi:id=i
     .subst hi;rw[qq (cC.1 (rB jZ)).1,rB jZ]
     .rw[cf hi]
    rw[jX];simp only[O8];exact di.still h (.s _) (OI (some a) 0)
  |aB _ _ _ _ _ B b cap arr bw hm aI oq hC=>
    have lS:min m len<=m:=Nat.min_le_left _ _;have kW:min m len<=len:=Nat.min_le_right _ _;have hmul:min m len*dF<=m*dF:=tu _ lS;have aKa:min m len*dF<=len*dF:=tu _ kW
    have aA3:(xs.take (min m len*dF)).length=min m len*dF:=by rw[lG,qk];omega
    obtain⟨w',fE,hO⟩:=SN (P:=P) (off:=off) (vs:=xs.take (min m len*dF)) (us:=vs.take (min m len*dF)) h jZ hm (by rw[aA3];omega) (dE.take _) (by
     rw[dU]at hE |-;exact fun v av=>hE v (HD av))
    refine⟨.int .i64 (min m len:Nat),w',_,_,.inl ?_,.s _,hO⟩;have oF:Nat.min m len=min m len:=rfl;simp[Builtin.copy_,rV,run_underlying aO,run_sizeOf de,dd,oF,pM _ lS,fE,goInt]
 .cases ag
def ax4:∀{xs:List V} {bU:List UInt8} {vs:List Value},Jd xs=some bU->b0 μ ab w xs vs->∃bk:List Int,vs=bk.map (Value.int .u8)/\bU=bk.map fun n=>UInt8.ofNat n.toNat:=by
 intro xs
 induction xs with
 |nil=>
   intro bU vs h av;cases h;have:vs=[]:=lO av.1.symm;exact⟨[],this,rfl⟩
 |cons x xs aw=>
   intro bU vs h av;unfold Jd at h;split at h
   .cases ‹x::xs=[]›
   .rename_i n ui e;cases e;split at h
    .rename_i pV af;cases h;cases vs with
     |nil=>have:=av.1;simp at this
     |cons u vs=>
       have J:=eA (av.2 0 _ _ rfl rfl)
       obtain⟨bk,rfl,rfl⟩:=aw (vs:=vs) af ⟨by have:=av.1;simpa using this,fun i a b aD af=>av.2 (i+1) a b (by simpa using aD) (by simpa using af)⟩
       exact⟨n::bk,by rw[J];rfl,rfl⟩
    .cases h
   .cases h
def auH(h:cB aE μ ab w H){src dst e x r c}{ρ:Operand->Value}{o y}(aq:P.underlying src=some (.slice e))(aQ:P.underlying dst=some .string)(he:P.underlying e=some (.int .u8))(ae:bM μ ab w x c)(ag:Nx H x=some r)(aT:o.op=.convert src dst y)(bA:ρ y=c):di aE μ ab w H ((execOp ρ o).run P w) r H:=by
 have uv:execOp ρ o=(do pure (.value (<- convert src dst c)):Sem Next):=by
  unfold execOp;rw[aT];subst bA;rfl
 rw[uv];unfold Nx at ag;split at ag
 .cases ag
 rename_i mw;split at ag
 .rename_i m xs lg;split at ag
  .rename_i bU ml;cases ag;obtain⟨qk,vs,dE,e0⟩:=ab1 h (BP 0) (fun b e=>mw b e) ae lg;obtain⟨bk,rfl,rfl⟩:=ax4 ml dE
   have Qf:bk.length=m:=by have:=dE.1;simp at this;omega
   refine di.still h (.s _) ?_
   rcases e0 with⟨rfl,rfl⟩|⟨a,cap,rfl,aa⟩
   .have:bk=[]:=lO Qf;subst this;simp only[Sem.run_bind,run_convert_bytes_string w src dst e _ _ _ aq he aQ,Conv.bytesToString,Sem.run_pure,eb];rfl
   .have ak:(loadCells a m).run P w=.ok (bk.map (Value.int .u8)).toArray w:=by
     have:=run_loadCells_list (P:=P) w a (bk.map (Value.int .u8)) aa
     simpa[Qf]using this
    simp only[Sem.run_bind,run_convert_bytes_string w src dst e _ _ _ aq he aQ,run_bytesToString w a m cap bk ak,Sem.run_pure,eb,foldl_push_bytes]
    congr 3
    simp[ByteArray.empty,ByteArray.emptyWithCapacity];rfl
  .cases ag
 .cases ag
end
end Go.dO
