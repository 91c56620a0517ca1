/- Texts of the proof: ShoSh, Am1, Am2, Am3, Am4, Am5, Am6, Am7, Am8, Am9, Am10. -/
import Derived.KernelRfl
import Derived.Shelf.Strings.Builder1
import Derived.Shelf.Strings.OnBuilder
import Derived.Shelf.Strings.Prefix
import Derived.Shelf.Strconv.Itoa3
import Derived.Test.YtngfpadeebpoeaaGreatDoorProg
import GoSem.Step
import Derived.Laws.AppendOwn
import Derived.Laws.StructEq
import Derived.WalkKit
import Derived.MapKept
import Derived.LaidEql
import Derived.Laws.BytesArg
set_option linter.all false
namespace Go
def dQ:=@List.getElem?_eq_some_iff
def tA:=@Array.getElem?_eq_some_iff
def ev:=@Result.andThen_ok
def ba:=@And.intro
def cG:=@List.getElem?_set_ne
def c0:=@List.length_append
def du:=@List.cons_append
def dK:=@List.take_succ_cons
def c3:=@List.length_cons
def eP:=@List.getElem?_eq_getElem
def dB:=@List.nil_append
def e4:=@Option.bind_eq_some_iff
def bi:=@List.getElem?_append_left
def dj:=@List.take_zero
def cq:=@Nat.le_refl
def dR:=@Bool.and_eq_true
def fy:=@Option.map_eq_some_iff
def eQ:=@List.mem_singleton
def eh:=@List.length_nil
def jd:=@List.length_singleton
def dW:=@List.map_cons
def gk:=@Option.bind_eq_bind
def fp:=@List.all_eq_true
def d9:=@List.mem_cons_of_mem
def jA:=@List.getElem?_append_right
def gi:=@List.append_assoc
def eG:=@Bool.and_self
def ib:=@List.mem_of_getElem?
def fP:=@List.length_set
def lX:=@List.eq_nil_of_length_eq_zero
def hJ:=@List.mem_cons_self
def fV:=@Option.pure_def
def ant:=@Option.isSome_some
def bE:=@if_pos
def u3:=@List.drop_succ_cons
def bV:=@if_neg
def mF:=@List.drop_eq_getElem_cons
def hC:=@List.map_nil
def mr:=@List.getElem?_take_of_lt
def mO:=@Array.getElem?_eq_getElem
def kp:=@beq_eq_false_iff_ne
def nR:=@List.drop_zero
def jI:=@Option.some.injEq
def kK:=@List.getD_cons_zero
def dV:=@congrArg
def eW:=@if_true
def pq:=@List.all_cons
def gY:=@Nat.zero_le
def nS:=@Bool.or_eq_false_iff
def qt:=@List.getD_cons_succ
def kw:=@Bool.and_true
def mm:=@Nat.lt_of_lt_of_le
def l8:=@decide_eq_true_eq
def lc:=@beq_iff_eq
def kI:=@Option.some.inj
def lm:=@List.length_drop
def qo:=@List.all_nil
def mu:=@beq_self_eq_true
def ox:=@decide_eq_true_iff
def jn:=@Nat.le_trans
def qQ:=@List.mem_append_left
def sK:=@Bool.false_and
def nn:=@List.append_nil
def qj:=@List.toList_toArray
def ol:=@Bool.true_and
def pD:=@Bool.false_eq_true
def rk:=@Nat.mul_le_mul_right
def hp:=@if_false
def ti:=@List.sum_cons
def o7:=@Option.map_some
def oi:=@Bool.or_eq_true
def qP:=@List.getElem?_drop
def pW:=@Nat.le_max_right
def pu:=@List.mem_append
def nj:=@List.mem_cons
def uH:=@List.take_append_drop
def pY:=@List.length_map
def nH:=@Int.lt_irrefl
def mx:=@Nat.zero_add
def xz:=@decide_eq_false_iff_not
def qO:=@Bool.eq_iff_iff
def w8:=@List.getElem?_set_self
def qW:=@and_self
def rU:=@List.getElem_mem
def tr:=@List.size_toArray
def s7:=@Int.toNat_natCast
def xa:=@List.mem_append_right
def EH:=@cond_false
def ze:=@List.getElem?_cons_succ
def sY:=@Bool.not_eq_true
def rA:=@List.mapM_cons
def qs:=@Nat.add_assoc
def wS:=@Bool.false_or
def mw:=@bne_iff_ne
def yK:=@List.flatMap_append
def ut:=@List.getElem?_map
def Gz:=@List.getD_eq_getElem?_getD
def BR:=@List.drop_eq_nil_of_le
def uF:=@Nat.le_max_left
def iV:=@Ne.symm
def zP:=@List.map_congr_left
def zU:=@List.getElem_of_mem
def y8:=@List.flatten_append
def yb:=@List.ext_getElem?
def wY:=@Bool.not_eq_true'
def EG:=@List.getElem?_cons_zero
def Cb:=@Array.toArray_toList
def xD:=@List.take_length
def xn:=@List.not_mem_nil
def Ee:=@cond_true
def Zr:=@List.sum_nil
def zK:=@Bool.true_or
def By:=@List.take_add_one
def zL:=@List.map_append
def Hk:=@List.take_of_length_le
def Gh:=@List.drop_of_length_le
def Du:=@Nat.add_zero
def wJ:=@List.mem_map
def Hr:=@List.getElem?_toArray
def FH:=@List.getElem?_eq_none
def Bc:=@Option.map_none
def tf:=@Array.ext'
def w3:=@Nat.sub_self
def EP:=@List.length_take
def IN:=@Bool.and_false
def GQ:=@Bool.false_ne_true
def anO:=@decide_false
def Dm:=@decide_eq_false
def Jb:=@List.singleton_append
def GY:=@List.flatten_cons
def FZ:=@List.flatMap_cons
def G9:=@List.any_eq_false
def AN:=@Bool.or_false
def CO:=@Bool.not_true
def PQ:=@List.findIdx?_eq_none_iff
def Df:=@List.drop_drop
def Od:=@Decidable.byContradiction
def aJo:=@decide_true
def Iy:=@Nat.mul_le_mul_left
def Lx:=@Array.toList_append
def Nr:=@List.set_eq_of_length_le
def BX:=@Bool.or_true
def F1:=@Nat.one_ne_zero
def Ks:=@List.findIdx?_cons
def Yn:=@Array.all_eq_true_iff_forall_mem
def PG:=@Array.toList_replicate
def I8:=@of_decide_eq_true
def AY:=@Nat.mul_one
def OZ:=@Array.mem_of_getElem?
def Vj:=@Array.eq_empty_of_size_eq_zero
def JU:=@List.drop_append
def Kp:=@List.any_eq_true
def wG:=@true_and
def Ke:=@Array.size_push
def ND:=@Array.getElem?_push
def Sx:=@Array.getElem?_append_left
def xv:=@or_false
def Mz:=@List.mem_replicate
def PT:=@List.contains_cons
def PB:=@Array.foldl_toList
def Ws:=@Classical.byContradiction
def Na:=@Array.size_append
def GA:=@Nat.le_succ
def Hc:=@Nat.add_mul
def MR:=@Option.getD_some
def PN:=@List.mem_flatMap
def Nt:=@List.ext_getElem
def NI:=@List.sum_append
def Mc:=@List.foldl_cons
def MP:=@List.drop_left'
def VZ:=@List.countP_le_length
def Pa:=@Int.natCast_inj
def Xb:=@Array.mem_toList_iff
def Mj:=@decide_eq_true
def OO:=@List.mem_range
def WI:=@bne_eq_false_iff_eq
def Eb:=@congrFun
def T0:=@Option.isSome_none
def NT:=@List.mapM_nil
def agk:=@List.findIdx?_eq_some_iff_getElem
def Wh:=@not_true_eq_false
def XG:=@List.contains_nil
def V6:=@Function.comp_def
def Qg:=@Nat.add_comm
def Wb:=@List.take_append
def Wl:=@List.mem_flatten
def Uw:=@UInt8.toNat_inj
def MO:=@Prod.mk.inj
def Yv:=@Nat.not_lt_zero
def ble:=@List.nodup_cons
def Qz:=@List.find?_cons
def aaw:=@Bool.not_false
def ajr:=@Array.mapM_eq_mapM_toList
def Ua:=@Nat.lt_irrefl
def R7:=@Nat.zero_mul
def QP:=@Nat.min_zero
def TZ:=@Nat.min_self
def RL:=@List.map_map
def arH:=@Classical.choose_spec
def atp:=@List.length_eraseIdx
def ZA:=@List.getLast?_concat
def IY:=@dif_pos
def af2:=@List.replicate_succ
def atl:=@List.mem_map_of_mem
def alq:=@List.getElem?_range
def aca:=@List.countP_eq_zero
def Lw:=@Iff.rfl
end Go
namespace Go.Proofs
open Go.Shelf
def Tryz.ajD:Go.Shelf.Ren:=⟨fun|156=>20|165=>71|166=>19|169=>24|240=>70|241=>119|276=>118|277=>145|n=>n,fun|31=>32|9=>9|3=>3|4=>4|0=>0|20=>20|72=>61|76=>64|70=>58|37=>59|75=>63|127=>98|164=>133|5=>5|80=>72|n=>n,fun|n=>n⟩
def Tryz.Ga:Go.Proofs.Lays.n156 Tryz.prog Tryz.ajD:={
 mixed:=by kernel_rfl
 f156:=Tryz.func20.trans (dV some (by kernel_rfl))
 f165:=Tryz.func71.trans (dV some (by kernel_rfl))
 f166:=Tryz.func19.trans (dV some (by kernel_rfl))
 f169:=Tryz.func24.trans (dV some (by kernel_rfl))
 f240:=Tryz.func70.trans (dV some (by kernel_rfl))
 f241:=Tryz.func119.trans (dV some (by kernel_rfl))
 f276:=Tryz.func118.trans (dV some (by kernel_rfl))
 f277:=Tryz.func145.trans (dV some (by kernel_rfl))
 t0:=Tryz.underlying0
 a0:=Tryz.isAgg0
 z0:=Tryz.sizeOf0
 v0:=Tryz.zeroValue0
 t3:=Tryz.underlying3
 a3:=Tryz.isAgg3
 z3:=Tryz.sizeOf3
 v3:=Tryz.zeroValue3
 t4:=Tryz.underlying4
 a4:=Tryz.isAgg4
 z4:=Tryz.sizeOf4
 v4:=Tryz.zeroValue4
 t9:=Tryz.underlying9
 a9:=Tryz.isAgg9
 z9:=Tryz.sizeOf9
 v9:=Tryz.zeroValue9
 t20:=Tryz.underlying20
 a20:=Tryz.isAgg20
 z20:=Tryz.sizeOf20
 v20:=Tryz.zeroValue20
 t31:=Tryz.underlying32
 a31:=Tryz.isAgg32
 z31:=Tryz.sizeOf32
 v31:=Tryz.zeroValue32
 t37:=Tryz.underlying59
 a37:=Tryz.isAgg59
 z37:=Tryz.sizeOf59
 v37:=Tryz.zeroValue59
 t70:=Tryz.underlying58
 a70:=Tryz.isAgg58
 z70:=Tryz.sizeOf58
 v70:=Tryz.zeroValue58
 t72:=Tryz.underlying61
 a72:=Tryz.isAgg61
 z72:=Tryz.sizeOf61
 v72:=Tryz.zeroValue61
 t75:=Tryz.underlying63
 a75:=Tryz.isAgg63
 z75:=Tryz.sizeOf63
 v75:=Tryz.zeroValue63
 t76:=Tryz.underlying64
 a76:=Tryz.isAgg64
 z76:=Tryz.sizeOf64
 v76:=Tryz.zeroValue64
 t127:=Tryz.underlying98
 a127:=Tryz.isAgg98
 z127:=Tryz.sizeOf98
 v127:=Tryz.zeroValue98
 t164:=Tryz.underlying133
 a164:=Tryz.isAgg133
 z164:=Tryz.sizeOf133
 v164:=Tryz.zeroValue133 }
def Tryz.aRH:Go.Shelf.Ren:=⟨fun|171=>53|243=>116|246=>143|283=>169|284=>170|285=>171|286=>172|129=>177|317=>176|318=>178|319=>179|320=>180|337=>183|338=>184|n=>n,fun|3=>3|9=>9|2=>2|4=>4|171=>168|0=>0|53=>169|37=>59|5=>5|173=>172|212=>183|51=>184|20=>20|213=>185|46=>176|232=>193|233=>194|n=>n,fun|17=>3|18=>4|19=>5|n=>n⟩
def Tryz.aHL:Go.Proofs.Lays.n171 Tryz.prog Tryz.aRH:={
 mixed:=by kernel_rfl
 f129:=Tryz.func177.trans (dV some (by kernel_rfl))
 f171:=Tryz.func53.trans (dV some (by kernel_rfl))
 f243:=Tryz.func116.trans (dV some (by kernel_rfl))
 f246:=Tryz.func143.trans (dV some (by kernel_rfl))
 f283:=Tryz.func169.trans (dV some (by kernel_rfl))
 f284:=Tryz.func170.trans (dV some (by kernel_rfl))
 f285:=Tryz.func171.trans (dV some (by kernel_rfl))
 f286:=Tryz.func172.trans (dV some (by kernel_rfl))
 f317:=Tryz.func176.trans (dV some (by kernel_rfl))
 f318:=Tryz.func178.trans (dV some (by kernel_rfl))
 f319:=Tryz.func179.trans (dV some (by kernel_rfl))
 f320:=Tryz.func180.trans (dV some (by kernel_rfl))
 f337:=Tryz.func183.trans (dV some (by kernel_rfl))
 f338:=Tryz.func184.trans (dV some (by kernel_rfl))
 t0:=Tryz.underlying0
 a0:=Tryz.isAgg0
 z0:=Tryz.sizeOf0
 v0:=Tryz.zeroValue0
 t2:=Tryz.underlying2
 a2:=Tryz.isAgg2
 z2:=Tryz.sizeOf2
 v2:=Tryz.zeroValue2
 t3:=Tryz.underlying3
 a3:=Tryz.isAgg3
 z3:=Tryz.sizeOf3
 v3:=Tryz.zeroValue3
 t4:=Tryz.underlying4
 a4:=Tryz.isAgg4
 z4:=Tryz.sizeOf4
 v4:=Tryz.zeroValue4
 t5:=Tryz.underlying5
 a5:=Tryz.isAgg5
 z5:=Tryz.sizeOf5
 v5:=Tryz.zeroValue5
 t9:=Tryz.underlying9
 a9:=Tryz.isAgg9
 z9:=Tryz.sizeOf9
 v9:=Tryz.zeroValue9
 t20:=Tryz.underlying20
 a20:=Tryz.isAgg20
 z20:=Tryz.sizeOf20
 v20:=Tryz.zeroValue20
 t37:=Tryz.underlying59
 a37:=Tryz.isAgg59
 z37:=Tryz.sizeOf59
 v37:=Tryz.zeroValue59
 t46:=Tryz.underlying176
 a46:=Tryz.isAgg176
 z46:=Tryz.sizeOf176
 v46:=Tryz.zeroValue176
 t51:=Tryz.underlying184
 a51:=Tryz.isAgg184
 z51:=Tryz.sizeOf184
 v51:=Tryz.zeroValue184
 t53:=Tryz.underlying169
 a53:=Tryz.isAgg169
 z53:=Tryz.sizeOf169
 v53:=Tryz.zeroValue169
 t171:=Tryz.underlying168
 a171:=Tryz.isAgg168
 z171:=Tryz.sizeOf168
 v171:=Tryz.zeroValue168
 t173:=Tryz.underlying172
 a173:=Tryz.isAgg172
 z173:=Tryz.sizeOf172
 v173:=Tryz.zeroValue172
 t212:=Tryz.underlying183
 a212:=Tryz.isAgg183
 z212:=Tryz.sizeOf183
 v212:=Tryz.zeroValue183
 t213:=Tryz.underlying185
 a213:=Tryz.isAgg185
 z213:=Tryz.sizeOf185
 t232:=Tryz.underlying193
 a232:=Tryz.isAgg193
 z232:=Tryz.sizeOf193
 v232:=Tryz.zeroValue193
 t233:=Tryz.underlying194
 a233:=Tryz.isAgg194
 z233:=Tryz.sizeOf194
 v233:=Tryz.zeroValue194
 g17:=by kernel_rfl
 g18:=by kernel_rfl
 g19:=by kernel_rfl }
def Tryz.aPa:Go.Shelf.Ren:=⟨fun|102=>69|209=>117|207=>144|n=>n,fun|9=>9|4=>4|3=>3|n=>n,fun|n=>n⟩
def Tryz.aSJ:Go.Proofs.Lays.n102 Tryz.prog Tryz.aPa:={
 mixed:=by kernel_rfl
 f102:=Tryz.func69.trans (dV some (by kernel_rfl))
 f207:=Tryz.func144.trans (dV some (by kernel_rfl))
 f209:=Tryz.func117.trans (dV some (by kernel_rfl))
 t3:=Tryz.underlying3
 a3:=Tryz.isAgg3
 z3:=Tryz.sizeOf3
 v3:=Tryz.zeroValue3
 t4:=Tryz.underlying4
 a4:=Tryz.isAgg4
 z4:=Tryz.sizeOf4
 v4:=Tryz.zeroValue4
 t9:=Tryz.underlying9
 a9:=Tryz.isAgg9
 z9:=Tryz.sizeOf9
 v9:=Tryz.zeroValue9 }
def Tryz.extra:Builder.Extra Tryz.prog Tryz.ajD where
 sizeBuilder:=by kernel_rfl
 liesBuilder:=by kernel_rfl
 t5:=Tryz.underlying5
 a5:=Tryz.isAgg5
 z5:=Tryz.sizeOf5
 v5:=Tryz.zeroValue5
 infoByte:=by kernel_rfl
 cellsByte:=by kernel_rfl
 sizeByte:=by kernel_rfl
 neB5:=by decide
end Go.Proofs
namespace Go.ea
inductive V where
 |s (v:Value)
 |agg (cs:List V)
 |bQ (vs:List V)
 |ref (id g off:Nat)
 |eu (cs:List V)
 |aZ (id g off len sz:Nat)
 |dc (es:List (List V)) (sz:Nat)
 |c6
 |mp (id:Nat)
 |fn (f:Nat) (fst cap:List V)
 |ff (id:Nat)
 |aoG (t:TypeId) (v:V)
 |bu
 deriving Inhabited
inductive b0 where
 |t (i:Nat)
 |c (v:V)
 deriving Inhabited
inductive mW where
 |int (k:IntKind)|bool|str
 deriving DecidableEq,Inhabited
inductive tg where
 |p|s|m|f
 deriving DecidableEq,Inhabited
inductive bY where
 |move (x:b0)
 |pick (c a b:b0)
 |alloc (zero:List V)
 |box (x:b0)
 |build (zero:List V) (places:List (Nat × Nat)) (parts:List (Nat × b0))
 |gh (sz len:Nat) (zero:List V) (parts:List (Nat × b0))
 |vN
 |eJ (kind:TypeDesc) (m k v:b0)
 |ik (kind:TypeDesc) (zero:V) (m k:b0) (ok:Bool)
 |load (agg:Bool) (n:Nat) (a:b0)
 |store (n:Nat) (a v:b0)
 |nilCheck (x:b0)
 |bin (op:BinOp) (x y:b0)
 |u6 (neg:Bool) (x y:b0)
 |Ip (neg:Bool) (x y:b0)
 |uq (k:tg) (neg:Bool) (x:b0)
 |s8 (neg:Bool) (ls:List mW) (x y:b0)
 |un (op:UnOp) (x:b0)
 |conv (k:IntKind) (x:b0)
 |zo (x:b0)
 |ez (f:Nat) (fst cap:List b0)
 |Lr (zero:List V) (sz bytes:Nat) (len cap:b0)
 |sk (x:b0) (cN hi:Option b0)
 |tP (sz:Nat) (x:b0) (cN hi gJ:Option b0)
 |fieldAddr (off:Nat) (x:b0)
 |field (agg:Bool) (off n:Nat) (x:b0)
 |indexAddr (sz:Nat) (x i:b0)
 |pk (x i:b0)
 |extract (x:b0) (i:Nat)
 |da (k:tg) (x:b0)
 |append (sz bytes:Nat) (s x:b0)
 |y9 (sz bytes:Nat) (s x:b0)
 |delete (kind:TypeDesc) (m k:b0)
 |sW (gJ:Bool) (x y:b0)
 |call (f:b0) (args:List b0)
 |mK (f:b0) (args:List b0)
 |sq (f:Nat) (args:List b0)
 |xI (f:Nat) (args:List b0)
 |Jn (sz:Nat) (zero:List V) (x:b0)
 |copy (sz:Nat) (d s:b0)
 |Jg (x:b0)
 |stuck
 deriving Inhabited
structure bx where
 dst:Option Nat
 op:bY
 guard:Option (Nat × Bool)
 deriving Inhabited
inductive bZ where
 |skip
 |region (ops:List bx) (ct:List (Nat × Nat)) (kill:List Nat)
 |bh (ops:List bx) (kill j7:List Nat)
 |seq (a b:bZ)
 |cond (c:b0) (a b:bZ)
 |block (id:Nat) (c:bZ)
 |loop (kill:List Nat) (c:bZ)
 |rangeFunc (f:b0) (params:List Nat) (assign body:bZ)
 |exit (id:Nat)
 |ret
 deriving Inhabited
inductive nE where
 |bR
 |ext (id:Nat)
 |ret
 deriving DecidableEq,Inhabited
inductive aM where
 |cells (g:Nat) (c:List V)
 |map (es:List (Value × V))
 |loop (st:LoopState) (tn:Option nE) (tmps:List V) (params:List Nat) (assign body:bZ)
 |dead
 |bytes (g:Nat) (l:List UInt8)
 deriving Inhabited
abbrev ad:=List aM
inductive l2 where
 |tmp (t:Nat)
 |cell (t:Nat) (agg:Bool) (n:Nat)
 deriving Inhabited
structure dm where
 ntmps:Nat
 results:List l2
 body:bZ
 deriving Inhabited
inductive cz where
 |code (c:dm)
 |hP (g:List V->Nat->ad->Option (V × ad))
def aV(fr:List V):b0->V
 |.t i=>fr.getD i .bu
 |.c v=>v
def V.one:V->Bool
 |.s v=>match v with|.agg _=>false|.tuple _=>false|_=>true
 |.agg _=>false
 |.bQ _=>false
 |.bu=>false
 |_=>true
def V.cells:V->List V
 |.agg cs=>cs
 |v=>[v]
def V.flat:V->Bool
 |.s _=>true
 |_=>false
def V.Dq:V->Bool
 |.s _=>true
 |.agg cs=>cs.all V.flat
 |.bQ cs=>cs.all fun|.s _=>true|.agg cs=>cs.all V.flat|_=>false
 |_=>false
def au(H:ad)(id g:Nat):Option (List V):=
 match H[id]? with
 |some (.cells g' c)=>if g'=g then some c else none
 |_=>none
def iQ(c:List V)(off:Nat)(vs:List V):List V:=c.take off++vs++c.drop (off+vs.length)
def shut(agg:Bool)(cs:List V):Option V:=
 if agg then some (.agg cs)else match cs with
  | [v]=>some v
  |_=>none
def iu(H:ad)(agg:Bool)(n:Nat):V->Option V
 |.ref id g off=>match au H id g with
   |some c=>let cs:=(c.drop off).take n;if cs.length=n then shut agg cs else none
   |none=>none
 |.eu cs=>let cs:=cs.take n;if cs.length=n then shut agg cs else none
 |_=>none
def A2(H:ad)(base n:Nat)(v:V):V->Option ad
 |.ref id g off=>
   if base<=id then match au H id g with
    |some c=>if v.cells.length=n/\off+n<=c.length/\v.cells.all V.one then some (H.set id (.cells g (iQ c off v.cells)))else none
    |none=>none
   else none
 |_=>none
def lC(place:Nat->Option (Nat × Nat))(cells:List V):List (Nat × V)->Option (List V)
 | []=>some cells
 |(i,v)::rest=>match place i with
   |none=>none
   |some (off,size)=>if v.cells.length=size/\off+size<=cells.length/\v.cells.all V.one then lC place (iQ cells off v.cells) rest else none
def oC(kind:TypeDesc)(k:Value):List (Value × V)->Nat->Option (Option (Nat × V))
 | [],_=>some none
 |(ia,v)::es,i=>match Instr.sameNow kind k ia with
   |some true=>some (some (i,v))
   |some false=>oC kind k es (i+1)
   |none=>none
def n1:TypeDesc->Value->Bool
 |.int k,.int ia _=>k==ia
 |.string,.string _=>true
 |.bool,.bool _=>true
 |_,_=>false
def iL(op:BinOp):Value->Value->Option Value
 |.int k a,.int ia b=>
   match op with
   |.shl=>if b<0 then none else some (.int k (k.wrap (a*2^(min b.toNat k.bits))))
   |.shr=>if b<0 then none else some (.int k (a.fdiv (2^(min b.toNat k.bits))))
   |_=>if k≠ia then none else match op with
     |.add=>some (.int k (k.wrap (a+b)))
     |.sub=>some (.int k (k.wrap (a-b)))
     |.mul=>some (.int k (k.wrap (a*b)))
     |.quo=>if b=0 then none else some (.int k (k.wrap (a.tdiv b)))
     |.rem=>if b=0 then none else some (.int k (a.tmod b))
     |.and=>some (.int k (k.wrap (BitVec.ofInt k.bits a &&& BitVec.ofInt k.bits b).toNat))
     |.or=>some (.int k (k.wrap (BitVec.ofInt k.bits a ||| BitVec.ofInt k.bits b).toNat))
     |.xor=>some (.int k (k.wrap (BitVec.ofInt k.bits a ^^^ BitVec.ofInt k.bits b).toNat))
     |.andNot=>some (.int k (k.wrap (BitVec.ofInt k.bits a &&& ~~~ (BitVec.ofInt k.bits b)).toNat))
     |.eql=>some (.bool (a==b))
     |.neq=>some (.bool (a != b))
     |.lss=>some (.bool (decide (a<b)))
     |.leq=>some (.bool (decide (a<=b)))
     |.gtr=>some (.bool (decide (a > b)))
     |.geq=>some (.bool (decide (a ≥ b)))
     |_=>none
 |.string a,.string b=>
   match op with
   |.add=>if((a.size+b.size:Nat):Int) > IntKind.i64.max then none else some (.string (a++b))
   |.eql=>some (.bool (a.data.toList==b.data.toList))
   |.neq=>some (.bool (!(a.data.toList==b.data.toList)))
   |.lss=>some (.bool (Op.bytesLess a.data.toList b.data.toList))
   |.leq=>some (.bool (Op.bytesLess a.data.toList b.data.toList||a.data.toList==b.data.toList))
   |.gtr=>some (.bool (!(Op.bytesLess a.data.toList b.data.toList||a.data.toList==b.data.toList)))
   |.geq=>some (.bool (!(Op.bytesLess a.data.toList b.data.toList)))
   |_=>none
 |_,_=>none
def Lk:mW->V->V->Option Bool
 |.int k,.s (.int j a),.s (.int yN b)=>if j=k/\yN=k then some (a==b)else none
 |.bool,.s (.bool a),.s (.bool b)=>some (a==b)
 |.str,.s (.string a),.s (.string b)=>some (a.data.toList==b.data.toList)
 |_,_,_=>none
def kX:List mW->List V->List V->Option Bool
 | [],[],[]=>some true
 |l::ls,x::xs,y::fw=>match Lk l x y,kX ls xs fw with
   |some a,some b=>some (a&&b)
   |_,_=>none
 |_,_,_=>none
def V.isNil:tg->V->Option Bool
 |.p,.s (.pointer none)=>some true
 |.p,.ref ..=>some false
 |.p,.eu ..=>some false
 |.s,.s (.slice none 0 0)=>some true
 |.s,.aZ ..=>some false
 |.s,.dc ..=>some false
 |.s,.c6=>some false
 |.m,.s (.map none)=>some true
 |.m,.mp ..=>some false
 |.f,.s .nilFunc=>some true
 |.f,.fn ..=>some false
 |.f,.ff ..=>some false
 |_,_=>none
def i64(n:Int):V:=.s (.int .i64 n)
def ar(b:Bool):V:=.s (.bool b)
def str(b:ByteArray):V:=.s (.string b)
def cm:V:=.s (.slice none 0 0)
def bF:V:=.s Go.undef
def elems(H:ad)(sz:Nat):V->Option (Nat × List V)
 |.s (.slice none 0 0)=>some (0,[])
 |.c6=>some (0,[])
 |.dc es dC=>if dC=sz then some (es.length,es.flatten)else none
 |.aZ id g off len dC=>if dC=sz then match au H id g with
    |some c=>let cs:=(c.drop off).take (len*sz);if cs.length=len*sz then some (len,cs)else none
    |none=>none
   else none
 |_=>none
def BT(H:ad)(base sz bytes:Nat)(s x:V):Option (V × ad):=
 match x with
 |.s (.string b)=>if sz=1/\bytes=1 then
    match s with
    |.s (.slice none 0 0)=>
      if b.size=0 then some (s,H)else
      if b.size<=2^47 then some (.aZ H.length 0 0 b.size 1,H++[.bytes 0 b.data.toList])else none
    |.aZ id g 0 len 1=>
      if base<=id then match H[id]? with
       |some (.bytes g' l)=>
         if g'=g/\len=l.length then
          if b.size=0 then some (s,H)else
          if len+b.size<=2^47 then some (.aZ id (g+1) 0 (len+b.size) 1,H.set id (.bytes (g+1) (l++b.data.toList)))else none
         else none
       |_=>none
      else none
    |_=>none
   else none
 |_=>none
def h5(H:ad)(base sz bytes:Nat)(s x:V):Option (V × ad):=
 match elems H sz x with
 |none=>BT H base sz bytes s x
 |some (m,xs)=>
   if xs.all V.one then
   match s with
   |.s (.slice none 0 0)=>
     if m=0 then some (s,H)else
     if m*bytes<=2^47 then some (.aZ H.length 0 0 m sz,H++[.cells 0 xs])else none
   |.c6=>
     if m=0 then some (s,H)else
     if m*bytes<=2^47 then some (.aZ H.length 0 0 m sz,H++[.cells 0 xs])else none
   |.dc es dC=>if m=0/\dC=sz then some (s,H)else none
   |.aZ id g off len dC=>
     if dC=sz/\base<=id then match au H id g with
      |some c=>
        if off+len*sz<=c.length then
         if m=0 then some (s,H)else
         if(len+m)*bytes<=2^47 then
          some (.aZ id (g+1) 0 (len+m) sz,H.set id (.cells (g+1) ((c.drop off).take (len*sz)++xs)))
         else none
        else none
      |none=>none
     else none
   |_=>none
   else none
def copyV(H:ad)(base sz:Nat)(d s:V):Option (V × ad):=
 match s with
 |.s (.string _)=>none
 |s=>match elems H sz s with
   |none=>none
   |some (m,xs)=>if xs.all V.one then
      match d with
      |.s (.slice none 0 0)=>some (i64 0,H)
      |.c6=>some (i64 0,H)
      |.aZ id g off len dC=>
        if dC=sz/\base<=id then match au H id g with
         |some c=>if off+len*sz<=c.length then some (i64 (min m len:Nat),H.set id (.cells g (iQ c off (xs.take (min m len*sz)))))else none
         |none=>none
        else none
      |_=>none
     else none
def Po:List V->Option (List UInt8)
 | []=>some []
 |.s (.int .u8 n)::xs=>match Po xs with
   |some bs=>some (UInt8.ofNat n.toNat::bs)
   |none=>none
 |_=>none
def Q3(H:ad)(x:V):Option V:=
 match x with
 |.s (.string _)=>none
 |x=>match elems H 1 x with
   |some (_,xs)=>match Po xs with
     |some bs=>some (.s (.string ⟨bs.toArray⟩))
     |none=>none
   |none=>none
def DC:V->Option Int
 |.s (.int _ n)=>some n
 |_=>none
def hr(H:ad):Nat->V->Option V
 |0,_=>none
 |n+1,v=>match v with
   |.s x=>some (.s x)
   |.agg cs=>(cs.mapM (hr H n)).map .agg
   |.bQ cs=>(cs.mapM (hr H n)).map .bQ
   |.ref id g off=>match au H id g with
     |some c=>if off<=c.length then((c.drop off).mapM (hr H n)).map .eu else none
     |none=>none
   |.aZ id g off len sz=>match au H id g with
     |some c=>
       let cs:=(c.drop off).take (len*sz)
       if cs.length=len*sz then
        match cs.mapM (hr H n)with
        |some us=>some (.dc ((List.range len).map fun i=>(us.drop (i*sz)).take sz) sz)
        |none=>none
       else none
     |none=>none
   |.eu cs=>some (.eu cs)
   |.dc es sz=>some (.dc es sz)
   |.c6=>some .c6
   |.fn f a b=>match a.mapM (hr H n),b.mapM (hr H n)with
     |some a,some b=>some (.fn f a b)
     |_,_=>none
   |_=>none
def jD:Nat->V->Bool
 |0,_=>false
 |n+1,v=>match v with
   |.s _=>true
   |.agg cs=>cs.all (jD n)
   |.bQ cs=>cs.all (jD n)
   |.eu _|.dc .. | .c6=>true
   |.fn _ a b=>a.all (jD n)&&b.all (jD n)
   |_=>false
def ir(m:Nat):Nat->V->Bool
 |0,_=>false
 |n+1,v=>match v with
   |.s _=>true
   |.agg cs=>cs.all (ir m n)
   |.bQ cs=>cs.all (ir m n)
   |.ref id _ _=>decide (id<m)
   |.aZ id _ _ _ _=>decide (id<m)
   |.mp id=>decide (id<m)
   |.ff id=>decide (id<m)
   |.eu _|.dc .. | .c6=>true
   |.fn _ a b=>a.all (ir m n)&&b.all (ir m n)
   |.aoG _ _=>false
   |.bu=>true
def aM.under(m:Nat):aM->Bool
 |.cells _ c=>c.all (ir m 8)
 |.map es=>es.all fun e=>ir m 8 e.2
 |.loop _ _ t _ _ _=>t.all (ir m 8)
 |.dead=>true
 |.bytes ..=>true
def ul(kill:List Nat)(fr:List V):List V:=kill.foldl (fun fr t=>fr.set t .bu) fr
def trim(m:Nat)(fr:List V)(H:ad):ad:=
 if fr.all (ir m 8)&&(H.take m).all (aM.under m)then H.take m else H
def put(dst:Option Nat)(v:V)(fr:List V):List V:=
 match dst with
 |some d=>fr.set d v
 |none=>fr
def want(o:bx)(fr:List V):Option Bool:=
 match o.guard with
 |none=>some true
 |some (t,b)=>match fr.getD t .bu with
   |.s (.bool x)=>some (x==b)
   |.s (.tuple _)=>some false
   |_=>none
abbrev c5:=V->List V->Nat->ad->Option (V × ad)
def hY(fr:List V)(d:Nat):Option b0->Option Int
 |none=>some d
 |some x=>DC (aV fr x)
def bf(call:c5)(base:Nat)(fr:List V)(H:ad):bY->Option (V × ad)
 |.move x=>some (aV fr x,H)
 |.pick c a b=>match aV fr c with
   |.s (.bool true)=>some (aV fr a,H)
   |.s (.bool false)=>some (aV fr b,H)
   |_=>none
 |.alloc zero=>some (.ref H.length 0 0,H++[.cells 0 zero])
 |.box x=>let v:=aV fr x;if v.cells.all V.one then some (.ref H.length 0 0,H++[.cells 0 v.cells])else none
 |.build zero places parts=>match lC (places[·]?) zero (parts.map fun p=>(p.1,aV fr p.2))with
   |some cs=>some (.agg cs,H)
   |none=>none
 |.gh sz len zero parts=>match lC (fun i=>some (i*sz,sz)) zero (parts.map fun p=>(p.1,aV fr p.2))with
   |some cs=>some (if len=0 then .c6 else .aZ H.length 0 0 len sz,H++[.cells 0 cs])
   |none=>none
 |.vN=>some (.mp H.length,H++[.map []])
 |.eJ kind m k v=>match aV fr m,aV fr k with
   |.mp id,.s key=>if base<=id/\n1 kind key then match H[id]? with
      |some (.map es)=>match oC kind key es 0 with
        |some (some (i,_))=>some (bF,H.set id (.map (es.set i (key,aV fr v))))
        |some none=>some (bF,H.set id (.map (es++[(key,aV fr v)])))
        |none=>none
      |_=>none
     else none
   |_,_=>none
 |.ik kind zero m k ok=>match aV fr k with
   |.s key=>if n1 kind key then
      match aV fr m with
      |.s (.map none)=>some (if ok then .bQ [zero,ar false]else zero,H)
      |.mp id=>match H[id]? with
        |some (.map es)=>match oC kind key es 0 with
          |some (some (_,v))=>some (if ok then .bQ [v,ar true]else v,H)
          |some none=>some (if ok then .bQ [zero,ar false]else zero,H)
          |none=>none
        |_=>none
      |_=>none
     else none
   |_=>none
 |.load agg n a=>(iu H agg n (aV fr a)).map fun v=>(v,H)
 |.store n a v=>(A2 H base n (aV fr v) (aV fr a)).map fun H=>(bF,H)
 |.nilCheck x=>match aV fr x with
   |.ref id g off=>some (.ref id g off,H)
   |.eu cs=>some (.eu cs,H)
   |.fn f a b=>some (.fn f a b,H)
   |.ff id=>some (.ff id,H)
   |_=>none
 |.bin op x y=>match aV fr x,aV fr y with
   |.s a,.s b=>(iL op a b).map fun v=>(.s v,H)
   |_,_=>none
 |.u6 neg x y=>match aV fr x,aV fr y with
   |.s (.bool a),.s (.bool b)=>some (ar ((a==b) != neg),H)
   |_,_=>none
 |.Ip neg x y=>match aV fr x,aV fr y with
   |.ref i g _,.ref j h _=>if i=j then none else match au H i g,au H j h with
     |some _,some _=>some (ar neg,H)
     |_,_=>none
   |_,_=>none
 |.uq k neg x=>match(aV fr x).isNil k with
   |some b=>some (ar (b != neg),H)
   |none=>none
 |.s8 neg ls x y=>match aV fr x,aV fr y with
   |.agg xs,.agg fw=>match kX ls xs fw with
     |some b=>some (ar (b != neg),H)
     |none=>none
   |_,_=>none
 |.un op x=>match op,aV fr x with
   |.not,.s (.bool b)=>some (ar (!b),H)
   |.neg,.s (.int k n)=>some (.s (.int k (k.wrap (0-n))),H)
   |.xor,.s (.int k n)=>(iL .xor (.int k (if k.signed then -1 else k.max)) (.int k n)).map fun v=>(.s v,H)
   |_,_=>none
 |.conv k x=>match aV fr x with
   |.s (.int _ n)=>some (.s (.int k (k.wrap n)),H)
   |_=>none
 |.zo x=>match aV fr x with
   |.s (.string b)=>some (.s (.string b),H)
   |_=>none
 |.ez f fst cap=>some (.fn f (fst.map (aV fr)) (cap.map (aV fr)),H)
 |.Lr zero sz bytes len cap=>match aV fr len,aV fr cap with
   |.s (.int _ l),.s (.int _ c)=>
     if 0<=l/\l<=c/\c*bytes<=2^47 then some (.aZ H.length 0 0 l.toNat sz,H++[.cells 0 (List.replicate l.toNat zero).flatten])else none
   |_,_=>none
 |.sk x cN hi=>match aV fr x with
   |.s (.string b)=>match hY fr 0 cN,hY fr b.size hi with
     |some l,some h=>if 0<=l/\l<=h/\h<=b.size then some (.s (.string (b.extract l.toNat h.toNat)),H)else none
     |_,_=>none
   |_=>none
 |.tP sz x cN hi gJ=>
   match gJ with
   |none=>match aV fr x with
     |.s (.slice none 0 0)=>match hY fr 0 cN,hY fr 0 hi with
       |some 0,some 0=>some (cm,H)
       |_,_=>none
     |.c6=>match hY fr 0 cN,hY fr 0 hi with
       |some 0,some 0=>some (.c6,H)
       |_,_=>none
     |.dc es dC=>match hY fr 0 cN,hY fr es.length hi with
       |some l,some h=>if 0<=l/\l<=h/\h<=es.length/\dC=sz then some (.dc ((es.drop l.toNat).take (h-l).toNat) sz,H)else none
       |_,_=>none
     |.aZ id g off len dC=>match hY fr 0 cN,hY fr len hi with
       |some l,some h=>if 0<=l/\l<=h/\h<=len/\dC=sz then some (.aZ id g (off+l.toNat*sz) (h-l).toNat sz,H)else none
       |_,_=>none
     |_=>none
   |some m=>match hi,hY fr 0 cN with
     |some h,some 0=>match DC (aV fr h),DC (aV fr m)with
       |some 0,some 0=>match aV fr x with
         |.s (.slice none 0 0)=>some (cm,H)
         |.c6=>some (.c6,H)
         |.dc _ _=>some (.c6,H)
         |.aZ _ _ _ _ _=>some (.c6,H)
         |_=>none
       |_,_=>none
     |_,_=>none
 |.fieldAddr off x=>match aV fr x with
   |.ref id g o=>some (.ref id g (o+off),H)
   |.eu cs=>if off<=cs.length then some (.eu (cs.drop off),H)else none
   |_=>none
 |.field agg off n x=>match aV fr x with
   |.agg cs=>let cs:=(cs.drop off).take n;if cs.length=n then(shut agg cs).map fun v=>(v,H)else none
   |_=>none
 |.indexAddr sz x i=>match aV fr x,aV fr i with
   |.aZ id g off len dC,.s (.int _ n)=>if 0<=n/\n<len/\dC=sz then some (.ref id g (off+n.toNat*sz),H)else none
   |.dc es dC,.s (.int _ n)=>if 0<=n/\dC=sz then match es[n.toNat]? with
      |some e=>some (.eu e,H)
      |none=>none
     else none
   |_,_=>none
 |.pk x i=>match aV fr x,aV fr i with
   |.s (.string b),.s (.int _ n)=>if 0<=n then match b.data.toList[n.toNat]? with
      |some c=>some (.s (.int .u8 c.toNat),H)
      |none=>none
     else none
   |_,_=>none
 |.extract x i=>match aV fr x with
   |.bQ vs=>match vs[i]? with
     |some v=>some (v,H)
     |none=>none
   |_=>none
 |.da k x=>match k,aV fr x with
   |.p,.s (.string b)=>some (i64 b.size,H)
   |.s,.s (.slice none 0 0)=>some (i64 0,H)
   |.m,.s (.map none)=>some (i64 0,H)
   |.s,.c6=>some (i64 0,H)
   |.s,.dc es _=>some (i64 es.length,H)
   |.s,.aZ _ _ _ len _=>some (i64 len,H)
   |.m,.mp id=>match H[id]? with
     |some (.map es)=>some (i64 es.length,H)
     |_=>none
   |_,_=>none
 |.y9 sz bytes s x=>h5 H H.length sz bytes (aV fr s) (aV fr x)
 |.append sz bytes s x=>h5 H base sz bytes (aV fr s) (aV fr x)
 |.delete kind m k=>match aV fr m,aV fr k with
   |.mp id,.s key=>if base<=id/\n1 kind key then match H[id]? with
      |some (.map es)=>match oC kind key es 0 with
        |some (some (i,_))=>some (bF,H.set id (.map (es.eraseIdx i)))
        |some none=>some (bF,H)
        |none=>none
      |_=>none
     else none
   |_,_=>none
 |.sW gJ x y=>match aV fr x,aV fr y with
   |.s (.int k a),.s (.int ia b)=>if k=ia then some (.s (.int k (if gJ then(if a<b then b else a)else(if b<a then b else a))),H)else none
   |_,_=>none
 |.call f args=>call (aV fr f) (args.map (aV fr)) base H
 |.mK f args=>call (aV fr f) (args.map (aV fr)) H.length H
 |.sq f args=>
   let vs:=args.map (aV fr)
   match vs.mapM (hr H 12)with
   |some us=>match call (.fn f [] []) us 0 []with
     |some (v,H')=>match hr H' 12 v with
       |some u=>if vs.all (jD 12)||u.Dq then some (u,H)else none
       |none=>none
     |none=>none
   |none=>none
 |.xI f args=>
   if(args.map (aV fr)).all (jD 12)then
    match call (.fn f [] []) (args.map (aV fr)) 0 []with
    |some (v,H')=>match hr H' 12 v with
      |some u=>some (u,H)
      |none=>none
    |none=>none
   else none
 |.copy sz d s=>copyV H base sz (aV fr d) (aV fr s)
 |.Jg x=>(Q3 H (aV fr x)).map fun v=>(v,H)
 |.stuck=>none
 |.Jn sz zero x=>match aV fr x with
   |.s (.slice none 0 0)=>some (bF,H)
   |.c6=>some (bF,H)
   |.aZ id g off len dC=>if len=0 then some (bF,H)else if base<=id/\dC=sz then match au H id g with
      |some c=>if zero.length=sz/\off+len*sz<=c.length/\zero.all V.one then some (bF,H.set id (.cells g (iQ c off (List.replicate len zero).flatten)))else none
      |none=>none
     else none
   |_=>none
def cI(call:c5)(base:Nat):List bx->List V->ad->Option (List V × ad)
 | [],fr,H=>some (fr,H)
 |o::os,fr,H=>match want o fr with
   |none=>none
   |some false=>cI call base os (put o.dst bF fr) H
   |some true=>match bf call base fr H o.op with
     |some (v,H')=>cI call base os (put o.dst v fr) H'
     |none=>none
def bY.place:bY->Option b0
 |.load _ _ a=>some a
 |.store _ a _=>some a
 |.da _ m=>some m
 |.ik _ _ m _ _=>some m
 |.append _ _ s _=>some s
 |_=>none
def V.lI:V->Option (Option Nat)
 |.ref id _ _=>some (some id)
 |.mp id=>some (some id)
 |.s _|.eu _|.dc .. | .c6|.aZ ..=>some none
 |_=>none
def V.aoC:V->Option (Option Nat)
 |.aZ id _ _ _ _=>some (some id)
 |.s _|.c6|.dc ..=>some none
 |_=>none
def bY.obj(o:bY)(v:V):Option (Option Nat):=
 match o with
 |.append ..=>v.aoC
 |_=>v.lI
def FO(ops:List bx)(fr:List V)(p:Nat × Nat):Bool:=
 match(ops.getD p.1 default).op.place,(ops.getD p.2 default).op.place with
 |some a,some b=>match(ops.getD p.1 default).op.obj (aV fr a),(ops.getD p.2 default).op.obj (aV fr b)with
   |some (some i),some (some j)=>i != j
   |some _,some _=>true
   |_,_=>false
 |_,_=>false
abbrev cy:=nE × List V × ad
def bY.AH:bY->Bool
 |.call ..=>true
 |_=>false
def TU(fr:List V)(o:bY):Option (Option Nat):=
 match o.place with
 |some x=>o.obj (aV fr x)
 |none=>none
noncomputable def Da(call:c5)(base:Nat)(ops:List bx)(fr:List V)(H:ad)(aW:List V)(c r:Nat):Bool:=
 match cI call base (ops.take c) fr H,cI call base (ops.take (c+1)) fr H,TU aW (ops.getD r default).op with
 |some a,some b,some (some id)=>@decide (b.2[id]?=a.2[id]?) (Classical.propDecidable _)
 |some _,some _,some none=>true
 |_,_,_=>false
noncomputable def tD(call:c5)(base:Nat)(ops:List bx)(fr:List V)(H:ad)(aW:List V)(p:Nat × Nat):Bool:=
 FO ops aW p||((ops.getD p.1 default).op.AH&&Da call base ops fr H aW p.1 p.2)||((ops.getD p.2 default).op.AH&&Da call base ops fr H aW p.2 p.1)
def bY.quiet:bY->Bool
 |.move _|.pick .. | .build .. | .nilCheck _|.bin .. | .u6 .. | .uq .. | .s8 .. | .un .. | .conv .. | .zo _|.ez ..
 |.sk .. | .tP .. | .fieldAddr .. | .field .. | .indexAddr .. | .pk .. | .extract .. | .sW .. | .ik .. | .load .. | .da ..=>true
 |_=>false
inductive E where
 |t (i:Nat)
 |c (v:V)
 |pick (c a b:E)
 |op (o:bY) (xs:List E)
 deriving Inhabited
def b0.num:b0->Nat->b0
 |.t _,k=>.t k
 |.c v,_=>.c v
def qk(o:Option b0)(k:Nat):Option b0:=o.map fun x=>x.num k
def Ij(k:Nat):List b0->List b0
 | []=>[]
 |x::xs=>x.num k::Ij (k+1) xs
def PY(k:Nat):List (Nat × b0)->List (Nat × b0)
 | []=>[]
 |p::ps=>(p.1,p.2.num k)::PY (k+1) ps
def bY.nF:bY->bY
 |.move x=>.move (x.num 0)
 |.nilCheck x=>.nilCheck (x.num 0)
 |.uq k n x=>.uq k n (x.num 0)
 |.un o x=>.un o (x.num 0)
 |.conv k x=>.conv k (x.num 0)
 |.zo x=>.zo (x.num 0)
 |.fieldAddr o x=>.fieldAddr o (x.num 0)
 |.field a o n x=>.field a o n (x.num 0)
 |.extract x i=>.extract (x.num 0) i
 |.da k x=>.da k (x.num 0)
 |.load a n x=>.load a n (x.num 0)
 |.pick c a b=>.pick (c.num 0) (a.num 1) (b.num 2)
 |.build z p ps=>.build z p (PY 0 ps)
 |.ik k z m x ok=>.ik k z (m.num 0) (x.num 1) ok
 |.bin o x y=>.bin o (x.num 0) (y.num 1)
 |.u6 n x y=>.u6 n (x.num 0) (y.num 1)
 |.s8 n l x y=>.s8 n l (x.num 0) (y.num 1)
 |.indexAddr s x y=>.indexAddr s (x.num 0) (y.num 1)
 |.pk x y=>.pk (x.num 0) (y.num 1)
 |.sW m x y=>.sW m (x.num 0) (y.num 1)
 |.ez f a b=>.ez f (Ij 0 a) (Ij a.length b)
 |.sk x cN hi=>.sk (x.num 0) (qk cN 1) (qk hi (1+cN.toList.length))
 |.tP s x cN hi gJ=>.tP s (x.num 0) (qk cN 1) (qk hi (1+cN.toList.length)) (qk gJ (1+cN.toList.length+hi.toList.length))
 |o=>o
def b0.wL:b0->List Nat
 |.t i=>[i]
 |.c _=>[]
def bY.rF:bY->List b0
 |.move x|.box x|.nilCheck x|.uq _ _ x|.un _ x|.conv _ x|.zo x|.fieldAddr _ x|.field _ _ _ x|.extract x _|.da _ x|.load _ _ x=>[x]
 |.pick c a b=>[c,a,b]
 |.alloc _|.vN=>[]
 |.build _ _ ps|.gh _ _ _ ps=>ps.map (·.2)
 |.eJ _ m k v=>[m,k,v]
 |.ik _ _ m k _=>[m,k]
 |.store _ a v=>[a,v]
 |.bin _ x y|.u6 _ x y|.Ip _ x y|.s8 _ _ x y|.indexAddr _ x y|.pk x y|.append _ _ x y|.y9 _ _ x y|.sW _ x y|.delete _ x y|.Lr _ _ _ x y=>[x,y]
 |.ez _ a b=>a++b
 |.sk x cN hi=>x::(cN.toList++hi.toList)
 |.tP _ x cN hi gJ=>x::(cN.toList++hi.toList++gJ.toList)
 |.call f xs|.mK f xs=>f::xs
 |.sq _ xs|.xI _ xs=>xs
 |.Jn _ _ x=>[x]
 |.copy _ d s=>[d,s]
 |.Jg x=>[x]
 |.stuck=>[]
def Ap(c x y:Option V):Option V:=
 match c with
 |some (.s (.bool true))=>x
 |some (.s (.bool false))=>y
 |_=>none
def yw(c:Option V)(b r:Bool):Bool:=
 match c with
 |some (.s (.bool z))=>if z=b then r else true
 |_=>false
mutual
def ch(fr:List V)(H:ad):E->Option V
 |.t i=>some (fr.getD i .bu)
 |.c v=>some v
 |.pick c a b=>Ap (ch fr H c) (ch fr H a) (ch fr H b)
 |.op o xs=>match oT fr H xs with
   |some vs=>match bf (fun _ _ _ _=>none) 0 vs H o with
     |some (v,_)=>some v
     |none=>none
   |none=>none
def oT(fr:List V)(H:ad):List E->Option (List V)
 | []=>some []
 |x::xs=>match ch fr H x,oT fr H xs with
   |some v,some vs=>some (v::vs)
   |_,_=>none
end
structure n4 where
 g:List (Nat × Bool × E)
 e:E
 deriving Inhabited
def kH:List (Nat × n4)->Nat->n4
 | [],s=>⟨[],.t s⟩
 |(k,dT)::ds,s=>if k=s then dT else kH ds s
def under(G K:List (Nat × Bool × E)):Bool:=G.all fun p=>K.any fun q=>p.1==q.1&&p.2.1==q.2.1
def CE(ds:List (Nat × n4))(G:List (Nat × Bool × E)):b0->Option E
 |.c v=>some (.c v)
 |.t s=>if under (kH ds s).g G then some (kH ds s).e else none
def Jo(ds:List (Nat × n4))(G:List (Nat × Bool × E)):List b0->Option (List E)
 | []=>some []
 |x::xs=>match CE ds G x,Jo ds G xs with
   |some e,some es=>some (e::es)
   |_,_=>none
def nd(ds:List (Nat × n4)):Option (Nat × Bool)->List (Nat × Bool × E)
 |none=>[]
 |some (t,b)=>(kH ds t).g++[(t,b,(kH ds t).e)]
def Pc(ds:List (Nat × n4))(G:List (Nat × Bool × E))(o:bY):Option E:=
 match o with
 |.move x=>CE ds G x
 |.pick (.t c) a b=>match CE ds G (.t c),CE ds (G++[(c,true,(kH ds c).e)]) a,CE ds (G++[(c,false,(kH ds c).e)]) b with
   |some x,some y,some z=>some (.pick x y z)
   |_,_,_=>none
 |o=>if o.quiet then match Jo ds G o.rF with
    |some xs=>some (.op o.nF xs)
    |none=>none
   else none
def DO:List (Nat × n4)->List (List (Nat × Bool × E) × E)->List bx->Option (List (Nat × n4) × List (List (Nat × Bool × E) × E))
 |ds,R,[]=>some (ds,R)
 |ds,R,o::os=>match Pc ds (nd ds o.guard) o.op with
   |some e=>match o.dst with
     |some d=>if(nd ds o.guard).all (fun p=>p.1 != d)&&ds.all (fun q=>q.2.g.all fun p=>p.1 != d)then DO ((d,⟨nd ds o.guard,e⟩)::ds) (R++[(nd ds o.guard,e)]) os else none
     |none=>DO ds (R++[(nd ds o.guard,e)]) os
   |none=>none
def lb(fr:List V)(H:ad):List (Nat × Bool × E)->E->Bool
 | [],e=>(ch fr H e).isSome
 |p::G,e=>yw (ch fr H p.2.2) p.2.1 (lb fr H G e)
def Eo:List bx->Nat
 | []=>0
 |o::os=>match o.dst with
   |some d=>max (d+1) (Eo os)
   |none=>Eo os
abbrev ah8:=Option (Nat × List (List (Nat × Bool × E) × E) × List (Nat × E))
def nh(ops:List bx)(kill j7:List Nat):ah8:=
 match DO [] [] ops with
 |some (ds,R)=>
   if j7.all (fun s=>(kH ds s).g.isEmpty)&&ops.all (fun o=>match o.dst with|some d=>kill.contains d||j7.contains d|none=>true)&&j7.all (fun s=>!kill.contains s)
   then some (Eo ops,R,j7.map fun s=>(s,(kH ds s).e))else none
 |none=>none
def rB(fr:List V)(H:ad):List (Nat × E)->List V->Option (List V)
 | [],aW=>some aW
 |(s,e)::os,aW=>match ch fr H e with
   |some v=>rB fr H os (aW.set s v)
   |none=>none
def jN(aTC:ah8)(kill:List Nat)(fr:List V)(H:ad):Option (List V):=
 match aTC with
 |some (m,R,os)=>if m<=fr.length then if R.all (fun r=>lb fr H r.1 r.2)then rB fr H os (ul kill fr)else none else none
 |none=>none
def gd(body:List V->ad->Option cy)(kill:List Nat)(m:Nat):Nat->List V->ad->Option cy
 |0,_,_=>none
 |n+1,fr,H=>match body fr H with
   |some (.bR,aW,H')=>let aW:=ul kill aW;gd body kill m n aW (trim m aW H')
   |some (e,aW,H')=>let aW:=ul kill aW;some (e,aW,trim m aW H')
   |none=>none
def F7:nE->Option nE
 |.bR=>none
 |e=>some e
abbrev hE:=(List V->ad->Option cy)->List Nat->Nat->List V->ad->Option cy
noncomputable def aL(call:c5)(it:hE)(base:Nat):bZ->List V->ad->Option cy
 |.skip,fr,H=>some (.bR,fr,H)
 |.region ops ct kill,fr,H=>match cI call base ops fr H with
   |some (aW,H')=>if ct.all (tD call base ops fr H aW)then some (.bR,ul kill aW,H')else none
   |none=>none
 |.bh ops kill j7,fr,H=>match jN (nh ops kill j7) kill fr H with
   |some aW=>some (.bR,aW,H)
   |none=>none
 |.seq a b,fr,H=>match aL call it base a fr H with
   |some (.bR,fr,H)=>aL call it base b fr H
   |r=>r
 |.cond c a b,fr,H=>match aV fr c with
   |.s (.bool true)=>aL call it base a fr H
   |.s (.bool false)=>aL call it base b fr H
   |_=>none
 |.block id c,fr,H=>match aL call it base c fr H with
   |some (.ext gw,fr,H)=>some (if gw=id then .bR else .ext gw,fr,H)
   |r=>r
 |.loop kill c,fr,H=>it (fun fr H=>aL call it base c fr H) kill H.length (ul kill fr) H
 |.rangeFunc f params assign body,fr,H=>
   match aV fr f with
   |.fn k x y=>match call (.fn k x y) [.ff H.length] base (H++[.loop .ready none fr params assign body])with
     |some (_,H')=>match H'[H.length]? with
       |some (.loop .ready none _ _ _ _)=>some (.bR,fr,trim H.length fr (H'.set H.length .dead))
       |some (.loop .done (some e) _ _ _ _)=>some (e,fr,trim H.length fr (H'.set H.length .dead))
       |_=>none
     |none=>none
   |_=>none
 |.exit id,fr,H=>some (.ext id,fr,H)
 |.ret,fr,H=>some (.ret,fr,H)
def Bf:List Nat->List V->List V->Option (List V)
 | [],[],fr=>some fr
 |p::ps,v::vs,fr=>Bf ps vs (fr.set p v)
 |_,_,_=>none
def kJ(fr:List V)(H:ad):l2->Option V
 |.tmp t=>some (fr.getD t .bu)
 |.cell t agg n=>iu H agg n (fr.getD t .bu)
def ky(rs:List l2)(fr:List V)(H:ad):Option V:=
 match rs.mapM (kJ fr H)with
 |some [v]=>some v
 |some vs=>some (.bQ vs)
 |none=>none
noncomputable def iT(b1:Nat->Option cz)(call:c5)(it:hE)(v:V)(args:List V)(base:Nat)(H:ad):Option (V × ad):=
 match v with
 |.fn f fst cap=>match b1 f with
   |some (.code c)=>
     let vs:=fst++args++cap
     match aL call it base c.body (vs++List.replicate (c.ntmps-vs.length) bF) H with
     |some (.bR,fr,H')=>(ky c.results fr H').map fun v=>(v,H')
     |some (.ret,fr,H')=>(ky c.results fr H').map fun v=>(v,H')
     |_=>none
   |some (.hP g)=>g (fst++args++cap) base H
   |none=>none
 |.ff id=>if base<=id then match H[id]? with
   |some (.loop .ready none tmps params assign body)=>match Bf params args tmps with
     |some fr=>match aL call it base assign fr H with
       |some (.bR,fr,H)=>match H[id]? with
         |some (.loop .ready none t p a b)=>match aL call it base body fr (H.set id (.loop .busy none t p a b))with
           |some (e,_,H)=>match H[id]? with
             |some (.loop .busy none t p a b)=>some (ar (e=.bR),H.set id (.loop (if e=.bR then .ready else .done) (F7 e) t p a b))
             |_=>none
           |none=>none
         |_=>none
       |_=>none
     |none=>none
   |_=>none
   else none
 |_=>none
noncomputable def iq(b1:Nat->Option cz):Nat->c5
 |0=>fun _ _ _ _=>none
 |n+1=>iT b1 (iq b1 n) (fun b k m=>gd b k m n)
def F'(v:Value):Option V:=
 match v with
 |.bool _|.int _ _|.string _|.nilFunc|.nilIface|.pointer none|.slice none 0 0|.map none=>some (.s v)
 |_=>none
def DH(v:Value):Option V:=
 match v with
 |.agg cs=>(cs.toList.mapM F').map .agg
 |v=>F' v
def en:Operand->Option b0
 |.tmp t=>some (.t t)
 |.const v=>(DH v).map .c
 |.func f=>some (.c (.fn f [] []))
 |.global _=>none
section
variable (P:Program)
def na(t:TypeId):Option Bool:=
 match P.underlying t with
 |some (.struct _)=>some true
 |some (.array _ _)=>some true
 |some _=>some false
 |none=>none
def gq(t:TypeId):Option Nat:=(P.info? t).map (·.size)
def wa(t:TypeId):Option (Bool × Nat):=
 match na P t,gq P t with
 |some true,some n=>some (true,n)
 |some false,some 1=>some (false,1)
 |_,_=>none
def nX(t:TypeId):Option V:=
 match P.info? t with
 |some i=>match i.zero with
   |some z=>DH z
   |none=>none
 |none=>none
def AL(t:TypeId):Option TypeDesc:=
 match P.underlying t with
 |some (.int k)=>some (.int k)
 |some .string=>some .string
 |some .bool=>some .bool
 |_=>none
mutual
def FT:Nat->TypeId->Option (List mW)
 |0,_=>none
 |d+1,t=>match P.underlying t with
   |some (.int k)=>if gq P t=some 1 then some [.int k]else none
   |some .bool=>if gq P t=some 1 then some [.bool]else none
   |some .string=>if gq P t=some 1 then some [.str]else none
   |some (.struct fs)=>if P.stoodInHeld t then none else G0 d 0 fs.toList
   |_=>none
def G0:Nat->Nat->List Field->Option (List mW)
 |0,_,_=>none
 |_+1,_,[]=>some []
 |d + 1, off, f::fs => if f.offset = off /\ f.name ≠ "_" then match FT d f.type, gq P f.type with
     |some ls,some n=>if ls.length=n then match G0 d (off+n) fs with
        |some rest=>some (ls++rest)
        |none=>none
       else none
     |_,_=>none
   else none
end
def Gy:Option TypeDesc->Operand->Option tg
 |some (.pointer _),.const (.pointer none)=>some .p
 |some (.slice _),.const (.slice none 0 0)=>some .s
 |some (.map _ _),.const (.map none)=>some .m
 |some (.func _ _ _),.const .nilFunc=>some .f
 |_,_=>none
def o0:BinOp->Option Bool
 |.eql=>some false
 |.neq=>some true
 |_=>none
def PV(op:BinOp)(t:TypeId)(x y:Operand):Option bY:=
 match o0 op,Gy (P.underlying t) y,Gy (P.underlying t) x with
 |some neg,some k,_=>(en x).map (.uq k neg)
 |some neg,none,some k=>(en y).map (.uq k neg)
 |e,_,_=>match P.underlying t,en x,en y with
   |some (.int _),some x,some y=>some (.bin op x y)
   |some .string,some x,some y=>some (.bin op x y)
   |some .bool,some x,some y=>match e with
     |some neg=>some (.u6 neg x y)
     |none=>none
   |some (.pointer bN),some x,some y=>match e,gq P bN with
     |some neg,some n=>if n≠0 then some (.Ip neg x y)else none
     |_,_=>none
   |some (.struct _),some x,some y=>match e,FT P 12 t with
     |some neg,some ls=>if P.eqGuardType P.depth t then none else some (.s8 neg ls x y)
     |_,_=>none
   |_,_,_=>none
def Bm(ps:Array (Nat × Operand)):Option (List (Nat × b0)):=
 ps.toList.mapM fun p=>(en p.2).map fun x=>(p.1,x)
def Cd(xs:Array Operand):Option (List b0):=xs.toList.mapM en
def uG:Option Operand->Option (Option b0)
 |none=>some none
 |some x=>(en x).map some
def r6(t:TypeId):Option TypeId:=
 match P.underlying t with
 |some (.slice e)=>some e
 |_=>none
def ux(t:TypeId):Bool:=
 match P.underlying t with
 |some (.int .u8)=>P.cellsOf t==1
 |_=>false
def GV(e:TypeId)(b:Nat):Nat:=if b=1 then(if ux P e then 1 else 2)else b
def CJ(t:TypeId):Bool:=
 match P.types[t]? with
 |some i => i.str == "strings.Builder"
 |none=>false
def Qp(z:V):Option (List V):=
 match z with
 |.agg [.s (.pointer none),v]=>some [.bu,v]
 |_=>none
def t'(pure':Nat->Bool)(o:Oper):Option bY:=
 match o.op with
 |.move x=>(en x).map .move
 |.assign x=>(en x).map .move
 |.pick c a b=>do return .pick (<- en c) (<- en a) (<- en b)
 |.alloc t=>match nX P t with
   |some z=>if CJ P t then(Qp z).map .alloc else some (.alloc z.cells)
   |none=>none
 |.box _ x=>(en x).map .box
 |.build t parts=>do
   let z <- nX P t
   match P.underlying t with
   |some (.struct fs)=>
     let places <- fs.toList.mapM fun f=>(gq P f.type).map fun n=>(f.offset,n)
     return .build z.cells places (<- Bm parts)
   |_=>none
 |.buildSlice t len parts=>do
   let e <- r6 P t
   let sz <- gq P e
   let z <- nX P e
   if 0<sz/\len*sz<=2^24/\z.cells.length=sz then
    return .gh sz len (List.replicate len z.cells).flatten (<- Bm parts)
   else none
 |.insert t m k v|.mapUpdate t m k v=>match P.underlying t with
   |some (.map og _)=>do return .eJ (<- AL P og) (<- en m) (<- en k) (<- en v)
   |_=>none
 |.lookup t m k ok=>match P.underlying t with
   |some (.map og e)=>do return .ik (<- AL P og) (<- nX P e) (<- en m) (<- en k) ok
   |_=>none
 |.load t a=>do
   let (agg,n) <- wa P t
   return .load agg n (<- en a)
 |.store t a v=>do
   let (_,n) <- wa P t
   return .store n (<- en a) (<- en v)
 |.nilCheck x=>(en x).map .nilCheck
 |.binOp op t x y _=>PV P op t x y
 |.unOp op _ x=>do
   match op with
   |.not|.neg|.xor=>return .un op (<- en x)
   |.plus=>none
 |.convert src dst x=>match P.underlying src,P.underlying dst with
   |some (.int _),some (.int k)=>(en x).map (.conv k)
   |some .string,some .string=>(en x).map .zo
   |some (.slice e),some .string=>match P.underlying e with
     |some (.int .u8)=>(en x).map .Jg
     |_=>none
   |_,_=>none
 |.makeFunc (.func f) fst cap=>do return .ez f (<- Cd fst) (<- Cd cap)
 |.makeMap _ none=>some .vN
 |.makeSlice t len cap=>do
   let e <- r6 P t
   let i <- P.info? e
   let z <- nX P e
   if 0<i.size/\0<i.bytes/\z.cells.length=i.size then return .Lr z.cells i.size i.bytes (<- en len) (<- en cap)else none
 |.slice t x cN hi gJ=>match P.underlying t with
   |some .string=>match gJ with
     |none=>do return .sk (<- en x) (<- uG cN) (<- uG hi)
     |some _=>none
   |some (.slice e)=>do
     let sz <- gq P e
     if 0<sz then return .tP sz (<- en x) (<- uG cN) (<- uG hi) (<- uG gJ)else none
   |_=>none
 |.fieldAddr t x f=>match P.underlying t with
   |some (.struct fs)=>do
     let f <- fs[f]?
     let n <- gq P f.type
     if n≠0 then return .fieldAddr f.offset (<- en x)else none
   |_=>none
 |.field t x f=>match P.underlying t with
   |some (.struct fs)=>do
     let f <- fs[f]?
     let (agg,n) <- wa P f.type
     return .field agg f.offset n (<- en x)
   |_=>none
 |.indexAddr t x i=>do
   let e <- r6 P t
   let sz <- gq P e
   if 0<sz then return .indexAddr sz (<- en x) (<- en i)else none
 |.index t x i=>match P.underlying t with
   |some .string=>do return .pk (<- en x) (<- en i)
   |_=>none
 |.extract x i=>(en x).map fun x=>.extract x i
 |.call { callee:=.builtin b,args,argTypes }=>match b,args.toList,argTypes.toList with
   |.len,[x],[t]=>match P.underlying t with
     |some .string=>(en x).map (.da .p)
     |some (.slice _)=>(en x).map (.da .s)
     |some (.map _ _)=>(en x).map (.da .m)
     |_=>none
   |.append,[s,x],[t,kT]=>do
     let e <- r6 P t
     let i <- P.info? e
     let z <- nX P e
     match P.underlying kT with
     |some (.slice _)|some .string=>if 0<i.size/\0<i.bytes/\z.cells.length=i.size then return .append i.size (GV P e i.bytes) (<- en s) (<- en x)else none
     |_=>none
   |.delete,[m,k],[t,_]=>match P.underlying t with
     |some (.map og _)=>do return .delete (<- AL P og) (<- en m) (<- en k)
     |_=>none
   |.clear,[x],[t]=>do
     let e <- r6 P t
     let sz <- gq P e
     let z <- nX P e
     if 0<sz/\z.cells.length=sz then return .Jn sz z.cells (<- en x)else none
   |.copy,[d,s],[t,kT]=>do
     let e <- r6 P t
     let sz <- gq P e
     match P.underlying kT with
     |some (.slice _)=>if 0<sz then return .copy sz (<- en d) (<- en s)else none
     |_=>none
   |.min,[x,y],_=>do return .sW false (<- en x) (<- en y)
   |.max,[x,y],_=>do return .sW true (<- en x) (<- en y)
   |_,_,_=>none
 |.call { callee:=.value f,args,.. }=>do
   let xs <- Cd args
   match f with
   |.func k=>if pure' k then return .sq k xs else return .call (<- en f) xs
   |_=>return .call (<- en f) xs
 |_=>none
end
def bY.kP:bY->Bool
 |.call .. | .mK .. | .sq .. | .xI ..=>true
 |_=>false
section
variable (P:Program)
def qh(pure':Nat->Bool)(o:Oper):Option bY:=
 match o.op with
 |.call { callee:=.value f,args,.. }=>
   match Cd args,en f with
   |some xs,some y=>match f with
     |.func k=>if pure' k then some (.sq k xs)else some (.call y xs)
     |_=>some (.call y xs)
   |_,_=>none
 |_=>match t' P pure' o with
   |some iB=>if iB.kP then none else some iB
   |none=>none
inductive aJ2 where
 |t|r|a|w
 deriving DecidableEq,Inhabited
def bY.cls:bY->aJ2
 |.move _|.pick .. | .build .. | .nilCheck _|.bin .. | .u6 .. | .uq .. | .s8 .. | .un .. | .conv .. | .zo _|.ez ..
 |.sk .. | .tP .. | .fieldAddr .. | .field .. | .indexAddr .. | .pk .. | .extract .. | .sW .. | .xI .. | .stuck=>.t
 |.ik .. | .load .. | .da ..=>.r
 |.alloc _|.box _|.gh .. | .vN|.Lr .. | .mK .. | .y9 ..=>.a
 |.eJ .. | .store .. | .append .. | .delete .. | .call .. | .sq .. | .Jn .. | .Ip .. | .copy .. | .Jg _=>.w
def bY.hn(o:bY):Bool:=o.cls==.a||o.cls==.w
def bx.reads(o:bx):List Nat:=o.op.rF.flatMap b0.wL++(match o.guard with|some (t,_)=>[t]|none=>[])
def bx.names(o:bx):List Nat:=o.dst.toList++o.reads
def sA(a b:bx):Bool:=
 (match a.dst with|some d=>b.names.contains d|none=>false)||(match b.dst with|some d=>a.names.contains d|none=>false)
def tZ(a b:bx):Bool:=
 (a.op.hn&&b.op.hn)||(a.op.cls==.w&&b.op.cls==.r)||(b.op.cls==.w&&a.op.cls==.r)||sA a b
def sj(a b:bx):Bool:=
 !sA a b&&(match a.op,b.op with
 |.store ..,.load .. | .store ..,.da .. | .store ..,.ik .. | .load ..,.store .. | .da ..,.store .. | .ik ..,.store ..
 |.append ..,.load .. | .append ..,.da .. | .append ..,.ik .. | .load ..,.append .. | .da ..,.append .. | .ik ..,.append ..=>true
 |.call ..,.load .. | .call ..,.da .. | .call ..,.ik .. | .load ..,.call .. | .da ..,.call .. | .ik ..,.call ..=>true
 |_,_=>false)
def jm(ld:List Nat)(i j:Nat):Bool:=(ld.getD j 0).testBit i
def JI(ops:List bx)(i:Nat):Bool:=
 match(ops.getD i default).op.place with
 |some x=>x.wL.all fun s=>(List.range ops.length).all fun k=>decide (k<i)||(ops.getD k default).dst != some s
 |none=>(ops.getD i default).op.AH
def Dp(o:bx):Bool:=
 o.op.cls != .r||match o.op.place with
  |some (.t _)=>true
  |some (.c (.s _))=>true
  |_=>false
def wy(ld:List Nat)(ct:List (Nat × Nat))(ops:List bx):Bool:=
 (ct.all fun p=>JI ops p.1&&JI ops p.2)&&ops.all Dp&&(List.range ops.length).all fun j=>(List.range j).all fun i=>
  !tZ (ops.getD i default) (ops.getD j default)||jm ld i j||(sj (ops.getD i default) (ops.getD j default)&&ct.contains (i,j))
def bY.A8:bY->Bool
 |.alloc _|.box _|.gh .. | .vN|.Lr ..=>true
 |_=>false
def bY.im:bY->Bool
 |.store ..=>true
 |_=>false
def bY.sl:bY->Bool
 |.mK ..=>true
 |.y9 ..=>true
 |_=>false
def FM(o:bY):Bool:=(o.cls==.t&&!o.kP)||o.cls==.r||o.A8||o.im||o.sl
def Jq(ops:List bx):Nat->Nat->Bool
 |0,_=>false
 |n+1,i=>(((ops.getD i default).op.cls==.t&&!(ops.getD i default).op.kP)||(ops.getD i default).op.cls==.r) &&
    (ops.getD i default).reads.all fun s=>(List.range ops.length).all fun k=>(ops.getD k default).dst != some s||(decide (k<i)&&Jq ops n k)
def bY.Sa:bY->Bool
 |.alloc _|.box _=>true
 |_=>false
def ab5(ops:List bx)(i:Nat):Bool:=
 match(ops.getD i default).op with
 |.store _ (.t s) _=>(List.range ops.length).any (fun k=>decide (k<i)&&(ops.getD k default).dst==some s) &&
    (List.range ops.length).all fun k=>(ops.getD k default).dst != some s||((ops.getD k default).op.Sa&&(ops.getD k default).guard.isNone)
 |.store ..=>false
 |_=>true
def Bj(ops:List bx):Bool:=(List.range ops.length).all (ab5 ops)
def AF(ops:List bx)(i:Nat):Bool:=(ops.getD i default).op.cls==.r&&Bj ops&&Jq ops ops.length i
def Ad(ops:List bx)(i j:Nat):Bool:=
 sA (ops.getD i default) (ops.getD j default) ||
 ((ops.getD i default).op.im&&((ops.getD j default).op.im||((ops.getD j default).op.cls==.r&&!AF ops j)||(ops.getD j default).op.sl)) ||
 ((ops.getD j default).op.im&&((ops.getD i default).op.im||((ops.getD i default).op.cls==.r&&!AF ops i)||(ops.getD i default).op.sl))
def Hp(ld:List Nat)(ops:List bx):Bool:=
 ops.all Dp&&ops.all (fun o=>FM o.op)&&(List.range ops.length).all fun j=>(List.range j).all fun i=>
  !Ad ops i j||jm ld i j
def qv(ld:List Nat)(ct:List (Nat × Nat))(ops:List bx):Bool:=wy ld ct ops||(ct.isEmpty&&Hp ld ops)
def pr(ops:Array Oper):Bool:=
 (List.range ops.size).all fun j=>match ops[j]? with
  |some o=>o.after.all fun e=>!(Region.binds .any e)||decide (e.on<j)
  |none=>true
def aKO(ld:List Nat)(ops:List bx):List (Nat × Nat):=
 (List.range ops.length).flatMap fun j=>(List.range j).filterMap fun i=>
  if tZ (ops.getD i default) (ops.getD j default)&&!jm ld i j&&sj (ops.getD i default) (ops.getD j default)then some (i,j)else none
def aQ8(lt:List Nat):b0->Bool
 |.c (.fn k _ _)=>lt.contains k
 |_=>false
def Cg(lt:List Nat)(ld:List Nat)(ops:List bx):List bx:=
 (List.range ops.length).map fun i=>
  let o:=ops.getD i default
  match o.op with
  |.call f xs=>
    if(List.range ops.length).all fun j=>j==i||(ops.getD j default).op.cls==.t||(aQ8 lt f&&(ops.getD j default).op.cls==.r)||(if i<j then jm ld i j else jm ld j i)then o
    else { o with op:=.mK f xs }
  |.sq f xs=>
    if(List.range ops.length).all fun j=>j==i||(ops.getD j default).op.cls==.t||(if i<j then jm ld i j else jm ld j i)then o
    else { o with op:=.xI f xs }
  |_=>o
def Gc(l:List bx):List bx:=
 l.map fun o=>match o.op with
  |.append a b s x=>{ o with op:=.y9 a b s x }
  |_=>o
def aWF(ops:Array Oper)(done:List Nat):Option Nat:=
 (List.range ops.size).find? fun i=>!done.contains i&&match ops[i]? with
  |some o=>o.after.all fun e=>!(Region.binds .any e)||done.contains e.on
  |none=>false
def at5(ops:Array Oper):Nat->List Nat->List Nat
 |0,done=>done
 |n+1,done=>match aWF ops done with
   |some i=>at5 ops n (done++[i])
   |none=>done
def aqC(ops:Array Oper):List Nat:=at5 ops ops.size []
def sc(c2:List Nat)(i:Nat):Nat:=c2.findIdx (·==i)
def B7(c2:List Nat)(o:Oper):Oper:={ o with after:=o.after.map fun e=>{ e with on:=sc c2 e.on },guard:=o.guard.map fun p=>(sc c2 p.1,p.2) }
def lS(c2:List Nat)(ops:Array Oper):Array Oper:=(c2.map fun i=>B7 c2 (ops.getD i default)).toArray
def EZ(c2:List Nat)(ops:Array Oper):Bool:=
 c2.length==ops.size&&c2.all (fun i=>decide (i<ops.size))&&(List.range ops.size).all (fun i=>c2.contains i)&&decide (c2.Nodup) &&
 ops.toList.all fun o=>o.after.all (fun e=>decide (e.on<ops.size))&&match o.guard with
  |some p=>decide (p.1<ops.size)
  |none=>true
def IA(ops:Array Oper):Option (Nat × Bool)->Option (Option (Nat × Bool))
 |none=>some none
 |some (j,b)=>match ops[j]? with
   |some o=>match o.dst with
     |some d=>some (some (d,b))
     |none=>none
   |none=>none
def ajn(pure':Nat->Bool)(ops:Array Oper)(o:Oper):Option bx:=do
 return { dst:=o.dst,op:=(qh P pure' o).getD .stuck,guard:=<- IA ops o.guard }
def PD(lt:List Nat)(pure':Nat->Bool)(ops:Array Oper)(draw:Bool):Option (List bx × List (Nat × Nat)):=do
 let l <- ops.toList.mapM (ajn P pure' ops)
 if draw then
  let ld:=(Region.before ops).toList
  let l:=Cg lt ld l
  let ct:=aKO ld l
  if wy ld ct l&&pr ops then return (l,ct)else if Hp ld l&&pr ops then return (l,[])else if Hp ld (Gc l)&&pr ops then return (Gc l,[])else none
 else return (l,[])
def l1(lt:List Nat)(pure':Nat->Bool):Code->Option bZ
 |.skip=>some .skip
 |.region _ ops draw=>match PD P lt pure' ops draw with
   |some p=>some (.region p.1 p.2 [])
   |none=>if draw&&EZ (aqC ops) ops then(PD P lt pure' (lS (aqC ops) ops) true).map fun p=>.region p.1 p.2 []else none
 |.seq a b=>do return .seq (<- l1 lt pure' a) (<- l1 lt pure' b)
 |.cond c a b=>do return .cond (<- en c) (<- l1 lt pure' a) (<- l1 lt pure' b)
 |.block id c=>do return .block id (<- l1 lt pure' c)
 |.loop c=>do return .loop [] (<- l1 lt pure' c)
 |.rangeFunc f ps a b=>do return .rangeFunc (<- en f) ps.toList (<- l1 lt pure' a) (<- l1 lt pure' b)
 |.exit id=>some (.exit id)
 |.label _=>some .skip
 |.ret=>some .ret
 |.scope _|.goto _|.refuse _=>none
def CW:ResultVar->Option l2
 |.tmp t=>some (.tmp t)
 |.cell a t=>(wa P t).map fun(agg,n)=>.cell a agg n
def l2.slot:l2->Nat
 |.tmp t=>t
 |.cell t _ _=>t
end
def bZ.bare:bZ->bZ
 |.region ops ct _=>.region ops ct []
 |.bh ops _ _=>.region ops [] []
 |.loop _ c=>.loop [] c.bare
 |.seq a b=>.seq a.bare b.bare
 |.cond c a b=>.cond c a.bare b.bare
 |.block id c=>.block id c.bare
 |.rangeFunc f ps a b=>.rangeFunc f ps a.bare b.bare
 |c=>c
section
variable (P:Program) (pure':Nat->Bool)
def DK(o:Oper)(iB:bY):Prop:=
 qh P pure' o=some iB\/(∃f xs,qh P pure' o=some (.call f xs)/\iB=.mK f xs)\/(∃k xs,qh P pure' o=some (.sq k xs)/\iB=.xI k xs)\/(∃a b s x,qh P pure' o=some (.append a b s x)/\iB=.y9 a b s x)\/iB=.stuck
def pP(ops:Array Oper)(l:List bx):Prop:=
 l.length=ops.size/\∀(i:Nat) (o:Oper) (iB:bx),ops[i]?=some o->l[i]?=some iB->iB.dst=o.dst/\DK P pure' o iB.op/\IA ops o.guard=some iB.guard
inductive hD:Code->bZ->Prop
 |skip:hD .skip .skip
 |region (id:Nat) (ops:Array Oper) (draw:Bool) (l:List bx) (ct:List (Nat × Nat)) (kill:List Nat) (h:pP P pure' ops l) (aQ:draw=true->qv (Region.before ops).toList ct l=true/\pr ops=true):hD (.region id ops draw) (.region l ct kill)
 |bh (id:Nat) (ops:Array Oper) (draw:Bool) (l:List bx) (kill j7:List Nat) (h:pP P pure' ops l) (aQ:draw=true->qv (Region.before ops).toList [] l=true/\pr ops=true):hD (.region id ops draw) (.bh l kill j7)
 |O4 (id:Nat) (ops:Array Oper) (c2:List Nat) (l:List bx) (ct:List (Nat × Nat)) (kill:List Nat) (ay:EZ c2 ops=true) (h:pP P pure' (lS c2 ops) l) (aQ:qv (Region.before (lS c2 ops)).toList ct l=true/\pr (lS c2 ops)=true):hD (.region id ops true) (.region l ct kill)
 |OS (id:Nat) (ops:Array Oper) (c2:List Nat) (l:List bx) (kill j7:List Nat) (ay:EZ c2 ops=true) (h:pP P pure' (lS c2 ops) l) (aQ:qv (Region.before (lS c2 ops)).toList [] l=true/\pr (lS c2 ops)=true):hD (.region id ops true) (.bh l kill j7)
 |seq (a b:Code) (x y:bZ) (h:hD a x) (k:hD b y):hD (.seq a b) (.seq x y)
 |cond (c:Operand) (o:b0) (a b:Code) (x y:bZ) (ab:en c=some o) (h:hD a x) (k:hD b y):hD (.cond c a b) (.cond o x y)
 |block (id:Nat) (c:Code) (x:bZ) (h:hD c x):hD (.block id c) (.block id x)
 |loop (c:Code) (kill:List Nat) (x:bZ) (h:hD c x):hD (.loop c) (.loop kill x)
 |rangeFunc (f:Operand) (o:b0) (ps:Array Tmp) (a b:Code) (x y:bZ) (al:en f=some o) (h:hD a x) (k:hD b y):hD (.rangeFunc f ps a b) (.rangeFunc o ps.toList x y)
 |exit (id:Nat):hD (.exit id) (.exit id)
 |label (l:Nat):hD (.label l) .skip
 |ret:hD .ret .ret
end
open Go.RowKit
structure fA where
 b:Nat->Bool
 rI:Nat->Option (Array Value × TypeId × Nat × Nat)
instance:CoeFun fA fun _=>Nat->Bool:=⟨fA.b⟩
instance:Coe fA (Nat->Bool):=⟨fA.b⟩
instance:Coe (Nat->Bool) fA:=⟨fun b=>⟨b,fun _=>none⟩⟩
structure eX where
 r:Code->bZ->Prop
 rI:Nat->Option (Array Value × TypeId × Nat × Nat)
 RZ:TypeId->Bool:=fun _=>false
 Gx:TypeId->Bool:=fun _=>false
instance:CoeFun eX fun _=>Code->bZ->Prop:=⟨eX.r⟩
abbrev eU(P:Program)(pure':fA):eX:=⟨hD P pure'.b,pure'.rI,CJ P,ux P⟩
class oS (aK:eX) (P:Program):Prop where
 ok:∀t,CJ P t=true->aK.RZ t=true
 azn:∀t,ux P t=true->aK.Gx t=true
instance (P:Program) (pure':fA):oS (eU P pure') P:=⟨fun _ h=>h,fun _ h=>h⟩
abbrev cp:=Nat->Nat->Option (Nat × Nat)
inductive gW (ae:Nat->Prop) (w:World):V->Value->Prop
 |s (v:Value):gW ae w (.s v) v
 |agg (cs:List V) (vs:Array Value) (aq:cs.length=vs.size) (h:∀(i:Nat) (a:V) (b:Value),cs[i]?=some a->vs[i]?=some b->gW ae w a b):gW ae w (.agg cs) (.agg vs)
 |bQ (cs:List V) (vs:Array Value) (aq:cs.length=vs.size) (h:∀(i:Nat) (a:V) (b:Value),cs[i]?=some a->vs[i]?=some b->gW ae w a b):gW ae w (.bQ cs) (.tuple vs)
 |eu (cs:List V) (B o:Nat) (arr:Array Value) (e:TypeId) (fr:Nat × Nat) (aD:w.heap[B]?=some (.cells arr e fr)) (cS:¬ae B) (ai:o+cs.length<=arr.size)
    (h:∀(i:Nat) (a:V) (b:Value),cs[i]?=some a->arr[o+i]?=some b->gW ae w a b):gW ae w (.eu cs) (.pointer (some ⟨B,o,none⟩))
 |dc (es:List (List V)) (sz B o cap:Nat) (arr:Array Value) (e:TypeId) (fr:Nat × Nat) (aD:w.heap[B]?=some (.cells arr e fr)) (cS:¬ae B) (ab:es.length<=cap)
    (bK:∀(i:Nat) (el:List V),es[i]?=some el->el.length=sz) (ai:o+es.length*sz<=arr.size)
    (h:∀(i:Nat) (el:List V) (j:Nat) (a:V) (b:Value),es[i]?=some el->el[j]?=some a->arr[o+i*sz+j]?=some b->gW ae w a b):gW ae w (.dc es sz) (.slice (some ⟨B,o,none⟩) es.length cap)
 |iy (sz cap:Nat) (a:Addr):gW ae w (.dc [] sz) (.slice (some a) 0 cap)
 |c6 (a:Addr):gW ae w .c6 (.slice (some a) 0 0)
 |fn (f:Nat) (fst cap:List V) (fF e8:Array Value) (al:fst.length=fF.size) (ab:cap.length=e8.size) (J:∀(i:Nat) (a:V) (b:Value),fst[i]?=some a->fF[i]?=some b->gW ae w a b)
    (aa:∀(i:Nat) (a:V) (b:Value),cap[i]?=some a->e8[i]?=some b->gW ae w a b):gW ae w (.fn f fst cap) (.func (.func f) fF e8)
inductive bS (μ:cp) (ae:Nat->Prop) (w:World):V->Value->Prop
 |s (v:Value):bS μ ae w (.s v) v
 |bu (v:Value):bS μ ae w .bu v
 |agg (cs:List V) (vs:Array Value) (aq:cs.length=vs.size) (h:∀(i:Nat) (a:V) (b:Value),cs[i]?=some a->vs[i]?=some b->bS μ ae w a b):bS μ ae w (.agg cs) (.agg vs)
 |bQ (cs:List V) (vs:Array Value) (aq:cs.length=vs.size) (h:∀(i:Nat) (a:V) (b:Value),cs[i]?=some a->vs[i]?=some b->bS μ ae w a b):bS μ ae w (.bQ cs) (.tuple vs)
 |ref (id g off B b:Nat) (hm:μ id g=some (B,b)):bS μ ae w (.ref id g off) (.pointer (some ⟨B,b+off,none⟩))
 |eu (cs:List V) (B o:Nat) (arr:Array Value) (e:TypeId) (fr:Nat × Nat) (aD:w.heap[B]?=some (.cells arr e fr)) (cS:¬ae B) (ai:o+cs.length<=arr.size)
    (h:∀(i:Nat) (a:V) (b:Value),cs[i]?=some a->arr[o+i]?=some b->gW ae w a b):bS μ ae w (.eu cs) (.pointer (some ⟨B,o,none⟩))
 |aZ (id g off len sz B b cap:Nat) (arr:Array Value) (e:TypeId) {fr:Nat × Nat} (hm:μ id g=some (B,b)) (aD:w.heap[B]?=some (.cells arr e fr)) (ab:len<=cap) (ai:b+off+cap*sz<=arr.size):
    bS μ ae w (.aZ id g off len sz) (.slice (some ⟨B,b+off,none⟩) len cap)
 |jw (id g off sz B b:Nat) (a:Addr) (hm:μ id g=some (B,b)):bS μ ae w (.aZ id g off 0 sz) (.slice (some a) 0 0)
 |dc (es:List (List V)) (sz B o cap:Nat) (arr:Array Value) (e:TypeId) (fr:Nat × Nat) (aD:w.heap[B]?=some (.cells arr e fr)) (cS:¬ae B) (ab:es.length<=cap)
    (bK:∀(i:Nat) (el:List V),es[i]?=some el->el.length=sz) (ai:o+es.length*sz<=arr.size)
    (h:∀(i:Nat) (el:List V) (j:Nat) (a:V) (b:Value),es[i]?=some el->el[j]?=some a->arr[o+i*sz+j]?=some b->gW ae w a b):bS μ ae w (.dc es sz) (.slice (some ⟨B,o,none⟩) es.length cap)
 |iy (sz cap:Nat) (a:Addr):bS μ ae w (.dc [] sz) (.slice (some a) 0 cap)
 |c6 (a:Addr):bS μ ae w .c6 (.slice (some a) 0 0)
 |mp (id B:Nat) (hm:μ id 0=some (B,0)):bS μ ae w (.mp id) (.map (some B))
 |fn (f:Nat) (fst cap:List V) (fF e8:Array Value) (al:fst.length=fF.size) (ab:cap.length=e8.size) (J:∀(i:Nat) (a:V) (b:Value),fst[i]?=some a->fF[i]?=some b->bS μ ae w a b)
    (aa:∀(i:Nat) (a:V) (b:Value),cap[i]?=some a->e8[i]?=some b->bS μ ae w a b):bS μ ae w (.fn f fst cap) (.func (.func f) fF e8)
 |ff (id B:Nat) (hm:μ id 0=some (B,0)):bS μ ae w (.ff id) (.func (.yield B) #[] #[])
def b6(μ:cp)(ae:Nat->Prop)(w:World)(vs:List V)(cs:List Value):Prop:=
 vs.length=cs.length/\∀(i:Nat) (a:V) (b:Value),vs[i]?=some a->cs[i]?=some b->bS μ ae w a b
structure DR (μ:cp) (w w':World):Prop where
 size:w.heap.size<=w'.heap.size
 shape:∀(B:Nat) (arr:Array Value) (e:TypeId) (fr:Nat × Nat),w.heap[B]?=some (.cells arr e fr)->∃eK aW,w'.heap[B]?=some (.cells eK e aW)/\eK.size=arr.size
 loops:∀(B:Nat) (l:Loop),w.heap[B]?=some (.loop l)->∃s3,w'.heap[B]?=some (.loop s3)
 cD:∀B,B<w.heap.size->(∀id g b,μ id g≠some (B,b))->w'.heap[B]?=w.heap[B]?
 back:∀(B:Nat) (arr:Array Value) (e:TypeId),w'.heap[B]?=some (.cells arr e (0,0))->(∃nG,w.heap[B]?=some (.cells nG e (0,0)))\/w.heap.size<=B
 os:w'.os=w.os
 tape:w'.tape=w.tape
 output:w'.output=w.output
def hZ{w:World}{B:Nat}{o:Obj}(h:w.heap[B]?=some o):B<w.heap.size:=(tA.1 h).1
def DR.refl(μ:cp)(w:World):DR μ w w:=⟨cq _,fun _ arr _ fr h=>⟨arr,fr,h,rfl⟩,fun _ l h=>⟨l,h⟩,fun _ _ _=>rfl,fun _ arr _ h=>.inl ⟨arr,h⟩,rfl,rfl,rfl⟩
def gW.vr{μ:cp}{ae:Nat->Prop}{w:World}{v:V}{c:Value}(h:gW ae w v c):bS μ ae w v c:=by
 induction h with
 |s v=>exact .s v
 |agg cs vs aq _ aF=>exact .agg cs vs aq aF
 |bQ cs vs aq _ aF=>exact .bQ cs vs aq aF
 |eu cs B o arr e fr aD il ai h _=>exact .eu cs B o arr e fr aD il ai h
 |dc es sz B o cap arr e fr aD il ab bK ai h _=>exact .dc es sz B o cap arr e fr aD il ab bK ai h
 |iy sz cap a=>exact .iy sz cap a
 |c6 a=>exact .c6 a
 |fn f fst cap fF e8 al ab _ _ re ot=>exact .fn f fst cap fF e8 al ab re ot
def gW.mono{ae b9:Nat->Prop}{w w':World}(cS:∀B,B<w.heap.size->b9 B->ae B)(an:∀B,B<w.heap.size->¬ae B->w'.heap[B]?=w.heap[B]?){v:V}{c:Value}(h:gW ae w v c):gW b9 w' v c:=by
 induction h with
 |s v=>exact .s v
 |agg cs vs aq _ aF=>exact .agg cs vs aq aF
 |bQ cs vs aq _ aF=>exact .bQ cs vs aq aF
 |eu cs B o arr e fr aD il ai _ aF=>exact .eu cs B o arr e fr ((an B (hZ aD) il).trans aD) (fun h=>il (cS B (hZ aD) h)) ai aF
 |dc es sz B o cap arr e fr aD il ab bK ai _ aF=>exact .dc es sz B o cap arr e fr ((an B (hZ aD) il).trans aD) (fun h=>il (cS B (hZ aD) h)) ab bK ai aF
 |iy sz cap a=>exact .iy sz cap a
 |c6 a=>exact .c6 a
 |fn f fst cap fF e8 al ab _ _ re ot=>exact .fn f fst cap fF e8 al ab re ot
def bS.mono{μ cf:cp}{ae b9:Nat->Prop}{w w':World}(gD:∀id g p,μ id g=some p->cf id g=some p)(cS:∀B,B<w.heap.size->b9 B->ae B)(an:∀B,B<w.heap.size->¬ae B->w'.heap[B]?=w.heap[B]?)(gG:∀(B:Nat) (arr:Array Value) (e:TypeId) (fr:Nat × Nat),w.heap[B]?=some (.cells arr e fr)->∃eK aW,w'.heap[B]?=some (.cells eK e aW)/\eK.size=arr.size){v:V}{c:Value}(h:bS μ ae w v c):bS cf b9 w' v c:=by
 induction h with
 |s v=>exact .s v
 |bu v=>exact .bu v
 |agg cs vs aq _ aF=>exact .agg cs vs aq aF
 |bQ cs vs aq _ aF=>exact .bQ cs vs aq aF
 |ref id g off B b hm=>exact .ref id g off B b (gD _ _ _ hm)
 |eu cs B o arr e fr aD il ai h=>exact .eu cs B o arr e fr ((an B (hZ aD) il).trans aD) (fun h=>il (cS B (hZ aD) h)) ai (fun i a b aO ah=>(h i a b aO ah).mono cS an)
 |aZ id g off len sz B b cap arr e hm aD ab ai=>
   obtain⟨eK,aW,J,aa⟩:=gG B arr e _ aD
   exact .aZ id g off len sz B b cap eK e (gD _ _ _ hm) J ab (by omega)
 |jw id g off sz B b a hm=>exact .jw id g off sz B b a (gD _ _ _ hm)
 |dc es sz B o cap arr e fr aD il ab bK ai h=>exact .dc es sz B o cap arr e fr ((an B (hZ aD) il).trans aD) (fun h=>il (cS B (hZ aD) h)) ab bK ai (fun i el j a b he aO ah=>(h i el j a b he aO ah).mono cS an)
 |iy sz cap a=>exact .iy sz cap a
 |c6 a=>exact .c6 a
 |mp id B hm=>exact .mp id B (gD _ _ _ hm)
 |fn f fst cap fF e8 al ab _ _ re ot=>exact .fn f fst cap fF e8 al ab re ot
 |ff id B hm=>exact .ff id B (gD _ _ _ hm)
def aM.cur:aM->Nat->Prop
 |.cells g' _,g=>g'=g
 |.map _,g=>g=0
 |.loop ..,g=>g=0
 |.dead,_=>False
 |.bytes g' _,g=>g'=g
def aM.gen:aM->Option Nat
 |.cells g _=>some g
 |.bytes g _=>some g
 |_=>none
def aM.afP{br:aM}{g:Nat}(h:br.gen=some g):br.cur g:=by
 cases br<;>simp[aM.gen]at h<;>exact h
def Nw(st:LoopState)(tn:Option nE)(XZ:Option Code):Prop:=
 match st,tn with
 |.ready,none=>XZ=none
 |.busy,none=>True
 |.done,some .ret=>XZ=some .ret
 |.done,some (.ext id)=>XZ=some (.exit id)
 |_,_=>False
def aB1(aK:eX)(μ:cp)(ae:Nat->Prop)(w:World)(st:LoopState)(tn:Option nE)(tmps:List V)(params:List Nat)(assign body:bZ)(l:Loop):Prop:=
 l.state=st/\Nw st tn l.pending/\b6 μ ae w tmps l.tmps.toList/\l.params.toList=params/\aK l.assign assign/\aK l.body body
def s9(aK:eX)(g:Nat)(c:List V)(b:Nat)(arr:Array Value)(e:TypeId):Prop:=g=0->c.head?=some .bu->aK.RZ e=true/\b=0/\arr.size=2/\arr[0]?=some (.pointer none)
def s9.one{aK:eX}{g:Nat}{c:List V}{b:Nat}{arr:Array Value}{e:TypeId}(h:c.all V.one=true):s9 aK g c b arr e:=fun _ hu=>by
 cases c with
 |nil=>cases hu
 |cons x c=>
   cases hu;rw[pq,dR]at h
   exact absurd h.1 (by decide)
def s9.gen{aK:eX}{g:Nat}{c:List V}{b:Nat}{arr:Array Value}{e:TypeId}(h:g≠0):s9 aK g c b arr e:=fun bd=>absurd bd h
def kz(aK:eX)(μ:cp)(ae:Nat->Prop)(w:World):aM->Nat->Obj->Prop
 |.cells g c,b,.cells arr e fr=>fr=(0,0)/\b+c.length<=arr.size/\(∀(i:Nat) (a:V) (v:Value),c[i]?=some a->arr[b+i]?=some v->bS μ ae w a v)/\s9 aK g c b arr e
 |.map es,b,.map arr lj=>(b=0/\MapKept.Stamped arr lj)/\arr.size=es.length/\∀(i:Nat) (k:Value) (v:V) (e:MapEntry),es[i]?=some (k,v)->arr[i]?=some e->e.key=k/\bS μ ae w v e.val
 |.bytes _ l,b,.cells arr e fr=>fr=(0,0)/\aK.Gx e=true/\b+l.length<=arr.size/\∀(i:Nat) (x:UInt8),l[i]?=some x->arr[b+i]?=some (.int .u8 x.toNat)
 |.loop st tn tmps params assign body,b,.loop l=>b=0/\aB1 aK μ ae w st tn tmps params assign body l
 |_,_,_=>False
inductive fi (m:Nat):V->Prop
 |s (v:Value):fi m (.s v)
 |bu:fi m .bu
 |agg (cs:List V) (h:∀v∈cs,fi m v):fi m (.agg cs)
 |bQ (cs:List V) (h:∀v∈cs,fi m v):fi m (.bQ cs)
 |ref (id g off:Nat) (h:id<m):fi m (.ref id g off)
 |eu (cs:List V):fi m (.eu cs)
 |aZ (id g off len sz:Nat) (h:id<m):fi m (.aZ id g off len sz)
 |dc (es:List (List V)) (sz:Nat):fi m (.dc es sz)
 |c6:fi m .c6
 |mp (id:Nat) (h:id<m):fi m (.mp id)
 |fn (f:Nat) (a b:List V) (aO:∀v∈a,fi m v) (ah:∀v∈b,fi m v):fi m (.fn f a b)
 |ff (id:Nat) (h:id<m):fi m (.ff id)
def fi.mono{m yD:Nat}(hm:m<=yD){v:V}(h:fi m v):fi yD v:=by
 induction h with
 |s v=>exact .s v
 |bu=>exact .bu
 |agg cs _ aF=>exact .agg cs aF
 |bQ cs _ aF=>exact .bQ cs aF
 |ref id g off h=>exact .ref id g off (mm h hm)
 |eu cs=>exact .eu cs
 |aZ id g off len sz h=>exact .aZ id g off len sz (mm h hm)
 |dc es sz=>exact .dc es sz
 |c6=>exact .c6
 |mp id h=>exact .mp id (mm h hm)
 |fn f a b _ _ re ot=>exact .fn f a b re ot
 |ff id h=>exact .ff id (mm h hm)
def bS.q0{μ:cp}{ae:Nat->Prop}{w:World}{m:Nat}(aQ:∀id g p,μ id g=some p->id<m){v:V}{c:Value}(h:bS μ ae w v c):fi m v:=by
 have lists:∀{cs:List V} {vs:Array Value},cs.length=vs.size->(∀(i:Nat) (a:V) (b:Value),cs[i]?=some a->vs[i]?=some b->fi m a)->∀v∈cs,fi m v:=by
  intro cs vs aq h v av;obtain⟨i,hi,rfl⟩:=zU av
  exact h i cs[i] vs[i] (eP hi) (mO (by omega))
 induction h with
 |s v=>exact .s v
 |bu v=>exact .bu
 |agg cs vs aq _ aF=>exact .agg cs (lists aq aF)
 |bQ cs vs aq _ aF=>exact .bQ cs (lists aq aF)
 |ref id g off B b hm=>exact .ref id g off (aQ _ _ _ hm)
 |eu cs=>exact .eu cs
 |aZ id g off len sz B b cap arr e hm=>exact .aZ id g off len sz (aQ _ _ _ hm)
 |jw id g off sz B b a hm=>exact .aZ id g off 0 sz (aQ _ _ _ hm)
 |dc es sz=>exact .dc es sz
 |iy sz=>exact .dc [] sz
 |c6 a=>exact .c6
 |mp id B hm=>exact .mp id (aQ _ _ _ hm)
 |fn f fst cap fF e8 al ab _ _ re ot=>exact .fn f fst cap (lists al re) (lists ab ot)
 |ff id B hm=>exact .ff id (aQ _ _ _ hm)
def ob(m:Nat):aM->Prop
 |.cells _ c=>∀v∈c,fi m v
 |.map es=>∀e∈es,fi m e.2
 |.loop _ _ t _ _ _=>∀v∈t,fi m v
 |.dead=>True
 |.bytes ..=>True
def ob.mono{m yD:Nat}(hm:m<=yD){br:aM}(h:ob m br):ob yD br:=by
 cases br with
 |cells g c=>exact fun v av=>(h v av).mono hm
 |map es=>exact fun e he=>(h e he).mono hm
 |loop st LJ t ps a b=>exact fun v av=>(h v av).mono hm
 |dead=>trivial
 |bytes g l=>trivial
def kz.JG{aK:eX}{μ:cp}{ae:Nat->Prop}{w:World}{m:Nat}(aQ:∀id g p,μ id g=some p->id<m){br:aM}{b:Nat}{o:Obj}(h:kz aK μ ae w br b o):ob m br:=by
 cases br with
 |cells g c=>
   cases o<;>first|exact h.elim|skip
   intro v av;obtain⟨i,hi,rfl⟩:=zU av;obtain⟨_,J,aa,_⟩:=h
   exact(aa i c[i] _ (eP hi) (mO (by omega))).q0 aQ
 |map es=>
   cases o<;>first|exact h.elim|skip
   intro e he;obtain⟨i,hi,rfl⟩:=zU he;obtain⟨_,J,aa⟩:=h
   exact(aa i es[i].1 es[i].2 _ (eP hi) (mO (by omega))).2.q0 aQ
 |loop st LJ t ps a b'=>
   cases o<;>first|exact h.elim|skip
   intro v av;obtain⟨_,_,_,aI,_⟩:=h;obtain⟨i,hi,rfl⟩:=zU av;have aq:=aI.1
   exact(aI.2 i t[i] _ (eP hi) (eP (by omega))).q0 aQ
 |dead=>trivial
 |bytes g l=>trivial
def b6.q0{μ:cp}{ae:Nat->Prop}{w:World}{m:Nat}(aQ:∀id g p,μ id g=some p->id<m){vs:List V}{cs:List Value}(h:b6 μ ae w vs cs):∀v∈vs,fi m v:=by
 intro v av;obtain⟨i,hi,rfl⟩:=zU av;have aq:=h.1
 exact(h.2 i vs[i] cs[i] (eP hi) (eP (by omega))).q0 aQ
structure cE (aK:eX) (μ:cp) (ae:Nat->Prop) (w:World) (H:ad):Prop where
 hz:∀id g p,μ id g=some p->id<H.length
 gF:∀id g B b,μ id g=some (B,b)->ae B/\B<w.heap.size
 kY:∀(id:Nat) (br:aM) (g B b:Nat),H[id]?=some br->br.cur g->μ id g=some (B,b)->∃o,w.heap[B]?=some o/\kz aK μ ae w br b o
 inj:∀(id g gw g' B b b':Nat),μ id g=some (B,b)->μ gw g'=some (B,b')->id=gw
 mQ:∀(id g g':Nat) (br:aM) (p:Nat × Nat),μ id g=some p->H[id]?=some br->br.gen=some g'->g<=g'
 wf:∀(id g:Nat) (p:Nat × Nat) (br:aM),μ id g=some p->H[id]?=some br->ob H.length br
 fix:∀(B:Nat) (o:Array Value × TypeId × Nat × Nat),aK.rI B=some o->w.heap[B]?=some (.cells o.1 o.2.1 o.2.2)/\¬ae B
 zero:∀id B b,μ id 0=some (B,b)->b=0
structure c8 (aK:eX) (μ:cp) (ae:Nat->Prop) (w:World) (H:ad) (cf:cp) (b9:Nat->Prop) (w':World) (H':ad):Prop where
 len:H.length<=H'.length
 ak:cE aK cf b9 w' H'
 ext:∀id g p,μ id g=some p->cf id g=some p
 mt:∀B,B<w.heap.size->(b9 B↔ae B)
 c4:DR μ w w'
 hR:∀id g B b,cf id g=some (B,b)->B<w.heap.size->∃uw g0 e0,μ uw g0=some (B,e0)
 news:∀id g p,cf id g=some p->id<H.length->∃g0 k7,μ id g0=some k7
def cE.P7{aK:eX}{μ:cp}{ae:Nat->Prop}{w:World}{H:ad}(h:cE aK μ ae w H){id g:Nat}{br:aM}{p:Nat × Nat}(bm:H[id]?=some br)(ab:br.cur g)(hm:μ id g=some p):ob H.length br:=by
 obtain⟨o,_,ak⟩:=h.kY id br g p.1 p.2 bm ab hm;exact ak.JG h.hz
def cE.aFh{aK:eX}{μ:cp}{ae:Nat->Prop}{w:World}{H:ad}(h:cE aK μ ae w H){B:Nat}(aJ:¬ae B):∀id g b,μ id g≠some (B,b):=
 fun id g b e=>aJ (h.gF id g B b e).1
def cE.fixed{aK:eX}{μ:cp}{ae b9:Nat->Prop}{w w':World}{H:ad}(h:cE aK μ ae w H)(cS:∀B,B<w.heap.size->b9 B->ae B)(an:∀B,B<w.heap.size->¬ae B->w'.heap[B]?=w.heap[B]?):∀(B:Nat) (o:Array Value × TypeId × Nat × Nat),aK.rI B=some o->w'.heap[B]?=some (.cells o.1 o.2.1 o.2.2)/\¬b9 B:=by
 intro B o e;obtain⟨J,aa⟩:=h.fix B o e
 grind
def c8.vr{aK:eX}{μ:cp}{ae:Nat->Prop}{w:World}{H:ad}{cf:cp}{b9:Nat->Prop}{w':World}{H':ad}(bd:cE aK μ ae w H)(h:c8 aK μ ae w H cf b9 w' H'){v:V}{c:Value}(av:bS μ ae w v c):bS cf b9 w' v c:=
 av.mono h.ext (fun B aD hm=>(h.mt B aD).1 hm) (fun B aD hm=>h.c4.cD B aD (bd.aFh hm)) h.c4.shape
def c8.J3{aK:eX}{μ:cp}{ae:Nat->Prop}{w:World}{H:ad}{cf:cp}{b9:Nat->Prop}{w':World}{H':ad}(bd:cE aK μ ae w H)(h:c8 aK μ ae w H cf b9 w' H'){v:List V}{c:List Value}(av:b6 μ ae w v c):b6 cf b9 w' v c:=
 ⟨av.1,fun i a b aO ah=>h.vr bd (av.2 i a b aO ah)⟩
def c8.refl{aK:eX}{μ:cp}{ae:Nat->Prop}{w:World}{H:ad}(h:cE aK μ ae w H):c8 aK μ ae w H μ ae w H:=
 ⟨cq _,h,fun _ _ _ h=>h,fun _ _=>Lw,DR.refl μ w,fun id g _ b h _=>⟨id,g,b,h⟩,fun _ g p h _=>⟨g,p,h⟩⟩
def c8.trans{aK:eX}{μ:cp}{ae:Nat->Prop}{w:World}{H:ad}{ZG:cp}{afW:Nat->Prop}{ahL:World}{afe:ad}{Bs:cp}{Fb:Nat->Prop}{Gd:World}{GX:ad}(h:c8 aK μ ae w H ZG afW ahL afe)(k:c8 aK ZG afW ahL afe Bs Fb Gd GX):c8 aK μ ae w H Bs Fb Gd GX where
 len:=jn h.len k.len
 ak:=k.ak
 ext id g p e:=k.ext id g p (h.ext id g p e)
 mt B aD:=(k.mt B (mm aD h.c4.size)).trans (h.mt B aD)
 c4:={
  size:=jn h.c4.size k.c4.size
  shape:=fun B arr e fr aD=>by
   obtain⟨DY,cw,J,aa⟩:=h.c4.shape B arr e fr aD;obtain⟨az5,qu,aI,bl⟩:=k.c4.shape B DY e cw J
   simp_all
  loops:=fun B l aD=>by
   obtain⟨cW,J⟩:=h.c4.loops B l aD;exact k.c4.loops B cW J
  cD:=fun B aD aJ=>by
   refine(k.c4.cD B (mm aD h.c4.size) ?_).trans (h.c4.cD B aD aJ);intro id g b e;obtain⟨uw,g0,e0,cX⟩:=h.hR id g B b e aD
   grind
  back:=fun B arr e aD=>by
   rcases k.c4.back B arr e aD with⟨DY,J⟩|J
   .exact h.c4.back B DY e J
   .exact .inr (jn h.c4.size J)
  os:=k.c4.os.trans h.c4.os
  tape:=k.c4.tape.trans h.c4.tape
  output:=k.c4.output.trans h.c4.output }
 hR id g B b e aD:=by
  obtain⟨Oy,g1,fe,aE⟩:=k.hR id g B b e (mm aD h.c4.size);exact h.hR Oy g1 B fe aE aD
 news id g p e hid:=by
  obtain⟨g1,cn,aE⟩:=k.news id g p e (mm hid h.len);exact h.news id g1 cn aE hid
section
variable {aK:eX} {μ cf:cp} {ae b9:Nat->Prop} {w w':World} {H:ad}
def b6.mono(gD:∀id g p,μ id g=some p->cf id g=some p)(cS:∀B,B<w.heap.size->b9 B->ae B)(an:∀B,B<w.heap.size->¬ae B->w'.heap[B]?=w.heap[B]?)(gG:∀(B:Nat) (arr:Array Value) (e:TypeId) (fr:Nat × Nat),w.heap[B]?=some (.cells arr e fr)->∃eK aW,w'.heap[B]?=some (.cells eK e aW)/\eK.size=arr.size){v:List V}{c:List Value}(h:b6 μ ae w v c):b6 cf b9 w' v c:=
 ⟨h.1,fun i a b aO ah=>(h.2 i a b aO ah).mono gD cS an gG⟩
def kz.mono(gD:∀id g p,μ id g=some p->cf id g=some p)(cS:∀B,B<w.heap.size->b9 B->ae B)(an:∀B,B<w.heap.size->¬ae B->w'.heap[B]?=w.heap[B]?)(gG:∀(B:Nat) (arr:Array Value) (e:TypeId) (fr:Nat × Nat),w.heap[B]?=some (.cells arr e fr)->∃eK aW,w'.heap[B]?=some (.cells eK e aW)/\eK.size=arr.size){br:aM}{b:Nat}{o:Obj}(h:kz aK μ ae w br b o):kz aK cf b9 w' br b o:=by
 cases br with
 |cells g c=>cases o<;>first|exact h.elim|exact⟨h.1,h.2.1,fun i a v aO av=>(h.2.2.1 i a v aO av).mono gD cS an gG,h.2.2.2⟩
 |map es=>cases o<;>first|exact h.elim|exact⟨h.1,h.2.1,fun i k v e he av=>⟨(h.2.2 i k v e he av).1,(h.2.2 i k v e he av).2.mono gD cS an gG⟩⟩
 |loop st tn tmps params assign body=>
   cases o<;>first|exact h.elim|skip
   obtain⟨bd,J,aa,aI,bl,cO,fQ⟩:=h;exact⟨bd,J,aa,aI.mono gD cS an gG,bl,cO,fQ⟩
 |dead=>cases o<;>exact h.elim
 |bytes g l=>cases o<;>first|exact h.elim|exact h
def lg{o:Obj}(hh:w'.heap=w.heap.push o){B:Nat}(aD:B<w.heap.size):w'.heap[B]?=w.heap[B]?:=by
 grind
def yW{o:Obj}(hh:w'.heap=w.heap.push o):w'.heap[w.heap.size]?=some o:=by
 simp_all
def my(μ:cp)(id g:Nat)(p:Nat × Nat):cp:=fun i j=>if i=id/\j=g then some p else μ i j
def n2(μ:cp)(id g:Nat)(p:Nat × Nat):my μ id g p id g=some p:=by simp[my]
def x1{μ:cp}{id g i j:Nat}{p:Nat × Nat}(h:¬(i=id/\j=g)):my μ id g p i j=μ i j:=by simp only[my,bV h]
def Fc{μ:cp}{id g:Nat}{p:Nat × Nat}(aJ:μ id g=none):∀i j q,μ i j=some q->my μ id g p i j=some q:=by
 intro i j q h;by_cases e:i=id/\j=g
 .simp_all
 .rw[x1 e];exact h
def cE.aLx(h:cE aK μ ae w H)(g:Nat):μ H.length g=none:=by
 cases e:μ H.length g with
 |none=>rfl
 |some p=>exact absurd (h.hz _ _ _ e) (Ua _)
def cE.LK(h:cE aK μ ae w H){id g:Nat}{p:Nat × Nat}(ay:g=0->p.2=0):∀i B b,my μ id g p i 0=some (B,b)->b=0:=by
 intro i B b e;by_cases c:i=id/\0=g
 .obtain⟨rfl,rfl⟩:=c;rw[n2]at e
  simp_all
 .rw[x1 c]at e;exact h.zero _ _ _ e
def HY(h:cE aK μ ae w H)(o:Obj)(br:aM)(fg:kz aK μ ae w br 0 o)(hh:w'.heap=w.heap.push o)(s0:w'.os=w.os)(tH:w'.tape=w.tape)(tv:w'.output=w.output):
 c8 aK μ ae w H (my μ H.length 0 (w.heap.size,0)) (fun B=>ae B\/B=w.heap.size) w' (H++[br]):=by
 have gD:=Fc (p:=(w.heap.size,0)) (h.aLx 0)
 have cS:∀B,B<w.heap.size->(ae B\/B=w.heap.size)->ae B:=fun B aD hm=>hm.resolve_right (by omega)
 have an:∀B,B<w.heap.size->¬ae B->w'.heap[B]?=w.heap[B]?:=fun B aD _=>lg hh aD;have gG:∀(B:Nat) (arr:Array Value) (e:TypeId) (fr:Nat × Nat),w.heap[B]?=some (.cells arr e fr)->∃eK aW,w'.heap[B]?=some (.cells eK e aW)/\eK.size=arr.size:=
  fun B arr e fr aD=>⟨arr,fr,(lg hh (hZ aD)).trans aD,rfl⟩
 have tV:∀(B:Nat) (arr:Array Value) (e:TypeId) (fr:Nat × Nat),w'.heap[B]?=some (.cells arr e fr)->(∃nG,w.heap[B]?=some (.cells nG e fr))\/(w.heap.size<=B/\fr=(0,0)):=by
  intro B arr e fr aD;by_cases b8:B<w.heap.size
  .grind
  .have oJ:=aD;rw[hh,ND]at oJ;split at oJ
   .rename_i aCF
    refine .inr ⟨by omega,?_⟩
    cases oJ
    cases br<;>first|exact fg.elim|exact fg.1
   simp_all
 have dk:w'.heap.size=w.heap.size+1:=by rw[hh,Ke]
 have iW:∀id g p,my μ H.length 0 (w.heap.size,0) id g=some p->(id=H.length/\g=0/\p=(w.heap.size,0))\/(id<H.length/\μ id g=some p):=by
  intro id g p e;by_cases c:id=H.length/\g=0
  .obtain⟨rfl,rfl⟩:=c;rw[n2]at e
   simp_all
  .rw[x1 c]at e;exact .inr ⟨h.hz _ _ _ e,e⟩
 refine⟨by simp,⟨?_,?_,?_,?_,?_,?_,h.fixed cS an,h.LK (fun _=>rfl)⟩,gD,fun B aD=>⟨cS B aD,.inl⟩,⟨by omega,gG,fun B l aD=>⟨l,(lg hh (hZ aD)).trans aD⟩,fun B aD _=>lg hh aD,(fun B arr e h=>(tV B arr e (0,0) h).imp (fun x=>x) And.left),s0,tH,tv⟩,?_,?_⟩
 .grind
 .intro id g B b e
  rcases iW id g _ e with⟨_,_,ay⟩|⟨_,bN⟩
  .simp_all
  .exact⟨.inl (h.gF _ _ _ _ bN).1,by have:=(h.gF _ _ _ _ bN).2;omega⟩
 .intro id ja g B b bm ab e
  rcases iW id g _ e with⟨rfl,rfl,ay⟩|⟨aq,bN⟩
  .cases ay;rw[jA (cq _)]at bm;simp at bm;subst bm;exact⟨o,yW hh,fg.mono gD cS an gG⟩
  .rw[bi aq]at bm;obtain⟨o',py,ak⟩:=h.kY id ja g B b bm ab bN;exact⟨o',(lg hh (hZ py)).trans py,ak.mono gD cS an gG⟩
 .intro id g gw g' B b b' aE aU
  rcases iW id g _ aE with⟨bP,_,cn⟩|⟨cW,oI⟩<;>rcases iW gw g' _ aU with⟨ca,_,dP⟩|⟨fZ,nB⟩
  .rw[bP,ca]
  .cases cn;have:=(h.gF _ _ _ _ nB).2;omega
  .cases dP;have:=(h.gF _ _ _ _ oI).2;omega
  .exact h.inj _ _ _ _ _ _ _ oI nB
 .intro id g g' c p e bm
  rcases iW id g _ e with⟨rfl,rfl,_⟩|⟨aq,bN⟩
  .omega
  .rw[bi aq]at bm;exact h.mQ _ _ _ _ _ bN bm
 .intro id g p ja e bm
  rcases iW id g _ e with⟨rfl,_,_⟩|⟨aq,bN⟩
  .rw[jA (cq _)]at bm;simp at bm;subst bm
   exact(fg.JG h.hz).mono (by simp)
  .rw[bi aq]at bm
   exact(h.wf id g _ ja bN bm).mono (by simp)
 .grind
 grind
def heap_set{o':Obj}{B:Nat}(hh:w'.heap=w.heap.setIfInBounds B o'){K:Nat}(eS:K≠B):w'.heap[K]?=w.heap[K]?:=by
 grind
def W4{o':Obj}{B:Nat}(hh:w'.heap=w.heap.setIfInBounds B o')(aD:B<w.heap.size):w'.heap[B]?=some o':=by
 simp_all
def SP(h:cE aK μ ae w H){id g B b:Nat}{br ja:aM}{o o':Obj}(g' b':Nat)(hid:H[id]?=some br)(Ed:br.cur g)(hm:μ id g=some (B,b))(aX:w.heap[B]?=some o)(vi:∀arr e fr,o=.cells arr e fr->∃eK aW,o'=.cells eK e aW/\eK.size=arr.size)(Wz:∀l,o=.loop l->∃s3,o'=.loop s3)(AM:g'=g/\b'=b\/(μ id g'=none/\g'≠0))(kN:∀j,ja.cur j->j=g')(uj:∀j,ja.gen=some j->∀k q,μ id k=some q->k<=j)(hh:w'.heap=w.heap.setIfInBounds B o')(s0:w'.os=w.os)(tH:w'.tape=w.tape)(tv:w'.output=w.output)(Ng:ob H.length ja)(fg:ja.cur g'->∀cf b9,(∀i j q,μ i j=some q->cf i j=some q)->(∀K,K<w.heap.size->(b9 K↔ae K))->kz aK cf b9 w' ja b' o')(Tx:∀arr e,o'=.cells arr e (0,0)->∃nG,o=.cells nG e (0,0)):
 c8 aK μ ae w H (my μ id g' (B,b')) ae w' (H.set id ja):=by
 have b8:B<w.heap.size:=hZ aX
 have Xl:g'=0->(B,b').2=0:=by
  intro e
  rcases AM with⟨bP,ca⟩|⟨_,aJ⟩
  .subst ca;rw[e]at bP;rw[<- bP]at hm;exact h.zero _ _ _ hm
  .omega
 have gD:∀i j q,μ i j=some q->my μ id g' (B,b') i j=some q:=by
  rcases AM with⟨rfl,rfl⟩|aJ
  .intro i j q e;by_cases c:i=id/\j=g'
   .obtain⟨rfl,rfl⟩:=c;rw[hm]at e;rw[n2];exact e
   .rw[x1 c];exact e
  .exact Fc aJ.1
 have an:∀K,K<w.heap.size->¬ae K->w'.heap[K]?=w.heap[K]?:=fun K _ aJ=>heap_set hh (fun e=>aJ (e▸(h.gF _ _ _ _ hm).1))
 have gG:∀(K:Nat) (arr:Array Value) (e:TypeId) (fr:Nat × Nat),w.heap[K]?=some (.cells arr e fr)->∃eK aW,w'.heap[K]?=some (.cells eK e aW)/\eK.size=arr.size:=by
  intro K arr e fr bk;by_cases c:K=B
  .subst c;rw[aX]at bk;obtain⟨eK,aW,aE,aU⟩:=vi arr e fr (kI bk)
   exact⟨eK,aW,by rw[W4 hh b8,aE],aU⟩
  .exact⟨arr,fr,(heap_set hh c).trans bk,rfl⟩
 have LQ:∀(K:Nat) (l:Loop),w.heap[K]?=some (.loop l)->∃s3,w'.heap[K]?=some (.loop s3):=by
  intro K l bk;by_cases c:K=B
  .subst c;rw[aX]at bk;obtain⟨s3,aE⟩:=Wz l (kI bk)
   exact⟨s3,by rw[W4 hh b8,aE]⟩
  .exact⟨l,(heap_set hh c).trans bk⟩
 have dk:w'.heap.size=w.heap.size:=by rw[hh,Array.size_setIfInBounds]
 have tV:∀(K:Nat) (arr:Array Value) (e:TypeId),w'.heap[K]?=some (.cells arr e (0,0))->(∃nG,w.heap[K]?=some (.cells nG e (0,0)))\/w.heap.size<=K:=by
  intro K arr e bk;by_cases c:K=B
  .subst c;rw[W4 hh b8]at bk;obtain⟨nG,bd⟩:=Tx arr e (kI bk)
   exact .inl ⟨nG,by rw[aX,bd]⟩
  .exact .inl ⟨arr,(heap_set hh c).symm.trans bk⟩
 have rW:id<H.length:=(dQ.1 hid).1
 have iW:∀i j p,my μ id g' (B,b') i j=some p->(i=id/\j=g'/\p=(B,b'))\/(¬(i=id/\j=g')/\μ i j=some p):=by
  intro i j p e;by_cases c:i=id/\j=g'
  .obtain⟨rfl,rfl⟩:=c;rw[n2]at e
   grind
  .rw[x1 c]at e
   grind
 refine⟨by simp,⟨?_,?_,?_,?_,?_,?_,h.fixed (fun _ _ h=>h) (fun K bk aJ=>heap_set hh (fun e=>aJ (e▸(h.gF _ _ _ _ hm).1))),h.LK Xl⟩,gD,fun _ _=>Lw,⟨by omega,gG,LQ,fun K _ aJ=>heap_set hh (fun e=>aJ id g b (e▸hm)),tV,s0,tH,tv⟩,?_,?_⟩
 .intro i j p e;rw[fP]
  rcases iW i j p e with⟨rfl,_,_⟩|⟨_,bN⟩
  .exact rW
  .exact h.hz _ _ _ bN
 .intro i j K k e
  rcases iW i j _ e with⟨_,_,ay⟩|⟨_,bN⟩
  .cases ay;exact⟨(h.gF _ _ _ _ hm).1,by omega⟩
  .exact⟨(h.gF _ _ _ _ bN).1,by have:=(h.gF _ _ _ _ bN).2;omega⟩
 .intro i Cy j K k bm ab e;by_cases c:i=id
  .grind
  .rw[cG (iV c)]at bm
   rcases iW i j _ e with⟨r,_,_⟩|⟨_,bN⟩
   .omega
   .have eS:K≠B:=fun eq=>by
     subst eq;exact c (h.inj _ _ _ _ _ _ _ bN hm)
    obtain⟨gz,mv,ak⟩:=h.kY i Cy j K k bm ab bN;exact⟨gz,(heap_set hh eS).trans mv,ak.mono gD (fun _ _ hm=>hm) an gG⟩
 .intro i j xb yN K k ia aE aU
  rcases iW i j _ aE with⟨bP,_,cn⟩|⟨_,oI⟩<;>rcases iW xb yN _ aU with⟨ca,_,dP⟩|⟨_,nB⟩
  .rw[bP,ca]
  .cases cn;rw[bP];exact h.inj _ _ _ _ _ _ _ hm nB
  .cases dP;rw[ca];exact h.inj _ _ _ _ _ _ _ oI hm
  .exact h.inj _ _ _ _ _ _ _ oI nB
 .intro i j yN c p e bm;by_cases ci:i=id
  .subst ci;rw[w8 rW]at bm;cases bm
   rcases iW i j _ e with⟨_,rfl,_⟩|⟨_,bN⟩
   .intro a8;have:=kN yN (aM.afP a8);omega
   grind
  .rw[cG (iV ci)]at bm
   rcases iW i j _ e with⟨r,_,_⟩|⟨_,bN⟩
   .omega
   .exact h.mQ _ _ _ _ _ bN bm
 .intro i j p Cy e bm;rw[fP];by_cases ci:i=id
  .grind
  .rw[cG (iV ci)]at bm
   rcases iW i j _ e with⟨r,_,_⟩|⟨_,bN⟩
   .omega
   .exact h.wf i j _ Cy bN bm
 .grind
 grind
def GD(h:cE aK μ ae w H){id g B b:Nat}{br ja:aM}{o o':Obj}(g' b':Nat)(hid:H[id]?=some br)(Ed:br.cur g)(hm:μ id g=some (B,b))(aX:w.heap[B]?=some o)(vi:∀arr e fr,o=.cells arr e fr->∃eK,o'=.cells eK e fr/\eK.size=arr.size)(Wz:∀l,o=.loop l->∃s3,o'=.loop s3)(AM:g'=g/\b'=b\/(μ id g'=none/\g'≠0))(kN:∀j,ja.cur j->j=g')(uj:∀j c,ja=.cells j c->∀k q,μ id k=some q->k<=j)(hh:w'.heap=w.heap.setIfInBounds B o')(s0:w'.os=w.os)(tH:w'.tape=w.tape)(tv:w'.output=w.output)(Ng:ob H.length ja)(fg:ja.cur g'->∀cf b9,(∀i j q,μ i j=some q->cf i j=some q)->(∀K,K<w.heap.size->(b9 K↔ae K))->kz aK cf b9 w' ja b' o')(Tx:∀arr e fr,o'=.cells arr e fr->∃nG,o=.cells nG e fr:=by intro _ _ _ e;cases e<;>exact⟨_,rfl⟩)(oL:∀g l,ja≠.bytes g l:=by intro _ _ e;cases e):
 c8 aK μ ae w H (my μ id g' (B,b')) ae w' (H.set id ja):=
 SP h g' b' hid Ed hm aX (fun arr e fr he=>(vi arr e fr he).imp fun _ x=>⟨fr,x⟩) Wz AM kN (fun j bz=>match ja,bz,uj,oL with|.cells g c,bz,uj,_=>by cases bz;grind|.bytes g l,_,_,oL=>(oL g l rfl).elim) hh s0 tH tv Ng fg (fun arr e he=>Tx arr e (0,0) he)
def aHz(h:cE aK μ ae w H){id g B b:Nat}{br:aM}{arr:Array Value}{e:TypeId}{fr:Nat × Nat}(hid:H[id]?=some br)(Ed:br.cur g)(hm:μ id g=some (B,b))(aX:w.heap[B]?=some (.cells arr e (0,0)))(sb:fr≠(0,0))(hh:w'.heap=w.heap.setIfInBounds B (.cells arr e fr))(s0:w'.os=w.os)(tH:w'.tape=w.tape)(tv:w'.output=w.output):
 c8 aK μ ae w H (my μ id g (B,b)) ae w' (H.set id .dead):=
 SP h g b hid Ed hm aX (fun a bN f he=>by simp_all) (fun _ he=>by cases he) (.inl ⟨rfl,rfl⟩) (fun _ ab=>ab.elim) (fun _ he=>by cases he) hh s0 tH tv trivial (fun ab=>ab.elim)
  (fun _ _ he=>by simp_all)
def apz(h:cE aK μ ae w H){id:Nat}{br ja:aM}(o':Obj)(g':Nat)(hid:H[id]?=some br){g0:Nat}{k7:Nat × Nat}(aXu:μ id g0=some k7)(AM:μ id g'=none)(kN:∀j,ja.cur j->j=g')(uj:∀j,ja.gen=some j->∀k q,μ id k=some q->k<=j)(fg:kz aK μ ae w ja 0 o')(hh:w'.heap=w.heap.push o')(s0:w'.os=w.os)(tH:w'.tape=w.tape)(tv:w'.output=w.output):
 c8 aK μ ae w H (my μ id g' (w.heap.size,0)) (fun B=>ae B\/B=w.heap.size) w' (H.set id ja):=by
 have gD:=Fc (p:=(w.heap.size,0)) AM
 have cS:∀B,B<w.heap.size->(ae B\/B=w.heap.size)->ae B:=fun B aD hm=>hm.resolve_right (by omega)
 have an:∀B,B<w.heap.size->¬ae B->w'.heap[B]?=w.heap[B]?:=fun B aD _=>lg hh aD;have gG:∀(B:Nat) (arr:Array Value) (e:TypeId) (fr:Nat × Nat),w.heap[B]?=some (.cells arr e fr)->∃eK aW,w'.heap[B]?=some (.cells eK e aW)/\eK.size=arr.size:=
  fun B arr e fr aD=>⟨arr,fr,(lg hh (hZ aD)).trans aD,rfl⟩
 have tV:∀(B:Nat) (arr:Array Value) (e:TypeId) (fr:Nat × Nat),w'.heap[B]?=some (.cells arr e fr)->(∃nG,w.heap[B]?=some (.cells nG e fr))\/(w.heap.size<=B/\fr=(0,0)):=by
  intro B arr e fr aD;by_cases b8:B<w.heap.size
  .grind
  .have oJ:=aD;rw[hh,ND]at oJ;split at oJ
   .rename_i aCF
    refine .inr ⟨by omega,?_⟩
    cases oJ
    cases ja<;>first|exact fg.elim|exact fg.1
   simp_all
 have dk:w'.heap.size=w.heap.size+1:=by rw[hh,Ke]
 have rW:id<H.length:=(dQ.1 hid).1
 have iW:∀i j p,my μ id g' (w.heap.size,0) i j=some p->(i=id/\j=g'/\p=(w.heap.size,0))\/(¬(i=id/\j=g')/\μ i j=some p):=by
  intro i j p e;by_cases c:i=id/\j=g'
  .obtain⟨rfl,rfl⟩:=c;rw[n2]at e
   grind
  .rw[x1 c]at e
   grind
 refine⟨by simp,⟨?_,?_,?_,?_,?_,?_,h.fixed cS an,h.LK (fun _=>rfl)⟩,gD,fun B aD=>⟨cS B aD,.inl⟩,⟨by omega,gG,fun B l aD=>⟨l,(lg hh (hZ aD)).trans aD⟩,fun B aD _=>lg hh aD,(fun B arr e h=>(tV B arr e (0,0) h).imp (fun x=>x) And.left),s0,tH,tv⟩,?_,?_⟩
 .intro i j p e;rw[fP]
  rcases iW i j p e with⟨rfl,_,_⟩|⟨_,bN⟩
  .exact rW
  .exact h.hz _ _ _ bN
 .intro i j K k e
  rcases iW i j _ e with⟨_,_,ay⟩|⟨_,bN⟩
  .grind
  .exact⟨.inl (h.gF _ _ _ _ bN).1,by have:=(h.gF _ _ _ _ bN).2;omega⟩
 .intro i Cy j K k bm ab e;by_cases c:i=id
  .subst c;rw[w8 rW]at bm;cases bm;have:=kN j ab;subst this;rw[n2]at e;cases e;exact⟨o',yW hh,fg.mono gD cS an gG⟩
  .rw[cG (iV c)]at bm
   rcases iW i j _ e with⟨r,_,_⟩|⟨_,bN⟩
   .omega
   .obtain⟨gz,mv,ak⟩:=h.kY i Cy j K k bm ab bN;exact⟨gz,(lg hh (hZ mv)).trans mv,ak.mono gD cS an gG⟩
 .intro i j xb yN K k ia aE aU
  rcases iW i j _ aE with⟨bP,_,cn⟩|⟨_,oI⟩<;>rcases iW xb yN _ aU with⟨ca,_,dP⟩|⟨_,nB⟩
  .rw[bP,ca]
  .cases cn;have:=(h.gF _ _ _ _ nB).2;omega
  .cases dP;have:=(h.gF _ _ _ _ oI).2;omega
  .exact h.inj _ _ _ _ _ _ _ oI nB
 .intro i j yN c p e bm;by_cases ci:i=id
  .subst ci;rw[w8 rW]at bm;cases bm
   rcases iW i j _ e with⟨_,rfl,_⟩|⟨_,bN⟩
   .intro a8;have:=kN yN (aM.afP a8);omega
   grind
  .rw[cG (iV ci)]at bm
   rcases iW i j _ e with⟨r,_,_⟩|⟨_,bN⟩
   .omega
   .exact h.mQ _ _ _ _ _ bN bm
 .intro i j p Cy e bm;rw[fP];by_cases ci:i=id
  .subst ci;rw[w8 rW]at bm;cases bm;exact fg.JG h.hz
  .rw[cG (iV ci)]at bm
   rcases iW i j _ e with⟨r,_,_⟩|⟨_,bN⟩
   .omega
   .exact h.wf i j _ Cy bN bm
 .grind
 grind
def apS(h:cE aK μ ae w H)(o:Obj)(hh:w'.heap=w.heap.push o)(s0:w'.os=w.os)(tH:w'.tape=w.tape)(tv:w'.output=w.output):c8 aK μ ae w H μ ae w' H:=by
 have an:∀B,B<w.heap.size->¬ae B->w'.heap[B]?=w.heap[B]?:=fun B aD _=>lg hh aD;have gG:∀(B:Nat) (arr:Array Value) (e:TypeId) (fr:Nat × Nat),w.heap[B]?=some (.cells arr e fr)->∃eK aW,w'.heap[B]?=some (.cells eK e aW)/\eK.size=arr.size:=
  fun B arr e fr aD=>⟨arr,fr,(lg hh (hZ aD)).trans aD,rfl⟩
 have tV:∀(B:Nat) (arr:Array Value) (e:TypeId) (fr:Nat × Nat),w'.heap[B]?=some (.cells arr e fr)->(∃nG,w.heap[B]?=some (.cells nG e fr))\/w.heap.size<=B:=by
  intro B arr e fr aD;by_cases b8:B<w.heap.size
  .exact .inl ⟨arr,(lg hh b8).symm.trans aD⟩
  .exact .inr (by omega)
 have dk:w'.heap.size=w.heap.size+1:=by rw[hh,Ke]
 refine⟨cq _,⟨h.hz,fun id g B b e=>⟨(h.gF id g B b e).1,by have:=(h.gF id g B b e).2;omega⟩,fun id br g B b bm ab e=>?_,h.inj,h.mQ,h.wf,h.fixed (fun _ _ h=>h) an,h.zero⟩,fun _ _ _ h=>h,fun _ _=>Lw,
  ⟨by omega,gG,fun B l aD=>⟨l,(lg hh (hZ aD)).trans aD⟩,fun B aD _=>lg hh aD,fun B arr e h=>tV B arr e (0,0) h,s0,tH,tv⟩,fun id g _ b e _=>⟨id,g,b,e⟩,fun _ g p e _=>⟨g,p,e⟩⟩
 obtain⟨gz,mv,ak⟩:=h.kY id br g B b bm ab e;exact⟨gz,(lg hh (hZ mv)).trans mv,ak.mono (fun _ _ _ h=>h) (fun _ _ h=>h) an gG⟩
def L7(h:cE aK μ ae w H)(hh:w'.heap=w.heap)(s0:w'.os=w.os)(tH:w'.tape=w.tape)(tv:w'.output=w.output):c8 aK μ ae w H μ ae w' H:=by
 have an:∀B,B<w.heap.size->¬ae B->w'.heap[B]?=w.heap[B]?:=fun B aD _=>by rw[hh]
 have gG:∀(B:Nat) (arr:Array Value) (e:TypeId) (fr:Nat × Nat),w.heap[B]?=some (.cells arr e fr)->∃eK aW,w'.heap[B]?=some (.cells eK e aW)/\eK.size=arr.size:=
  fun B arr e fr aD=>⟨arr,fr,by rw[hh];exact aD,rfl⟩
 refine⟨cq _,⟨h.hz,fun id g B b e=>by rw[hh];exact h.gF id g B b e,fun id br g B b bm ab e=>?_,h.inj,h.mQ,h.wf,h.fixed (fun _ _ h=>h) an,h.zero⟩,fun _ _ _ h=>h,fun _ _=>Lw,
  ⟨by simp_all,gG,fun B l aD=>⟨l,by rw[hh];exact aD⟩,fun B aD _=>by rw[hh],fun B arr e aD=>.inl ⟨arr,by simp_all⟩,s0,tH,tv⟩,fun id g _ b e _=>⟨id,g,b,e⟩,fun _ g p e _=>⟨g,p,e⟩⟩
 obtain⟨gz,mv,ak⟩:=h.kY id br g B b bm ab e
 exact⟨gz,by rw[hh];exact mv,ak.mono (fun _ _ _ h=>h) (fun _ _ h=>h) an gG⟩
end
open Go.RowKit
section
variable {aK:eX} {μ cf:cp} {ae b9:Nat->Prop} {w w':World} {H H':ad} {P:Program}
def b6.nil:b6 μ ae w [] []:=⟨rfl,fun _ _ _ h=>by simp at h⟩
def b6.cons{v:V}{c:Value}{vs:List V}{cs:List Value}(h:bS μ ae w v c)(t:b6 μ ae w vs cs):b6 μ ae w (v::vs) (c::cs):=
 ⟨by simp[t.1],fun i a b aO ah=>by
  cases i with
  |zero=>simp_all
  |succ i=>simp at aO ah;exact t.2 i a b aO ah⟩
def bS.cons{v:V}{c:Value}{vs:List V}{cs:List Value}(h:bS μ ae w v c)(t:b6 μ ae w vs cs):b6 μ ae w (v::vs) (c::cs):=b6.cons h t
def b6.get{vs:List V}{cs:List Value}(h:b6 μ ae w vs cs){i:Nat}{a:V}(aO:vs[i]?=some a):∃b,cs[i]?=some b/\bS μ ae w a b:=by
 have aq:i<cs.length:=by rw[<- h.1];exact(dQ.1 aO).1
 exact⟨cs[i],eP aq,h.2 i a _ aO (eP aq)⟩
def b6.append{a b:List V}{c d:List Value}(h:b6 μ ae w a c)(k:b6 μ ae w b d):b6 μ ae w (a++b) (c++d):=
 ⟨by simp[h.1,k.1],fun i x y af bC=>by
  by_cases hi:i<a.length
  .rw[bi hi]at af
   rw[bi (by rw[<- h.1];exact hi)]at bC
   exact h.2 i x y af bC
  .rw[jA (by omega)]at af
   rw[jA (by rw[<- h.1];omega),<- h.1]at bC
   exact k.2 _ x y af bC⟩
def b6.drop{a:List V}{c:List Value}(h:b6 μ ae w a c)(n:Nat):b6 μ ae w (a.drop n) (c.drop n):=
 ⟨by simp[h.1],fun i x y af bC=>by
  rw[qP]at af bC;exact h.2 _ x y af bC⟩
def b6.take{a:List V}{c:List Value}(h:b6 μ ae w a c)(n:Nat):b6 μ ae w (a.take n) (c.take n):=
 ⟨by simp[h.1],fun i x y af bC=>by
  have hi:i<n:=by have:=(dQ.1 af).1;simp at this;omega
  rw[mr hi]at af bC;exact h.2 _ x y af bC⟩
def b6.set{a:List V}{c:List Value}(h:b6 μ ae w a c)(i:Nat){x:V}{y:Value}(aYg:bS μ ae w x y):b6 μ ae w (a.set i x) (c.set i y):=
 ⟨by simp[h.1],fun j u v hu av=>by
  by_cases bz:i=j
  .grind
  .rw[cG bz]at hu av;exact h.2 j u v hu av⟩
def b6.VC(n:Nat){v:List V}{c:List Value}(h:b6 μ ae w v c):b6 μ ae w (List.replicate n v).flatten (List.replicate n c).flatten:=by
 induction n with
 |zero=>exact b6.nil
 |succ n aF=>simp only[af2,GY];exact h.append aF
def b6.aze{α:Type}{l:List α}{f:α->Option V}{g:α->Value}(al:∀x∈l,∀v,f x=some v->bS μ ae w v (g x)):∀{vs:List V},l.mapM f=some vs->b6 μ ae w vs (l.map g):=by
 induction l with
 |nil=>intro vs h;simp at h;subst h;exact b6.nil
 |cons x l aF=>
   intro vs h;simp only[rA,fV,gk,e4]at h;obtain⟨v,av,us,lB,e⟩:=h;cases e
   exact(al x (by simp) v av).cons (aF (fun y bC=>al y (by simp[bC])) lB)
theorem ei{v c:Value}(h:bS μ ae w (.s v) c):c=v:=by cases h;rfl
def Xd{cs:List V}{c:Value}(h:bS μ ae w (.agg cs) c):∃vs:Array Value,c=.agg vs/\b6 μ ae w cs vs.toList:=by
 cases h with|agg _ vs aq h=>exact⟨vs,rfl,by simpa using aq,fun i a b aO ah=>h i a b aO (by simpa using ah)⟩
def aTs{cs:List V}{c:Value}(h:bS μ ae w (.bQ cs) c):∃vs:Array Value,c=.tuple vs/\b6 μ ae w cs vs.toList:=by
 cases h with|bQ _ vs aq h=>exact⟨vs,rfl,by simpa using aq,fun i a b aO ah=>h i a b aO (by simpa using ah)⟩
def H0{id g off:Nat}{c:Value}(h:bS μ ae w (.ref id g off) c):∃B b,μ id g=some (B,b)/\c=.pointer (some ⟨B,b+off,none⟩):=by
 cases h with|ref _ _ _ B b hm=>simp_all
def OG{id:Nat}{c:Value}(h:bS μ ae w (.mp id) c):∃B,μ id 0=some (B,0)/\c=.map (some B):=by
 cases h with|mp _ B hm=>grind
def Kd{cs:List V}{vs:List Value}(h:b6 μ ae w cs vs):bS μ ae w (.agg cs) (.agg vs.toArray):=
 .agg cs _ (by simpa using h.1) (fun i a b aO ah=>h.2 i a b aO (by simpa using ah))
def az8{cs:List V}{vs:List Value}(h:b6 μ ae w cs vs):bS μ ae w (.bQ cs) (.tuple vs.toArray):=
 .bQ cs _ (by simpa using h.1) (fun i a b aO ah=>h.2 i a b aO (by simpa using ah))
def xC{v:V}{c:Value}(h:bS μ ae w v c)(hu:v.cells.all V.one=true):b6 μ ae w v.cells c.cells.toList:=by
 cases h with
 |agg cs vs aq h=>exact⟨by simpa[V.cells,Value.cells]using aq,fun i a b aO ah=>h i a b aO (by simpa[Value.cells]using ah)⟩
 |s=>cases c<;>first|(simp[V.cells,V.one]at hu;done)|exact bS.cons (.s _) b6.nil
 |bu v=>simp[V.cells,V.one]at hu
 |bQ cs vs aq h=>simp[V.cells,V.one]at hu
 |ref id g off B b hm=>exact bS.cons (.ref id g off B b hm) b6.nil
 |eu cs B o arr e fr aD cS ai h=>exact bS.cons (.eu cs B o arr e fr aD cS ai h) b6.nil
 |aZ id g off len sz B b cap arr e hm aD ab ai=>exact bS.cons (.aZ id g off len sz B b cap arr e hm aD ab ai) b6.nil
 |jw id g off sz B b a hm=>exact bS.cons (.jw id g off sz B b a hm) b6.nil
 |dc es sz B o cap arr e fr aD cS ab bK ai h=>exact bS.cons (.dc es sz B o cap arr e fr aD cS ab bK ai h) b6.nil
 |iy sz cap a=>exact bS.cons (.iy sz cap a) b6.nil
 |c6 a=>exact bS.cons (.c6 a) b6.nil
 |mp id B hm=>exact bS.cons (.mp id B hm) b6.nil
 |fn f fst cap fF e8 al ab J aa=>exact bS.cons (.fn f fst cap fF e8 al ab J aa) b6.nil
 |ff id B hm=>exact bS.cons (.ff id B hm) b6.nil
def aWP{v:V}{c:Value}(h:bS μ ae w v c)(hu:v.one=true):c.oneCell'=true:=by
 cases h<;>first|rfl|(simp[V.one]at hu;done)|skip
 cases c<;>first|rfl|(simp[V.one]at hu;done)
def SO{vs:List V}{cs:List Value}(h:b6 μ ae w vs cs)(hu:vs.all V.one=true):∀c∈cs,c.oneCell'=true:=by
 intro c ab;obtain⟨i,hi,rfl⟩:=zU ab
 have pc:i<vs.length:=by rw[h.1];exact hi
 exact aWP (h.2 i vs[i] cs[i] (eP pc) (eP hi)) (by simp_all)
def Sd{v:Value}{x:V}(h:F' v=some x):x=.s v/\v.oneCell'=true:=by
 unfold F' at h;split at h<;>simp_all[Value.oneCell']
def AD{v:Value}{x:V}(h:DH v=some x):bS μ ae w x v:=by
 unfold DH at h;split at h
 .rename_i cs;rw[fy]at h;obtain⟨us,lB,rfl⟩:=h
  have:=b6.aze (μ:=μ) (ae:=ae) (w:=w) (g:=id) (fun x _ v av=>by rw[(Sd av).1];exact .s x) lB
  simp at this
  simpa using Kd this
 .rw[(Sd h).1];exact .s v
def c7(μ:cp)(ae:Nat->Prop)(w:World)(fr:List V)(tmps:Array Value):Prop:=b6 μ ae w fr tmps.toList
def c7.getD{fr:List V}{tmps:Array Value}(h:c7 μ ae w fr tmps)(t:Nat):bS μ ae w (fr.getD t .bu) (tmps.getD t Go.undef):=by
 by_cases aq:t<fr.length
 .obtain⟨b,ah,av⟩:=h.get (eP aq)
  simp_all
 .have aE:fr.getD t .bu=.bu:=by simp[List.getD,aq]
  rw[aE];exact .bu _
def ec{a:Act}{fr:List V}(h:c7 μ ae w fr a.tmps){x:Operand}{y:b0}(ab:en x=some y):bS μ ae w (aV fr y) (a.eval x):=by
 cases x with
 |tmp t=>simp[en]at ab;subst ab;exact h.getD t
 |const v=>
   simp only[en,fy]at ab;obtain⟨u,hu,rfl⟩:=ab;exact AD hu
 |global g=>simp[en]at ab
 |func f=>
   simp[en]at ab;subst ab
   exact .fn f [] [] #[] #[] rfl rfl (fun _ _ _ h=>by simp at h) (fun _ _ _ h=>by simp at h)
def GZ{a:Act}{fr:List V}(h:c7 μ ae w fr a.tmps){xs:Array Operand}{fw:List b0}(ab:Cd xs=some fw):b6 μ ae w (fw.map (aV fr)) (xs.map a.eval).toList:=by
 rw[Array.toList_map];unfold Cd at ab;generalize xs.toList=l at ab
 induction l generalizing fw with
 |nil=>simp at ab;subst ab;exact b6.nil
 |cons x l aF=>
   simp only[rA,fV,gk,e4]at ab;obtain⟨v,av,us,lB,e⟩:=ab;cases e;exact(ec h av).cons (aF lB)
def ayH{a:Act}{fr:List V}(h:c7 μ ae w fr a.tmps){ps:Array (Nat × Operand)}{mi:List (Nat × b0)}(ab:Bm ps=some mi):
 (mi.map (·.1))=ps.toList.map (·.1)/\b6 μ ae w (mi.map fun p=>aV fr p.2) (ps.toList.map fun p=>a.eval p.2):=by
 unfold Bm at ab;generalize ps.toList=l at ab
 induction l generalizing mi with
 |nil=>simp at ab;subst ab;exact⟨rfl,b6.nil⟩
 |cons x l aF=>
   simp only[rA,fV,gk,e4,fy]at ab;obtain⟨v,⟨y,bC,rfl⟩,us,lB,e⟩:=ab;cases e;obtain⟨i1,i2⟩:=aF lB
   exact⟨by simp[i1],(ec h bC).cons i2⟩
def Bi(μ:cp)(ae:Nat->Prop)(w:World)(cs:List V)(a:Addr):Prop:=
 ∃vs:List Value,b6 μ ae w cs vs/\∀(j:Nat) (v:Value),vs[j]?=some v->w.cell? (a.add j)=some v
def w5(B o j:Nat):(⟨B,o,none⟩:Addr).add j=⟨B,o+j,none⟩:=by
 unfold Addr.add
 simp_all
def cell_of_heap{B o:Nat}{arr:Array Value}{e:TypeId}{fr:Nat × Nat}(h:w.heap[B]?=some (.cells arr e fr)):w.cell? ⟨B,o,none⟩=arr[o]?:=by
 simp[World.cell?,h]
def Vc{B o:Nat}{arr:Array Value}{e:TypeId}{fr:Nat × Nat}{cs:List V}(aD:w.heap[B]?=some (.cells arr e fr))(ai:o+cs.length<=arr.size)(h:∀(i:Nat) (a:V) (b:Value),cs[i]?=some a->arr[o+i]?=some b->bS μ ae w a b):Bi μ ae w cs ⟨B,o,none⟩:=by
 refine⟨(arr.toList.drop o).take cs.length,⟨?_,?_⟩,?_⟩
 .simp;omega
 .grind
 .intro j v av
  have hi:j<cs.length:=by have:=(dQ.1 av).1;simp at this;omega
  rw[mr hi,qP]at av;rw[w5,cell_of_heap aD]
  simpa using av
def oX{id g:Nat}{c:List V}(h:au H id g=some c):H[id]?=some (.cells g c):=by
 unfold au at h
 grind
def cE.row(h:cE aK μ ae w H){id g B b:Nat}{c:List V}(ab:au H id g=some c)(hm:μ id g=some (B,b)):
 ∃arr e,w.heap[B]?=some (.cells arr e (0,0))/\b+c.length<=arr.size/\∀(i:Nat) (a:V) (v:Value),c[i]?=some a->arr[b+i]?=some v->bS μ ae w a v:=by
 obtain⟨o,aX,ak⟩:=h.kY id _ g B b (oX ab) rfl hm
 cases o<;>first|exact ak.elim|skip
 rename_i arr e fr;obtain⟨rfl,J,aa,_⟩:=ak
 grind
def cE.fresh(h:cE aK μ ae w H){id g B b:Nat}{c:List V}(ab:au H id g=some c)(hm:μ id g=some (B,b)){arr:Array Value}{e:TypeId}{fr:Nat × Nat}(aD:w.heap[B]?=some (.cells arr e fr)):s9 aK g c b arr e:=by
 obtain⟨o,aX,ak⟩:=h.kY id _ g B b (oX ab) rfl hm;rw[aD]at aX;cases aX;exact ak.2.2.2
def cE.place(h:cE aK μ ae w H){id g B b off n:Nat}{c:List V}(ab:au H id g=some c)(hm:μ id g=some (B,b))(aJ:((c.drop off).take n).length=n):
 Bi μ ae w ((c.drop off).take n) ⟨B,b+off,none⟩:=by
 obtain⟨arr,e,aD,ai,av⟩:=h.row ab hm;simp at aJ;by_cases uO:n=0
 .subst uO
  exact⟨[],⟨by simp,fun i a b aO _=>by simp at aO⟩,fun j v av=>by simp at av⟩
 refine Vc aD (by simp;omega) ?_
 grind
def Bi.take{cs:List V}{a:Addr}(h:Bi μ ae w cs a)(n:Nat):Bi μ ae w (cs.take n) a:=by
 obtain⟨vs,J,aa⟩:=h;refine⟨vs.take n,J.take n,fun j v av=>aa j v ?_⟩
 grind
def Sz{cs:List V}{c:Value}(h:bS μ ae w (.eu cs) c):∃a,c=.pointer (some a)/\Bi μ ae w cs a:=by
 cases h with|eu _ B o arr e fr aD cS ai av=>exact⟨_,rfl,Vc aD ai (fun i a b aO ah=>(av i a b aO ah).vr)⟩
theorem GB{t:TypeId}{b:Bool}(h:na P t=some b):(isAgg t).run P w=.ok b w:=by
 unfold na at h;simp only[isAgg,Sem.run_bind];cases e:P.underlying t with
 |none=>grind
 |some d=>
   rw[run_underlying e];rw[e]at h;cases d<;>simp at h<;>subst h<;>rfl
def run_sizeOf{t:TypeId}{n:Nat}(h:gq P t=some n):(sizeOf t).run P w=.ok n w:=by
 unfold gq at h;rw[fy]at h;obtain⟨i,hi,rfl⟩:=h;simp[sizeOf,typeInfo,hi]
def TW{t:TypeId}{b:Bool}{n:Nat}(h:wa P t=some (b,n)):na P t=some b/\gq P t=some n/\(b=false->n=1):=by
 unfold wa at h
 grind
def acp{t:TypeId}{agg:Bool}{n:Nat}(ai:wa P t=some (agg,n)){cs:List V}{a:Addr}(ay:Bi μ ae w cs a)(aq:cs.length=n){v:V}(av:shut agg cs=some v):
 ∃c,(loadVar t a).run P w=.ok c w/\bS μ ae w v c:=by
 obtain⟨J,aa,aI⟩:=TW ai;obtain⟨vs,ak,ab⟩:=ay;cases agg with
 |true=>
   simp[shut]at av;subst av;refine⟨.agg vs.toArray,?_,Kd ak⟩;have:=run_loadCells_list (P:=P) w a vs ab;rw[<- ak.1,aq]at this;simp[loadVar,Sem.run_bind,GB J,Result.andThen,run_sizeOf aa,this]
 |false=>
   have aJ:=aI rfl;subst aJ
   match cs,aq,av with
   | [x],_,av=>
     simp[shut]at av;subst av;obtain⟨b,ah,af⟩:=ak.get (i:=0) (a:=x) rfl;have tu:=ab 0 b ah
     have cX:a.add 0=a:=by simp[Addr.add]
     rw[cX]at tu
     exact⟨b,by simp[loadVar,Sem.run_bind,GB J,Result.andThen,tu],af⟩
def asJ{t:TypeId}{agg:Bool}{n:Nat}(ai:wa P t=some (agg,n))(h:cE aK μ ae w H){x v:V}{c:Value}(af:bS μ ae w x c)(av:iu H agg n x=some v):
 ∃r,(Instr.loadAt t c).run P w=.ok r w/\bS μ ae w v r:=by
 unfold iu at av;dsimp only at av;split at av
 .rename_i id g off;obtain⟨B,b,hm,rfl⟩:=H0 af;split at av
  .rename_i cs ab;split at av
   .rename_i aq;obtain⟨r,J,aa⟩:=acp (P:=P) ai (h.place ab hm aq) aq av
    exact⟨r,by simp[Instr.loadAt,Instr.sureAddr,J],aa⟩
   .simp at av
  .simp at av
 .rename_i cs;obtain⟨a,rfl,ay⟩:=Sz af;split at av
  .rename_i aq;obtain⟨r,J,aa⟩:=acp (P:=P) ai (ay.take n) aq av
   exact⟨r,by simp[Instr.loadAt,Instr.sureAddr,J],aa⟩
  .simp at av
 .simp at av
def df(aK:eX)(μ:cp)(ae:Nat->Prop)(w:World)(H:ad)(r:Result Next)(v:V)(H':ad):Prop:=
 ∃bA w' cf b9,(r=.ok (.value bA) w'\/(r=.ok .skip w'/\bA=Go.undef))/\bS cf b9 w' v bA/\c8 aK μ ae w H cf b9 w' H'
def df.still(h:cE aK μ ae w H){v:V}{c:Value}(av:bS μ ae w v c){r:Result Next}(ak:r=.ok (.value c) w):df aK μ ae w H r v H:=
 ⟨c,w,μ,ae,.inl ak,av,c8.refl h⟩
def Yt{B:Nat}{arr eK:Array Value}{e:TypeId}{fr:Nat × Nat}(h:w.heap[B]?=some (.cells arr e fr)):(w.setRow B eK).heap=w.heap.setIfInBounds B (.cells eK e fr):=by
 apply Array.ext_getElem?;intro i;by_cases hi:i=B
 .subst hi;rw[setRow_heap w i arr eK e fr h,Array.getElem?_setIfInBounds_self_of_lt (hZ h)]
 .rw[setRow_other w B i eK hi,Array.getElem?_setIfInBounds_ne (iV hi)]
def aAu{g b off:Nat}{c vs:List V}{us:List Value}{arr:Array Value}{e:TypeId}(h:s9 aK g c b arr e)(J:vs.all V.one=true)(aq:off+vs.length<=c.length)(PH:us.length=vs.length)(eZ:b+c.length<=arr.size):s9 aK g (iQ c off vs) b (arr.toList.take (b+off)++us++arr.toList.drop (b+off+us.length)).toArray e:=by
 intro bd hu;have aU:arr.toList.length=arr.size:=rfl;by_cases av:vs=[]
 .subst av;have Jl:us=[]:=List.length_eq_zero_iff.1 PH;subst Jl
  have Ao:iQ c off []=c:=by simp[iQ]
  rw[Ao]at hu;obtain⟨f1,f2,f3,f4⟩:=h bd hu
  simp_all
 .have SK:off≠0:=by
   intro cX;subst cX;cases vs with
   |nil=>exact av rfl
   |cons x vs=>
     have:iQ c 0 (x::vs)=x::(vs++c.drop (0+(x::vs).length)):=by simp[iQ]
     rw[this]at hu;cases hu;rw[pq,dR]at J
     exact absurd J.1 (by decide)
  have ab:c.head?=some .bu:=by
   cases c with
   |nil=>simp_all
   |cons y c=>
     obtain⟨o,rfl⟩:∃o,off=o+1:=⟨off-1,by omega⟩
     simpa[iQ]using hu
  obtain⟨f1,f2,f3,f4⟩:=h bd ab;subst f2
  grind
def Mi(h:cE aK μ ae w H){id g B b off:Nat}{c vs:List V}{us:List Value}(ab:au H id g=some c)(hm:μ id g=some (B,b))(aq:off+vs.length<=c.length)(av:b6 μ ae w vs us)(J:vs.all V.one=true):
 ∃w',(storeCells ⟨B,b+off,none⟩ us).run P w=.ok () w'/\c8 aK μ ae w H (my μ id g (B,b)) ae w' (H.set id (.cells g (iQ c off vs))):=by
 obtain⟨arr,e,aD,ai,ak⟩:=h.row ab hm;have PH:us.length=vs.length:=av.1.symm
 have fv:=run_storeCells_at P B (b+off) e us 0 arr w aD (by omega) (SO av J)
 refine⟨_,fv,?_⟩;simp only[Du]
 have dk:((arr.toList.take (b+off)++us++arr.toList.drop (b+off+us.length)).toArray).size=arr.size:=by simp;omega
 refine GD h (o':=.cells (arr.toList.take (b+off)++us++arr.toList.drop (b+off+us.length)).toArray e (0,0)) g b (oX ab) rfl hm aD ?_ (by simp) (.inl ⟨rfl,rfl⟩) (fun j bz=>bz.symm) (fun j c' bN k q an=>by cases bN;exact h.mQ _ _ _ _ _ an (oX ab) rfl) (Yt aD) rfl rfl rfl ?_ ?_
 .simp_all
 .intro v af;have af:v∈iQ c off vs:=af;unfold iQ at af;have K5:∀v∈c,fi H.length v:=h.P7 (oX ab) rfl hm
  rcases pu.1 af with af|af
  .rcases pu.1 af with af|af
   .grind
   .exact av.q0 h.hz v af
  grind
 .intro _ cf b9 gD cS;have an:∀K,K<w.heap.size->¬ae K->(w.setRow B (arr.toList.take (b+off)++us++arr.toList.drop (b+off+us.length)).toArray).heap[K]?=w.heap[K]?:=
   fun K _ aJ=>setRow_other w B K _ (fun e=>aJ (e▸(h.gF _ _ _ _ hm).1))
  have gG:∀(K:Nat) (a0:Array Value) (e:TypeId) (fr:Nat × Nat),w.heap[K]?=some (.cells a0 e fr)->∃eK aW,(w.setRow B (arr.toList.take (b+off)++us++arr.toList.drop (b+off+us.length)).toArray).heap[K]?=some (.cells eK e aW)/\eK.size=a0.size:=by
   intro K a0 cX IX bk;by_cases D7:K=B
   .subst D7;rw[aD]at bk;cases bk;exact⟨_,_,setRow_heap w K arr _ e (0,0) aD,dk⟩
   .exact⟨a0,_,(setRow_other w B K _ D7).trans bk,rfl⟩
  refine⟨rfl,by rw[dk];simp[iQ];omega,?_,aAu (h.fresh ab hm aD) J aq PH ai⟩
  intro i a v aO Rc;have mono:bS μ ae w a v->bS cf b9 (w.setRow B (arr.toList.take (b+off)++us++arr.toList.drop (b+off+us.length)).toArray) a v:=
   fun x=>x.mono gD (fun K bk hm=>(cS K bk).1 hm) an gG
  apply mono
  have p0:(arr.toList.take (b+off)++us++arr.toList.drop (b+off+us.length))[b+i]?=some v:=by simpa using Rc
  have hi:i<(iQ c off vs).length:=(dQ.1 aO).1
  have dn:(iQ c off vs).length=c.length:=by simp[iQ];omega
  rw[dn]at hi;unfold iQ at aO;by_cases cj:i<off
  .rw[gi,bi (by simp;omega),mr cj]at aO
   grind
  .by_cases cZ:i<off+vs.length
   .rw[gi,jA (by simp;omega),bi (by simp;omega)]at aO
    rw[gi,jA (by simp;omega),bi (by simp;omega)]at p0
    have aE:i-(List.take off c).length=i-off:=by simp;omega
    have aU:b+i-(List.take (b+off) arr.toList).length=i-off:=by simp;omega
    rw[aE]at aO;rw[aU]at p0;exact av.2 _ a v aO p0
   .rw[jA (by simp;omega)]at aO
    rw[jA (by simp;omega)]at p0
    rw[qP]at aO p0
    have aE:off+vs.length+(i-(List.take off c++vs).length)=i:=by simp;omega
    have aU:b+off+us.length+(b+i-(List.take (b+off) arr.toList++us).length)=b+i:=by simp;omega
    rw[aE]at aO;rw[aU]at p0
    grind
end
open Go.RowKit
section
variable {aK:eX} {μ cf:cp} {ae b9:Nat->Prop} {w w':World} {H H':ad} {P:Program}
theorem anj{v:Value}{x:V}(h:F' v=some x):x.one=true:=by
 unfold F' at h;split at h<;>simp at h<;>subst h<;>rfl
def aES{α β:Type}{f:α->Option β}{p:β->Bool}(al:∀x y,f x=some y->p y=true):∀{l:List α} {us:List β},l.mapM f=some us->us.all p=true:=by
 intro l
 induction l with
 |nil=>simp_all
 |cons x l aF=>
   intro us h;simp only[rA,fV,gk,e4]at h
   grind
def wZ{v:Value}{x:V}(h:DH v=some x):x.cells.all V.one=true:=by
 unfold DH at h;split at h
 .rw[fy]at h;obtain⟨us,lB,rfl⟩:=h;exact aES (fun _ _ h=>anj h) lB
 .have:=Sd h;have J:=anj h;rw[this.1]at J |-;simp[V.cells,J]
def Ah{t:TypeId}{z:V}(h:nX P t=some z):∃eD,(zeroValue t).run P w=.ok eD w/\DH eD=some z/\∃i,P.info? t=some i/\i.zero=some eD:=by
 unfold nX at h;split at h
 .rename_i i hi;split at h
  .rename_i eD bK
   exact⟨eD,by simp[zeroValue,typeInfo,hi,bK],h,i,hi,bK⟩
  .simp at h
 .simp at h
def aSV{cs:List V}{vs:List Value}{e:TypeId}(h:b6 μ ae w cs vs)(g:Nat)(J:cs.all V.one=true):kz aK μ ae w (.cells g cs) 0 (.cells vs.toArray e (0,0)):=
 ⟨rfl,by simp[h.1],fun i a v aO av=>h.2 i a v aO (by simpa using av),s9.one J⟩
def awx{cs:List V}{arr:Array Value}{e:TypeId}(h:b6 μ ae w cs arr.toList)(g:Nat)(J:cs.all V.one=true):kz aK μ ae w (.cells g cs) 0 (.cells arr e (0,0)):=by
 have:=aSV (aK:=aK) (e:=e) h g J;omega
def w7(aK:eX)(μ:cp)(ae:Nat->Prop)(w:World)(r:Result Next)(zp:Nat->V)(br:aM):Prop:=
 ∃bA o,r=.ok (.value bA) (w.alloc o)/\kz aK μ ae w br 0 o/\∀id cf b9,cf id 0=some (w.heap.size,0)->bS cf b9 (w.alloc o) (zp id) bA
def w7.op(h:cE aK μ ae w H){r:Result Next}{zp:Nat->V}{br:aM}(aJ:w7 aK μ ae w r zp br):df aK μ ae w H r (zp H.length) (H++[br]):=by
 obtain⟨bA,o,ak,fg,av⟩:=aJ;exact⟨bA,_,_,_,.inl ak,av _ _ _ (n2 _ _ _ _),HY h o br fg rfl rfl rfl rfl⟩
def aiF{cs:List V}{arr:Array Value}{e:TypeId}(av:b6 μ ae w cs arr.toList)(J:cs.all V.one=true){r:Result Next}(ak:r=.ok (.value (.pointer (some ⟨w.heap.size,0,none⟩))) (w.alloc (.cells arr e))):w7 aK μ ae w r (fun id=>.ref id 0 0) (.cells 0 cs):=
 ⟨_,_,ak,awx av 0 J,fun id cf b9 hm=>.ref _ _ _ w.heap.size 0 hm⟩
def Zb{t:TypeId}{z:V}(bK:nX P t=some z):
 w7 aK μ ae w ((do pure (.value (<- Instr.alloc t true (.tuple #[]))):Sem Next).run P w) (fun id=>.ref id 0 0) (.cells 0 z.cells):=by
 obtain⟨eD,J,aa,_⟩:=Ah (w:=w) bK;refine aiF (arr:=eD.cells) (e:=t) (xC (AD aa) (wZ aa)) (wZ aa) ?_;simp[Instr.alloc,Sem.run_bind,J,Result.andThen,newVar,newRow]
def auG{t:TypeId}{z:V}{c:List V}(bK:nX P t=some z)(ab:Qp z=some c)(ah:aK.RZ t=true):
 w7 aK μ ae w ((do pure (.value (<- Instr.alloc t true (.tuple #[]))):Sem Next).run P w) (fun id=>.ref id 0 0) (.cells 0 c):=by
 obtain⟨eD,J,aa,_⟩:=Ah (w:=w) bK
 have ak:((do pure (.value (<- Instr.alloc t true (.tuple #[]))):Sem Next).run P w)=.ok (.value (.pointer (some ⟨w.heap.size,0,none⟩))) (w.alloc (.cells eD.cells t)):=by simp[Instr.alloc,Sem.run_bind,J,Result.andThen,newVar,newRow]
 unfold Qp at ab;split at ab
 .rename_i v;cases ab;have av:=xC (μ:=μ) (ae:=ae) (w:=w) (AD aa) (wZ aa);obtain⟨aq,a8⟩:=av
  have dk:eD.cells.size=2:=by
   have:[V.s (.pointer none),v].length=eD.cells.toList.length:=aq
   simpa using this.symm
  have bd:eD.cells[0]?=some (.pointer none):=by
   have b8:0<eD.cells.size:=by omega
   have:=a8 0 _ eD.cells[0] rfl (by simp)
   rw[mO b8];exact dV some (ei this)
  refine⟨_,_,ak,⟨rfl,by simp[dk],fun i a x aO af=>?_,fun _ _=>⟨ah,rfl,dk,bd⟩⟩,fun id cf b9 hm=>.ref _ _ _ w.heap.size 0 hm⟩
  match i with
  |0=>cases aO;exact .bu _
  |1=>cases aO;exact a8 1 v x rfl (by simpa using af)
  |i+2=>simp at aO
 .cases ab
def aRc(h:cE aK μ ae w H){t:TypeId}{z:V}(bK:nX P t=some z):
 df aK μ ae w H ((do pure (.value (<- Instr.alloc t true (.tuple #[]))):Sem Next).run P w) (.ref H.length 0 0) (H++[.cells 0 z.cells]):=(Zb bK).op h
def aku{t:TypeId}{x:V}{c:Value}(af:bS μ ae w x c)(J:x.cells.all V.one=true):
 w7 aK μ ae w ((do pure (.value (<- Instr.box t c)):Sem Next).run P w) (fun id=>.ref id 0 0) (.cells 0 x.cells):=by
 refine aiF (arr:=c.cells) (e:=t) (xC af J) J ?_;simp[Instr.box,newVar,newRow]
def aSQ(h:cE aK μ ae w H){t:TypeId}{x:V}{c:Value}(af:bS μ ae w x c)(J:x.cells.all V.one=true):
 df aK μ ae w H ((do pure (.value (<- Instr.box t c)):Sem Next).run P w) (.ref H.length 0 0) (H++[.cells 0 x.cells]):=(aku af J).op h
def aiK(off:Nat):∀(l:List Value) (k:Nat) (cells:Array Value),off+k+l.length<=cells.size->
 ((l.zipIdx k).foldl (fun cs p=>cs.setIfInBounds (off+p.2) p.1) cells).toList=cells.toList.take (off+k)++l++cells.toList.drop (off+k+l.length)
 | [],k,cells,_=>by simp
 |v::l,k,cells,h=>by
   simp only[c3]at h;simp only[List.zipIdx_cons,Mc]
   rw[aiK off l (k+1) _ (by simp;omega)]
   apply yb;intro i;simp only[Array.toList_setIfInBounds];rw[gi,gi];by_cases cj:i<off+k
   .rw[bi (by simp;omega),bi (by simp;omega),mr (by omega),mr cj,cG (by omega)]
   .by_cases cZ:i=off+k
    .subst cZ
     rw[bi (by simp;omega),jA (by simp;omega),mr (by omega),w8 (by simp;omega)]
     grind
    .rw[jA (l₁:=List.take (off+(k+1)) _) (by simp;omega),jA (l₁:=List.take (off+k) _) (by simp;omega)]
     have aE:i-(List.take (off+(k+1)) (cells.toList.set (off+k) v)).length=i-(off+k+1):=by simp;omega
     have aU:i-(List.take (off+k) cells.toList).length=(i-(off+k+1))+1:=by simp;omega
     rw[aE,aU,du,ze];by_cases hN:i-(off+k+1)<l.length
     .grind
     .rw[jA (by omega),jA (by omega),qP,qP,cG (by omega)]
      grind
def b6.iQ{a b:List V}{c d:List Value}(h:b6 μ ae w a c)(k:b6 μ ae w b d)(off:Nat):b6 μ ae w (iQ a off b) (c.take off++d++c.drop (off+d.length)):=by
 have:=k.1;unfold ea.iQ;rw[this];exact((h.take off).append k).append (h.drop _)
def auO{place place':Nat->Option (Nat × Nat)}(ay:∀i,place' i=place i):∀{ps:List (Nat × V)} {cs:List (Nat × Value)} {cells r:List V} {arr:Array Value},
 ps.map (·.1)=cs.map (·.1)->b6 μ ae w (ps.map (·.2)) (cs.map (·.2))->b6 μ ae w cells arr.toList->lC place cells ps=some r->
 ∃x0:Array Value,Instr.fill place' arr cs=some x0/\b6 μ ae w r x0.toList:=by
 intro ps
 induction ps with
 |nil=>
   intro cs cells r arr J aa aI bl;cases cs with
   |nil=>simp[lC]at bl;subst bl;exact⟨arr,rfl,aI⟩
   |cons=>simp at J
 |cons p ps aF=>
   intro cs cells r arr J aa aI bl;cases cs with
   |nil=>simp at J
   |cons c cs=>
     obtain⟨i,v⟩:=p;obtain⟨xb,u⟩:=c;simp only[dW,List.cons.injEq]at J;obtain⟨rfl,J⟩:=J;have aTW:bS μ ae w v u:=aa.2 0 v u rfl rfl
     have apL:b6 μ ae w (ps.map (·.2)) (cs.map (·.2)):=by
      refine⟨by have:=aa.1;simpa using this,fun j a b aO ah=>aa.2 (j+1) a b (by simpa using aO) (by simpa using ah)⟩
     simp only[lC]at bl;split at bl
     .simp at bl
     .rename_i off size gp;split at bl
      .rename_i gK;obtain⟨dk,nO,jj⟩:=gK;have fm:=xC aTW jj
       have fk:u.cells.size=size:=by rw[<- dk,fm.1];simp
       have aX9:arr.size=cells.length:=by rw[aI.1];simp
       have oG:=aI.iQ fm off
       have al:=aiK off u.cells.toList 0 arr (by simp_all)
       simp only[Du]at al;rw[<- al]at oG;obtain⟨x0,Fl,ak⟩:=aF (arr:=(u.cells.toList.zipIdx 0).foldl (fun cs p=>cs.setIfInBounds (off+p.2) p.1) arr) J apL oG bl;refine⟨x0,?_,ak⟩;unfold Instr.fill;simp only[ay,gp]
       rw[bV (by simp;omega)]
       rw[<- Fl]
       congr 1
       rw[<- PB,Array.toList_zipIdx]
      .simp at bl
def axC{a:Act}{fr:List V}(h:c7 μ ae w fr a.tmps){ps:Array (Nat × Operand)}{mi:List (Nat × b0)}(ab:Bm ps=some mi):
 (mi.map fun p=>(p.1,aV fr p.2)).map (·.1)=((ps.map fun(i,x)=>(i,a.eval x)).toList).map (·.1)/\
 b6 μ ae w ((mi.map fun p=>(p.1,aV fr p.2)).map (·.2)) (((ps.map fun(i,x)=>(i,a.eval x)).toList).map (·.2)):=by
 obtain⟨J,aa⟩:=ayH h ab
 refine⟨by simpa[V6]using J,?_⟩
 have:((ps.map fun(i,x)=>(i,a.eval x)).toList).map (·.2)=ps.toList.map fun p=>a.eval p.2:=by simp[V6]
 rw[this]
 simpa[V6]using aa
def azl(fs:Array Field){pl:List (Nat × Nat)}(h:(fs.toList.mapM fun f=>(gq P f.type).map fun n=>(f.offset,n))=some pl):
 (fs.mapM fun f=>(do pure (f.offset,<- sizeOf f.type):Sem (Nat × Nat))).run P w=.ok pl.toArray w:=by
 have key:∀(l:List Field) (pl:List (Nat × Nat)),(l.mapM fun f=>(gq P f.type).map fun n=>(f.offset,n))=some pl->
  (l.mapM fun f=>(do pure (f.offset,<- sizeOf f.type):Sem (Nat × Nat))).run P w=.ok pl w:=by
  intro l
  induction l with
  |nil=>simp_all
  |cons f l aF=>
    intro pl h;simp only[rA,fV,gk,e4,fy]at h;obtain⟨p,⟨n,aJ,rfl⟩,us,lB,e⟩:=h;cases e;simp only[rA,Sem.run_bind,run_sizeOf aJ,ev,Sem.run_pure,aF us lB]
 rw[ajr]
 simp_all
def aCP(h:cE aK μ ae w H){a:Act}{fr:List V}(al:c7 μ ae w fr a.tmps){t:TypeId}{z:V}{fs:Array Field}{pl:List (Nat × Nat)}{ps:Array (Nat × Operand)}{mi:List (Nat × b0)}{cs:List V}(bK:nX P t=some z)(aY:P.underlying t=some (.struct fs))(gp:(fs.toList.mapM fun f=>(gq P f.type).map fun n=>(f.offset,n))=some pl)(zc:Bm ps=some mi)(tq:lC (pl[·]?) z.cells (mi.map fun p=>(p.1,aV fr p.2))=some cs):
 df aK μ ae w H ((do pure (.value (<- Instr.build t (ps.map fun(i,x)=>(i,a.eval x)))):Sem Next).run P w) (.agg cs) H:=by
 obtain⟨eD,J,aa,_⟩:=Ah (w:=w) bK;obtain⟨cn,dP⟩:=axC al zc
 obtain⟨x0,Fl,ak⟩:=auO (place':=(pl.toArray[·]?)) (by intro i;simp) cn dP (xC (AD aa) (wZ aa)) tq
 refine df.still h (Kd ak) ?_;simp only[Instr.build,Sem.run_bind,J,ev,run_underlying aY,Sem.run_pure,azl fs gp,Fl]
def XC(l:List Value)(len:Nat)(aq:0<l.length):((Array.range (len*l.length)).map (l.toArray[· % l.toArray.size]!)).toList=(List.replicate len l).flatten:=by
 apply yb;intro i
 have dn:(List.replicate len l).flatten.length=len*l.length:=by simp
 by_cases hi:i<len*l.length
 .have J:(((Array.range (len*l.length)).map (l.toArray[· % l.toArray.size]!)).toList)[i]?=some (l.toArray[i % l.length]!):=by simp[hi]
  rw[J];have hm:i % l.length<l.length:=Nat.mod_lt _ aq
  have:∀(n i:Nat),i<n*l.length->(List.replicate n l).flatten[i]?=l[i % l.length]?:=by
   intro n
   induction n with
   |zero=>omega
   |succ n aF=>
     intro i hi;rw[af2,GY];by_cases c:i<l.length
     .rw[bi c,Nat.mod_eq_of_lt c]
     .rw[jA (by omega),aF (i-l.length) (by grind),<- Nat.mod_eq_sub_mod (by omega)]
  simp_all
 simp_all
def aW6{place:Nat->Option (Nat × Nat)}:∀(ps:List (Nat × V)) (c r:List V),c.all V.one=true->lC place c ps=some r->r.all V.one=true:=by
 intro ps
 induction ps with
 |nil=>intro c r bd h;simp only[lC,jI]at h;grind
 |cons p ps aF=>
   intro c r bd h;obtain⟨i,v⟩:=p;simp only[lC]at h;split at h
   .cases h
   .split at h
    .rename_i ab;refine aF _ _ ?_ h;rw[fp]at bd |-;intro x af;unfold iQ at af
     grind
    .cases h
def amt{a:Act}{fr:List V}(al:c7 μ ae w fr a.tmps){t e:TypeId}{z:V}{sz len:Nat}{ps:Array (Nat × Operand)}{mi:List (Nat × b0)}{cs:List V}(aY:P.underlying t=some (.slice e))(dk:gq P e=some sz)(bK:nX P e=some z)(bd:0<sz)(ah:len*sz<=2^24)(pT:z.cells.length=sz)(zc:Bm ps=some mi)(tq:lC (fun i=>some (i*sz,sz)) (List.replicate len z.cells).flatten (mi.map fun p=>(p.1,aV fr p.2))=some cs):
 w7 aK μ ae w ((do pure (.value (<- Instr.buildSlice t len (ps.map fun(i,x)=>(i,a.eval x)))):Sem Next).run P w) (fun id=>if len=0 then .c6 else .aZ id 0 0 len sz) (.cells 0 cs):=by
 obtain⟨eD,J,aa,_⟩:=Ah (w:=w) bK;obtain⟨cn,dP⟩:=axC al zc;have xg:=xC (μ:=μ) (ae:=ae) (w:=w) (AD aa) (wZ aa)
 have sg:eD.cells.size=sz:=by rw[<- pT,xg.1];simp
 have uj:b6 μ ae w (List.replicate len z.cells).flatten ((Array.range (len*sz)).map (eD.cells[· % eD.cells.size]!)).toList:=by
  have:=xg.VC len
  rw[<- XC eD.cells.toList len (by simp;omega)]at this
  simpa[sg]using this
 obtain⟨x0,Fl,ak⟩:=auO (place':=fun i=>some (i*sz,sz)) (fun _=>rfl) cn dP uj tq;have aXd:len*sz<=x0.size\/True:=.inr trivial
 have aXH:cs.length=len*sz:=by
  have:∀(ps:List (Nat × V)) (c r:List V),lC (fun i=>some (i*sz,sz)) c ps=some r->r.length=c.length:=by
   intro ps
   induction ps with
   |nil=>intro c r h;simp[lC]at h;rw[h]
   |cons p ps aF=>
     intro c r h;obtain⟨i,v⟩:=p;simp only[lC]at h;split at h
     .rename_i ab;rw[aF _ _ h];simp[iQ];omega
     .simp at h
  rw[this _ _ _ tq];simp[pT]
 have fv:((do pure (.value (<- Instr.buildSlice t len (ps.map fun(i,x)=>(i,a.eval x)))):Sem Next).run P w)=.ok (.value (.slice (some ⟨w.heap.size,0,none⟩) len len)) (w.alloc (.cells x0 e)):=by
  have kj:¬(len*sz > 16777216):=by simpa using ah
  by_cases kZ:len*sz=0
  .have Bq:Instr.fill (fun i=>some (i*sz,sz)) (Array.map (fun x=>(#[]:Array Value)[x % 0]!) (Array.range 0)) (ps.map fun(i,x)=>(i,a.eval x)).toList=some x0:=by
    have em:∀f:Nat->Value,Array.map f (Array.range 0)=#[]:=fun f=>by apply Vj;simp
    rw[<- Fl,kZ,em,em]
   simp only[Instr.buildSlice,Sem.run_bind,run_underlying aY,run_sizeOf dk,ev,kZ,Sem.run_pure,eW,Sem.run_ite];simp at Bq;simp[Bq,newRow]
  .simp only[Instr.buildSlice,Sem.run_bind,run_underlying aY,run_sizeOf dk,ev,Sem.run_pure,Sem.run_ite,bV kZ,J,Fl,newRow,run_newObj,Nat.reducePow,bV kj];rfl
 have jj:cs.all V.one=true:=by
  refine aW6 _ _ _ ?_ tq;rw[fp];intro x af;obtain⟨r,ak,Ic⟩:=Wl.1 af;rw[(Mz.1 ak).2]at Ic;obtain⟨aYH,_,aC2,_⟩:=Ah (w:=w) bK;have:=wZ aC2;rw[fp]at this;exact this x Ic
 refine⟨_,_,fv,awx ak 0 jj,fun id cf b9 hm=>?_⟩;dsimp only;split
 .rename_i aq;subst aq;exact .c6 _
 .refine .aZ id 0 0 len sz w.heap.size 0 len x0 e hm (yW (w:=w) rfl) (cq _) ?_;have:=ak.1;simp at this;omega
def aEZ(h:cE aK μ ae w H){a:Act}{fr:List V}(al:c7 μ ae w fr a.tmps){t e:TypeId}{z:V}{sz len:Nat}{ps:Array (Nat × Operand)}{mi:List (Nat × b0)}{cs:List V}(aY:P.underlying t=some (.slice e))(dk:gq P e=some sz)(bK:nX P e=some z)(bd:0<sz)(ah:len*sz<=2^24)(pT:z.cells.length=sz)(zc:Bm ps=some mi)(tq:lC (fun i=>some (i*sz,sz)) (List.replicate len z.cells).flatten (mi.map fun p=>(p.1,aV fr p.2))=some cs):
 df aK μ ae w H ((do pure (.value (<- Instr.buildSlice t len (ps.map fun(i,x)=>(i,a.eval x)))):Sem Next).run P w) (if len=0 then .c6 else .aZ H.length 0 0 len sz) (H++[.cells 0 cs]):=
 (amt al aY dk bK bd ah pT zc tq).op h
def aEz(h:cE aK μ ae w H){t e:TypeId}{z:V}{sz:Nat}{ao:Array TypeId}{ty:TypeId}{x:V}{c:Value}{base:Nat}{v:V}(tQ:ao[0]?=some t)(aY:P.underlying t=some (.slice e))(bK:nX P e=some z)(bd:0<sz)(pT:z.cells.length=sz)(aj:(match x with
  |.s (.slice none 0 0)=>some (bF,H)
  |.c6=>some (bF,H)
  |.aZ id g off len dC=>if len=0 then some (bF,H)else if base<=id/\dC=sz then match au H id g with
     |some c=>if z.cells.length=sz/\off+len*sz<=c.length/\z.cells.all V.one then some (bF,H.set id (.cells g (iQ c off (List.replicate len z.cells).flatten)))else none
     |none=>none
    else none
  |_=>none)=some (v,H'))(af:bS μ ae w x c):
 df aK μ ae w H ((do pure (.value (<- Builtin.clear_ ao ty #[c])):Sem Next).run P w) v H':=by
 have quiet:∀c,(Builtin.clear_ ao ty #[c]).run P w=.ok (.tuple #[]) w->df aK μ ae w H ((do pure (.value (<- Builtin.clear_ ao ty #[c])):Sem Next).run P w) bF H:=by
  intro c ab
  exact df.still h (c:=.tuple #[]) (.s _) (by simp_all)
 have still:∀c,(c=.slice none 0 0\/∃a n,c=.slice (some a) 0 n)->(Builtin.clear_ ao ty #[c]).run P w=.ok (.tuple #[]) w:=by
  rintro c (rfl|⟨a,n,rfl⟩)
  .simp[Builtin.clear_,tQ,run_underlying aY]
  .simp[Builtin.clear_,tQ,run_underlying aY]
 revert af;split at aj
 .intro af;cases aj;rw[ei af]
  grind
 .intro af;cases aj;cases af with
  |c6 a=>grind
 .rename_i id g off len dC;intro af;split at aj
  .rename_i aq;cases aj;subst aq;cases af with
   |aZ _ _ _ _ _ B b cap arr bN hm aD ab ai=>grind
   |jw _ _ _ _ B b a hm=>grind
  .rename_i aq;split at aj
   .rename_i ah;split at aj
    .rename_i cb jZ;split at aj
     .rename_i an;cases aj;obtain⟨eD,J,aa,_⟩:=Ah (w:=w) bK;have xg:=xC (μ:=μ) (ae:=ae) (w:=w) (AD aa) (wZ aa)
      have sg:eD.cells.size=sz:=by rw[<- pT,xg.1];simp
      have uj:b6 μ ae w (List.replicate len z.cells).flatten (Builtin.zeroCells eD.cells len).toList:=by
       have:=xg.VC len
       rw[<- XC eD.cells.toList len (by simp;omega)]at this
       simpa[Builtin.zeroCells,sg]using this
      have dn:(List.replicate len z.cells).flatten.length=len*sz:=by simp[pT]
      have jj:(List.replicate len z.cells).flatten.all V.one=true:=by
       rw[fp];intro y bC;rw[Wl]at bC;obtain⟨l,dr,gS⟩:=bC;rw[Mz]at dr;rw[dr.2]at gS;exact(fp.1 an.2.2) y gS
      cases af with
      |jw=>omega
      |aZ _ _ _ _ _ B b cap arr bN hm aD ab ai=>
        obtain⟨w',ak,ay⟩:=Mi (P:=P) h jZ hm (by rw[dn];exact an.2.1) uj jj
        obtain⟨n,rfl⟩:∃n,len=n+1:=⟨len-1,by omega⟩
        have fv:(Builtin.clear_ ao ty #[.slice (some ⟨B,b+off,none⟩) (n+1) cap]).run P w=.ok (.tuple #[]) w':=by
         simp only[Builtin.clear_,tQ,Sem.run_bind,run_underlying aY,ev,Hr,EG,J,ak,Sem.run_pure]
        exact⟨.tuple #[],w',_,_,.inl (by simp_all),.s _,ay⟩
     .cases aj
    .cases aj
   .cases aj
 .cases aj
end
open Go.RowKit
section
variable {aK:eX} {μ cf:cp} {ae b9:Nat->Prop} {w w':World} {H H':ad} {P:Program}
def PS{op:BinOp}{t:TypeId}{x y:Operand}{a b:Value}(h:∀c d,¬(a=.agg c/\b=.agg d))(lz:a≠.nilIface):(eqGuard op t x y a b).run P w=.ok () w:=by
 unfold eqGuard
 simp_all
def amg{op:BinOp}{t:TypeId}{x y:Operand}{a b v:Value}(h:iL op a b=some v):
 ((do pure (.value (<- (do eqGuard op t x y a b;binOp op t a b))):Sem Next).run P w)=.ok (.value v) w:=by
 have a8:(eqGuard op t x y a b).run P w=.ok () w:=by
  apply PS
  .rintro c d ⟨rfl,rfl⟩;simp[iL]at h
  .rintro rfl;simp[iL]at h
 have ah:(binOp op t a b).run P w=.ok v w:=by
  unfold iL at h;split at h
  .rename_i k a ia b;cases op<;>simp only at h
   case shl=>split at h<;>simp at h;subst h;rename_i ah;simp[binOp,Op.shift,ah]
   case shr=>split at h<;>simp at h;subst h;rename_i ah;simp[binOp,Op.shift,ah]
   all_goals
    split at h
    .simp at h
    .rename_i an
     have an:k=ia:=by simpa using an
     subst an
     first
      |(simp only[jI]at h;subst h;simp[binOp,Op.intArith,Op.intBits,Op.intCmp];done)
      |(split at h<;>simp at h;subst h;rename_i ah;simp[binOp,Op.intDiv,ah];done)
      |(simp at h)
  .rename_i a b;simp only[<- ByteArray.toList_eq]at h;cases op<;>simp only at h
   case add=>
    split at h
    .simp at h
    .rename_i ah;simp only[jI]at h;subst h;simp only[binOp,Op.stringOp,bV ah];rfl
   all_goals first
    |(simp only[jI]at h;subst h;rfl)
    |(simp at h)
  .simp at h
 simp_all
def aTS{t:TypeId}{x y:Operand}{a b neg:Bool}{op:BinOp}(aX:o0 op=some neg)(aY:P.underlying t=some .bool):
 ((do pure (.value (<- (do eqGuard op t x y (.bool a) (.bool b);binOp op t (.bool a) (.bool b)))):Sem Next).run P w)=.ok (.value (.bool ((a==b) != neg))) w:=by
 have a8:(eqGuard op t x y (.bool a) (.bool b)).run P w=.ok () w:=PS (by simp) (by simp)
 have he:(Op.equal t (.bool a) (.bool b)).run P w=.ok (a==b) w:=run_equalIn_bool' w 9999 t a b aY;simp only[Sem.run_bind,a8,ev];cases op<;>simp[o0]at aX<;>subst aX<;>simp[binOp,he]
def aJs(d:Nat){t e:TypeId}{i:TypeInfo}{a b:Addr}{Tq US:Array Value}{Rq tb:TypeId}(aY:P.underlying t=some (.pointer e))(hi:P.info? e=some i)(ai:i.size≠0)(eS:a≠b)(aO:w.heap[a.block]?=some (.cells Tq Rq (0,0)))(ah:w.heap[b.block]?=some (.cells US tb (0,0))):(Op.equalIn (d+1) t (.pointer (some a)) (.pointer (some b))).run P w=.ok false w:=by
 simp[Op.equalIn,run_underlying aY,sizeOf,typeInfo,hi,ai,run_sameAddr_other w eS aO ah]
def aRI{t e:TypeId}{x y:Operand}{a b:Addr}{neg:Bool}{op:BinOp}{n:Nat}{Tq US:Array Value}{Rq tb:TypeId}(aX:o0 op=some neg)(aY:P.underlying t=some (.pointer e))(aJ:gq P e=some n)(bd:n≠0)(eS:a≠b)(aO:w.heap[a.block]?=some (.cells Tq Rq (0,0)))(ah:w.heap[b.block]?=some (.cells US tb (0,0))):
 ((do pure (.value (<- (do eqGuard op t x y (.pointer (some a)) (.pointer (some b));binOp op t (.pointer (some a)) (.pointer (some b))))):Sem Next).run P w)=.ok (.value (.bool neg)) w:=by
 have a8:(eqGuard op t x y (.pointer (some a)) (.pointer (some b))).run P w=.ok () w:=PS (by simp) (by simp)
 unfold gq at aJ;cases hi:P.info? e with
 |none=>simp_all
 |some i=>
   rw[hi]at aJ
   have ai:i.size≠0:=by
    simp only[o7,jI]at aJ;rw[aJ];exact bd
   have he:(Op.equal t (.pointer (some a)) (.pointer (some b))).run P w=.ok false w:=by
    exact aJs 9999 aY hi ai eS aO ah
   simp only[Sem.run_bind,a8,ev];cases op<;>simp[o0]at aX<;>subst aX<;>simp[binOp,he]
def aji{d:Option TypeDesc}{x:Operand}{k:tg}(h:Gy d x=some k):
 (∃e,d=some (.pointer e)/\x=.const (.pointer none)/\k=.p)\/(∃e,d=some (.slice e)/\x=.const (.slice none 0 0)/\k=.s)\/
 (∃a b,d=some (.map a b)/\x=.const (.map none)/\k=.m)\/(∃a b c,d=some (.func a b c)/\x=.const .nilFunc/\k=.f):=by
 unfold Gy at h
 grind
def aG0{k:tg}{x:V}{c:Value}{b:Bool}(af:bS μ ae w x c)(h:V.isNil k x=some b):
 match k with
 |.p=>∃p,c=.pointer p/\b=p.isNone
 |.s=>∃p n m,c=.slice p n m/\b=p.isNone
 |.m=>∃p,c=.map p/\b=p.isNone
 |.f=>(c=.nilFunc/\b=true)\/(∃f a d,c=.func f a d/\b=false):=by
 unfold V.isNil at h;split at h<;>simp at h<;>subst h<;>cases af<;>simp
theorem aQs(d:Nat){t e:TypeId}(aQ:P.underlying t=some (.pointer e))(p:Option Addr):(Op.equalIn (d+1) t (.pointer p) (.pointer none)).run P w=.ok p.isNone w:=by
 cases p<;>simp only[Op.equalIn,Sem.run_bind,run_underlying aQ,ev]<;>rfl
theorem aOq(d:Nat){t e:TypeId}(aQ:P.underlying t=some (.pointer e))(p:Option Addr):(Op.equalIn (d+1) t (.pointer none) (.pointer p)).run P w=.ok p.isNone w:=by
 cases p<;>simp only[Op.equalIn,Sem.run_bind,run_underlying aQ,ev]<;>rfl
theorem aSH(d:Nat){t e:TypeId}(aQ:P.underlying t=some (.slice e))(p:Option Addr)(n m:Nat):(Op.equalIn (d+1) t (.slice p n m) (.slice none 0 0)).run P w=.ok p.isNone w:=by
 cases p<;>simp only[Op.equalIn,Sem.run_bind,run_underlying aQ,ev]<;>rfl
theorem aSh(d:Nat){t e:TypeId}(aQ:P.underlying t=some (.slice e))(p:Option Addr)(n m:Nat):(Op.equalIn (d+1) t (.slice none 0 0) (.slice p n m)).run P w=.ok p.isNone w:=by
 cases p<;>simp only[Op.equalIn,Sem.run_bind,run_underlying aQ,ev]<;>rfl
theorem aSP(d:Nat){t e f:TypeId}(aQ:P.underlying t=some (.map e f))(p:Option Nat):(Op.equalIn (d+1) t (.map p) (.map none)).run P w=.ok p.isNone w:=by
 cases p<;>simp only[Op.equalIn,Sem.run_bind,run_underlying aQ,ev]<;>rfl
theorem aPT(d:Nat){t e f:TypeId}(aQ:P.underlying t=some (.map e f))(p:Option Nat):(Op.equalIn (d+1) t (.map none) (.map p)).run P w=.ok p.isNone w:=by
 cases p<;>simp only[Op.equalIn,Sem.run_bind,run_underlying aQ,ev]<;>rfl
theorem ak3(d:Nat){t:TypeId}{e f:Array TypeId}{g:Bool}(aQ:P.underlying t=some (.func e f g)):(Op.equalIn (d+1) t .nilFunc .nilFunc).run P w=.ok true w:=by
 simp only[Op.equalIn,Sem.run_bind,run_underlying aQ,ev];rfl
theorem aUO(d:Nat){t:TypeId}{e f:Array TypeId}{g:Bool}(aQ:P.underlying t=some (.func e f g))(x:Fn)(y z:Array Value):(Op.equalIn (d+1) t (.func x y z) .nilFunc).run P w=.ok false w:=by
 simp only[Op.equalIn,Sem.run_bind,run_underlying aQ,ev];rfl
theorem aNV(d:Nat){t:TypeId}{e f:Array TypeId}{g:Bool}(aQ:P.underlying t=some (.func e f g))(x:Fn)(y z:Array Value):(Op.equalIn (d+1) t .nilFunc (.func x y z)).run P w=.ok false w:=by
 simp only[Op.equalIn,Sem.run_bind,run_underlying aQ,ev];rfl
def aiG{t:TypeId}{X Y:Operand}{k:tg}{neg b:Bool}{op:BinOp}{x:V}{c:Value}(aX:o0 op=some neg)(af:bS μ ae w x c)(aJ:V.isNil k x=some b)(ρ:Operand->Value)(jk:∀v,ρ (.const v)=v)(an:(Gy (P.underlying t) Y=some k/\ρ X=c)\/(Gy (P.underlying t) X=some k/\ρ Y=c)):
 ((do pure (.value (<- (do eqGuard op t X Y (ρ X) (ρ Y);binOp op t (ρ X) (ρ Y)))):Sem Next).run P w)=.ok (.value (.bool (b != neg))) w:=by
 have av:=aG0 af aJ
 have key:∀(p q:Value),(∀u v,¬(p=.agg u/\q=.agg v))->p≠.nilIface->(Op.equal t p q).run P w=.ok b w->((binOp op t p q)=(if neg then(do pure (.bool (!(<- Op.equal t p q))))else(do pure (.bool (<- Op.equal t p q)))))->
  ((do pure (.value (<- (do eqGuard op t X Y p q;binOp op t p q))):Sem Next).run P w)=.ok (.value (.bool (b != neg))) w:=by
  intro p q J aa he ah;simp only[Sem.run_bind,PS J aa,ev,ah];cases neg<;>simp[he]
 have yh:∀p q:Value,(ρ X=p/\ρ Y=q)->((do pure (.value (<- (do eqGuard op t X Y p q;binOp op t p q))):Sem Next).run P w)=.ok (.value (.bool (b != neg))) w->
  ((do pure (.value (<- (do eqGuard op t X Y (ρ X) (ρ Y);binOp op t (ρ X) (ρ Y)))):Sem Next).run P w)=.ok (.value (.bool (b != neg))) w:=by
  rintro p q ⟨J,aa⟩ h;rw[J,aa];exact h
 rcases an with⟨an,ab⟩|⟨an,ab⟩
 .rcases aji an with⟨e,aQ,rfl,rfl⟩|⟨e,aQ,rfl,rfl⟩|⟨e,f,aQ,rfl,rfl⟩|⟨e,f,g,aQ,rfl,rfl⟩
  .obtain⟨p,rfl,rfl⟩:=av
   refine yh (.pointer p) (.pointer none) ⟨ab,jk _⟩ (key _ _ (by simp) (by simp) ?_ (by cases op<;>simp[o0]at aX<;>subst aX<;>rfl))
   exact aQs 9999 aQ p
  .obtain⟨p,n,m,rfl,rfl⟩:=av
   refine yh (.slice p n m) (.slice none 0 0) ⟨ab,jk _⟩ (key _ _ (by simp) (by simp) ?_ (by cases op<;>simp[o0]at aX<;>subst aX<;>rfl))
   exact aSH 9999 aQ p n m
  .obtain⟨p,rfl,rfl⟩:=av
   refine yh (.map p) (.map none) ⟨ab,jk _⟩ (key _ _ (by simp) (by simp) ?_ (by cases op<;>simp[o0]at aX<;>subst aX<;>rfl))
   exact aSP 9999 aQ p
  .rcases av with⟨rfl,rfl⟩|⟨f,a,d,rfl,rfl⟩
   .refine yh .nilFunc .nilFunc ⟨ab,jk _⟩ (key _ _ (by simp) (by simp) ?_ (by cases op<;>simp[o0]at aX<;>subst aX<;>rfl))
    exact ak3 9999 aQ
   .refine yh (.func f a d) .nilFunc ⟨ab,jk _⟩ (key _ _ (by simp) (by simp) ?_ (by cases op<;>simp[o0]at aX<;>subst aX<;>rfl))
    exact aUO 9999 aQ f a d
 .rcases aji an with⟨e,aQ,rfl,rfl⟩|⟨e,aQ,rfl,rfl⟩|⟨e,f,aQ,rfl,rfl⟩|⟨e,f,g,aQ,rfl,rfl⟩
  .obtain⟨p,rfl,rfl⟩:=av
   refine yh (.pointer none) (.pointer p) ⟨jk _,ab⟩ (key _ _ (by simp) (by simp) ?_ (by cases op<;>simp[o0]at aX<;>subst aX<;>rfl))
   exact aOq 9999 aQ p
  .obtain⟨p,n,m,rfl,rfl⟩:=av
   refine yh (.slice none 0 0) (.slice p n m) ⟨jk _,ab⟩ (key _ _ (by simp) (by simp) ?_ (by cases op<;>simp[o0]at aX<;>subst aX<;>rfl))
   exact aSh 9999 aQ p n m
  .obtain⟨p,rfl,rfl⟩:=av
   refine yh (.map none) (.map p) ⟨jk _,ab⟩ (key _ _ (by simp) (by simp) ?_ (by cases op<;>simp[o0]at aX<;>subst aX<;>rfl))
   exact aPT 9999 aQ p
  .rcases av with⟨rfl,rfl⟩|⟨f,a,d,rfl,rfl⟩
   .refine yh .nilFunc .nilFunc ⟨jk _,ab⟩ (key _ _ (by simp) (by simp) ?_ (by cases op<;>simp[o0]at aX<;>subst aX<;>rfl))
    exact ak3 9999 aQ
   .refine yh .nilFunc (.func f a d) ⟨jk _,ab⟩ (key _ _ (by simp) (by simp) ?_ (by cases op<;>simp[o0]at aX<;>subst aX<;>rfl))
    exact aNV 9999 aQ f a d
def valOf(P:Program)(t:TypeId)(cs:List Value):Value:=
 match na P t with
 |some true=>.agg cs.toArray
 |_=>cs.headD Go.undef
theorem avP{t:TypeId}{n off:Nat}{cs:List Value}(aJ:gq P t=some n)(aO:(na P t).isSome=true)(aq:off+n<=cs.length)(bd:na P t=some false->n=1):
 (part t cs.toArray off).run P w=.ok (valOf P t ((cs.drop off).take n)) w:=by
 unfold part;obtain⟨b,ah⟩:=Option.isSome_iff_exists.1 aO;simp only[Sem.run_bind,GB ah,ev,Sem.run_ite];cases b with
 |true=>
   simp only[eW,run_sizeOf aJ,ev,Sem.run_pure,valOf,ah]
   simp_all
 |false=>
   have:=bd ah;subst this;simp only[pD,hp,valOf,ah]
   have b8:off<cs.length:=by omega
   have aE:cs.toArray[off]?=some cs[off]:=by simp[b8]
   rw[aE];simp only[Sem.run_pure]
   congr 2
   have:(cs.drop off).take 1=[cs[off]]:=by
    rw[mF b8];rfl
   rw[this];rfl
def aOT:∀{cW fZ:List mW} {xs fw:List V} {b:Bool},kX (cW++fZ) xs fw=some b->
 ∃fe eI,kX cW (xs.take cW.length) (fw.take cW.length)=some fe/\kX fZ (xs.drop cW.length) (fw.drop cW.length)=some eI/\b=(fe&&eI):=by
 intro cW
 induction cW with
 |nil=>intro fZ xs fw b h;exact⟨true,b,by simp[kX],by simpa using h,by simp⟩
 |cons l cW aF=>
   intro fZ xs fw b h;cases xs with
   |nil=>simp[kX]at h
   |cons x xs=>
     cases fw with
     |nil=>simp[kX]at h
     |cons y fw=>
       simp only[du,kX]at h;split at h
       .rename_i a b' aO ah;simp at h;obtain⟨fe,eI,J,aa,aI⟩:=aF ah
        exact⟨a&&fe,eI,by simp[kX,aO,J],by simpa using aa,by grind⟩
       .simp at h
def SL:∀{l:List mW} {xs fw:List V} {b:Bool},kX l xs fw=some b->xs.length=l.length/\fw.length=l.length:=by
 intro l
 induction l with
 |nil=>intro xs fw b h;cases xs<;>cases fw<;>simp[kX]at h |-
 |cons l ls aF=>
   intro xs fw b h;cases xs with
   |nil=>simp[kX]at h
   |cons x xs=>
     cases fw with
     |nil=>simp[kX]at h
     |cons y fw=>
       simp only[kX]at h
       grind
def agv{t:TypeId}{fs:Array Field}(h:P.underlying t=some (.struct fs)):P.fieldsOf t=fs:=by
 simp[Program.fieldsOf,h]
def Qw{l:mW}{x y:V}{b:Bool}{c d:Value}(h:Lk l x y=some b)(af:bS μ ae w x c)(bC:bS μ ae w y d):
 (∃k p q,l=.int k/\c=.int k p/\d=.int k q/\b=(p==q))\/(∃p q,l=.bool/\c=.bool p/\d=.bool q/\b=(p==q))\/(∃p q:ByteArray,l=.str/\c=.string p/\d=.string q/\b=(p.toList==q.toList)):=by
 unfold Lk at h;split at h
 .rename_i k j p yN q;split at h
  .rename_i an;obtain⟨rfl,rfl⟩:=an;simp at h;rw[ei af,ei bC]
   simp_all
  .simp at h
 .rename_i p q;simp at h;rw[ei af,ei bC];simp_all
 .rename_i p q;simp only[<- ByteArray.toList_eq,jI]at h;rw[ei af,ei bC];simp_all
 .simp at h
def RS{t:TypeId}{l:mW}{ls:List mW}(qR:ls=[l]){xs fw:List V}{k9 lA:List Value}{b:Bool}(af:b6 μ ae w xs k9)(bC:b6 μ ae w fw lA)(h:kX ls xs fw=some b):
 ∃x y c d,xs=[x]/\fw=[y]/\k9=[c]/\lA=[d]/\bS μ ae w x c/\bS μ ae w y d/\Lk l x y=some b/\(na P t=some false->valOf P t k9=c/\valOf P t lA=d):=by
 subst qR;have aq:=SL h
 match xs,fw,k9,lA,aq,af,bC,h with
 | [x],[y],[c],[d],_,af,bC,h=>
   refine⟨x,y,c,d,rfl,rfl,rfl,rfl,af.2 0 x c rfl rfl,bC.2 0 y d rfl rfl,?_,fun aO=>by simp[valOf,aO]⟩
   simp only[kX]at h
   grind
 | [x],[y],[],_,_,af,_,_=>exact absurd af.1 (by simp)
 | [x],[y],_::_::_,_,_,af,_,_=>exact absurd af.1 (by simp)
 | [x],[y],_,[],_,_,bC,_=>exact absurd bC.1 (by simp)
 | [x],[y],_,_::_::_,_,_,bC,_=>exact absurd bC.1 (by simp)
mutual
def akj:∀(d:Nat) (t:TypeId) (ls:List mW) (m:Nat) (xs fw:List V) (k9 lA:List Value) (b:Bool),FT P d t=some ls->d<=m->
 b6 μ ae w xs k9->b6 μ ae w fw lA->kX ls xs fw=some b->(Op.equalIn m t (valOf P t k9) (valOf P t lA)).run P w=.ok b w/\(na P t).isSome=true/\(na P t=some false->ls.length=1):=by
 intro d t ls m xs fw k9 lA b aq hm af bC h;cases d with
 |zero=>simp[FT]at aq
 |succ d=>
   obtain⟨m,rfl⟩:∃k,m=k+1:=⟨m-1,by omega⟩
   simp only[FT]at aq;split at aq
   .rename_i k an;split at aq<;>simp at aq
    have aO:na P t=some false:=by simp[na,an]
    obtain⟨x,y,c,e,rfl,rfl,rfl,rfl,J,aa,aI,bl⟩:=RS (P:=P) (t:=t) aq.symm af bC h;rw[(bl aO).1,(bl aO).2]
    refine⟨?_,by simp[aO],fun _=>by rw[<- aq];rfl⟩
    rcases Qw aI J aa with⟨k,p,q,_,rfl,rfl,rfl⟩|⟨p,q,hh,_⟩|⟨p,q,hh,_⟩
    .exact run_equalIn_int w m t k _ p q an
    .cases hh
    .cases hh
   .rename_i an;split at aq<;>simp at aq
    have aO:na P t=some false:=by simp[na,an]
    obtain⟨x,y,c,e,rfl,rfl,rfl,rfl,J,aa,aI,bl⟩:=RS (P:=P) (t:=t) aq.symm af bC h;rw[(bl aO).1,(bl aO).2]
    refine⟨?_,by simp[aO],fun _=>by rw[<- aq];rfl⟩
    rcases Qw aI J aa with⟨k,p,q,hh,_⟩|⟨p,q,_,rfl,rfl,rfl⟩|⟨p,q,hh,_⟩
    .cases hh
    .exact run_equalIn_bool' w m t p q an
    .cases hh
   .rename_i an;split at aq<;>simp at aq
    have aO:na P t=some false:=by simp[na,an]
    obtain⟨x,y,c,e,rfl,rfl,rfl,rfl,J,aa,aI,bl⟩:=RS (P:=P) (t:=t) aq.symm af bC h;rw[(bl aO).1,(bl aO).2]
    refine⟨?_,by simp[aO],fun _=>by rw[<- aq];rfl⟩
    rcases Qw aI J aa with⟨k,p,q,hh,_⟩|⟨p,q,hh,_⟩|⟨p,q,_,rfl,rfl,rfl⟩
    .cases hh
    .cases hh
    .exact run_equalIn_string w m t p q an
   .rename_i fs an;split at aq
    .simp at aq
    .rename_i ig
     have aO:na P t=some true:=by simp[na,an]
     refine⟨?_,by simp[aO],fun h=>by simp[aO]at h⟩
     simp only[valOf,aO]
     have Sf:P.stoodInHeld t=false:=by simpa using ig
     rw[run_equalIn_struct (P:=P) w m t k9.toArray lA.toArray (by rw[agv an];exact an) Sf,agv an]
     exact at6 d 0 fs.toList ls m k9 lA xs fw b aq (by omega) (by simpa using af) (by simpa using bC) h
   .simp at aq
def at6:∀(d off:Nat) (fs:List Field) (ls:List mW) (m:Nat) (k9 lA:List Value) (xs fw:List V) (b:Bool),G0 P d off fs=some ls->d<=m->
 b6 μ ae w xs (k9.drop off)->b6 μ ae w fw (lA.drop off)->kX ls xs fw=some b->(Op.eqFields m k9.toArray lA.toArray fs).run P w=.ok b w:=by
 intro d off fs ls m k9 lA xs fw b aq hm af bC h;cases d with
 |zero=>simp[G0]at aq
 |succ d=>
   cases fs with
   |nil=>
     simp[G0]at aq;subst aq;have:=SL h
     match xs,fw,this,h with
     | [],[],_,h=>simp[kX]at h;subst h;rfl
   |cons f fs=>
     simp only[G0]at aq;split at aq
     .rename_i ab;obtain⟨SK,aMq⟩:=ab;split at aq
      .rename_i cW n J aa;split at aq
       .rename_i uK;split at aq
        .rename_i rest aKR;simp at aq;subst aq;obtain⟨fe,eI,aE,aU,rfl⟩:=aOT h;have dn:=SL h;simp only[c0]at dn
         have wi:off+n<=k9.length\/n=0:=by
          have:=af.1;simp at this;omega
         have oy:=af.1;have N3:=bC.1;simp only[lm]at oy N3
         obtain⟨bP,ca,dw⟩:=akj d f.type cW m (xs.take cW.length) (fw.take cW.length) ((k9.drop off).take n) ((lA.drop off).take n) fe J (by omega) (by rw[uK];exact af.take n) (by rw[uK];exact bC.take n) aE
         have e':=at6 d (off+n) fs rest m k9 lA (xs.drop cW.length) (fw.drop cW.length) eI aKR (by omega) (by rw[uK,<- Df];exact af.drop n) (by rw[uK,<- Df];exact bC.drop n) aU
         simp only[Op.eqFields];rw[bE aMq];by_cases bK:off+n<=k9.length/\off+n<=lA.length
         .have cn:=avP (P:=P) (w:=w) (cs:=k9) aa ca bK.1 (fun bd=>by simp_all)
          have dP:=avP (P:=P) (w:=w) (cs:=lA) aa ca bK.2 (fun bd=>by simp_all)
          simp only[Sem.run_bind,SK,cn,dP,ev,bP];cases fe
          .simp
          .simpa using e'
         .
          have uO:n=0:=by omega
          subst uO
          have aip:na P f.type=some true:=by
           obtain⟨mj,px⟩:=Option.isSome_iff_exists.1 ca;cases mj
           .grind
           .exact px
          have pp:∀cs:List Value,(part f.type cs.toArray f.offset).run P w=.ok (valOf P f.type []) w:=by
           intro cs;simp only[part,Sem.run_bind,GB aip,ev,eW,run_sizeOf aa,Sem.run_pure,valOf,aip]
           congr 2
           apply tf;simp
          simp only[Sem.run_bind,pp,ev];simp only[dj]at bP;simp only[bP,ev];cases fe
          .simp
          .simpa using e'
        .simp at aq
       .simp at aq
      .simp at aq
     .simp at aq
end
def aPp{t:TypeId}{X Y:Operand}{neg b:Bool}{op:BinOp}{ls:List mW}{xs fw:List V}{k9 lA:Array Value}{fs:Array Field}(aX:o0 op=some neg)(aY:P.underlying t=some (.struct fs))(a8:P.eqGuardType P.depth t=false)(aq:FT P 12 t=some ls)(af:b6 μ ae w xs k9.toList)(bC:b6 μ ae w fw lA.toList)(h:kX ls xs fw=some b):
 ((do pure (.value (<- (do eqGuard op t X Y (.agg k9) (.agg lA);binOp op t (.agg k9) (.agg lA)))):Sem Next).run P w)=.ok (.value (.bool (b != neg))) w:=by
 have he:=(akj 12 t ls 10000 xs fw k9.toList lA.toList b aq (by omega) af bC h).1
 have aO:na P t=some true:=by simp[na,aY]
 simp only[valOf,aO,Cb]at he;simp only[Sem.run_bind,run_eqGuard_agg w op t X Y k9 lA a8,ev];cases op<;>simp[o0]at aX<;>subst aX
 .rw[run_eql_struct,he];simp
 .rw[run_neq_struct,he];simp
end
open Go.RowKit
section
variable {aK:eX} {μ cf:cp} {ae b9:Nat->Prop} {w w':World} {H H':ad} {P:Program}
def RR{t:TypeId}{k:TypeDesc}(h:AL P t=some k):P.underlying t=some k:=by
 unfold AL at h
 grind
def N'{k:TypeDesc}{v:Value}(h:n1 k v=true):(∃q n,k=.int q/\v=.int q n)\/(∃s,k=.string/\v=.string s)\/(∃b,k=.bool/\v=.bool b):=by
 unfold n1 at h
 grind
theorem run_checkKey{e:Bool}(d:Nat){t:TypeId}{k:TypeDesc}{v:Value}(aY:P.underlying t=some k)(an:n1 k v=true):(Instr.checkKey e (d+1) t v).run P w=.ok () w:=by
 rcases N' an with⟨q,n,rfl,rfl⟩|⟨s,rfl,rfl⟩|⟨b,rfl,rfl⟩ <;>
  simp only[Instr.checkKey,Sem.run_bind,run_underlying aY,ev]<;>rfl
def EW(μ:cp)(ae:Nat->Prop)(w:World)(es:List (Value × V))(l:List MapEntry):Prop:=
 es.length=l.length/\∀(i:Nat) (k:Value) (v:V) (e:MapEntry),es[i]?=some (k,v)->l[i]?=some e->e.key=k/\bS μ ae w v e.val
def HH{kind:TypeDesc}{key:Value}:∀{es:List (Value × V)} {l:List MapEntry} (i:Nat) {r:Option (Nat × V)},EW μ ae w es l->oC kind key es i=some r->
 (r=none->Instr.findNow kind key l i=some none)/\
 (∀j v,r=some (j,v)->i<=j/\∃e ia,Instr.findNow kind key l i=some (some (j,e.val))/\l[j-i]?=some e/\es[j-i]?=some (ia,v)/\Instr.sameNow kind key ia=some true/\bS μ ae w v e.val):=by
 intro es
 induction es with
 |nil=>
   intro l i r h al
   have:l=[]:=lX (by simpa using h.1.symm)
   subst this;simp[oC]at al;subst al
   exact⟨fun _=>rfl,fun j v h=>by simp at h⟩
 |cons e es aF=>
   intro l i r h al;obtain⟨k,v⟩:=e;cases l with
   |nil=>exact absurd h.1 (by simp)
   |cons x l=>
     have af:=h.2 0 k v x rfl rfl
     have aY:EW μ ae w es l:=⟨by simpa using h.1,fun i k v e J aa=>h.2 (i+1) k v e (by simpa using J) (by simpa using aa)⟩
     simp only[oC]at al;split at al
     .rename_i ai;simp at al;subst al
      refine⟨fun h=>by simp at h,fun j u hu=>?_⟩
      simp at hu;obtain⟨rfl,rfl⟩:=hu
      refine⟨cq _,x,k,?_,by simp,by simp,ai,af.2⟩
      simp[Instr.findNow,af.1,ai]
     .rename_i ai;obtain⟨J,aa⟩:=aF (i+1) aY al;refine⟨fun h=>?_,fun j u hu=>?_⟩
      .simp[Instr.findNow,af.1,ai,J h]
      .obtain⟨nO,e,ia,aE,aU,cd,fG,l6⟩:=aa j u hu
       refine⟨by omega,e,ia,by simp[Instr.findNow,af.1,ai,aE],?_,?_,fG,l6⟩
       .grind
       grind
     .simp at al
def cE.PZ(h:cE aK μ ae w H){id B:Nat}{es:List (Value × V)}(bm:H[id]?=some (.map es))(hm:μ id 0=some (B,0)):
 ∃arr lj,w.heap[B]?=some (.map arr lj)/\EW μ ae w es arr.toList:=by
 obtain⟨o,aX,ak⟩:=h.kY id _ 0 B 0 bm rfl hm
 cases o<;>first|exact ak.elim|skip
 rename_i arr lj;obtain⟨_,J,aa⟩:=ak
 exact⟨arr,lj,aX,by grind,fun i k v e a b=>aa i k v e a (by simpa using b)⟩
def cE.stamped(h:cE aK μ ae w H){id B:Nat}{es:List (Value × V)}(bm:H[id]?=some (.map es))(hm:μ id 0=some (B,0)){arr:Array MapEntry}{lj:Nat}(aD:w.heap[B]?=some (.map arr lj)):MapKept.Stamped arr lj:=by
 obtain⟨o,aX,ak⟩:=h.kY id _ 0 B 0 bm rfl hm;rw[aD]at aX;cases aX;exact ak.1.2
def toList_inj{a b:ByteArray}(h:a.toList=b.toList):a=b:=by
 have aa:(a==b)=true:=by rw[beq_toListBytes];simp[h]
 have aI:(a.data==b.data)=true:=aa;exact ByteArray.ext (eq_of_beq aI)
theorem aU1{kind:TypeDesc}{a b:Value}(an:n1 kind a=true)(h:Instr.sameNow kind a b=some true):b=a:=by
 rcases N' an with⟨q,n,rfl,rfl⟩|⟨s,rfl,rfl⟩|⟨x,rfl,rfl⟩
 .cases b<;>simp[Instr.sameNow]at h
  simp_all
 .cases b<;>simp[Instr.sameNow]at h;rw[beq_toListBytes]at h;simp at h;rw[toList_inj h]
 .cases b<;>simp[Instr.sameNow]at h;subst h;rfl
def aHb{kind:TypeDesc}{a:Value}(an:n1 kind a=true):Instr.sameNow kind a a=some true:=by
 rcases N' an with⟨q,n,rfl,rfl⟩|⟨s,rfl,rfl⟩|⟨x,rfl,rfl⟩
 .simp[Instr.sameNow]
 .simp[Instr.sameNow,beq_toListBytes]
 .simp[Instr.sameNow]
def aE8{kind:TypeDesc}{key:Value}(an:n1 kind key=true):∀{es:List (Value × V)} (i:Nat),oC kind key es i=some none->∀p∈es,p.1≠key:=by
 intro es
 induction es with
 |nil=>simp_all
 |cons e es aF=>
   intro i al p ay;obtain⟨ia,v⟩:=e;simp only[oC]at al;split at al
   .cases al
   .rename_i ai
    rcases nj.1 ay with rfl|ay
    .intro e;simp only at e;subst e;rw[aHb an]at ai;cases ai
    grind
   .cases al
def EW.key{es:List (Value × V)}{l:List MapEntry}(h:EW μ ae w es l){e:MapEntry}(he:e∈l):∃v,(e.key,v)∈es:=by
 obtain⟨i,hi,rfl⟩:=zU he;have aq:=h.1
 have wD:es[i]?=some es[i]:=eP (by omega)
 have:=h.2 i es[i].1 es[i].2 l[i] wD (eP hi)
 grind
def run_getObj_map{B:Nat}{arr:Array MapEntry}{lj:Nat}(h:w.heap[B]?=some (.map arr lj)):(getObj B).run P w=.ok (.map arr lj) w:=by
 simp[getObj,Sem.run,h]
def run_setObj_map{B:Nat}{arr:Array MapEntry}{lj:Nat}(o:Obj)(h:w.heap[B]?=some (.map arr lj)):(setObj B o).run P w=.ok () { w with heap:=w.heap.setIfInBounds B o }:=by
 simp[setObj,Sem.run,h]
def run_findKey{t:TypeId}{k:TypeDesc}{key:Value}{es:List MapEntry}{r:Option (Nat × Value)}(aY:P.underlying t=some k)(h:Instr.findNow k key es 0=some r):
 (Instr.findKey t key es).run P w=.ok r w:=by
 simp[Instr.findKey,run_underlying aY,h]
def aOZ(h:cE aK μ ae w H){t og e:TypeId}{kind:TypeDesc}{zero x v:V}{c key:Value}{ok:Bool}(aY:P.underlying t=some (.map og e))(an:AL P og=some kind)(bK:nX P e=some zero)(af:bS μ ae w x c)(rY:n1 kind key=true)(aj:(match(generalizing:=false) x with
  |.s (.map none)=>some (if ok then V.bQ [zero,ar false]else zero,H)
  |.mp id=>match H[id]? with
    |some (.map es)=>match oC kind key es 0 with
      |some (some (_,v))=>some (if ok then V.bQ [v,ar true]else v,H)
      |some none=>some (if ok then V.bQ [zero,ar false]else zero,H)
      |none=>none
    |_=>none
  |_=>none)=some (v,H')):
 df aK μ ae w H ((do pure (.value (<- Instr.lookup t c key ok)):Sem Next).run P w) v H':=by
 obtain⟨eD,eO,z2,_⟩:=Ah (w:=w) bK;have Ct:bS μ ae w zero eD:=AD z2;have s5:=RR an
 have pack:∀(u:V) (d:Value) (b:Bool),bS μ ae w u d->bS μ ae w (if ok then V.bQ [u,ar b]else u) (if ok then .tuple #[d,.bool b]else d):=by
  intro u d b hu;cases ok
  .exact hu
  .exact az8 (vs:=[d,.bool b]) (hu.cons (bS.cons (.s _) b6.nil))
 split at aj
 .simp at aj;obtain⟨rfl,rfl⟩:=aj;have:=ei af;subst this;refine df.still h (pack _ eD false Ct) ?_;have yf:=run_checkKey (P:=P) (w:=w) (e:=true) 9999 s5 rY
  have tL:(Instr.findKey og key []).run P w=.ok none w:=run_findKey s5 (by simp[Instr.findNow])
  simp only[Instr.lookup,Sem.run_bind,run_underlying aY,ev,Sem.run_pure,Array.isEmpty_empty,yf,tL,eO]
 .rename_i id;obtain⟨B,hm,rfl⟩:=OG af;split at aj
  .rename_i es bm;obtain⟨arr,lj,aD,cP⟩:=h.PZ bm hm;have yf:=fun b=>run_checkKey (P:=P) (w:=w) (e:=b) 9999 s5 rY;split at aj
   .rename_i j u al;simp at aj;obtain⟨rfl,rfl⟩:=aj;obtain⟨_,aa⟩:=HH 0 cP al;obtain⟨_,dT,ia,f1,f2,f3,f4,f5⟩:=aa j u rfl;refine df.still h (pack u dT.val true f5) ?_;have tL:=run_findKey (P:=P) (w:=w) s5 f1;simp only[Instr.lookup,Sem.run_bind,run_underlying aY,ev,run_getObj_map aD,Sem.run_pure,yf,tL]
   .rename_i al;simp at aj;obtain⟨rfl,rfl⟩:=aj;obtain⟨J,_⟩:=HH 0 cP al;refine df.still h (pack _ eD false Ct) ?_;have tL:=run_findKey (P:=P) (w:=w) s5 (J rfl);simp only[Instr.lookup,Sem.run_bind,run_underlying aY,ev,run_getObj_map aD,Sem.run_pure,yf,tL,eO]
   .simp at aj
  .simp at aj
 .simp at aj
def aAd{kind:TypeDesc}{a b:Value}(an:n1 kind a=true)(h:Instr.sameNow kind a b=some true):Instr.sameBits 10000 b a=true:=by
 rcases N' an with⟨q,n,rfl,rfl⟩|⟨s,rfl,rfl⟩|⟨x,rfl,rfl⟩
 .cases b<;>simp[Instr.sameNow]at h;obtain⟨rfl,h⟩:=h;subst h;simp[Instr.sameBits]
 .cases b<;>simp[Instr.sameNow]at h;rw[beq_toListBytes]at h;simp only[Instr.sameBits];rw[beq_toListBytes]
  grind
 .cases b<;>simp[Instr.sameNow]at h;subst h;simp[Instr.sameBits]
def Ot(h:cE aK μ ae w H){id B:Nat}{es es':List (Value × V)}{arr eK:Array MapEntry}{lj clock':Nat}(bm:H[id]?=some (.map es))(hm:μ id 0=some (B,0))(aD:w.heap[B]?=some (.map arr lj))(cP:EW μ ae w es' eK.toList)(ig:MapKept.Stamped eK clock'):
 c8 aK μ ae w H (my μ id 0 (B,0)) ae { w with heap:=w.heap.setIfInBounds B (.map eK clock') } (H.set id (.map es')):=by
 refine GD h (o':=.map eK clock') 0 0 bm rfl hm aD (by simp) (by simp) (.inl ⟨rfl,rfl⟩) (fun j bz=>bz) (fun _ _ e=>by cases e) rfl rfl rfl rfl ?_ ?_
 .intro e he;have he:e∈es':=he;obtain⟨i,hi,rfl⟩:=zU he;have aq:=cP.1
  exact(cP.2 i es'[i].1 es'[i].2 _ (eP hi) (eP (by omega))).2.q0 h.hz
 intro _ cf b9 gD cS
 refine⟨⟨rfl,ig⟩,by simpa using cP.1.symm,fun i k v e J aa=>?_⟩
 have:=cP.2 i k v e J (by simpa using aa)
 refine⟨this.1,this.2.mono gD (fun K bk hm=>(cS K bk).1 hm) (fun K _ aJ=>heap_set (w':={ w with heap:=w.heap.setIfInBounds B (.map eK clock') }) rfl (fun e=>aJ (e▸(h.gF _ _ _ _ hm).1))) ?_⟩
 grind
def asb(h:cE aK μ ae w H){t og e:TypeId}{kind:TypeDesc}{y v:V}{c key d:Value}(aY:P.underlying t=some (.map og e))(an:AL P og=some kind){id:Nat}(af:bS μ ae w (.mp id) c)(bC:bS μ ae w y d)(rY:n1 kind key=true){es:List (Value × V)}(bm:H[id]?=some (.map es))(aj:(match oC kind key es 0 with
      |some (some (i,_))=>some (bF,H.set id (.map (es.set i (key,y))))
      |some none=>some (bF,H.set id (.map (es++[(key,y)])))
      |none=>none)=some (v,H')):
 df aK μ ae w H ((do Instr.mapUpdate t c key d;pure .skip:Sem Next).run P w) v H':=by
 obtain⟨B,hm,rfl⟩:=OG af;obtain⟨arr,lj,aD,cP⟩:=h.PZ bm hm;have s5:=RR an;have yf:=run_checkKey (P:=P) (w:=w) (e:=false) 9999 s5 rY;split at aj
 .rename_i j u al;simp at aj;obtain⟨rfl,rfl⟩:=aj;obtain⟨_,aa⟩:=HH 0 cP al;obtain⟨_,dT,ia,f1,f2,f3,f4,f5⟩:=aa j u rfl;simp only[Nat.sub_zero]at f2 f3;have tL:=run_findKey (P:=P) (w:=w) s5 f1
  have sZ:j<arr.size:=by have:=(dQ.1 f2).1;simpa using this
  have r9:arr[j]?=some dT:=by simpa using f2
  have ZY:dT.key=ia:=(cP.2 j ia u dT f3 f2).1
  have aU3:Instr.sameBits 10000 dT.key key=true:=by rw[ZY];exact aAd rY f4
  have Jy:(Instr.keyThatStays dT.key key).run P w=.ok key w:=by simp[Instr.keyThatStays,aU3]
  refine⟨Go.undef,{ w with heap:=w.heap.setIfInBounds B (.map (arr.modify j fun e=>{ e with key:=key,val:=d }) lj) },_,_,.inr ⟨?_,rfl⟩,.s _,Ot h (es':=es.set j (key,y)) bm hm aD ?_ (MapKept.stamped_modify (h.stamped bm hm aD) j _ (fun _ _=>rfl) fun e _ he=>by rw[r9]at he;cases he;rw[ZY];exact(aU1 rY f4).symm)⟩
  .simp only[Instr.mapUpdate,Sem.run_bind,run_underlying aY,ev,run_getObj_map aD,yf,tL,r9,o7,MR,Jy,run_setObj_map _ aD,Sem.run_pure]
  .refine⟨by simpa using cP.1,fun i k v e J aa=>?_⟩
   by_cases Iz:j=i
   .grind
   .rw[cG Iz]at J;simp[Iz]at aa
    exact cP.2 i k v e J (by simpa using aa)
 .rename_i al;simp at aj;obtain⟨rfl,rfl⟩:=aj;obtain⟨J,_⟩:=HH 0 cP al;have tL:=run_findKey (P:=P) (w:=w) s5 (J rfl)
  refine⟨Go.undef,{ w with heap:=w.heap.setIfInBounds B (.map (arr.push { key,val:=d,born:=lj }) (lj+1)) },_,_,.inr ⟨?_,rfl⟩,.s _,Ot h (es':=es++[(key,y)]) bm hm aD ?_ (MapKept.stamped_push (h.stamped bm hm aD) fun x af e=>by obtain⟨v,av⟩:=cP.key af;exact aE8 rY 0 al _ av e)⟩
  .simp only[Instr.mapUpdate,Sem.run_bind,run_underlying aY,ev,run_getObj_map aD,yf,tL,run_setObj_map _ aD,Sem.run_pure]
  .have aq:=cP.1
   refine⟨by simpa using aq,fun i k v e J aa=>?_⟩
   by_cases hi:i<es.length
   .rw[bi hi]at J
    rw[Array.toList_push,bi (by omega)]at aa
    exact cP.2 i k v e J aa
   grind
 .simp at aj
def aPW(h:cE aK μ ae w H){t og e:TypeId}{ao:Array TypeId}{ty:TypeId}{kind:TypeDesc}{v:V}{c key:Value}(tQ:ao[0]?=some t)(aY:P.underlying t=some (.map og e))(an:AL P og=some kind){id:Nat}(af:bS μ ae w (.mp id) c)(rY:n1 kind key=true){es:List (Value × V)}(bm:H[id]?=some (.map es))(aj:(match oC kind key es 0 with
      |some (some (i,_))=>some (bF,H.set id (.map (es.eraseIdx i)))
      |some none=>some (bF,H)
      |none=>none)=some (v,H')):
 df aK μ ae w H ((do pure (.value (<- Builtin.delete_ ao ty #[c,key])):Sem Next).run P w) v H':=by
 obtain⟨B,hm,rfl⟩:=OG af;obtain⟨arr,lj,aD,cP⟩:=h.PZ bm hm;have s5:=RR an;have yf:=fun b=>run_checkKey (P:=P) (w:=w) (e:=b) 9999 s5 rY;split at aj
 .rename_i j u al;simp at aj;obtain⟨rfl,rfl⟩:=aj;obtain⟨_,aa⟩:=HH 0 cP al;obtain⟨_,dT,ia,f1,f2,f3,f4,f5⟩:=aa j u rfl;simp only[Nat.sub_zero]at f2 f3;have tL:=run_findKey (P:=P) (w:=w) s5 f1;refine⟨.tuple #[],{ w with heap:=w.heap.setIfInBounds B (.map (arr.eraseIdxIfInBounds j) lj) },_,_,.inl ?_,.s _,Ot h (es':=es.eraseIdx j) bm hm aD ?_ (MapKept.stamped_erase (h.stamped bm hm aD) j)⟩
  .simp only[Builtin.delete_,tQ,Sem.run_bind,run_underlying aY,ev,run_getObj_map aD,yf,tL,run_setObj_map _ aD,Sem.run_pure,Hr,EG,ze]
  .have sZ:j<arr.size:=by have:=(dQ.1 f2).1;simpa using this
   have aMr:(arr.eraseIdxIfInBounds j).toList=arr.toList.eraseIdx j:=by simp
   rw[aMr]
   refine⟨by rw[atp,atp,cP.1],fun i k v e J aa=>?_⟩
   rw[List.getElem?_eraseIdx]at J aa;split at J
   .rename_i hi;rw[bE hi]at aa;exact cP.2 i k v e J aa
   .rename_i hi;rw[bV hi]at aa;exact cP.2 (i+1) k v e J aa
 .rename_i al;simp at aj;obtain⟨rfl,rfl⟩:=aj;obtain⟨J,_⟩:=HH 0 cP al;have tL:=run_findKey (P:=P) (w:=w) s5 (J rfl);have ay:=Ot (aK:=aK) h (clock':=lj) bm hm aD cP (h.stamped bm hm aD)
  have kv:H.set id (.map es)=H:=by
   apply yb;intro i;by_cases hi:id=i
   .subst hi;rw[w8 (dQ.1 bm).1,bm]
   .rw[cG hi]
  rw[kv]at ay;refine⟨.tuple #[],{ w with heap:=w.heap.setIfInBounds B (.map arr lj) },_,_,.inl ?_,.s _,ay⟩;simp only[Builtin.delete_,tQ,Sem.run_bind,run_underlying aY,ev,run_getObj_map aD,yf,tL,run_setObj_map _ aD,Sem.run_pure,Hr,EG,ze]
 .simp at aj
def aoy(t:TypeId):w7 aK μ ae w ((do pure (.value (<- Instr.makeMap t none)):Sem Next).run P w) (fun id=>.mp id) (.map []):=by
 refine⟨.map (some w.heap.size),.map #[] 0,?_,⟨⟨rfl,MapKept.stamped_empty 0⟩,rfl,fun i k v e h=>by simp at h⟩,fun id cf b9 hm=>.mp _ _ hm⟩
 simp[Instr.makeMap]
def aGG(h:cE aK μ ae w H)(t:TypeId):df aK μ ae w H ((do pure (.value (<- Instr.makeMap t none)):Sem Next).run P w) (.mp H.length) (H++[.map []]):=(aoy t).op h
end
open Go.RowKit
section
variable {aK:eX} {μ cf:cp} {ae b9:Nat->Prop} {w w':World} {H H':ad} {P:Program}
def aJH(h:cE aK μ ae w H){t:TypeId}{fs:Array Field}{f n:Nat}{fd:Field}{x v:V}{c:Value}(aY:P.underlying t=some (.struct fs))(al:fs[f]?=some fd)(aJ:gq P fd.type=some n)(bd:n≠0)(af:bS μ ae w x c)(aj:(match(generalizing:=false) x with
  |.ref id g o=>some (V.ref id g (o+fd.offset),H)
  |.eu cs=>if fd.offset<=cs.length then some (V.eu (cs.drop fd.offset),H)else none
  |_=>none)=some (v,H')):
 df aK μ ae w H ((do pure (.value (<- Instr.fieldAt t c f)):Sem Next).run P w) v H':=by
 have fv:∀a:Addr,((do pure (.value (<- Instr.fieldAt t (.pointer (some a)) f)):Sem Next).run P w)=.ok (.value (.pointer (some (a.add fd.offset)))) w:=by
  intro a;simp only[Instr.fieldAt,Sem.run_bind,run_underlying aY,ev,al,Instr.sureAddr,Sem.run_pure,fieldPlace,run_sizeOf aJ,Sem.run_ite,bV bd]
 split at aj
 .rename_i id g o;simp at aj;obtain⟨rfl,rfl⟩:=aj;obtain⟨B,b,hm,rfl⟩:=H0 af;refine df.still h ?_ (fv _);rw[w5,qs];exact .ref id g _ B b hm
 .rename_i cs;split at aj
  .rename_i nO;simp at aj;obtain⟨rfl,rfl⟩:=aj;cases af with
   |eu _ B o arr e fr aD cS ai av=>
     refine df.still h ?_ (fv _);rw[w5]
     refine .eu _ B _ arr e fr aD cS (by simp;omega) (fun i a b aO ah=>?_)
     grind
  .simp at aj
 .simp at aj
def aCb(h:cE aK μ ae w H){t:TypeId}{fs:Array Field}{f n:Nat}{agg:Bool}{fd:Field}{cs:List V}{v:V}{c:Value}(aY:P.underlying t=some (.struct fs))(al:fs[f]?=some fd)(ai:wa P fd.type=some (agg,n))(af:bS μ ae w (.agg cs) c)(aq:((cs.drop fd.offset).take n).length=n)(av:shut agg ((cs.drop fd.offset).take n)=some v):
 df aK μ ae w H ((do pure (.value (<- Instr.field t c f)):Sem Next).run P w) v H:=by
 obtain⟨vs,rfl,db⟩:=Xd af;obtain⟨J,aa,aI⟩:=TW ai
 have dn:fd.offset+n<=vs.toList.length\/n=0:=by
  have:=db.1;simp at aq this;simp;omega
 cases agg with
 |true=>
   simp[shut]at av;subst av;refine df.still h (Kd ((db.drop _).take n)) ?_;simp only[Instr.field,Sem.run_bind,run_underlying aY,ev,al,asAgg,Sem.run_pure,part,GB J,eW,run_sizeOf aa]
   congr 3
   grind
 |false=>
   have aJ:=aI rfl;subst aJ;have an:=(db.drop fd.offset).take 1;revert an av aq;generalize gU:(cs.drop fd.offset).take 1=A;intro aq av an
   match A,aq,av with
   | [x],_,av=>
     simp[shut]at av;subst av;obtain⟨b,ah,aGT⟩:=an.get (i:=0) (a:=x) rfl;refine df.still h aGT ?_
     have kj:vs[fd.offset]?=some b:=by
      rw[mr (by omega),qP]at ah
      simpa using ah
     simp only[Instr.field,Sem.run_bind,run_underlying aY,ev,al,asAgg,Sem.run_pure,part,GB J,pD,hp,kj]
def ahj{t e:TypeId}{sz len cap:Nat}{k:IntKind}{n:Int}{a:Addr}(aY:P.underlying t=some (.slice e))(ai:gq P e=some sz)(bd:0<=n)(J:n<len):
 ((do pure (.value (<- Instr.indexAt t (.slice (some a) len cap) (.int k n))):Sem Next).run P w)=.ok (.value (.pointer (some (a.add (n.toNat*sz))))) w:=by
 simp only[Instr.indexAt,asIntOf,Sem.run_bind,Sem.run_pure,ev,run_underlying aY,Sem.run_ite];rw[bE ⟨bd,J⟩];simp only[run_sizeOf ai,ev]
def aaA(h:cE aK μ ae w H){t e:TypeId}{sz:Nat}{x v:V}{c:Value}{k:IntKind}{n:Int}(aY:P.underlying t=some (.slice e))(ai:gq P e=some sz)(af:bS μ ae w x c)(aj:(match(generalizing:=false) x with
  |.aZ id g off len dC=>if 0<=n/\n<len/\dC=sz then some (V.ref id g (off+n.toNat*sz),H)else none
  |.dc es dC=>if 0<=n/\dC=sz then match es[n.toNat]? with
    |some e=>some (V.eu e,H)
    |none=>none
  else none
  |_=>none)=some (v,H')):
 df aK μ ae w H ((do pure (.value (<- Instr.indexAt t c (.int k n))):Sem Next).run P w) v H':=by
 split at aj
 .rename_i id g off len dC;split at aj
  .rename_i ab;obtain⟨bd,J,rfl⟩:=ab;simp at aj;obtain⟨rfl,rfl⟩:=aj;cases af with
   |aZ _ _ _ _ _ B b cap arr bN hm aD lZ dk=>
     refine df.still h ?_ (ahj aY ai bd J);rw[w5,qs];exact .ref id g _ B b hm
   |jw=>omega
  .simp at aj
 .rename_i es dC;split at aj
  .rename_i ab;obtain⟨bd,rfl⟩:=ab;split at aj
   .rename_i el kg;simp at aj;obtain⟨rfl,rfl⟩:=aj;have b8:n.toNat<es.length:=(dQ.1 kg).1;cases af with
    |dc _ _ B o cap arr bN fr aD cS lZ bK dk av=>
      refine df.still h ?_ (ahj aY ai bd (by omega))
      rw[w5];have lq:=bK _ _ kg
      have hmul:n.toNat*dC+dC<=es.length*dC:=by
       have:(n.toNat+1)*dC<=es.length*dC:=rk _ b8
       grind
      exact .eu el B _ arr bN fr aD cS (by omega) (fun i a b aO ah=>av _ el i a b kg aO ah)
    |iy=>simp at b8
   .simp at aj
  .simp at aj
 .simp at aj
def aRT{s:ByteArray}{n:Nat}{c:UInt8}(h:s.data.toList[n]?=some c):s[n]?=some c:=by
 have aq:n<s.size:=by have:=(dQ.1 h).1;simpa using this
 rw[getElem?_pos s n aq]
 have:s.data.toList[n]?=some s.data[n]:=by simp
 rw[this]at h;exact h
def aTR{t:TypeId}{s:ByteArray}{k:IntKind}{n:Int}{c:UInt8}(aY:P.underlying t=some .string)(bd:0<=n)(ab:s.data.toList[n.toNat]?=some c):
 ((do pure (.value (<- Instr.index t (.string s) (.int k n))):Sem Next).run P w)=.ok (.value (.int .u8 c.toNat)) w:=by
 simp only[Instr.index,asIntOf,Sem.run_bind,Sem.run_pure,ev,run_underlying aY,bE bd,aRT ab]
def oa(o:Option Value)(d l:Int):Prop:=(o=none/\l=d)\/∃k,o=some (.int k l)
def CA{s:Bool}{len cap:Nat}{cN hi:Option Value}{l h:Int}(aq:oa cN 0 l)(hh:oa hi len h)(bd:0<=l)(J:l<=h)(aa:h<=len)(aI:len<=cap):
 (Instr.sliceBounds s len cap cN hi none).run P w=.ok (l.toNat,h.toNat,cap) w:=by
 have ah:∀(k:IntKind) (i:Int) (y:Nat) (code:BoundsCode),0<=i->i<=y->(Instr.sliceBound (.int k i) y code).run P w=.ok i.toNat w:=fun k i y code a b=>run_sliceBound w k i y code a b
 rcases hh with⟨rfl,rfl⟩|⟨auk,rfl⟩<;>rcases aq with⟨rfl,rfl⟩|⟨TQ,rfl⟩
 .simp[Instr.sliceBounds]
 .simp only[Instr.sliceBounds,Sem.run_bind,Sem.run_pure,ev,ah TQ l len _ bd J];simp
 .simp only[Instr.sliceBounds,Sem.run_bind,Sem.run_pure,ev,ah auk h cap _ (by omega) (by omega)];simp
 .simp only[Instr.sliceBounds,Sem.run_bind,Sem.run_pure,ev,ah auk h cap _ (by omega) (by omega),ah TQ l h.toNat _ bd (by omega)]
def aJE{len cap:Nat}{cN:Option Value}{k1 k2:IntKind}(aq:oa cN 0 0):
 (Instr.sliceBounds true len cap cN (some (.int k1 0)) (some (.int k2 0))).run P w=.ok (0,0,0) w:=by
 have ah:∀(k:IntKind) (y:Nat) (code:BoundsCode),(Instr.sliceBound (.int k 0) y code).run P w=.ok 0 w:=fun k y code=>by
  have:=run_sliceBound (P:=P) w k 0 y code (by omega) (by omega);simpa using this
 rcases aq with⟨rfl,_⟩|⟨TQ,rfl⟩<;>simp only[Instr.sliceBounds,Sem.run_bind,Sem.run_pure,ev,ah]
def Eu{t e:TypeId}{sz len cap:Nat}{a:Option Addr}{cN hi gJ:Option Value}{l h m:Nat}(aY:P.underlying t=some (.slice e))(ai:gq P e=some sz)(ah:(Instr.sliceBounds true len cap cN hi gJ).run P w=.ok (l,h,m) w):
 ((do pure (.value (<- Instr.sliceAt t (.slice a len cap) cN hi gJ)):Sem Next).run P w)=.ok (.value (.slice (if m=l then a else a.map (·.add (l*sz))) (h-l) (m-l))) w:=by
 simp only[Instr.sliceAt,Sem.run_bind,run_underlying aY,ev,Instr.slice,ah,run_sizeOf ai,Sem.run_pure]
def aSl(h:cE aK μ ae w H){t e:TypeId}{sz:Nat}{x v:V}{c:Value}{cN hi:Option Value}{l hh:Int}(aY:P.underlying t=some (.slice e))(ai:gq P e=some sz)(af:bS μ ae w x c)(aq:oa cN 0 l)[∀d:Int,Decidable (oa hi d hh)](aj:(match(generalizing:=false) x with
  |.s (.slice none 0 0)=>if oa hi 0 hh/\l=0/\hh=0 then some cm else none
  |.c6=>if oa hi 0 hh/\l=0/\hh=0 then some .c6 else none
  |.dc es dC=>if oa hi es.length hh/\0<=l/\l<=hh/\hh<=es.length/\dC=sz then some (V.dc ((es.drop l.toNat).take (hh-l).toNat) sz)else none
  |.aZ id g off len dC=>if oa hi len hh/\0<=l/\l<=hh/\hh<=len/\dC=sz then some (V.aZ id g (off+l.toNat*sz) (hh-l).toNat sz)else none
  |_=>none)=some v):
 df aK μ ae w H ((do pure (.value (<- Instr.sliceAt t c cN hi none)):Sem Next).run P w) v H:=by
 split at aj
 .split at aj
  .rename_i ab;obtain⟨ah,rfl,rfl⟩:=ab;simp at aj;subst aj;have:=ei af;subst this;refine df.still h (.s _) ?_
   rw[Eu (a:=none) (len:=0) (cap:=0) (sz:=sz) aY ai (CA aq (by simpa using ah) (by omega) (by omega) (by omega) (by omega))]
   simp
  .simp at aj
 .split at aj
  .rename_i ab;obtain⟨ah,rfl,rfl⟩:=ab;simp at aj;subst aj;cases af with
   |c6 a=>
     refine df.still h (.c6 a) ?_
     rw[Eu (a:=some a) (len:=0) (cap:=0) (sz:=sz) aY ai (CA aq (by simpa using ah) (by omega) (by omega) (by omega) (by omega))]
     simp
  .simp at aj
 .rename_i es dC;split at aj
  .rename_i ab;obtain⟨ah,bd,J,aa,rfl⟩:=ab;simp at aj;subst aj
   have aqH:∀i el,((es.drop l.toNat).take (hh-l).toNat)[i]?=some el->es[l.toNat+i]?=some el:=by
    intro i el he
    have hi:i<(hh-l).toNat:=by have:=(dQ.1 he).1;simp at this;omega
    rwa[mr hi,qP]at he
   have dn:((es.drop l.toNat).take (hh-l).toNat).length=(hh-l).toNat:=by simp;omega
   cases af with
   |dc _ _ B o cap arr bN fr aD cS lZ bK dk av=>
     have fv:=Eu (P:=P) (w:=w) (a:=some ⟨B,o,none⟩) (len:=es.length) (cap:=cap) aY ai (CA aq ah bd J aa lZ);refine df.still h ?_ fv
     have IQ:hh.toNat-l.toNat=(hh-l).toNat:=by omega
     by_cases fk:cap=l.toNat
     .rw[bE fk,IQ]
      have cX:(hh-l).toNat=0:=by omega
      rw[cX]at dn |-;rw[dj];exact .iy _ _ _
     .rw[bV fk,IQ,o7,w5]
      have hmul:l.toNat*dC+(hh-l).toNat*dC<=es.length*dC:=by
       rw[<- Hc];exact rk _ (by omega)
      have key:bS μ ae w (.dc ((es.drop l.toNat).take (hh-l).toNat) dC) (.slice (some ⟨B,o+l.toNat*dC,none⟩) ((es.drop l.toNat).take (hh-l).toNat).length (cap-l.toNat)):=by
       refine .dc _ dC B (o+l.toNat*dC) (cap-l.toNat) arr bN fr aD cS (by omega) (fun i el he=>bK _ el (aqH i el he)) (by rw[dn];omega) (fun i el j a b he aO kj=>?_)
       refine av _ el j a b (aqH i el he) aO ?_;rw[Hc];rw[<- kj]
       congr 1
       omega
      simp_all
   |iy _ cap a=>
     have fv:=Eu (P:=P) (w:=w) (a:=some a) (len:=0) (cap:=cap) (sz:=dC) aY ai (CA aq (by simpa using ah) bd J (by simpa using aa) (by omega))
     have aE:hh.toNat-l.toNat=0:=by simp at aa;omega
     rw[aE]at fv;refine df.still h ?_ fv;simp only[List.drop_nil,List.take_nil]
     have aU:l.toNat=0:=by simp at aa;omega
     split
     .exact .iy _ _ _
     .simp only[o7];exact .iy _ _ _
  .simp at aj
 .rename_i id g off len dC;split at aj
  .rename_i ab;obtain⟨ah,bd,J,aa,rfl⟩:=ab;simp at aj;subst aj
   have IQ:hh.toNat-l.toNat=(hh-l).toNat:=by omega
   cases af with
   |aZ _ _ _ _ _ B b cap arr bN hm aD lZ dk=>
     have fv:=Eu (P:=P) (w:=w) (a:=some ⟨B,b+off,none⟩) (len:=len) (cap:=cap) aY ai (CA aq ah bd J aa lZ);refine df.still h ?_ fv;by_cases fk:cap=l.toNat
     .rw[bE fk,IQ]
      have cX:(hh-l).toNat=0:=by omega
      have aE:cap-l.toNat=0:=by omega
      rw[cX,aE];exact .jw _ _ _ _ B b _ hm
     .rw[bV fk,IQ,o7,w5,qs]
      have hmul:l.toNat*dC+(cap-l.toNat)*dC=cap*dC:=by
       rw[<- Hc];congr 1;omega
      exact .aZ id g _ _ dC B b _ arr bN hm aD (by omega) (by omega)
   |jw _ _ _ _ B b a hm=>
     have fv:=Eu (P:=P) (w:=w) (a:=some a) (len:=0) (cap:=0) (sz:=dC) aY ai (CA aq (by simpa using ah) bd J (by simpa using aa) (by omega))
     have aE:hh.toNat-l.toNat=0:=by simp at aa;omega
     have aU:l.toNat=0:=by simp at aa;omega
     rw[aE,aU]at fv;refine df.still h ?_ fv;simp only[eW]
     rw[show(hh-l).toNat=0 by omega]
     exact .jw _ _ _ _ B b _ hm
  .simp at aj
 .simp at aj
def aJv(h:cE aK μ ae w H){t e:TypeId}{sz:Nat}{x v:V}{c:Value}{cN:Option Value}{k1 k2:IntKind}(aY:P.underlying t=some (.slice e))(ai:gq P e=some sz)(af:bS μ ae w x c)(aq:oa cN 0 0)(aj:(match(generalizing:=false) x with
      |.s (.slice none 0 0)=>some (cm,H)
      |.c6=>some (.c6,H)
      |.dc _ _=>some (.c6,H)
      |.aZ _ _ _ _ _=>some (.c6,H)
      |_=>none)=some (v,H')):
 df aK μ ae w H ((do pure (.value (<- Instr.sliceAt t c cN (some (.int k1 0)) (some (.int k2 0)))):Sem Next).run P w) v H':=by
 have fv:∀a len cap,((do pure (.value (<- Instr.sliceAt t (.slice a len cap) cN (some (.int k1 0)) (some (.int k2 0)))):Sem Next).run P w)=.ok (.value (.slice a 0 0)) w:=by
  intro a len cap;rw[Eu aY ai (aJE aq)];simp
 split at aj<;>simp at aj
 all_goals obtain⟨rfl,rfl⟩:=aj
 .rw[ei af];exact df.still h (.s _) (fv _ _ _)
 all_goals
  cases af<;>exact df.still h (.c6 _) (fv _ _ _)
def aHW{t:TypeId}{s:ByteArray}{cN hi:Option Value}{l h:Int}(aY:P.underlying t=some .string)(aq:oa cN 0 l)(hh:oa hi s.size h)(bd:0<=l)(J:l<=h)(aa:h<=s.size):
 ((do pure (.value (<- Instr.sliceAt t (.string s) cN hi none)):Sem Next).run P w)=.ok (.value (.string (s.extract l.toNat h.toNat))) w:=by
 simp only[Instr.sliceAt,Sem.run_bind,run_underlying aY,ev,Instr.slice,T0,pD,hp,CA (P:=P) (w:=w) (s:=false) aq hh bd J aa (cq _),Sem.run_pure]
end
open Go.RowKit
section
variable {aK:eX} {μ cf:cp} {ae b9:Nat->Prop} {w w':World} {H H':ad} {P:Program}
def ac7{t e:TypeId}{i:TypeInfo}{z:V}{k1 k2:IntKind}{l c:Int}(aY:P.underlying t=some (.slice e))(hi:P.info? e=some i)(bK:nX P e=some z)(ai:0<i.size)(ah:0<i.bytes)(pT:z.cells.length=i.size)(bd:0<=l)(J:l<=c)(aa:c*i.bytes<=2^47):
 w7 aK μ ae w ((do pure (.value (<- Instr.makeSlice t (.int k1 l) (.int k2 c))):Sem Next).run P w) (fun id=>.aZ id 0 0 l.toNat i.size) (.cells 0 (List.replicate l.toNat z.cells).flatten):=by
 obtain⟨eD,eO,z2,xb,pc,_⟩:=Ah (w:=w) bK;have xg:=xC (μ:=μ) (ae:=ae) (w:=w) (AD z2) (wZ z2)
 have sg:eD.cells.size=i.size:=by rw[<- pT,xg.1];simp
 have FC:c<=c*i.bytes:=by
  have:c*1<=c*(i.bytes:Int):=Int.mul_le_mul_of_nonneg_left (by omega) (by omega)
  omega
 have aXh:c<=140737488355328:=by simp at aa;omega
 have wl:IntKind.i64.wrap l=l:=IntWalk.i64_in _ (by omega)
 have aLl:IntKind.i64.wrap c=c:=IntWalk.i64_in _ (by omega)
 have dk:(sizeOf e).run P w=.ok i.size w:=run_sizeOf (by simp[gq,hi])
 have gK:((decide (c<0)||decide ((i.bytes:Int)*c > 2^48))||decide (l<0)||decide (l > c))=false:=by
  have:(i.bytes:Int)*c<=2^47:=by rw[Int.mul_comm];exact aa
  simp;simp at this;omega
 have ahh:∀arr:Array Value,arr.toList=(List.replicate c.toNat eD.cells.toList).flatten->((do pure (.value (<- Instr.makeSlice t (.int k1 l) (.int k2 c))):Sem Next).run P w)=.ok (.value (.slice (some ⟨w.heap.size,0,none⟩) l.toNat c.toNat)) (w.alloc (.cells arr e)):=by
  intro arr aqK
  have aDe:(typeInfo e).run P w=.ok i w:=by simp[typeInfo,hi]
  simp only[Instr.makeSlice,Sem.run_bind,run_underlying aY,ev,asInt,asIntOf,Sem.run_pure,aDe,wl,aLl,Sem.run_ite,gK,pD,hp,run_askRoom,dk];by_cases aJ:c.toNat*i.size=0
  .have pO:c.toNat=0:=by rcases Nat.mul_eq_zero.1 aJ with h|h<;>omega
   have aWg:arr=#[]:=by
    apply tf;rw[aqK,pO];rfl
   have em:∀f:Nat->Value,Array.map f (Array.range 0)=#[]:=fun f=>by apply Vj;simp
   simp only[aJ,eW,Sem.run_pure,ev,em,newRow,Sem.run_bind,run_newObj,aWg];rfl
  .have azs:Array.map (fun x=>eD.cells[x % eD.cells.size]!) (Array.range (c.toNat*i.size))=arr:=by
    apply tf
    rw[aqK,<- XC eD.cells.toList c.toNat (by simp;omega)]
    simp[sg]
   simp only[aJ,hp,Sem.run_bind,eO,Sem.run_pure,ev,newRow,run_newObj,azs];rfl
 have Xo:l.toNat<=c.toNat:=by omega
 have l0:b6 μ ae w (List.replicate l.toNat z.cells).flatten (List.replicate l.toNat eD.cells.toList).flatten:=xg.VC _
 have ayF:(List.replicate c.toNat eD.cells.toList).flatten=(List.replicate l.toNat eD.cells.toList).flatten++(List.replicate (c.toNat-l.toNat) eD.cells.toList).flatten:=by
  rw[<- y8,List.replicate_append_replicate]
  congr 2;omega
 have lq:(List.replicate l.toNat eD.cells.toList).flatten.length=l.toNat*i.size:=by simp[sg]
 have fk:(List.replicate c.toNat eD.cells.toList).flatten.length=c.toNat*i.size:=by simp[sg]
 have aBl:(List.replicate l.toNat z.cells).flatten.all V.one=true:=by
  rw[fp];intro x af;obtain⟨r,ak,Ic⟩:=Wl.1 af;rw[(Mz.1 ak).2]at Ic;have:=wZ z2;rw[fp]at this;exact this x Ic
 have fg:kz aK μ ae w (.cells 0 (List.replicate l.toNat z.cells).flatten) 0 (.cells (List.replicate c.toNat eD.cells.toList).flatten.toArray e (0,0)):=by
  refine⟨rfl,?_,fun j a v aO av=>?_,s9.one aBl⟩
  .rw[tr,l0.1,lq,fk,mx];exact rk _ Xo
  .have bz:j<(List.replicate l.toNat eD.cells.toList).flatten.length:=by rw[<- l0.1];exact(dQ.1 aO).1
   rw[mx,Hr,ayF,bi bz]at av;exact l0.2 j a v aO av
 refine⟨_,_,ahh (List.replicate c.toNat eD.cells.toList).flatten.toArray (by simp),fg,fun id cf b9 hm=>?_⟩
 refine .aZ id 0 0 l.toNat i.size w.heap.size 0 c.toNat _ e hm (yW (w:=w) rfl) Xo ?_;rw[tr,fk];simp
def aL1(h:cE aK μ ae w H){t e:TypeId}{i:TypeInfo}{z:V}{k1 k2:IntKind}{l c:Int}(aY:P.underlying t=some (.slice e))(hi:P.info? e=some i)(bK:nX P e=some z)(ai:0<i.size)(ah:0<i.bytes)(pT:z.cells.length=i.size)(bd:0<=l)(J:l<=c)(aa:c*i.bytes<=2^47):
 df aK μ ae w H ((do pure (.value (<- Instr.makeSlice t (.int k1 l) (.int k2 c))):Sem Next).run P w) (.aZ H.length 0 0 l.toNat i.size) (H++[.cells 0 (List.replicate l.toNat z.cells).flatten]):=
 (ac7 aY hi bK ai ah pT bd J aa).op h
theorem aTZ{sz:Nat}(bd:0<sz):∀{es:List (List V)},(∀el∈es,el.length=sz)->∀i,es.flatten[i]?=(es[i / sz]?).bind (·[i % sz]?):=by
 intro es
 induction es with
 |nil=>intro _ i;simp
 |cons el es aF=>
   intro bK i
   have kg:=bK el (by simp)
   rw[GY];by_cases hi:i<sz
   .rw[bi (by omega),Nat.div_eq_of_lt hi,Nat.mod_eq_of_lt hi];rfl
   .rw[jA (by omega),aF (fun e he=>bK e (by simp[he])),kg]
    have aE:i / sz=(i-sz) / sz+1:=by
     rw[Nat.div_eq_sub_div bd (by omega)]
    have aU:i % sz=(i-sz) % sz:=Nat.mod_eq_sub_mod (by omega)
    rw[aE,aU];rfl
def Y4{es:List (List V)}{sz:Nat}{c:Value}(bd:0<sz)(h:bS μ ae w (.dc es sz) c):∃a cap,c=.slice (some a) es.length cap/\es.flatten.length=es.length*sz/\Bi μ ae w es.flatten a:=by
 cases h with
 |dc _ _ B o cap arr e fr aD cS ab bK ai av=>
   have SB:∀el∈es,el.length=sz:=fun el kg=>by
    obtain⟨i,hi,rfl⟩:=zU kg;exact bK i _ (eP hi)
   have dn:es.flatten.length=es.length*sz:=by
    clear av ai ab bK
    induction es with
    |nil=>simp
    |cons e es aF=>grind
   refine⟨_,cap,rfl,dn,Vc aD (by omega) (fun i a b aO ah=>?_)⟩
   rw[aTZ bd SB]at aO;rw[e4]at aO;obtain⟨el,kg,aO⟩:=aO;refine(av _ el _ a b kg aO ?_).vr;rw[<- ah]
   congr 1
   have:=Nat.div_add_mod i sz
   grind
 |iy _ cap a=>exact⟨a,cap,rfl,by simp,[],b6.nil,fun j v av=>by simp at av⟩
def L8{sz m cap:Nat}{a:Addr}{vs:List Value}(aq:vs.length=m*sz)(ab:∀(j:Nat) (v:Value),vs[j]?=some v->w.cell? (a.add j)=some v){mb:World}(hw:mb.heap=w.heap):
 (Builtin.firstCells sz m (.slice (some a) m cap)).run P mb=.ok vs.toArray mb:=
 run_firstCells_some (P:=P) mb sz m a m cap vs aq (fun j v av=>by rw[<- ab j v av];simp[World.cell?,hw])
def aUY(h:cE aK μ ae w H){sz m:Nat}{x:V}{xs:List V}{c:Value}(bd:0<sz)(af:bS μ ae w x c)(he:elems H sz x=some (m,xs)):
 xs.length=m*sz/\∃vs:List Value,b6 μ ae w xs vs/\∀mb:World,mb.heap=w.heap->(Builtin.lenOf c).run P mb=.ok m mb/\(Builtin.firstCells sz m c).run P mb=.ok vs.toArray mb:=by
 unfold elems at he;dsimp only at he;split at he
 .cases he;rw[ei af]
  exact⟨by simp,[],b6.nil,fun mb _=>⟨rfl,rfl⟩⟩
 .cases he;cases af with
  |c6 a=>exact⟨by simp,[],b6.nil,fun mb _=>⟨rfl,L8 (w:=w) (by simp) (fun j v av=>by simp at av) ‹_›⟩⟩
 .rename_i es dC;split at he
  .rename_i dk;subst dk;cases he;obtain⟨a,cap,rfl,aq,vs,av,ab⟩:=Y4 bd af
   exact⟨aq,vs,av,fun mb hw=>⟨rfl,L8 (by rw[<- av.1,aq]) ab hw⟩⟩
  .simp at he
 .rename_i id g off len dC;split at he
  .rename_i dk;subst dk;split at he
   .rename_i cs lR;split at he
    .rename_i dn;cases he;cases af with
     |aZ _ _ _ _ _ B b cap arr e hm aD lZ dk=>
       obtain⟨vs,av,ab⟩:=h.place lR hm dn
       exact⟨dn,vs,av,fun mb hw=>⟨rfl,L8 (by rw[<- av.1,dn]) ab hw⟩⟩
     |jw _ _ _ _ B b a hm=>
       refine⟨by simp,[],⟨by simp,fun i a b h=>by simp at h⟩,fun mb hw=>⟨rfl,L8 (w:=w) (by simp) (fun j v av=>by simp at av) hw⟩⟩
    .simp at he
   .simp at he
  .simp at he
 .simp at he
def QH{ao:Array TypeId}{ty t kT e:TypeId}{i:TypeInfo}{eD:Value}{base:Option Addr}{sLen sCap m:Nat}{c:Value}{sQ vs:Array Value}(bd:ao[0]?=some t)(J:ao[1]?=some kT)(aY:P.underlying t=some (.slice e))(jX:(∃bN,P.underlying kT=some (.slice bN))\/P.underlying kT=some .string)(hi:P.info? e=some i)(bK:i.zero=some eD)(ah:0<i.bytes)(dn:(Builtin.lenOf c).run P w=.ok m w)(hold:(Builtin.firstCells i.size sLen (.slice base sLen sCap)).run P w.drew=.ok sQ w.drew)(yR:(Builtin.firstCells i.size m c).run P w.drew=.ok vs w.drew)(a8:sCap<sLen+m)(aPO:(sLen+m)*i.bytes<=140737488355328):
 (Builtin.append_ ao ty #[.slice base sLen sCap,c]).run P w=
  .ok (.slice (some ⟨w.heap.size,0,none⟩) (sLen+m) (grownCap w (sLen+m) sCap e)) (w.drew.alloc (.cells (sQ++vs++Builtin.zeroCells eD.cells (grownCap w (sLen+m) sCap e-(sLen+m))) e)):=by
 have aJ:¬(sLen+m<=sCap):=by omega
 have Bn:=growslice_fits (bytes:=i.bytes) a8 aPO
 have aVJ:¬(281474976710656<Builtin.nextslicecap (sLen+m) sCap*i.bytes):=by omega
 have nr:¬(i.bytes=0):=by omega
 rcases jX with⟨bN,jX⟩|jX <;>
  simp[Builtin.append_,run_underlying aY,run_underlying jX,bd,J,sizeOf,typeInfo,zeroValue,hi,bK,dn,aJ,aVJ,nr,Question.forced,hold,yR,newRow,grownCap]
def LN{ao:Array TypeId}{ty t kT e:TypeId}{i:TypeInfo}{base:Option Addr}{sLen sCap m:Nat}{c:Value}{vs:Array Value}(bd:ao[0]?=some t)(J:ao[1]?=some kT)(aY:P.underlying t=some (.slice e))(jX:(∃bN,P.underlying kT=some (.slice bN))\/P.underlying kT=some .string)(hi:P.info? e=some i)(dn:(Builtin.lenOf c).run P w=.ok m w)(yR:(Builtin.firstCells i.size m c).run P w=.ok vs w)(ak:sLen+m<=sCap)(ig:∀a,base=some a->(storeCells (a.add (sLen*i.size)) vs.toList).run P w=.ok () w')(Sf:base=none->w'=w):
 (Builtin.append_ ao ty #[.slice base sLen sCap,c]).run P w=.ok (.slice base (sLen+m) sCap) w':=by
 cases base with
 |none=>
   rw[Sf rfl]
   rcases jX with⟨bN,jX⟩|jX <;>
    simp[Builtin.append_,run_underlying aY,run_underlying jX,bd,J,sizeOf,typeInfo,hi,dn,ak,yR]
 |some a=>
   have:=ig a rfl
   rcases jX with⟨bN,jX⟩|jX <;>
    simp[Builtin.append_,run_underlying aY,run_underlying jX,bd,J,sizeOf,typeInfo,hi,dn,ak,yR,this]
end
open Go.RowKit
section
variable {aK:eX} {μ cf:cp} {ae b9:Nat->Prop} {w w':World} {H H':ad} {P:Program}
def cE.next(h:cE aK μ ae w H){id g:Nat}{c:List V}(ab:au H id g=some c):μ id (g+1)=none:=by
 cases e:μ id (g+1)with
 |none=>rfl
 |some p=>have:=h.mQ _ _ _ _ _ e (oX ab) rfl;omega
def cE.ag3(h:cE aK μ ae w H){id g:Nat}{l:List UInt8}(ab:H[id]?=some (.bytes g l)):μ id (g+1)=none:=by
 cases e:μ id (g+1)with
 |none=>rfl
 |some p=>have:=h.mQ _ _ _ _ _ e ab rfl;omega
def aQx(P:Program)(e:TypeId)(b:Nat):b<=GV P e b:=by
 unfold GV
 grind
def aVu(P:Program){e:TypeId}{b:Nat}(_:0<b):GV P e b=1->ux P e=true:=by
 unfold GV
 grind
def ny(x:UInt8):Value:=.int .u8 x.toNat
theorem aDd [oS aK P] (h:cE aK μ ae w H) {ao:Array TypeId} {ty t kT e:TypeId} {i:TypeInfo} {base bytes:Nat} {s x v:V} {cs c:Value}
 (bd:ao[0]?=some t) (J:ao[1]?=some kT) (aY:P.underlying t=some (.slice e)) (jX:(∃ bN,P.underlying kT=some (.slice bN))∨P.underlying kT=some .string) (hi:P.info? e=some i)
 {eD:Value} (Ct:i.zero=some eD) (Jj:eD.cells.size=i.size) (ah:0 < i.bytes) (H2:i.bytes≤bytes) (tw:bytes=1→ux P e=true) (ai:bS μ ae w s cs) (af:bS μ ae w x c) (aj:BT H base i.size bytes s x=some (v,H')):
 df aK μ ae w H ((do pure (.value (← Builtin.append_ ao ty #[cs,c])):Sem Next).run P w) v H':=by
 unfold BT at aj;split at aj
 case h_2=>cases aj
 rename_i b;split at aj
 case isFalse=>cases aj
 rename_i Fv;obtain ⟨Fh,aT1⟩:=Fv;have wi:=ei af;subst wi;have aAt:aK.Gx e=true:=oS.azn (P:=P) _ (tw aT1)
 have azH:i.bytes≤1:=by omega
 have xE:(b.data.toList.map ny).length=b.size:=by simp
 have dn:∀ mb:World,(Builtin.lenOf (.string b)).run P mb=.ok b.size mb:=fun _=>rfl
 have uk:∀ mb:World,(Builtin.firstCells i.size b.size (.string b)).run P mb=.ok (b.data.toList.map ny).toArray mb:=by
  intro mb;simp only [Builtin.firstCells,Sem.run_pure]
  congr 1
  apply tf
  have:b.extract 0 b.size=b:=by simp
  rw [this];simp [ny]
 have jj:((b.data.toList.map ny).map V.s).all V.one=true:=by
  rw [fp];intro x af;simp only [wJ] at af;obtain ⟨_,⟨u,_,rfl⟩,rfl⟩:=af;rfl
 have db:b6 μ ae w ((b.data.toList.map ny).map V.s) (b.data.toList.map ny):=by
  refine ⟨by simp,fun i p q ay bJ=>?_⟩
  rw [ut,bJ] at ay;cases ay;exact .s _
 have stay:∀ (a:Option Addr) (len cap:Nat),b.size=0→len≤cap→((do pure (.value (← Builtin.append_ ao ty #[.slice a len cap,.string b])):Sem Next).run P w)=.ok (.value (.slice a len cap)) w:=by
  intro a len cap hm ab
  have Q9:b.data.toList.map ny=[]:=lX (by omega)
  have aa:=uk w;rw [Q9] at aa
  have:=LN (P:=P) (w:=w) (w':=w) (base:=a) (sLen:=len) (sCap:=cap) (ty:=ty) bd J aY jX hi (dn w) aa (by omega) (fun _ _=>rfl) (fun _=>rfl)
  simp [this,hm]
 have grown:∀ (a:Option Addr) (len cap:Nat) (l:List UInt8),l.length=len→(Builtin.firstCells i.size len (.slice a len cap)).run P w.drew=.ok (l.map ny).toArray w.drew→cap < len+b.size→(len+b.size)≤2 ^ 47→
  ((do pure (.value (← Builtin.append_ ao ty #[.slice a len cap,.string b])):Sem Next).run P w)=.ok (.value (.slice (some ⟨w.heap.size,0,none⟩) (len+b.size) (grownCap w (len+b.size) cap e))) (w.drew.alloc (.cells ((l.map ny).toArray ++ (b.data.toList.map ny).toArray ++ Builtin.zeroCells eD.cells (grownCap w (len+b.size) cap e - (len+b.size))) e)):=by
  intro a len cap l lq hold a8 px
  have:=QH (P:=P) (w:=w) (base:=a) (sLen:=len) (sCap:=cap) (ty:=ty) bd J aY jX hi Ct ah (dn w) hold (uk w.drew) a8 (jn (Iy _ azH) (by rw [AY];exact px))
  simp only [Sem.run_bind,this,ev,Sem.run_pure]
 have sg:∀ k,(Builtin.zeroCells eD.cells k).size=k:=fun k=>by rw [size_zeroCells,Jj,Fh,AY]
 have ajG:∀ (g:Nat) (l:List UInt8) (k:Nat),kz aK μ ae w (.bytes g (l ++ b.data.toList)) 0 (.cells ((l.map ny).toArray ++ (b.data.toList.map ny).toArray ++ Builtin.zeroCells eD.cells k) e (0,0)):=by
  intro g l k
  refine ⟨rfl,aAt,by simp,fun j x bz=>?_⟩
  have sZ:=(dQ.1 bz).1
  have aE:(l.map ny).toArray ++ (b.data.toList.map ny).toArray=((l ++ b.data.toList).map ny).toArray:=by simp
  rw [mx,aE,Sx (by simpa using sZ),Hr,ut,bz]
  rfl
 split at aj
 ·
  have lR:=ei ai;subst lR;split at aj
  ·rename_i hm;cases aj;exact df.still h (.s _) (stay none 0 0 hm (cq _))
  ·rename_i hm;split at aj
   case isFalse=>cases aj
   rename_i px;cases aj
   have ak:=grown none 0 0 [] rfl (by simp [Builtin.firstCells]) (by omega) (by omega)
   rw [mx] at ak;refine ⟨_,_,_,_,.inl ak,?_,HY h _ (.bytes 0 b.data.toList) (ajG 0 [] _) rfl rfl rfl rfl⟩;refine .aZ H.length 0 0 b.size 1 w.heap.size 0 _ _ e (n2 _ _ _ _) (yW (w:=w) rfl) (grownCap_ge _ _ _ _) ?_;have:=grownCap_ge w b.size 0 e;simp only [mx,Na,tr,xE,sg,hC,eh];omega
 ·
  rename_i id g len;split at aj
  case isFalse=>cases aj
  rename_i Ge;split at aj
  case h_2=>cases aj
  rename_i g' l bm;split at aj
  case isFalse=>cases aj
  rename_i QU;obtain ⟨rfl,aq⟩:=QU;split at aj
  ·rename_i hm;cases aj;cases ai with
   | aZ _ _ _ _ _ B b cap arr bN hL aD lZ hV=>exact df.still h (.aZ _ _ _ _ _ B b cap arr bN hL aD lZ hV) (stay _ _ _ hm lZ)
   | jw _ _ _ _ B b a hL=>exact df.still h (.jw _ _ _ _ B b a hL) (stay _ _ _ hm (cq _))
  ·rename_i hm;split at aj
   case isFalse=>cases aj
   rename_i px;cases aj;have move:∀ (a:Option Addr) (cap:Nat) (k7:Nat × Nat),μ id g'=some k7→(Builtin.firstCells i.size len (.slice a len cap)).run P w.drew=.ok (l.map ny).toArray w.drew→cap < len+b.size→
    df aK μ ae w H ((do pure (.value (← Builtin.append_ ao ty #[.slice a len cap,.string b])):Sem Next).run P w) (.aZ id (g'+1) 0 (len+b.size) 1) (H.set id (.bytes (g'+1) (l ++ b.data.toList))):=by
    intro a cap k7 r0 hold a8;have ak:=grown a len cap l aq.symm hold a8 px
    refine ⟨_,_,_,_,.inl ak,?_,apz h _ (g'+1) bm r0 (h.ag3 bm) (fun j bz=>bz.symm) (fun j bN k q an=>by cases bN;have:=h.mQ _ _ _ _ _ an bm rfl;omega) (ajG _ _ _) rfl rfl rfl rfl⟩
    refine .aZ id (g'+1) 0 (len+b.size) 1 w.heap.size 0 _ _ e (n2 _ _ _ _) (yW (w:=w) rfl) (grownCap_ge _ _ _ _) ?_;have:=grownCap_ge w (len+b.size) cap e;simp only [mx,Na,tr,xE,sg,pY];omega
   cases ai with
   | jw _ _ _ _ B mj a hL=>
     have kZ:l=[]:=lX aq.symm
     refine move (some a) 0 (B,mj) hL ?_ (by omega)
     rw [kZ];simp [Builtin.firstCells,loadCells,loadCellsFrom]
   | aZ _ _ _ _ _ B mj cap arr cX hL aD lZ hV=>
     obtain ⟨o,aX,ak⟩:=h.kY id _ g' B mj bm rfl hL;rw [aD] at aX;cases aX;obtain ⟨rfl,aQa,Bn,uj⟩:=ak;by_cases Gs:len+b.size≤cap
     ·have ig:=run_storeCells_at P B (mj+0+len * i.size) cX (b.data.toList.map ny) 0 arr w aD (by rw [Fh];omega) (SO db jj)
      have asX:len * i.size=len:=by rw [Fh,AY]
      simp only [Du,asX,xE] at ig
      have rP:=LN (P:=P) (w:=w) (base:=some ⟨B,mj+0,none⟩) (sLen:=len) (sCap:=cap) (ty:=ty) bd J aY jX hi (dn w) (uk w) Gs (fun a aO=>by cases aO;rw [w5,asX];exact ig) (fun h=>by cases h)
      have RY:((do pure (.value (← Builtin.append_ ao ty #[.slice (some ⟨B,mj+0,none⟩) len cap,.string b])):Sem Next).run P w)=.ok (.value (.slice (some ⟨B,mj+0,none⟩) (len+b.size) cap)) (w.setRow B (arr.toList.take (mj+len) ++ b.data.toList.map ny ++ arr.toList.drop (mj+len+b.size)).toArray):=by
       simp only [Sem.run_bind,rP,ev,Sem.run_pure]
      have Rk:((arr.toList.take (mj+len) ++ b.data.toList.map ny ++ arr.toList.drop (mj+len+b.size)).toArray).size=arr.size:=by simp;omega
      refine ⟨.slice (some ⟨B,mj+0,none⟩) (len+b.size) cap,_,_,_,.inl RY,?_,SP h (ja:=.bytes (g'+1) (l ++ b.data.toList)) (o':=.cells (arr.toList.take (mj+len) ++ b.data.toList.map ny ++ arr.toList.drop (mj+len+b.size)).toArray cX (0,0)) (g'+1) mj bm rfl hL aD (fun bw aE f1 qn=>by cases qn;exact ⟨_,_,rfl,Rk⟩) (by simp) (.inr ⟨h.ag3 bm,by omega⟩) (fun j bz=>bz.symm) (fun j bN k q an=>by cases bN;have:=h.mQ _ _ _ _ _ an bm rfl;omega) (Yt aD) rfl rfl rfl trivial ?_ (fun bw aE qn=>by cases qn;exact ⟨_,rfl⟩)⟩
      ·exact .aZ id (g'+1) 0 (len+b.size) 1 B mj cap _ cX (n2 _ _ _ _) (setRow_heap w B arr _ cX (0,0) aD) Gs (by rw [Rk];omega)
      ·intro _ cf b9 _ _
       refine ⟨rfl,aQa,by rw [Rk,c0,← aq];have:b.data.toList.length=b.size:=by simp
                          omega,fun j x bz=>?_⟩
       have eZ:b.data.toList.length=b.size:=by simp
       rw [Hr];by_cases cj:j < l.length
       ·rw [bi cj] at bz;have:=uj j x bz
        rw [gi,bi (by simp;omega),mr (by omega),Array.getElem?_toList]
        exact this
       ·rw [jA (by omega)] at bz
        have aX2:=(dQ.1 bz).1
        rw [gi,jA (by simp;omega),bi (by simp;omega),ut]
        have aU:mj+j - (arr.toList.take (mj+len)).length=j - l.length:=by simp;omega
        rw [aU,bz];rfl
     ·refine move _ cap (B,mj) hL (run_firstCells_some (P:=P) w.drew i.size len _ len cap _ (by rw [Fh];simp [aq]) (fun j v av=>?_)) (by omega)
      rw [ut,fy] at av;obtain ⟨x,kF,rfl⟩:=av;rw [w5];exact (cell_of_heap (w:=w) aD).trans (uj j x kF)
 ·cases aj
def azi[oS aK P](h:cE aK μ ae w H){ao:Array TypeId}{ty t kT e:TypeId}{i:TypeInfo}{base bytes:Nat}{s x v:V}{cs c:Value}(bd:ao[0]?=some t)(J:ao[1]?=some kT)(aY:P.underlying t=some (.slice e))(jX:(∃bN,P.underlying kT=some (.slice bN))\/P.underlying kT=some .string)(hi:P.info? e=some i){z:V}(bK:nX P e=some z)(pT:z.cells.length=i.size)(dk:0<i.size)(ah:0<i.bytes)(H2:i.bytes<=bytes)(tw:bytes=1->ux P e=true)(ai:bS μ ae w s cs)(af:bS μ ae w x c)(aj:h5 H base i.size bytes s x=some (v,H')):
 df aK μ ae w H ((do pure (.value (<- Builtin.append_ ao ty #[cs,c])):Sem Next).run P w) v H':=by
 obtain⟨eD,eO,z2,xb,pc,Ct⟩:=Ah (w:=w) bK;rw[hi]at pc;cases pc;have xg:=xC (μ:=μ) (ae:=ae) (w:=w) (AD z2) (wZ z2)
 have Jj:eD.cells.size=i.size:=by rw[<- pT,xg.1];simp
 unfold h5 at aj;split at aj
 .exact aDd h bd J aY jX hi Ct Jj ah H2 tw ai af aj
 rename_i m xs he;obtain⟨oy,vs,db,fv⟩:=aUY (P:=P) h dk af he;obtain⟨kZ,qq⟩:=fv w rfl;obtain⟨dr,afM⟩:=fv w.drew rfl
 have xE:vs.length=m*i.size:=by rw[<- db.1,oy]
 split at aj
 case isFalse=>simp at aj
 rename_i jj
 have stay:∀(a:Option Addr) (len cap:Nat),m=0->len<=cap->((do pure (.value (<- Builtin.append_ ao ty #[.slice a len cap,c])):Sem Next).run P w)=.ok (.value (.slice a len cap)) w:=by
  intro a len cap hm ab;subst hm
  have Q9:vs=[]:=lX (by omega)
  subst Q9
  have:=LN (P:=P) (w:=w) (w':=w) (base:=a) (sLen:=len) (sCap:=cap) (ty:=ty) bd J aY jX hi kZ qq (by omega) (fun _ _=>rfl) (fun _=>rfl)
  simp[this]
 have fresh:∀(a:Option Addr),(a=none\/∃b,a=some b)->m≠0->m*i.bytes<=2^47->
  ((do pure (.value (<- Builtin.append_ ao ty #[.slice a 0 0,c])):Sem Next).run P w)=.ok (.value (.slice (some ⟨w.heap.size,0,none⟩) m (grownCap w m 0 e))) (w.drew.alloc (.cells (vs.toArray++Builtin.zeroCells eD.cells (grownCap w m 0 e-m)) e))/\m<=grownCap w m 0 e:=by
  intro a _ hm px
  have hold:(Builtin.firstCells i.size 0 (.slice a 0 0)).run P w.drew=.ok #[] w.drew:=by
   cases a<;>simp[Builtin.firstCells,loadCells,loadCellsFrom]
  have:=QH (P:=P) (w:=w) (base:=a) (sLen:=0) (sCap:=0) (ty:=ty) bd J aY jX hi Ct ah kZ hold afM (by omega) (by simp_all)
  rw[mx]at this;refine⟨?_,grownCap_ge w m 0 e⟩;simp[this]
 have abd:∀(a:Option Addr),(a=none\/∃b,a=some b)->m≠0->m*i.bytes<=2^47->cs=.slice a 0 0->
  df aK μ ae w H ((do pure (.value (<- Builtin.append_ ao ty #[cs,c])):Sem Next).run P w) (.aZ H.length 0 0 m i.size) (H++[.cells 0 xs]):=by
  intro a aO hm px lR;obtain⟨ak,rh⟩:=fresh a aO hm px;rw[lR];have sg:(Builtin.zeroCells eD.cells (grownCap w m 0 e-m)).size=(grownCap w m 0 e-m)*eD.cells.size:=size_zeroCells _ _
  have fg:kz aK μ ae w (.cells 0 xs) 0 (.cells (vs.toArray++Builtin.zeroCells eD.cells (grownCap w m 0 e-m)) e (0,0)):=by
   refine⟨rfl,by simp;omega,fun j a v aO av=>?_,s9.one jj⟩
   have bz:j<vs.length:=by rw[<- db.1];exact(dQ.1 aO).1
   rw[mx,Sx (by simpa using bz)]at av
   exact db.2 j a v aO (by simpa using av)
  refine⟨_,_,_,_,.inl ak,?_,HY h _ _ fg rfl rfl rfl rfl⟩;refine .aZ H.length 0 0 m i.size w.heap.size 0 _ _ e (n2 _ _ _ _) (yW (w:=w) rfl) rh ?_;simp only[mx,Na,tr,xE,sg,Jj,<- Hc]
  exact rk _ (by omega)
 split at aj
 .
  have lR:=ei ai;split at aj
  .rename_i hm;cases aj;rw[lR];exact df.still h (.s _) (stay none 0 0 hm (cq _))
  .rename_i hm;split at aj
   .rename_i px;cases aj;exact abd none (.inl rfl) hm (jn (Iy _ H2) px) lR
   .cases aj
 .
  cases ai with
  |c6 a=>
    split at aj
    .rename_i hm;cases aj;exact df.still h (.c6 a) (stay (some a) 0 0 hm (cq _))
    .rename_i hm;split at aj
     .rename_i px;cases aj;exact abd (some a) (.inr ⟨a,rfl⟩) hm (jn (Iy _ H2) px) rfl
     .cases aj
 .
  rename_i es dC;split at aj
  .rename_i hm;cases aj;cases ai with
   |dc es dC B o cap arr bN fr aD cS ab SB hV av=>
     exact df.still h (.dc es dC B o cap arr bN fr aD cS ab SB hV av) (stay _ _ _ hm.1 ab)
   |iy _ cap a=>exact df.still h (.iy _ cap a) (stay _ _ _ hm.1 (by omega))
  .cases aj
 .
  rename_i id g off len dC;split at aj
  case isFalse=>cases aj
  rename_i ab;obtain⟨rfl,Ge⟩:=ab;split at aj
  case h_2=>cases aj
  rename_i row kl;split at aj
  case isFalse=>cases aj
  rename_i Bn;split at aj
  .rename_i hm;cases aj;cases ai with
   |aZ _ _ _ _ _ B b cap arr bN hL aD lZ hV=>exact df.still h (.aZ _ _ _ _ _ B b cap arr bN hL aD lZ hV) (stay _ _ _ hm lZ)
   |jw _ _ _ _ B b a hL=>exact df.still h (.jw _ _ _ _ B b a hL) (stay _ _ _ hm (cq _))
  .rename_i hm;split at aj
   case isFalse=>cases aj
   rename_i px;replace px:=jn (Iy _ H2) px;cases aj
   have dn:((row.drop off).take (len*i.size)).length=len*i.size:=by simp;omega
   have rW:id<H.length:=(dQ.1 (oX kl)).1;have move:∀(a:Option Addr) (cap:Nat) (sQ:List Value) (g0:Nat) (k7:Nat × Nat),μ id g0=some k7->cap<len+m->b6 μ ae w ((row.drop off).take (len*i.size)) sQ->
    (Builtin.firstCells i.size len (.slice a len cap)).run P w.drew=.ok sQ.toArray w.drew->
    df aK μ ae w H ((do pure (.value (<- Builtin.append_ ao ty #[.slice a len cap,c])):Sem Next).run P w) (.aZ id (g+1) 0 (len+m) i.size) (H.set id (.cells (g+1) ((row.drop off).take (len*i.size)++xs))):=by
    intro a cap sQ g0 k7 r0 a8 holds uk;have ak:=QH (P:=P) (w:=w) (base:=a) (sLen:=len) (sCap:=cap) (ty:=ty) bd J aY jX hi Ct ah kZ uk afM a8 px;have rh:=grownCap_ge w (len+m) cap e
    have Yu:sQ.length=len*i.size:=by rw[<- holds.1,dn]
    have sg:(Builtin.zeroCells eD.cells (grownCap w (len+m) cap e-(len+m))).size=(grownCap w (len+m) cap e-(len+m))*eD.cells.size:=size_zeroCells _ _;have hM:=holds.append db
    have fg:kz aK μ ae w (.cells (g+1) ((row.drop off).take (len*i.size)++xs)) 0 (.cells (sQ.toArray++vs.toArray++Builtin.zeroCells eD.cells (grownCap w (len+m) cap e-(len+m))) e (0,0)):=by
     refine⟨rfl,by simp_all,fun j a v aO av=>?_,s9.gen (Nat.succ_ne_zero g)⟩
     have bz:j<(sQ++vs).length:=by rw[<- hM.1];exact(dQ.1 aO).1
     rw[mx,Sx (by simpa using bz)]at av
     exact hM.2 j a v aO (by simpa using av)
    have tz:((do pure (.value (<- Builtin.append_ ao ty #[.slice a len cap,c])):Sem Next).run P w)=.ok (.value (.slice (some ⟨w.heap.size,0,none⟩) (len+m) (grownCap w (len+m) cap e))) (w.drew.alloc (.cells (sQ.toArray++vs.toArray++Builtin.zeroCells eD.cells (grownCap w (len+m) cap e-(len+m))) e)):=by
     simp only[Sem.run_bind,ak,ev,Sem.run_pure]
    refine⟨_,_,_,_,.inl tz,?_,apz h _ (g+1) (oX kl) r0 (h.next kl) (fun j bz=>bz.symm) (fun j bN k q an=>by cases bN;have:=h.mQ _ _ _ _ _ an (oX kl) rfl;omega) fg rfl rfl rfl rfl⟩
    refine .aZ id (g+1) 0 (len+m) i.size w.heap.size 0 _ _ e (n2 _ _ _ _) (yW (w:=w) rfl) rh ?_;simp only[mx,Na,tr,Yu,xE,sg,Jj,<- Hc]
    exact rk _ (by omega)
   cases ai with
   |jw _ _ _ _ B b a hL=>
     refine move (some a) 0 [] g (B,b) hL (by omega) ⟨by simp,fun j a v aO _=>by simp at aO⟩ ?_
     simp[Builtin.firstCells,loadCells,loadCellsFrom]
   |aZ _ _ _ _ _ B b cap arr bN hL aD lZ hV=>
     by_cases Gs:len+m<=cap
     .
      obtain⟨nG,cX,yp,aXN,Bq⟩:=h.row kl hL;rw[aD]at yp;cases yp
      have aXL:len*i.size+m*i.size<=cap*i.size:=by rw[<- Hc];exact rk _ Gs
      have ig:=run_storeCells_at P B (b+off+len*i.size) bN vs 0 arr w aD (by omega) (SO db jj)
      simp only[Du]at ig
      have rP:=LN (P:=P) (w:=w) (base:=some ⟨B,b+off,none⟩) (sLen:=len) (sCap:=cap) (ty:=ty) bd J aY jX hi kZ qq Gs (fun a aO=>by cases aO;rw[w5];exact ig) (fun h=>by cases h)
      have Fh:((arr.toList.take (b+off+len*i.size)++vs++arr.toList.drop (b+off+len*i.size+vs.length)).toArray).size=arr.size:=by simp;omega
      have RY:((do pure (.value (<- Builtin.append_ ao ty #[.slice (some ⟨B,b+off,none⟩) len cap,c])):Sem Next).run P w)=.ok (.value (.slice (some ⟨B,b+off,none⟩) (len+m) cap)) (w.setRow B (arr.toList.take (b+off+len*i.size)++vs++arr.toList.drop (b+off+len*i.size+vs.length)).toArray):=by
       simp only[Sem.run_bind,rP,ev,Sem.run_pure]
      refine⟨.slice (some ⟨B,b+off,none⟩) (len+m) cap,_,_,_,.inl RY,?_,GD h (o':=.cells (arr.toList.take (b+off+len*i.size)++vs++arr.toList.drop (b+off+len*i.size+vs.length)).toArray bN (0,0)) (g+1) (b+off) (oX kl) rfl hL aD ?_ (by simp) (.inr ⟨h.next kl,by omega⟩) (fun j bz=>bz.symm) (fun j c' bN k q an=>by cases bN;have:=h.mQ _ _ _ _ _ an (oX kl) rfl;omega) (Yt aD) rfl rfl rfl ?_ ?_⟩
      .exact .aZ id (g+1) 0 (len+m) i.size B (b+off) cap _ bN (n2 _ _ _ _) (setRow_heap w B arr _ bN (0,0) aD) Gs (by omega)
      .grind
      .intro v af;have af:v∈(row.drop off).take (len*i.size)++xs:=af;have K5:∀v∈row,fi H.length v:=h.P7 (oX kl) rfl hL
       rcases pu.1 af with af|af
       .grind
       .exact db.q0 h.hz v af
      .intro _ cf b9 gD cS;have an:∀K,K<w.heap.size->¬ae K->(w.setRow B (arr.toList.take (b+off+len*i.size)++vs++arr.toList.drop (b+off+len*i.size+vs.length)).toArray).heap[K]?=w.heap[K]?:=
        fun K _ aJ=>setRow_other w B K _ (fun e=>aJ (e▸(h.gF _ _ _ _ hL).1))
       have gG:∀(K:Nat) (a0:Array Value) (e:TypeId) (fr:Nat × Nat),w.heap[K]?=some (.cells a0 e fr)->∃eK aW,(w.setRow B (arr.toList.take (b+off+len*i.size)++vs++arr.toList.drop (b+off+len*i.size+vs.length)).toArray).heap[K]?=some (.cells eK e aW)/\eK.size=a0.size:=by
        intro K a0 cX IX bk;by_cases D7:K=B
        .subst D7;rw[aD]at bk;cases bk;exact⟨_,_,setRow_heap w K arr _ bN (0,0) aD,Fh⟩
        .exact⟨a0,_,(setRow_other w B K _ D7).trans bk,rfl⟩
       refine⟨rfl,by grind,?_,s9.gen (Nat.succ_ne_zero g)⟩
       intro j a v aO av;have mono:bS μ ae w a v->bS cf b9 (w.setRow B (arr.toList.take (b+off+len*i.size)++vs++arr.toList.drop (b+off+len*i.size+vs.length)).toArray) a v:=
        fun x=>x.mono gD (fun K bk hm=>(cS K bk).1 hm) an gG
       apply mono
       have p0:(arr.toList.take (b+off+len*i.size)++vs++arr.toList.drop (b+off+len*i.size+vs.length))[b+off+j]?=some v:=by simpa using av
       by_cases cj:j<len*i.size
       .rw[bi (by omega),mr cj,qP]at aO
        rw[gi,bi (by simp;omega),mr (by omega)]at p0
        exact Bq _ a v aO (by rw[<- qs];simpa using p0)
       .rw[jA (by omega),dn]at aO
        have bz:j-len*i.size<vs.length:=by rw[<- db.1];exact(dQ.1 aO).1
        rw[gi,jA (by simp;omega),bi (by simp;omega)]at p0
        have aU:b+off+j-(List.take (b+off+len*i.size) arr.toList).length=j-len*i.size:=by simp;omega
        rw[aU]at p0;exact db.2 _ a v aO p0
     .obtain⟨sQ,holds,tu⟩:=h.place kl hL dn
      exact move (some ⟨B,b+off,none⟩) cap sQ g (B,b) hL (by omega) holds (run_firstCells_some (P:=P) w.drew i.size len _ len cap sQ (by rw[<- holds.1,dn]) (fun j v av=>by simpa using tu j v av))
 .cases aj
def axY(h:cE aK μ ae w H){sz m:Nat}{x:V}{xs:List V}{c:Value}(bd:0<sz)(th:∀b,x≠.s (.string b))(af:bS μ ae w x c)(he:elems H sz x=some (m,xs)):
 xs.length=m*sz/\∃vs:List Value,b6 μ ae w xs vs/\((c=.slice none 0 0/\m=0)\/∃a cap,c=.slice (some a) m cap/\∀(j:Nat) (v:Value),vs[j]?=some v->w.cell? (a.add j)=some v):=by
 unfold elems at he;dsimp only at he;split at he
 .cases he;rw[ei af]
  exact⟨by simp,[],b6.nil,.inl ⟨rfl,rfl⟩⟩
 .cases he;cases af with
  |c6 a=>exact⟨by simp,[],b6.nil,.inr ⟨a,0,rfl,fun j v av=>by simp at av⟩⟩
 .rename_i es dC;split at he
  .rename_i dk;subst dk;cases he;obtain⟨a,cap,rfl,aq,vs,av,ab⟩:=Y4 bd af
   grind
  .simp at he
 .rename_i id g off len dC;split at he
  .rename_i dk;subst dk;split at he
   .rename_i cs lR;split at he
    .rename_i dn;cases he;cases af with
     |aZ _ _ _ _ _ B b cap arr e hm aD lZ dk=>
       obtain⟨vs,av,ab⟩:=h.place lR hm dn
       grind
     |jw _ _ _ _ B b a hm=>
       refine⟨by simp,[],⟨by simp,fun i a b h=>by simp at h⟩,.inr ⟨a,0,rfl,fun j v av=>by simp at av⟩⟩
    .simp at he
   .simp at he
  .simp at he
 .simp at he
def aM8(h:cE aK μ ae w H){t e:TypeId}{sz:Nat}{ao:Array TypeId}{ty:TypeId}{d s v:V}{aiU cs:Value}{base:Nat}(tQ:ao[0]?=some t)(aY:P.underlying t=some (.slice e))(dk:gq P e=some sz)(bd:0<sz)(aj:copyV H base sz d s=some (v,H'))(aQ:bS μ ae w d aiU)(ai:bS μ ae w s cs):df aK μ ae w H ((do pure (.value (<- Builtin.copy_ ao ty #[aiU,cs])):Sem Next).run P w) v H':=by
 unfold copyV at aj;split at aj
 .cases aj
 rename_i th;split at aj
 .cases aj
 rename_i m xs he;obtain⟨oy,vs,db,gp⟩:=axY h bd (fun b e=>th b e) ai he;split at aj
 case isFalse=>cases aj
 rename_i jj
 have xE:vs.length=m*sz:=by rw[<- db.1,oy]
 have dn:(Builtin.lenOf cs).run P w=.ok m w:=by
  rcases gp with⟨rfl,rfl⟩|⟨a,cap,rfl,_⟩<;>rfl
 have qF:∀n,n<=m->(Builtin.firstCells sz n cs).run P w=.ok (vs.take (n*sz)).toArray w:=by
  intro n aJ;have hmul:n*sz<=m*sz:=rk _ aJ
  rcases gp with⟨rfl,rfl⟩|⟨a,cap,rfl,ab⟩
  .have uO:n=0:=by omega
   subst uO;simp[Builtin.firstCells]
  .refine run_firstCells_some (P:=P) w sz n a m cap (vs.take (n*sz)) (by simp;omega) fun j v bz=>?_
   grind
 have SZ:∀(b:Option Addr) (n:Nat),((do pure (.value (<- Builtin.copy_ ao ty #[.slice b 0 n,cs])):Sem Next).run P w)=.ok (.value (.int .i64 0)) w:=by
  intro b n;have al:=qF 0 (gY _);simp only[R7,dj]at al;have ts:Nat.min m 0=0:=QP _;cases b<;>simp[Builtin.copy_,tQ,run_underlying aY,run_sizeOf dk,dn,al,storeCells,goInt]
 split at aj
 .cases aj;rw[ei aQ];exact df.still h (.s _) (SZ none 0)
 .cases aj;cases aQ with
  |c6 a=>exact df.still h (.s _) (SZ (some a) 0)
 .rename_i id g off len dC;split at aj
  case isFalse=>cases aj
  rename_i ab;obtain⟨rfl,Ge⟩:=ab;split at aj
  case h_2=>cases aj
  rename_i row kl;split at aj
  case isFalse=>cases aj
  rename_i Bn;cases aj;cases aQ with
  |jw _ _ _ _ B b a hm=>
    have kv:H.set id (.cells g (iQ row off (xs.take (min m 0*dC))))=H:=by
     simp only[QP,R7,dj]
     have oG:iQ row off []=row:=by simp[iQ]
     rw[oG];apply yb;intro i;by_cases hi:id=i
     .subst hi;rw[w8 (dQ.1 (oX kl)).1,oX kl]
     .simp_all
    rw[kv];simp only[QP];exact df.still h (.s _) (SZ (some a) 0)
  |aZ _ _ _ _ _ B b cap arr bN hm aD lZ hV=>
    have iJ:min m len<=m:=Nat.min_le_left _ _;have lL:min m len<=len:=Nat.min_le_right _ _;have hmul:min m len*dC<=m*dC:=rk _ iJ;have aX8:min m len*dC<=len*dC:=rk _ lL
    have aX5:(xs.take (min m len*dC)).length=min m len*dC:=by rw[EP,oy];omega
    obtain⟨w',ig,h0⟩:=Mi (P:=P) (off:=off) (vs:=xs.take (min m len*dC)) (us:=vs.take (min m len*dC)) h kl hm (by omega) (db.take _) (by
     grind)
    refine⟨.int .i64 (min m len:Nat),w',_,_,.inl ?_,.s _,h0⟩;have r0:Nat.min m len=min m len:=rfl;simp[Builtin.copy_,tQ,run_underlying aY,run_sizeOf dk,dn,r0,qF _ iJ,ig,goInt]
 .cases aj
def aKo:∀{xs:List V} {bs:List UInt8} {vs:List Value},Po xs=some bs->b6 μ ae w xs vs->∃xS:List Int,vs=xS.map (Value.int .u8)/\bs=xS.map fun n=>UInt8.ofNat n.toNat:=by
 intro xs
 induction xs with
 |nil=>
   intro bs vs h av;cases h;have:vs=[]:=lX av.1.symm
   simp_all
 |cons x xs aF=>
   intro bs vs h av;unfold Po at h;split at h
   .simp_all
   .rename_i n vt e;cases e;split at h
    .rename_i lP ah;cases h;cases vs with
     |nil=>have:=av.1;simp at this
     |cons u vs=>
       have J:=ei (av.2 0 _ _ rfl rfl)
       obtain⟨xS,rfl,rfl⟩:=aF (vs:=vs) ah ⟨by have:=av.1;simpa using this,fun i a b aO ah=>av.2 (i+1) a b (by simpa using aO) (by simpa using ah)⟩
       exact⟨n::xS,by rw[J];rfl,rfl⟩
    .cases h
   .cases h
def aLZ(h:cE aK μ ae w H){src dst e:TypeId}{x r:V}{c:Value}{ρ:Operand->Value}{o:Oper}{y:Operand}(ai:P.underlying src=some (.slice e))(aQ:P.underlying dst=some .string)(he:P.underlying e=some (.int .u8))(af:bS μ ae w x c)(aj:Q3 H x=some r)(aX:o.op=.convert src dst y)(bC:ρ y=c):df aK μ ae w H ((execOp ρ o).run P w) r H:=by
 have vI:execOp ρ o=(do pure (.value (<- convert src dst c)):Sem Next):=by
  unfold execOp;rw[aX];subst bC;rfl
 rw[vI];unfold Q3 at aj;split at aj
 .cases aj
 rename_i th;split at aj
 .rename_i m xs kg;split at aj
  .rename_i bs zR;cases aj;obtain⟨oy,vs,db,gp⟩:=axY h (Nat.lt_succ_self 0) (fun b e=>th b e) af kg;obtain⟨xS,rfl,rfl⟩:=aKo zR db
   have Hq:xS.length=m:=by have:=db.1;simp at this;omega
   refine df.still h (.s _) ?_
   rcases gp with⟨rfl,rfl⟩|⟨a,cap,rfl,ab⟩
   .have:xS=[]:=lX Hq;subst this;simp only[Sem.run_bind,run_convert_bytes_string w src dst e _ _ _ ai he aQ,Conv.bytesToString,Sem.run_pure,ev];rfl
   .have aq:(loadCells a m).run P w=.ok (xS.map (Value.int .u8)).toArray w:=by
     have:=run_loadCells_list (P:=P) w a (xS.map (Value.int .u8)) ab
     simpa[Hq]using this
    simp only[Sem.run_bind,run_convert_bytes_string w src dst e _ _ _ ai he aQ,run_bytesToString w a m cap xS aq,Sem.run_pure,ev,foldl_push_bytes]
    simp_all
  .cases aj
 .cases aj
end
end Go.ea
