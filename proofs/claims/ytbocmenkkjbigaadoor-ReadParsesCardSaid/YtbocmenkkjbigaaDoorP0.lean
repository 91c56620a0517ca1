/- Texts of the proof: RdSh, Am1, Am2, Am3, Am4, Am5, Am6, Am7, Am8, Am9, Am10. -/
import Derived.Shelf.Small.Strs
import Derived.Shelf.Strconv.Atoi
import Derived.Test.YtbocmenkkjbigaaDoorProg
import GoSem.Step
import Derived.KernelRfl
import Derived.Laws.AppendOwn
import Derived.Laws.StructEq
import Derived.WalkKit
import Derived.MapKept
import Derived.LaidEql
import Derived.Laws.BytesArg
set_option linter.all false
namespace Go
def bmk:=@List.getElem?_eq_some_iff
def bmv:=@Array.getElem?_eq_some_iff
def bm0:=@Result.andThen_ok
def bm1:=@And.intro
def ae:=@List.getElem?_set_ne
def af:=@List.getElem?_eq_getElem
def ah:=@List.getElem?_append_left
def aj:=@Nat.le_refl
def ak:=@Option.bind_eq_some_iff
def au:=@Bool.and_eq_true
def az:=@List.take_succ_cons
def bg:=@List.cons_append
def bi:=@List.length_singleton
def bn:=@List.length_cons
def bq:=@List.all_eq_true
def bu:=@Option.map_eq_some_iff
def bz:=@List.getElem?_append_right
def cz:=@beq_eq_false_iff_ne
def dh:=@List.drop_succ_cons
def di:=@List.nil_append
def dw:=@if_pos
def dx:=@List.drop_zero
def dz:=@beq_iff_eq
def d9:=@List.length_nil
def ed:=@List.drop_eq_getElem_cons
def eu:=@List.mem_singleton
def fe:=@List.length_set
def fo:=@Option.bind_eq_bind
def fq:=@List.take_zero
def fu:=@if_neg
def gm:=@List.length_append
def gp:=@List.all_cons
def gu:=@List.getElem?_take_of_lt
def gy:=@Bool.and_true
def ib:=@Bool.eq_iff_iff
def ic:=@Bool.false_eq_true
def ig:=@List.length_drop
def ik:=@List.mem_of_getElem?
def il:=@List.mem_cons_of_mem
def iq:=@List.all_nil
def iw:=@Option.pure_def
def iy:=@Option.isSome_some
def jb:=@List.eq_nil_of_length_eq_zero
def jc:=@List.getElem?_drop
def je:=@Option.some.injEq
def jf:=@if_true
def jg:=@decide_eq_true_iff
def jh:=@List.mem_cons_self
def ji:=@List.getD_cons_zero
def jk:=@Option.some.inj
def jm:=@List.getD_eq_getElem?_getD
def jo:=@Nat.zero_le
def jr:=@List.getD_cons_succ
def jv:=@congrArg
def jw:=@List.getElem?_eq_none
def jy:=@List.mem_append_left
def ko:=@Array.getElem?_eq_getElem
def kr:=@Bool.or_eq_true
def ku:=@List.append_assoc
def kv:=@Nat.lt_of_lt_of_le
def ky:=@if_false
def lg:=@beq_self_eq_true
def lh:=@List.mem_append_right
def ll:=@Bool.false_and
def lm:=@decide_eq_true_eq
def lq:=@Bool.and_self
def l5:=@List.length_take
def l9:=@and_self
def ma:=@List.getElem?_set_self
def mf:=@List.drop_eq_nil_of_le
def mh:=@Option.map_some
def mo:=@List.mem_append
def mq:=@List.mem_cons
def ng:=@Nat.zero_add
def nk:=@Bool.true_and
def ny:=@bne_iff_ne
def nz:=@List.getElem?_map
def og:=@Int.toNat_natCast
def oh:=@Bool.not_eq_true
def oq:=@List.drop_nil
def oz:=@Bool.or_eq_false_iff
def o7:=@Nat.add_zero
def pq:=@List.map_cons
def pu:=@Nat.le_max_right
def qa:=@Nat.le_trans
def qc:=@List.drop_drop
def qd:=@Nat.mul_le_mul_right
def qf:=@List.mapM_cons
def qm:=@Int.lt_irrefl
def qo:=@Bool.false_or
def qx:=@List.flatten_append
def qy:=@Bool.and_false
def rq:=@List.take_of_length_le
def ru:=@Bool.true_or
def sj:=@Ne.symm
def tq:=@List.take_append_drop
def ug:=@List.size_toArray
def uk:=@List.map_congr_left
def um:=@Bool.not_false
def uu:=@List.flatten_cons
def uy:=@List.drop_of_length_le
def uz:=@decide_eq_false
def ve:=@Nat.le_max_left
def vk:=@List.getElem_of_mem
def vz:=@List.getElem?_toArray
def wh:=@List.ext_getElem?
def wu:=@List.getElem?_cons_succ
def xh:=@Array.toArray_toList
def xq:=@List.not_mem_nil
def xu:=@List.getElem_mem
def xy:=@Bool.not_eq_true'
def xz:=@Array.ext'
def yg:=@decide_eq_true
def yh:=@Nat.add_assoc
def yj:=@Bool.not_true
def yn:=@Nat.sub_self
def yo:=@List.append_nil
def zg:=@decide_eq_false_iff_not
def zh:=@List.getElem?_cons_zero
def zi:=@Bool.or_false
def zt:=@decide_true
def zu:=@Nat.add_mul
def aae:=@List.drop_append
def aah:=@decide_false
def aaj:=@Bool.false_ne_true
def aau:=@List.set_append_left
def aay:=@List.length_map
def aaz:=@Int.natCast_one
def aa4:=@List.mem_map
def aba:=@Array.getElem?_push
def abm:=@Nat.lt_succ_self
def abw:=@List.contains_cons
def ab0:=@Option.map_none
def ab1:=@Nat.mul_one
def ab2:=@List.map_nil
def acb:=@of_decide_eq_true
def acg:=@Nat.lt_irrefl
def acp:=@List.mem_of_mem_take
def ac8:=@List.any_eq_true
def ada:=@List.getElem?_range
def adt:=@List.set_eq_of_length_le
def ad8:=@List.nodup_cons
def aei:=@Array.all_eq_true_iff_forall_mem
def aew:=@Array.toList_replicate
def aey:=@List.contains_nil
def aez:=@Decidable.not_not
def afl:=@List.length_replicate
def afm:=@Bool.or_true
def afn:=@Array.mem_of_getElem?
def afo:=@Array.eq_empty_of_size_eq_zero
def aft:=@Option.getD_some
def afu:=@List.take_length
def afv:=@List.take_append
def agm:=@List.mem_of_mem_drop
def ag2:=@List.dropLast_concat_getLast
def ahd:=@Nat.mul_le_mul_left
def ahe:=@Nat.min_eq_left
def ahf:=@List.foldl_cons
def ahg:=@Array.toList_append
def ahh:=@Array.size_push
def ahi:=@Array.getD_eq_getD_getElem?
def ah9:=@Array.getElem?_append_left
def aie:=@true_and
def aiu:=@or_false
def aje:=@Option.toList_some
def ajf:=@List.mem_replicate
def ajg:=@Array.foldl_toList
def aji:=@Decidable.byContradiction
def ajj:=@Classical.byContradiction
def ale:=@List.take_add_one
def alf:=@Array.toList_push
def alg:=@Array.size_append
def amh:=@Prod.mk.injEq
def aoi:=@Nat.min_eq_right
def aoj:=@List.mem_flatten
def apu:=@cond_true
def ap1:=@Nat.zero_mul
def ap2:=@Nat.one_ne_zero
def ap3:=@Nat.not_lt_zero
def ap4:=@List.countP_le_length
def ap5:=@Int.natCast_inj
def ap7:=@Array.getElem?_setIfInBounds_self_of_lt
def asi:=@Array.mem_toList_iff
def au0:=@List.mem_range
def au2:=@Prod.mk.inj
def ay0:=@congrFun
def ay8:=@List.mapM_nil
def a1a:=@not_true_eq_false
def a1b:=@Function.comp_def
def a1c:=@Bool.not_eq_false
def a1d:=@Array.getElem?_setIfInBounds_ne
def a7h:=@Bool.or_self
def a7o:=@List.ext_getElem
def bdm:=@Nat.one_mul
def bdn:=@Nat.le_succ
def bdo:=@List.map_append
def bdp:=@List.find?_cons
def bhf:=@List.mem_of_find?_eq_some
def bhg:=@Array.mapM_eq_mapM_toList
def bjj:=@not_or
def bj9:=@cond_false
def bl4:=@Nat.mul_div_cancel_left
def bl5:=@List.getElem?_replicate
def bl6:=@Bool.or_assoc
def bl7:=@Array.getElem?_eq_none
def bl8:=@Nat.sub_zero
def bl9:=@Nat.min_zero
def bma:=@List.singleton_append
def bmb:=@Classical.choose_spec
def bmc:=@List.length_eraseIdx
def bmd:=@List.contains_eq_mem
def bme:=@bne_eq_false_iff_eq
def bmf:=@List.replicate_succ
def bmg:=@List.mem_map_of_mem
def bmh:=@List.map_eq_nil_iff
def bmi:=@List.countP_eq_zero
def bmj:=@Iff.rfl
end Go
namespace Go.Proofs
open Go.Shelf
def Tryd.idxK_ren:Go.Shelf.Ren:=⟨fun|137=>27|217=>46|266=>54|n=>n,fun|9=>9|5=>5|3=>3|n=>n,fun|n=>n⟩
def Tryd.idxK:Go.Proofs.Lays.n137 Tryd.prog Tryd.idxK_ren:={
 mixed:=by kernel_rfl
 f137:=Tryd.func27.trans (jv some (by kernel_rfl))
 f217:=Tryd.func46.trans (jv some (by kernel_rfl))
 f266:=Tryd.func54.trans (jv some (by kernel_rfl))
 t3:=Tryd.underlying3
 a3:=Tryd.isAgg3
 z3:=Tryd.sizeOf3
 v3:=Tryd.zeroValue3
 t5:=Tryd.underlying5
 a5:=Tryd.isAgg5
 z5:=Tryd.sizeOf5
 v5:=Tryd.zeroValue5
 t9:=Tryd.underlying9
 a9:=Tryd.isAgg9
 z9:=Tryd.sizeOf9
 v9:=Tryd.zeroValue9 }
def Tryd.atoiK_ren:Go.Shelf.Ren:=⟨fun|172=>33|244=>47|245=>48|247=>55|279=>56|280=>57|281=>58|282=>59|287=>72|316=>73|171=>75|205=>74|321=>76|322=>77|243=>78|246=>79|283=>80|284=>81|285=>82|286=>83|129=>85|317=>84|318=>86|319=>87|320=>88|337=>89|338=>90|n=>n,fun|9=>9|3=>3|75=>83|76=>84|4=>4|5=>5|167=>103|37=>33|0=>0|85=>104|2=>2|168=>106|53=>110|175=>111|46=>113|210=>116|127=>120|145=>123|143=>121|21=>21|171=>125|173=>128|212=>132|51=>133|20=>20|213=>134|232=>138|233=>139|80=>86|n=>n,fun|15=>1|16=>2|17=>3|18=>4|19=>5|n=>n⟩
def Tryd.atoiK:Go.Proofs.Lays.n172 Tryd.prog Tryd.atoiK_ren:={
 mixed:=by kernel_rfl
 f129:=Tryd.func85.trans (jv some (by kernel_rfl))
 f171:=Tryd.func75.trans (jv some (by kernel_rfl))
 f172:=Tryd.func33.trans (jv some (by kernel_rfl))
 f205:=Tryd.func74.trans (jv some (by kernel_rfl))
 f243:=Tryd.func78.trans (jv some (by kernel_rfl))
 f244:=Tryd.func47.trans (jv some (by kernel_rfl))
 f245:=Tryd.func48.trans (jv some (by kernel_rfl))
 f246:=Tryd.func79.trans (jv some (by kernel_rfl))
 f247:=Tryd.func55.trans (jv some (by kernel_rfl))
 f279:=Tryd.func56.trans (jv some (by kernel_rfl))
 f280:=Tryd.func57.trans (jv some (by kernel_rfl))
 f281:=Tryd.func58.trans (jv some (by kernel_rfl))
 f282:=Tryd.func59.trans (jv some (by kernel_rfl))
 f283:=Tryd.func80.trans (jv some (by kernel_rfl))
 f284:=Tryd.func81.trans (jv some (by kernel_rfl))
 f285:=Tryd.func82.trans (jv some (by kernel_rfl))
 f286:=Tryd.func83.trans (jv some (by kernel_rfl))
 f287:=Tryd.func72.trans (jv some (by kernel_rfl))
 f316:=Tryd.func73.trans (jv some (by kernel_rfl))
 f317:=Tryd.func84.trans (jv some (by kernel_rfl))
 f318:=Tryd.func86.trans (jv some (by kernel_rfl))
 f319:=Tryd.func87.trans (jv some (by kernel_rfl))
 f320:=Tryd.func88.trans (jv some (by kernel_rfl))
 f321:=Tryd.func76.trans (jv some (by kernel_rfl))
 f322:=Tryd.func77.trans (jv some (by kernel_rfl))
 f337:=Tryd.func89.trans (jv some (by kernel_rfl))
 f338:=Tryd.func90.trans (jv some (by kernel_rfl))
 t0:=Tryd.underlying0
 a0:=Tryd.isAgg0
 z0:=Tryd.sizeOf0
 v0:=Tryd.zeroValue0
 t2:=Tryd.underlying2
 a2:=Tryd.isAgg2
 z2:=Tryd.sizeOf2
 v2:=Tryd.zeroValue2
 t3:=Tryd.underlying3
 a3:=Tryd.isAgg3
 z3:=Tryd.sizeOf3
 v3:=Tryd.zeroValue3
 t4:=Tryd.underlying4
 a4:=Tryd.isAgg4
 z4:=Tryd.sizeOf4
 v4:=Tryd.zeroValue4
 t5:=Tryd.underlying5
 a5:=Tryd.isAgg5
 z5:=Tryd.sizeOf5
 v5:=Tryd.zeroValue5
 t9:=Tryd.underlying9
 a9:=Tryd.isAgg9
 z9:=Tryd.sizeOf9
 v9:=Tryd.zeroValue9
 t20:=Tryd.underlying20
 a20:=Tryd.isAgg20
 z20:=Tryd.sizeOf20
 v20:=Tryd.zeroValue20
 t21:=Tryd.underlying21
 a21:=Tryd.isAgg21
 z21:=Tryd.sizeOf21
 v21:=Tryd.zeroValue21
 t37:=Tryd.underlying33
 a37:=Tryd.isAgg33
 z37:=Tryd.sizeOf33
 v37:=Tryd.zeroValue33
 t46:=Tryd.underlying113
 a46:=Tryd.isAgg113
 z46:=Tryd.sizeOf113
 v46:=Tryd.zeroValue113
 t51:=Tryd.underlying133
 a51:=Tryd.isAgg133
 z51:=Tryd.sizeOf133
 v51:=Tryd.zeroValue133
 t53:=Tryd.underlying110
 a53:=Tryd.isAgg110
 z53:=Tryd.sizeOf110
 v53:=Tryd.zeroValue110
 t75:=Tryd.underlying83
 a75:=Tryd.isAgg83
 z75:=Tryd.sizeOf83
 v75:=Tryd.zeroValue83
 t76:=Tryd.underlying84
 a76:=Tryd.isAgg84
 z76:=Tryd.sizeOf84
 v76:=Tryd.zeroValue84
 t85:=Tryd.underlying104
 a85:=Tryd.isAgg104
 z85:=Tryd.sizeOf104
 v85:=Tryd.zeroValue104
 t127:=Tryd.underlying120
 a127:=Tryd.isAgg120
 z127:=Tryd.sizeOf120
 v127:=Tryd.zeroValue120
 t143:=Tryd.underlying121
 a143:=Tryd.isAgg121
 z143:=Tryd.sizeOf121
 v143:=Tryd.zeroValue121
 t145:=Tryd.underlying123
 a145:=Tryd.isAgg123
 z145:=Tryd.sizeOf123
 v145:=Tryd.zeroValue123
 t167:=Tryd.underlying103
 a167:=Tryd.isAgg103
 z167:=Tryd.sizeOf103
 v167:=Tryd.zeroValue103
 t168:=Tryd.underlying106
 a168:=Tryd.isAgg106
 z168:=Tryd.sizeOf106
 v168:=Tryd.zeroValue106
 t171:=Tryd.underlying125
 a171:=Tryd.isAgg125
 z171:=Tryd.sizeOf125
 v171:=Tryd.zeroValue125
 t173:=Tryd.underlying128
 a173:=Tryd.isAgg128
 z173:=Tryd.sizeOf128
 v173:=Tryd.zeroValue128
 t175:=Tryd.underlying111
 a175:=Tryd.isAgg111
 z175:=Tryd.sizeOf111
 v175:=Tryd.zeroValue111
 t210:=Tryd.underlying116
 a210:=Tryd.isAgg116
 z210:=Tryd.sizeOf116
 v210:=Tryd.zeroValue116
 t212:=Tryd.underlying132
 a212:=Tryd.isAgg132
 z212:=Tryd.sizeOf132
 v212:=Tryd.zeroValue132
 t213:=Tryd.underlying134
 a213:=Tryd.isAgg134
 z213:=Tryd.sizeOf134
 t232:=Tryd.underlying138
 a232:=Tryd.isAgg138
 z232:=Tryd.sizeOf138
 v232:=Tryd.zeroValue138
 t233:=Tryd.underlying139
 a233:=Tryd.isAgg139
 z233:=Tryd.sizeOf139
 v233:=Tryd.zeroValue139
 g15:=by kernel_rfl
 g16:=by kernel_rfl
 g17:=by kernel_rfl
 g18:=by kernel_rfl
 g19:=by kernel_rfl }
end Go.Proofs
namespace Go.AM
inductive V where
 |s (v:Value)
 |agg (cs:List V)
 |tup (vs:List V)
 |ref (id g off:Nat)
 |pref (cs:List V)
 |sl (id g off len sz:Nat)
 |psl (es:List (List V)) (sz:Nat)
 |esl
 |mp (id:Nat)
 |fn (f:Nat) (fst cap:List V)
 |yld (id:Nat)
 |ifc (t:TypeId) (v:V)
 |unk
 deriving Inhabited
inductive Opd where
 |t (i:Nat)
 |c (v:V)
 deriving Inhabited
inductive Leaf where
 |int (k:IntKind)|bool|str
 deriving DecidableEq,Inhabited
inductive NK where
 |p|s|m|f
 deriving DecidableEq,Inhabited
inductive AOp where
 |move (x:Opd)
 |pick (c a b:Opd)
 |alloc (zero:List V)
 |box (x:Opd)
 |build (zero:List V) (places:List (Nat × Nat)) (parts:List (Nat × Opd))
 |buildSl (sz len:Nat) (zero:List V) (parts:List (Nat × Opd))
 |mapNew
 |mapUpd (kind:TypeDesc) (m k v:Opd)
 |mapGet (kind:TypeDesc) (zero:V) (m k:Opd) (ok:Bool)
 |load (agg:Bool) (n:Nat) (a:Opd)
 |store (n:Nat) (a v:Opd)
 |nilCheck (x:Opd)
 |bin (op:BinOp) (x y:Opd)
 |eqB (neg:Bool) (x y:Opd)
 |eqP (neg:Bool) (x y:Opd)
 |eqNil (k:NK) (neg:Bool) (x:Opd)
 |eqAgg (neg:Bool) (ls:List Leaf) (x y:Opd)
 |un (op:UnOp) (x:Opd)
 |conv (k:IntKind) (x:Opd)
 |convId (x:Opd)
 |mkFn (f:Nat) (fst cap:List Opd)
 |mkSl (zero:List V) (sz bytes:Nat) (len cap:Opd)
 |subStr (x:Opd) (lo hi:Option Opd)
 |subSl (sz:Nat) (x:Opd) (lo hi mx:Option Opd)
 |fieldAddr (off:Nat) (x:Opd)
 |field (agg:Bool) (off n:Nat) (x:Opd)
 |indexAddr (sz:Nat) (x i:Opd)
 |indexStr (x i:Opd)
 |extract (x:Opd) (i:Nat)
 |lenS (k:NK) (x:Opd)
 |append (sz bytes:Nat) (s x:Opd)
 |appR (sz bytes:Nat) (s x:Opd)
 |delete (kind:TypeDesc) (m k:Opd)
 |minmax (mx:Bool) (x y:Opd)
 |call (f:Opd) (args:List Opd)
 |callR (f:Opd) (args:List Opd)
 |callP (f:Nat) (args:List Opd)
 |callQ (f:Nat) (args:List Opd)
 |clearSl (sz:Nat) (zero:List V) (x:Opd)
 |copy (sz:Nat) (d s:Opd)
 |bstr (x:Opd)
 |stuck
 deriving Inhabited
structure AOper where
 dst:Option Nat
 op:AOp
 guard:Option (Nat × Bool)
 deriving Inhabited
inductive ACode where
 |skip
 |region (ops:List AOper) (chk:List (Nat × Nat)) (kill:List Nat)
 |regionE (ops:List AOper) (kill outs:List Nat)
 |seq (a b:ACode)
 |cond (c:Opd) (a b:ACode)
 |block (id:Nat) (c:ACode)
 |loop (kill:List Nat) (c:ACode)
 |rangeFunc (f:Opd) (params:List Nat) (assign body:ACode)
 |exit (id:Nat)
 |ret
 deriving Inhabited
inductive Ex where
 |nrm
 |ext (id:Nat)
 |ret
 deriving DecidableEq,Inhabited
inductive Ob where
 |cells (g:Nat) (c:List V)
 |map (es:List (Value × V))
 |loop (st:LoopState) (pend:Option Ex) (tmps:List V) (params:List Nat) (assign body:ACode)
 |dead
 |bytes (g:Nat) (l:List UInt8)
 deriving Inhabited
abbrev Heap:=List Ob
inductive ARes where
 |tmp (t:Nat)
 |cell (t:Nat) (agg:Bool) (n:Nat)
 deriving Inhabited
structure ACFun where
 ntmps:Nat
 results:List ARes
 body:ACode
 deriving Inhabited
inductive CFun where
 |code (c:ACFun)
 |prim (g:List V->Nat->Heap->Option (V × Heap))
def ev(fr:List V):Opd->V
 |.t i=>fr.getD i .unk
 |.c v=>v
def V.one:V->Bool
 |.s v=>match v with|.agg _=>false|.tuple _=>false|_=>true
 |.agg _=>false
 |.tup _=>false
 |.unk=>false
 |_=>true
def V.cells:V->List V
 |.agg cs=>cs
 |v=>[v]
def V.flat:V->Bool
 |.s _=>true
 |_=>false
def V.flat2:V->Bool
 |.s _=>true
 |.agg cs=>cs.all V.flat
 |.tup cs=>cs.all fun|.s _=>true|.agg cs=>cs.all V.flat|_=>false
 |_=>false
def getC(H:Heap)(id g:Nat):Option (List V):=
 match H[id]? with
 |some (.cells g' c)=>if g'=g then some c else none
 |_=>none
def splice(c:List V)(off:Nat)(vs:List V):List V:=c.take off++vs++c.drop (off+vs.length)
def shut(agg:Bool)(cs:List V):Option V:=
 if agg then some (.agg cs)else match cs with
  | [v]=>some v
  |_=>none
def abf(H:Heap)(agg:Bool)(n:Nat):V->Option V
 |.ref id g off=>match getC H id g with
   |some c=>let cs:=(c.drop off).take n;if cs.length=n then shut agg cs else none
   |none=>none
 |.pref cs=>let cs:=cs.take n;if cs.length=n then shut agg cs else none
 |_=>none
def ak3(H:Heap)(base n:Nat)(v:V):V->Option Heap
 |.ref id g off=>
   if base<=id then match getC H id g with
    |some c=>if v.cells.length=n/\off+n<=c.length/\v.cells.all V.one then some (H.set id (.cells g (splice c off v.cells)))else none
    |none=>none
   else none
 |_=>none
def acu(place:Nat->Option (Nat × Nat))(cells:List V):List (Nat × V)->Option (List V)
 | []=>some cells
 |(i,v)::rest=>match place i with
   |none=>none
   |some (off,size)=>if v.cells.length=size/\off+size<=cells.length/\v.cells.all V.one then acu place (splice cells off v.cells) rest else none
def ag8(kind:TypeDesc)(k:Value):List (Value × V)->Nat->Option (Option (Nat × V))
 | [],_=>some none
 |(k',v)::es,i=>match Instr.sameNow kind k k' with
   |some true=>some (some (i,v))
   |some false=>ag8 kind k es (i+1)
   |none=>none
def agf:TypeDesc->Value->Bool
 |.int k,.int k' _=>k==k'
 |.string,.string _=>true
 |.bool,.bool _=>true
 |_,_=>false
def ag9(op:BinOp):Value->Value->Option Value
 |.int k a,.int k' b=>
   match op with
   |.shl=>if b<0 then none else some (.int k (k.wrap (a*2^(min b.toNat k.bits))))
   |.shr=>if b<0 then none else some (.int k (a.fdiv (2^(min b.toNat k.bits))))
   |_=>if k≠k' then none else match op with
     |.add=>some (.int k (k.wrap (a+b)))
     |.sub=>some (.int k (k.wrap (a-b)))
     |.mul=>some (.int k (k.wrap (a*b)))
     |.quo=>if b=0 then none else some (.int k (k.wrap (a.tdiv b)))
     |.rem=>if b=0 then none else some (.int k (a.tmod b))
     |.and=>some (.int k (k.wrap (BitVec.ofInt k.bits a &&& BitVec.ofInt k.bits b).toNat))
     |.or=>some (.int k (k.wrap (BitVec.ofInt k.bits a ||| BitVec.ofInt k.bits b).toNat))
     |.xor=>some (.int k (k.wrap (BitVec.ofInt k.bits a ^^^ BitVec.ofInt k.bits b).toNat))
     |.andNot=>some (.int k (k.wrap (BitVec.ofInt k.bits a &&& ~~~ (BitVec.ofInt k.bits b)).toNat))
     |.eql=>some (.bool (a==b))
     |.neq=>some (.bool (a != b))
     |.lss=>some (.bool (decide (a<b)))
     |.leq=>some (.bool (decide (a<=b)))
     |.gtr=>some (.bool (decide (a > b)))
     |.geq=>some (.bool (decide (a ≥ b)))
     |_=>none
 |.string a,.string b=>
   match op with
   |.add=>if((a.size+b.size:Nat):Int) > IntKind.i64.max then none else some (.string (a++b))
   |.eql=>some (.bool (a.data.toList==b.data.toList))
   |.neq=>some (.bool (!(a.data.toList==b.data.toList)))
   |.lss=>some (.bool (Op.bytesLess a.data.toList b.data.toList))
   |.leq=>some (.bool (Op.bytesLess a.data.toList b.data.toList||a.data.toList==b.data.toList))
   |.gtr=>some (.bool (!(Op.bytesLess a.data.toList b.data.toList||a.data.toList==b.data.toList)))
   |.geq=>some (.bool (!(Op.bytesLess a.data.toList b.data.toList)))
   |_=>none
 |_,_=>none
def aum:Leaf->V->V->Option Bool
 |.int k,.s (.int j a),.s (.int j' b)=>if j=k/\j'=k then some (a==b)else none
 |.bool,.s (.bool a),.s (.bool b)=>some (a==b)
 |.str,.s (.string a),.s (.string b)=>some (a.data.toList==b.data.toList)
 |_,_,_=>none
def si:List Leaf->List V->List V->Option Bool
 | [],[],[]=>some true
 |l::ls,x::xs,y::ys=>match aum l x y,si ls xs ys with
   |some a,some b=>some (a&&b)
   |_,_=>none
 |_,_,_=>none
def V.isNil:NK->V->Option Bool
 |.p,.s (.pointer none)=>some true
 |.p,.ref ..=>some false
 |.p,.pref ..=>some false
 |.s,.s (.slice none 0 0)=>some true
 |.s,.sl ..=>some false
 |.s,.psl ..=>some false
 |.s,.esl=>some false
 |.m,.s (.map none)=>some true
 |.m,.mp ..=>some false
 |.f,.s .nilFunc=>some true
 |.f,.fn ..=>some false
 |.f,.yld ..=>some false
 |_,_=>none
def i64(n:Int):V:=.s (.int .i64 n)
def bl(b:Bool):V:=.s (.bool b)
def str(b:ByteArray):V:=.s (.string b)
def ow:V:=.s (.slice none 0 0)
def und:V:=.s Go.undef
def elems(H:Heap)(sz:Nat):V->Option (Nat × List V)
 |.s (.slice none 0 0)=>some (0,[])
 |.esl=>some (0,[])
 |.psl es sz'=>if sz'=sz then some (es.length,es.flatten)else none
 |.sl id g off len sz'=>if sz'=sz then match getC H id g with
    |some c=>let cs:=(c.drop off).take (len*sz);if cs.length=len*sz then some (len,cs)else none
    |none=>none
   else none
 |_=>none
def aky(H:Heap)(base sz bytes:Nat)(s x:V):Option (V × Heap):=
 match x with
 |.s (.string b)=>if sz=1/\bytes=1 then
    match s with
    |.s (.slice none 0 0)=>
      if b.size=0 then some (s,H)else
      if b.size<=2^47 then some (.sl H.length 0 0 b.size 1,H++[.bytes 0 b.data.toList])else none
    |.sl id g 0 len 1=>
      if base<=id then match H[id]? with
       |some (.bytes g' l)=>
         if g'=g/\len=l.length then
          if b.size=0 then some (s,H)else
          if len+b.size<=2^47 then some (.sl id (g+1) 0 (len+b.size) 1,H.set id (.bytes (g+1) (l++b.data.toList)))else none
         else none
       |_=>none
      else none
    |_=>none
   else none
 |_=>none
def qp(H:Heap)(base sz bytes:Nat)(s x:V):Option (V × Heap):=
 match elems H sz x with
 |none=>aky H base sz bytes s x
 |some (m,xs)=>
   if xs.all V.one then
   match s with
   |.s (.slice none 0 0)=>
     if m=0 then some (s,H)else
     if m*bytes<=2^47 then some (.sl H.length 0 0 m sz,H++[.cells 0 xs])else none
   |.esl=>
     if m=0 then some (s,H)else
     if m*bytes<=2^47 then some (.sl H.length 0 0 m sz,H++[.cells 0 xs])else none
   |.psl es sz'=>if m=0/\sz'=sz then some (s,H)else none
   |.sl id g off len sz'=>
     if sz'=sz/\base<=id then match getC H id g with
      |some c=>
        if off+len*sz<=c.length then
         if m=0 then some (s,H)else
         if(len+m)*bytes<=2^47 then
          some (.sl id (g+1) 0 (len+m) sz,H.set id (.cells (g+1) ((c.drop off).take (len*sz)++xs)))
         else none
        else none
      |none=>none
     else none
   |_=>none
   else none
def copyV(H:Heap)(base sz:Nat)(d s:V):Option (V × Heap):=
 match s with
 |.s (.string _)=>none
 |s=>match elems H sz s with
   |none=>none
   |some (m,xs)=>if xs.all V.one then
      match d with
      |.s (.slice none 0 0)=>some (i64 0,H)
      |.esl=>some (i64 0,H)
      |.sl id g off len sz'=>
        if sz'=sz/\base<=id then match getC H id g with
         |some c=>if off+len*sz<=c.length then some (i64 (min m len:Nat),H.set id (.cells g (splice c off (xs.take (min m len*sz)))))else none
         |none=>none
        else none
      |_=>none
     else none
def ay3:List V->Option (List UInt8)
 | []=>some []
 |.s (.int .u8 n)::xs=>match ay3 xs with
   |some bs=>some (UInt8.ofNat n.toNat::bs)
   |none=>none
 |_=>none
def bgn(H:Heap)(x:V):Option V:=
 match x with
 |.s (.string _)=>none
 |x=>match elems H 1 x with
   |some (_,xs)=>match ay3 xs with
     |some bs=>some (.s (.string ⟨bs.toArray⟩))
     |none=>none
   |none=>none
def anz:V->Option Int
 |.s (.int _ n)=>some n
 |_=>none
def frz(H:Heap):Nat->V->Option V
 |0,_=>none
 |n+1,v=>match v with
   |.s x=>some (.s x)
   |.agg cs=>(cs.mapM (frz H n)).map .agg
   |.tup cs=>(cs.mapM (frz H n)).map .tup
   |.ref id g off=>match getC H id g with
     |some c=>if off<=c.length then((c.drop off).mapM (frz H n)).map .pref else none
     |none=>none
   |.sl id g off len sz=>match getC H id g with
     |some c=>
       let cs:=(c.drop off).take (len*sz)
       if cs.length=len*sz then
        match cs.mapM (frz H n)with
        |some us=>some (.psl ((List.range len).map fun i=>(us.drop (i*sz)).take sz) sz)
        |none=>none
       else none
     |none=>none
   |.pref cs=>some (.pref cs)
   |.psl es sz=>some (.psl es sz)
   |.esl=>some .esl
   |.fn f a b=>match a.mapM (frz H n),b.mapM (frz H n)with
     |some a,some b=>some (.fn f a b)
     |_,_=>none
   |_=>none
def ym:Nat->V->Bool
 |0,_=>false
 |n+1,v=>match v with
   |.s _=>true
   |.agg cs=>cs.all (ym n)
   |.tup cs=>cs.all (ym n)
   |.pref _|.psl .. | .esl=>true
   |.fn _ a b=>a.all (ym n)&&b.all (ym n)
   |_=>false
def qh(m:Nat):Nat->V->Bool
 |0,_=>false
 |n+1,v=>match v with
   |.s _=>true
   |.agg cs=>cs.all (qh m n)
   |.tup cs=>cs.all (qh m n)
   |.ref id _ _=>decide (id<m)
   |.sl id _ _ _ _=>decide (id<m)
   |.mp id=>decide (id<m)
   |.yld id=>decide (id<m)
   |.pref _|.psl .. | .esl=>true
   |.fn _ a b=>a.all (qh m n)&&b.all (qh m n)
   |.ifc _ _=>false
   |.unk=>true
def Ob.under(m:Nat):Ob->Bool
 |.cells _ c=>c.all (qh m 8)
 |.map es=>es.all fun e=>qh m 8 e.2
 |.loop _ _ t _ _ _=>t.all (qh m 8)
 |.dead=>true
 |.bytes ..=>true
def ut(kill:List Nat)(fr:List V):List V:=kill.foldl (fun fr t=>fr.set t .unk) fr
def trim(m:Nat)(fr:List V)(H:Heap):Heap:=
 if fr.all (qh m 8)&&(H.take m).all (Ob.under m)then H.take m else H
def put(dst:Option Nat)(v:V)(fr:List V):List V:=
 match dst with
 |some d=>fr.set d v
 |none=>fr
def want(o:AOper)(fr:List V):Option Bool:=
 match o.guard with
 |none=>some true
 |some (t,b)=>match fr.getD t .unk with
   |.s (.bool x)=>some (x==b)
   |.s (.tuple _)=>some false
   |_=>none
abbrev o8:=V->List V->Nat->Heap->Option (V × Heap)
def afh(fr:List V)(d:Nat):Option Opd->Option Int
 |none=>some d
 |some x=>anz (ev fr x)
def l8(call:o8)(base:Nat)(fr:List V)(H:Heap):AOp->Option (V × Heap)
 |.move x=>some (ev fr x,H)
 |.pick c a b=>match ev fr c with
   |.s (.bool true)=>some (ev fr a,H)
   |.s (.bool false)=>some (ev fr b,H)
   |_=>none
 |.alloc zero=>some (.ref H.length 0 0,H++[.cells 0 zero])
 |.box x=>let v:=ev fr x;if v.cells.all V.one then some (.ref H.length 0 0,H++[.cells 0 v.cells])else none
 |.build zero places parts=>match acu (places[·]?) zero (parts.map fun p=>(p.1,ev fr p.2))with
   |some cs=>some (.agg cs,H)
   |none=>none
 |.buildSl sz len zero parts=>match acu (fun i=>some (i*sz,sz)) zero (parts.map fun p=>(p.1,ev fr p.2))with
   |some cs=>some (if len=0 then .esl else .sl H.length 0 0 len sz,H++[.cells 0 cs])
   |none=>none
 |.mapNew=>some (.mp H.length,H++[.map []])
 |.mapUpd kind m k v=>match ev fr m,ev fr k with
   |.mp id,.s key=>if base<=id/\agf kind key then match H[id]? with
      |some (.map es)=>match ag8 kind key es 0 with
        |some (some (i,_))=>some (und,H.set id (.map (es.set i (key,ev fr v))))
        |some none=>some (und,H.set id (.map (es++[(key,ev fr v)])))
        |none=>none
      |_=>none
     else none
   |_,_=>none
 |.mapGet kind zero m k ok=>match ev fr k with
   |.s key=>if agf kind key then
      match ev fr m with
      |.s (.map none)=>some (if ok then .tup [zero,bl false]else zero,H)
      |.mp id=>match H[id]? with
        |some (.map es)=>match ag8 kind key es 0 with
          |some (some (_,v))=>some (if ok then .tup [v,bl true]else v,H)
          |some none=>some (if ok then .tup [zero,bl false]else zero,H)
          |none=>none
        |_=>none
      |_=>none
     else none
   |_=>none
 |.load agg n a=>(abf H agg n (ev fr a)).map fun v=>(v,H)
 |.store n a v=>(ak3 H base n (ev fr v) (ev fr a)).map fun H=>(und,H)
 |.nilCheck x=>match ev fr x with
   |.ref id g off=>some (.ref id g off,H)
   |.pref cs=>some (.pref cs,H)
   |.fn f a b=>some (.fn f a b,H)
   |.yld id=>some (.yld id,H)
   |_=>none
 |.bin op x y=>match ev fr x,ev fr y with
   |.s a,.s b=>(ag9 op a b).map fun v=>(.s v,H)
   |_,_=>none
 |.eqB neg x y=>match ev fr x,ev fr y with
   |.s (.bool a),.s (.bool b)=>some (bl ((a==b) != neg),H)
   |_,_=>none
 |.eqP neg x y=>match ev fr x,ev fr y with
   |.ref i g _,.ref j h _=>if i=j then none else match getC H i g,getC H j h with
     |some _,some _=>some (bl neg,H)
     |_,_=>none
   |_,_=>none
 |.eqNil k neg x=>match(ev fr x).isNil k with
   |some b=>some (bl (b != neg),H)
   |none=>none
 |.eqAgg neg ls x y=>match ev fr x,ev fr y with
   |.agg xs,.agg ys=>match si ls xs ys with
     |some b=>some (bl (b != neg),H)
     |none=>none
   |_,_=>none
 |.un op x=>match op,ev fr x with
   |.not,.s (.bool b)=>some (bl (!b),H)
   |.neg,.s (.int k n)=>some (.s (.int k (k.wrap (0-n))),H)
   |.xor,.s (.int k n)=>(ag9 .xor (.int k (if k.signed then -1 else k.max)) (.int k n)).map fun v=>(.s v,H)
   |_,_=>none
 |.conv k x=>match ev fr x with
   |.s (.int _ n)=>some (.s (.int k (k.wrap n)),H)
   |_=>none
 |.convId x=>match ev fr x with
   |.s (.string b)=>some (.s (.string b),H)
   |_=>none
 |.mkFn f fst cap=>some (.fn f (fst.map (ev fr)) (cap.map (ev fr)),H)
 |.mkSl zero sz bytes len cap=>match ev fr len,ev fr cap with
   |.s (.int _ l),.s (.int _ c)=>
     if 0<=l/\l<=c/\c*bytes<=2^47 then some (.sl H.length 0 0 l.toNat sz,H++[.cells 0 (List.replicate l.toNat zero).flatten])else none
   |_,_=>none
 |.subStr x lo hi=>match ev fr x with
   |.s (.string b)=>match afh fr 0 lo,afh fr b.size hi with
     |some l,some h=>if 0<=l/\l<=h/\h<=b.size then some (.s (.string (b.extract l.toNat h.toNat)),H)else none
     |_,_=>none
   |_=>none
 |.subSl sz x lo hi mx=>
   match mx with
   |none=>match ev fr x with
     |.s (.slice none 0 0)=>match afh fr 0 lo,afh fr 0 hi with
       |some 0,some 0=>some (ow,H)
       |_,_=>none
     |.esl=>match afh fr 0 lo,afh fr 0 hi with
       |some 0,some 0=>some (.esl,H)
       |_,_=>none
     |.psl es sz'=>match afh fr 0 lo,afh fr es.length hi with
       |some l,some h=>if 0<=l/\l<=h/\h<=es.length/\sz'=sz then some (.psl ((es.drop l.toNat).take (h-l).toNat) sz,H)else none
       |_,_=>none
     |.sl id g off len sz'=>match afh fr 0 lo,afh fr len hi with
       |some l,some h=>if 0<=l/\l<=h/\h<=len/\sz'=sz then some (.sl id g (off+l.toNat*sz) (h-l).toNat sz,H)else none
       |_,_=>none
     |_=>none
   |some m=>match hi,afh fr 0 lo with
     |some h,some 0=>match anz (ev fr h),anz (ev fr m)with
       |some 0,some 0=>match ev fr x with
         |.s (.slice none 0 0)=>some (ow,H)
         |.esl=>some (.esl,H)
         |.psl _ _=>some (.esl,H)
         |.sl _ _ _ _ _=>some (.esl,H)
         |_=>none
       |_,_=>none
     |_,_=>none
 |.fieldAddr off x=>match ev fr x with
   |.ref id g o=>some (.ref id g (o+off),H)
   |.pref cs=>if off<=cs.length then some (.pref (cs.drop off),H)else none
   |_=>none
 |.field agg off n x=>match ev fr x with
   |.agg cs=>let cs:=(cs.drop off).take n;if cs.length=n then(shut agg cs).map fun v=>(v,H)else none
   |_=>none
 |.indexAddr sz x i=>match ev fr x,ev fr i with
   |.sl id g off len sz',.s (.int _ n)=>if 0<=n/\n<len/\sz'=sz then some (.ref id g (off+n.toNat*sz),H)else none
   |.psl es sz',.s (.int _ n)=>if 0<=n/\sz'=sz then match es[n.toNat]? with
      |some e=>some (.pref e,H)
      |none=>none
     else none
   |_,_=>none
 |.indexStr x i=>match ev fr x,ev fr i with
   |.s (.string b),.s (.int _ n)=>if 0<=n then match b.data.toList[n.toNat]? with
      |some c=>some (.s (.int .u8 c.toNat),H)
      |none=>none
     else none
   |_,_=>none
 |.extract x i=>match ev fr x with
   |.tup vs=>match vs[i]? with
     |some v=>some (v,H)
     |none=>none
   |_=>none
 |.lenS k x=>match k,ev fr x with
   |.p,.s (.string b)=>some (i64 b.size,H)
   |.s,.s (.slice none 0 0)=>some (i64 0,H)
   |.m,.s (.map none)=>some (i64 0,H)
   |.s,.esl=>some (i64 0,H)
   |.s,.psl es _=>some (i64 es.length,H)
   |.s,.sl _ _ _ len _=>some (i64 len,H)
   |.m,.mp id=>match H[id]? with
     |some (.map es)=>some (i64 es.length,H)
     |_=>none
   |_,_=>none
 |.appR sz bytes s x=>qp H H.length sz bytes (ev fr s) (ev fr x)
 |.append sz bytes s x=>qp H base sz bytes (ev fr s) (ev fr x)
 |.delete kind m k=>match ev fr m,ev fr k with
   |.mp id,.s key=>if base<=id/\agf kind key then match H[id]? with
      |some (.map es)=>match ag8 kind key es 0 with
        |some (some (i,_))=>some (und,H.set id (.map (es.eraseIdx i)))
        |some none=>some (und,H)
        |none=>none
      |_=>none
     else none
   |_,_=>none
 |.minmax mx x y=>match ev fr x,ev fr y with
   |.s (.int k a),.s (.int k' b)=>if k=k' then some (.s (.int k (if mx then(if a<b then b else a)else(if b<a then b else a))),H)else none
   |_,_=>none
 |.call f args=>call (ev fr f) (args.map (ev fr)) base H
 |.callR f args=>call (ev fr f) (args.map (ev fr)) H.length H
 |.callP f args=>
   let vs:=args.map (ev fr)
   match vs.mapM (frz H 12)with
   |some us=>match call (.fn f [] []) us 0 []with
     |some (v,H')=>match frz H' 12 v with
       |some u=>if vs.all (ym 12)||u.flat2 then some (u,H)else none
       |none=>none
     |none=>none
   |none=>none
 |.callQ f args=>
   if(args.map (ev fr)).all (ym 12)then
    match call (.fn f [] []) (args.map (ev fr)) 0 []with
    |some (v,H')=>match frz H' 12 v with
      |some u=>some (u,H)
      |none=>none
    |none=>none
   else none
 |.copy sz d s=>copyV H base sz (ev fr d) (ev fr s)
 |.bstr x=>(bgn H (ev fr x)).map fun v=>(v,H)
 |.stuck=>none
 |.clearSl sz zero x=>match ev fr x with
   |.s (.slice none 0 0)=>some (und,H)
   |.esl=>some (und,H)
   |.sl id g off len sz'=>if len=0 then some (und,H)else if base<=id/\sz'=sz then match getC H id g with
      |some c=>if zero.length=sz/\off+len*sz<=c.length/\zero.all V.one then some (und,H.set id (.cells g (splice c off (List.replicate len zero).flatten)))else none
      |none=>none
     else none
   |_=>none
def mg(call:o8)(base:Nat):List AOper->List V->Heap->Option (List V × Heap)
 | [],fr,H=>some (fr,H)
 |o::os,fr,H=>match want o fr with
   |none=>none
   |some false=>mg call base os (put o.dst und fr) H
   |some true=>match l8 call base fr H o.op with
     |some (v,H')=>mg call base os (put o.dst v fr) H'
     |none=>none
def AOp.place:AOp->Option Opd
 |.load _ _ a=>some a
 |.store _ a _=>some a
 |.lenS _ m=>some m
 |.mapGet _ _ m _ _=>some m
 |.append _ _ s _=>some s
 |_=>none
def V.obj?:V->Option (Option Nat)
 |.ref id _ _=>some (some id)
 |.mp id=>some (some id)
 |.s _|.pref _|.psl .. | .esl|.sl ..=>some none
 |_=>none
def V.appObj:V->Option (Option Nat)
 |.sl id _ _ _ _=>some (some id)
 |.s _|.esl|.psl ..=>some none
 |_=>none
def AOp.obj(o:AOp)(v:V):Option (Option Nat):=
 match o with
 |.append ..=>v.appObj
 |_=>v.obj?
def agl(ops:List AOper)(fr:List V)(p:Nat × Nat):Bool:=
 match(ops.getD p.1 default).op.place,(ops.getD p.2 default).op.place with
 |some a,some b=>match(ops.getD p.1 default).op.obj (ev fr a),(ops.getD p.2 default).op.obj (ev fr b)with
   |some (some i),some (some j)=>i != j
   |some _,some _=>true
   |_,_=>false
 |_,_=>false
abbrev St:=Ex × List V × Heap
def AOp.isCallB:AOp->Bool
 |.call ..=>true
 |_=>false
def a4f(fr:List V)(o:AOp):Option (Option Nat):=
 match o.place with
 |some x=>o.obj (ev fr x)
 |none=>none
noncomputable def ado(call:o8)(base:Nat)(ops:List AOper)(fr:List V)(H:Heap)(fr':List V)(c r:Nat):Bool:=
 match mg call base (ops.take c) fr H,mg call base (ops.take (c+1)) fr H,a4f fr' (ops.getD r default).op with
 |some a,some b,some (some id)=>@decide (b.2[id]?=a.2[id]?) (Classical.propDecidable _)
 |some _,some _,some none=>true
 |_,_,_=>false
noncomputable def zm(call:o8)(base:Nat)(ops:List AOper)(fr:List V)(H:Heap)(fr':List V)(p:Nat × Nat):Bool:=
 agl ops fr' p||((ops.getD p.1 default).op.isCallB&&ado call base ops fr H fr' p.1 p.2)||((ops.getD p.2 default).op.isCallB&&ado call base ops fr H fr' p.2 p.1)
def AOp.quiet:AOp->Bool
 |.move _|.pick .. | .build .. | .nilCheck _|.bin .. | .eqB .. | .eqNil .. | .eqAgg .. | .un .. | .conv .. | .convId _|.mkFn ..
 |.subStr .. | .subSl .. | .fieldAddr .. | .field .. | .indexAddr .. | .indexStr .. | .extract .. | .minmax .. | .mapGet .. | .load .. | .lenS ..=>true
 |_=>false
inductive E where
 |t (i:Nat)
 |c (v:V)
 |pick (c a b:E)
 |op (o:AOp) (xs:List E)
 deriving Inhabited
def Opd.num:Opd->Nat->Opd
 |.t _,k=>.t k
 |.c v,_=>.c v
def acz(o:Option Opd)(k:Nat):Option Opd:=o.map fun x=>x.num k
def anq(k:Nat):List Opd->List Opd
 | []=>[]
 |x::xs=>x.num k::anq (k+1) xs
def amc(k:Nat):List (Nat × Opd)->List (Nat × Opd)
 | []=>[]
 |p::ps=>(p.1,p.2.num k)::amc (k+1) ps
def AOp.ren:AOp->AOp
 |.move x=>.move (x.num 0)
 |.nilCheck x=>.nilCheck (x.num 0)
 |.eqNil k n x=>.eqNil k n (x.num 0)
 |.un o x=>.un o (x.num 0)
 |.conv k x=>.conv k (x.num 0)
 |.convId x=>.convId (x.num 0)
 |.fieldAddr o x=>.fieldAddr o (x.num 0)
 |.field a o n x=>.field a o n (x.num 0)
 |.extract x i=>.extract (x.num 0) i
 |.lenS k x=>.lenS k (x.num 0)
 |.load a n x=>.load a n (x.num 0)
 |.pick c a b=>.pick (c.num 0) (a.num 1) (b.num 2)
 |.build z p ps=>.build z p (amc 0 ps)
 |.mapGet k z m x ok=>.mapGet k z (m.num 0) (x.num 1) ok
 |.bin o x y=>.bin o (x.num 0) (y.num 1)
 |.eqB n x y=>.eqB n (x.num 0) (y.num 1)
 |.eqAgg n l x y=>.eqAgg n l (x.num 0) (y.num 1)
 |.indexAddr s x y=>.indexAddr s (x.num 0) (y.num 1)
 |.indexStr x y=>.indexStr (x.num 0) (y.num 1)
 |.minmax m x y=>.minmax m (x.num 0) (y.num 1)
 |.mkFn f a b=>.mkFn f (anq 0 a) (anq a.length b)
 |.subStr x lo hi=>.subStr (x.num 0) (acz lo 1) (acz hi (1+lo.toList.length))
 |.subSl s x lo hi mx=>.subSl s (x.num 0) (acz lo 1) (acz hi (1+lo.toList.length)) (acz mx (1+lo.toList.length+hi.toList.length))
 |o=>o
def Opd.slots:Opd->List Nat
 |.t i=>[i]
 |.c _=>[]
def AOp.opds:AOp->List Opd
 |.move x|.box x|.nilCheck x|.eqNil _ _ x|.un _ x|.conv _ x|.convId x|.fieldAddr _ x|.field _ _ _ x|.extract x _|.lenS _ x|.load _ _ x=>[x]
 |.pick c a b=>[c,a,b]
 |.alloc _|.mapNew=>[]
 |.build _ _ ps|.buildSl _ _ _ ps=>ps.map (·.2)
 |.mapUpd _ m k v=>[m,k,v]
 |.mapGet _ _ m k _=>[m,k]
 |.store _ a v=>[a,v]
 |.bin _ x y|.eqB _ x y|.eqP _ x y|.eqAgg _ _ x y|.indexAddr _ x y|.indexStr x y|.append _ _ x y|.appR _ _ x y|.minmax _ x y|.delete _ x y|.mkSl _ _ _ x y=>[x,y]
 |.mkFn _ a b=>a++b
 |.subStr x lo hi=>x::(lo.toList++hi.toList)
 |.subSl _ x lo hi mx=>x::(lo.toList++hi.toList++mx.toList)
 |.call f xs|.callR f xs=>f::xs
 |.callP _ xs|.callQ _ xs=>xs
 |.clearSl _ _ x=>[x]
 |.copy _ d s=>[d,s]
 |.bstr x=>[x]
 |.stuck=>[]
def aq8(c x y:Option V):Option V:=
 match c with
 |some (.s (.bool true))=>x
 |some (.s (.bool false))=>y
 |_=>none
def a8w(c:Option V)(b r:Bool):Bool:=
 match c with
 |some (.s (.bool z))=>if z=b then r else true
 |_=>false
mutual
def evE(fr:List V)(H:Heap):E->Option V
 |.t i=>some (fr.getD i .unk)
 |.c v=>some v
 |.pick c a b=>aq8 (evE fr H c) (evE fr H a) (evE fr H b)
 |.op o xs=>match arx fr H xs with
   |some vs=>match l8 (fun _ _ _ _=>none) 0 vs H o with
     |some (v,_)=>some v
     |none=>none
   |none=>none
def arx(fr:List V)(H:Heap):List E->Option (List V)
 | []=>some []
 |x::xs=>match evE fr H x,arx fr H xs with
   |some v,some vs=>some (v::vs)
   |_,_=>none
end
structure Ent where
 g:List (Nat × Bool × E)
 e:E
 deriving Inhabited
def zo:List (Nat × Ent)->Nat->Ent
 | [],s=>⟨[],.t s⟩
 |(k,en)::σ,s=>if k=s then en else zo σ s
def under(G K:List (Nat × Bool × E)):Bool:=G.all fun p=>K.any fun q=>p.1==q.1&&p.2.1==q.2.1
def amo(σ:List (Nat × Ent))(G:List (Nat × Bool × E)):Opd->Option E
 |.c v=>some (.c v)
 |.t s=>if under (zo σ s).g G then some (zo σ s).e else none
def amn(σ:List (Nat × Ent))(G:List (Nat × Bool × E)):List Opd->Option (List E)
 | []=>some []
 |x::xs=>match amo σ G x,amn σ G xs with
   |some e,some es=>some (e::es)
   |_,_=>none
def wm(σ:List (Nat × Ent)):Option (Nat × Bool)->List (Nat × Bool × E)
 |none=>[]
 |some (t,b)=>(zo σ t).g++[(t,b,(zo σ t).e)]
def a8a(σ:List (Nat × Ent))(G:List (Nat × Bool × E))(o:AOp):Option E:=
 match o with
 |.move x=>amo σ G x
 |.pick (.t c) a b=>match amo σ G (.t c),amo σ (G++[(c,true,(zo σ c).e)]) a,amo σ (G++[(c,false,(zo σ c).e)]) b with
   |some x,some y,some z=>some (.pick x y z)
   |_,_,_=>none
 |o=>if o.quiet then match amn σ G o.opds with
    |some xs=>some (.op o.ren xs)
    |none=>none
   else none
def amm:List (Nat × Ent)->List (List (Nat × Bool × E) × E)->List AOper->Option (List (Nat × Ent) × List (List (Nat × Bool × E) × E))
 |σ,R,[]=>some (σ,R)
 |σ,R,o::os=>match a8a σ (wm σ o.guard) o.op with
   |some e=>match o.dst with
     |some d=>if(wm σ o.guard).all (fun p=>p.1 != d)&&σ.all (fun q=>q.2.g.all fun p=>p.1 != d)then amm ((d,⟨wm σ o.guard,e⟩)::σ) (R++[(wm σ o.guard,e)]) os else none
     |none=>amm σ (R++[(wm σ o.guard,e)]) os
   |none=>none
def ak6(fr:List V)(H:Heap):List (Nat × Bool × E)->E->Bool
 | [],e=>(evE fr H e).isSome
 |p::G,e=>a8w (evE fr H p.2.2) p.2.1 (ak6 fr H G e)
def amj:List AOper->Nat
 | []=>0
 |o::os=>match o.dst with
   |some d=>max (d+1) (amj os)
   |none=>amj os
abbrev Tale:=Option (Nat × List (List (Nat × Bool × E) × E) × List (Nat × E))
def aaw(ops:List AOper)(kill outs:List Nat):Tale:=
 match amm [] [] ops with
 |some (σ,R)=>
   if outs.all (fun s=>(zo σ s).g.isEmpty)&&ops.all (fun o=>match o.dst with|some d=>kill.contains d||outs.contains d|none=>true)&&outs.all (fun s=>!kill.contains s)
   then some (amj ops,R,outs.map fun s=>(s,(zo σ s).e))else none
 |none=>none
def abb(fr:List V)(H:Heap):List (Nat × E)->List V->Option (List V)
 | [],fr'=>some fr'
 |(s,e)::os,fr'=>match evE fr H e with
   |some v=>abb fr H os (fr'.set s v)
   |none=>none
def yc(tale:Tale)(kill:List Nat)(fr:List V)(H:Heap):Option (List V):=
 match tale with
 |some (m,R,os)=>if m<=fr.length then if R.all (fun r=>ak6 fr H r.1 r.2)then abb fr H os (ut kill fr)else none else none
 |none=>none
def x9(body:List V->Heap->Option St)(kill:List Nat)(m:Nat):Nat->List V->Heap->Option St
 |0,_,_=>none
 |n+1,fr,H=>match body fr H with
   |some (.nrm,fr',H')=>let fr':=ut kill fr';x9 body kill m n fr' (trim m fr' H')
   |some (e,fr',H')=>let fr':=ut kill fr';some (e,fr',trim m fr' H')
   |none=>none
def ayb:Ex->Option Ex
 |.nrm=>none
 |e=>some e
abbrev zn:=(List V->Heap->Option St)->List Nat->Nat->List V->Heap->Option St
noncomputable def evC(call:o8)(it:zn)(base:Nat):ACode->List V->Heap->Option St
 |.skip,fr,H=>some (.nrm,fr,H)
 |.region ops chk kill,fr,H=>match mg call base ops fr H with
   |some (fr',H')=>if chk.all (zm call base ops fr H fr')then some (.nrm,ut kill fr',H')else none
   |none=>none
 |.regionE ops kill outs,fr,H=>match yc (aaw ops kill outs) kill fr H with
   |some fr'=>some (.nrm,fr',H)
   |none=>none
 |.seq a b,fr,H=>match evC call it base a fr H with
   |some (.nrm,fr,H)=>evC call it base b fr H
   |r=>r
 |.cond c a b,fr,H=>match ev fr c with
   |.s (.bool true)=>evC call it base a fr H
   |.s (.bool false)=>evC call it base b fr H
   |_=>none
 |.block id c,fr,H=>match evC call it base c fr H with
   |some (.ext id',fr,H)=>some (if id'=id then .nrm else .ext id',fr,H)
   |r=>r
 |.loop kill c,fr,H=>it (fun fr H=>evC call it base c fr H) kill H.length (ut kill fr) H
 |.rangeFunc f params assign body,fr,H=>
   match ev fr f with
   |.fn k x y=>match call (.fn k x y) [.yld H.length] base (H++[.loop .ready none fr params assign body])with
     |some (_,H')=>match H'[H.length]? with
       |some (.loop .ready none _ _ _ _)=>some (.nrm,fr,trim H.length fr (H'.set H.length .dead))
       |some (.loop .done (some e) _ _ _ _)=>some (e,fr,trim H.length fr (H'.set H.length .dead))
       |_=>none
     |none=>none
   |_=>none
 |.exit id,fr,H=>some (.ext id,fr,H)
 |.ret,fr,H=>some (.ret,fr,H)
def avd:List Nat->List V->List V->Option (List V)
 | [],[],fr=>some fr
 |p::ps,v::vs,fr=>avd ps vs (fr.set p v)
 |_,_,_=>none
def ak5(fr:List V)(H:Heap):ARes->Option V
 |.tmp t=>some (fr.getD t .unk)
 |.cell t agg n=>abf H agg n (fr.getD t .unk)
def w9(rs:List ARes)(fr:List V)(H:Heap):Option V:=
 match rs.mapM (ak5 fr H)with
 |some [v]=>some v
 |some vs=>some (.tup vs)
 |none=>none
noncomputable def aag(CP:Nat->Option CFun)(call:o8)(it:zn)(v:V)(args:List V)(base:Nat)(H:Heap):Option (V × Heap):=
 match v with
 |.fn f fst cap=>match CP f with
   |some (.code c)=>
     let vs:=fst++args++cap
     match evC call it base c.body (vs++List.replicate (c.ntmps-vs.length) und) H with
     |some (.nrm,fr,H')=>(w9 c.results fr H').map fun v=>(v,H')
     |some (.ret,fr,H')=>(w9 c.results fr H').map fun v=>(v,H')
     |_=>none
   |some (.prim g)=>g (fst++args++cap) base H
   |none=>none
 |.yld id=>if base<=id then match H[id]? with
   |some (.loop .ready none tmps params assign body)=>match avd params args tmps with
     |some fr=>match evC call it base assign fr H with
       |some (.nrm,fr,H)=>match H[id]? with
         |some (.loop .ready none t p a b)=>match evC call it base body fr (H.set id (.loop .busy none t p a b))with
           |some (e,_,H)=>match H[id]? with
             |some (.loop .busy none t p a b)=>some (bl (e=.nrm),H.set id (.loop (if e=.nrm then .ready else .done) (ayb e) t p a b))
             |_=>none
           |none=>none
         |_=>none
       |_=>none
     |none=>none
   |_=>none
   else none
 |_=>none
noncomputable def aao(CP:Nat->Option CFun):Nat->o8
 |0=>fun _ _ _ _=>none
 |n+1=>aag CP (aao CP n) (fun b k m=>x9 b k m n)
def agv(v:Value):Option V:=
 match v with
 |.bool _|.int _ _|.string _|.nilFunc|.nilIface|.pointer none|.slice none 0 0|.map none=>some (.s v)
 |_=>none
def ah0(v:Value):Option V:=
 match v with
 |.agg cs=>(cs.toList.mapM agv).map .agg
 |v=>agv v
def lc:Operand->Option Opd
 |.tmp t=>some (.t t)
 |.const v=>(ah0 v).map .c
 |.func f=>some (.c (.fn f [] []))
 |.global _=>none
section
variable (P:Program)
def aa3(t:TypeId):Option Bool:=
 match P.underlying t with
 |some (.struct _)=>some true
 |some (.array _ _)=>some true
 |some _=>some false
 |none=>none
def yl(t:TypeId):Option Nat:=(P.info? t).map (·.size)
def af2(t:TypeId):Option (Bool × Nat):=
 match aa3 P t,yl P t with
 |some true,some n=>some (true,n)
 |some false,some 1=>some (false,1)
 |_,_=>none
def aej(t:TypeId):Option V:=
 match P.info? t with
 |some i=>match i.zero with
   |some z=>ah0 z
   |none=>none
 |none=>none
def at0(t:TypeId):Option TypeDesc:=
 match P.underlying t with
 |some (.int k)=>some (.int k)
 |some .string=>some .string
 |some .bool=>some .bool
 |_=>none
mutual
def akp:Nat->TypeId->Option (List Leaf)
 |0,_=>none
 |d+1,t=>match P.underlying t with
   |some (.int k)=>if yl P t=some 1 then some [.int k]else none
   |some .bool=>if yl P t=some 1 then some [.bool]else none
   |some .string=>if yl P t=some 1 then some [.str]else none
   |some (.struct fs)=>if P.stoodInHeld t then none else agw d 0 fs.toList
   |_=>none
def agw:Nat->Nat->List Field->Option (List Leaf)
 |0,_,_=>none
 |_+1,_,[]=>some []
 |d + 1, off, f::fs => if f.offset = off /\ f.name ≠ "_" then match akp d f.type, yl P f.type with
     |some ls,some n=>if ls.length=n then match agw d (off+n) fs with
        |some rest=>some (ls++rest)
        |none=>none
       else none
     |_,_=>none
   else none
end
def apg:Option TypeDesc->Operand->Option NK
 |some (.pointer _),.const (.pointer none)=>some .p
 |some (.slice _),.const (.slice none 0 0)=>some .s
 |some (.map _ _),.const (.map none)=>some .m
 |some (.func _ _ _),.const .nilFunc=>some .f
 |_,_=>none
def abz:BinOp->Option Bool
 |.eql=>some false
 |.neq=>some true
 |_=>none
def ar5(op:BinOp)(t:TypeId)(x y:Operand):Option AOp:=
 match abz op,apg (P.underlying t) y,apg (P.underlying t) x with
 |some neg,some k,_=>(lc x).map (.eqNil k neg)
 |some neg,none,some k=>(lc y).map (.eqNil k neg)
 |e,_,_=>match P.underlying t,lc x,lc y with
   |some (.int _),some x,some y=>some (.bin op x y)
   |some .string,some x,some y=>some (.bin op x y)
   |some .bool,some x,some y=>match e with
     |some neg=>some (.eqB neg x y)
     |none=>none
   |some (.pointer e'),some x,some y=>match e,yl P e' with
     |some neg,some n=>if n≠0 then some (.eqP neg x y)else none
     |_,_=>none
   |some (.struct _),some x,some y=>match e,akp P 12 t with
     |some neg,some ls=>if P.eqGuardType P.depth t then none else some (.eqAgg neg ls x y)
     |_,_=>none
   |_,_,_=>none
def acm(ps:Array (Nat × Operand)):Option (List (Nat × Opd)):=
 ps.toList.mapM fun p=>(lc p.2).map fun x=>(p.1,x)
def ad7(xs:Array Operand):Option (List Opd):=xs.toList.mapM lc
def acv:Option Operand->Option (Option Opd)
 |none=>some none
 |some x=>(lc x).map some
def ai6(t:TypeId):Option TypeId:=
 match P.underlying t with
 |some (.slice e)=>some e
 |_=>none
def bha(t:TypeId):Bool:=
 match P.underlying t with
 |some (.int .u8)=>P.cellsOf t==1
 |_=>false
def apy(e:TypeId)(b:Nat):Nat:=if b=1 then(if bha P e then 1 else 2)else b
def bfu(t:TypeId):Bool:=
 match P.types[t]? with
 |some i => i.str == "strings.Builder"
 |none=>false
def bldZ(z:V):Option (List V):=
 match z with
 |.agg [.s (.pointer none),v]=>some [.unk,v]
 |_=>none
def afk(pure':Nat->Bool)(o:Oper):Option AOp:=
 match o.op with
 |.move x=>(lc x).map .move
 |.assign x=>(lc x).map .move
 |.pick c a b=>do return .pick (<- lc c) (<- lc a) (<- lc b)
 |.alloc t=>match aej P t with
   |some z=>if bfu P t then(bldZ z).map .alloc else some (.alloc z.cells)
   |none=>none
 |.box _ x=>(lc x).map .box
 |.build t parts=>do
   let z <- aej P t
   match P.underlying t with
   |some (.struct fs)=>
     let places <- fs.toList.mapM fun f=>(yl P f.type).map fun n=>(f.offset,n)
     return .build z.cells places (<- acm parts)
   |_=>none
 |.buildSlice t len parts=>do
   let e <- ai6 P t
   let sz <- yl P e
   let z <- aej P e
   if 0<sz/\len*sz<=2^24/\z.cells.length=sz then
    return .buildSl sz len (List.replicate len z.cells).flatten (<- acm parts)
   else none
 |.insert t m k v|.mapUpdate t m k v=>match P.underlying t with
   |some (.map kt _)=>do return .mapUpd (<- at0 P kt) (<- lc m) (<- lc k) (<- lc v)
   |_=>none
 |.lookup t m k ok=>match P.underlying t with
   |some (.map kt e)=>do return .mapGet (<- at0 P kt) (<- aej P e) (<- lc m) (<- lc k) ok
   |_=>none
 |.load t a=>do
   let (agg,n) <- af2 P t
   return .load agg n (<- lc a)
 |.store t a v=>do
   let (_,n) <- af2 P t
   return .store n (<- lc a) (<- lc v)
 |.nilCheck x=>(lc x).map .nilCheck
 |.binOp op t x y _=>ar5 P op t x y
 |.unOp op _ x=>do
   match op with
   |.not|.neg|.xor=>return .un op (<- lc x)
   |.plus=>none
 |.convert src dst x=>match P.underlying src,P.underlying dst with
   |some (.int _),some (.int k)=>(lc x).map (.conv k)
   |some .string,some .string=>(lc x).map .convId
   |some (.slice e),some .string=>match P.underlying e with
     |some (.int .u8)=>(lc x).map .bstr
     |_=>none
   |_,_=>none
 |.makeFunc (.func f) fst cap=>do return .mkFn f (<- ad7 fst) (<- ad7 cap)
 |.makeMap _ none=>some .mapNew
 |.makeSlice t len cap=>do
   let e <- ai6 P t
   let i <- P.info? e
   let z <- aej P e
   if 0<i.size/\0<i.bytes/\z.cells.length=i.size then return .mkSl z.cells i.size i.bytes (<- lc len) (<- lc cap)else none
 |.slice t x lo hi mx=>match P.underlying t with
   |some .string=>match mx with
     |none=>do return .subStr (<- lc x) (<- acv lo) (<- acv hi)
     |some _=>none
   |some (.slice e)=>do
     let sz <- yl P e
     if 0<sz then return .subSl sz (<- lc x) (<- acv lo) (<- acv hi) (<- acv mx)else none
   |_=>none
 |.fieldAddr t x f=>match P.underlying t with
   |some (.struct fs)=>do
     let f <- fs[f]?
     let n <- yl P f.type
     if n≠0 then return .fieldAddr f.offset (<- lc x)else none
   |_=>none
 |.field t x f=>match P.underlying t with
   |some (.struct fs)=>do
     let f <- fs[f]?
     let (agg,n) <- af2 P f.type
     return .field agg f.offset n (<- lc x)
   |_=>none
 |.indexAddr t x i=>do
   let e <- ai6 P t
   let sz <- yl P e
   if 0<sz then return .indexAddr sz (<- lc x) (<- lc i)else none
 |.index t x i=>match P.underlying t with
   |some .string=>do return .indexStr (<- lc x) (<- lc i)
   |_=>none
 |.extract x i=>(lc x).map fun x=>.extract x i
 |.call { callee:=.builtin b,args,argTypes }=>match b,args.toList,argTypes.toList with
   |.len,[x],[t]=>match P.underlying t with
     |some .string=>(lc x).map (.lenS .p)
     |some (.slice _)=>(lc x).map (.lenS .s)
     |some (.map _ _)=>(lc x).map (.lenS .m)
     |_=>none
   |.append,[s,x],[t,t']=>do
     let e <- ai6 P t
     let i <- P.info? e
     let z <- aej P e
     match P.underlying t' with
     |some (.slice _)|some .string=>if 0<i.size/\0<i.bytes/\z.cells.length=i.size then return .append i.size (apy P e i.bytes) (<- lc s) (<- lc x)else none
     |_=>none
   |.delete,[m,k],[t,_]=>match P.underlying t with
     |some (.map kt _)=>do return .delete (<- at0 P kt) (<- lc m) (<- lc k)
     |_=>none
   |.clear,[x],[t]=>do
     let e <- ai6 P t
     let sz <- yl P e
     let z <- aej P e
     if 0<sz/\z.cells.length=sz then return .clearSl sz z.cells (<- lc x)else none
   |.copy,[d,s],[t,t']=>do
     let e <- ai6 P t
     let sz <- yl P e
     match P.underlying t' with
     |some (.slice _)=>if 0<sz then return .copy sz (<- lc d) (<- lc s)else none
     |_=>none
   |.min,[x,y],_=>do return .minmax false (<- lc x) (<- lc y)
   |.max,[x,y],_=>do return .minmax true (<- lc x) (<- lc y)
   |_,_,_=>none
 |.call { callee:=.value f,args,.. }=>do
   let xs <- ad7 args
   match f with
   |.func k=>if pure' k then return .callP k xs else return .call (<- lc f) xs
   |_=>return .call (<- lc f) xs
 |_=>none
end
def AOp.isCall:AOp->Bool
 |.call .. | .callR .. | .callP .. | .callQ ..=>true
 |_=>false
section
variable (P:Program)
def aa1(pure':Nat->Bool)(o:Oper):Option AOp:=
 match o.op with
 |.call { callee:=.value f,args,.. }=>
   match ad7 args,lc f with
   |some xs,some y=>match f with
     |.func k=>if pure' k then some (.callP k xs)else some (.call y xs)
     |_=>some (.call y xs)
   |_,_=>none
 |_=>match afk P pure' o with
   |some ao=>if ao.isCall then none else some ao
   |none=>none
inductive Cls where
 |t|r|a|w
 deriving DecidableEq,Inhabited
def AOp.cls:AOp->Cls
 |.move _|.pick .. | .build .. | .nilCheck _|.bin .. | .eqB .. | .eqNil .. | .eqAgg .. | .un .. | .conv .. | .convId _|.mkFn ..
 |.subStr .. | .subSl .. | .fieldAddr .. | .field .. | .indexAddr .. | .indexStr .. | .extract .. | .minmax .. | .callQ .. | .stuck=>.t
 |.mapGet .. | .load .. | .lenS ..=>.r
 |.alloc _|.box _|.buildSl .. | .mapNew|.mkSl .. | .callR .. | .appR ..=>.a
 |.mapUpd .. | .store .. | .append .. | .delete .. | .call .. | .callP .. | .clearSl .. | .eqP .. | .copy .. | .bstr _=>.w
def AOp.isM(o:AOp):Bool:=o.cls==.a||o.cls==.w
def AOper.reads(o:AOper):List Nat:=o.op.opds.flatMap Opd.slots++(match o.guard with|some (t,_)=>[t]|none=>[])
def AOper.names(o:AOper):List Nat:=o.dst.toList++o.reads
def clash(a b:AOper):Bool:=
 (match a.dst with|some d=>b.names.contains d|none=>false)||(match b.dst with|some d=>a.names.contains d|none=>false)
def aab(a b:AOper):Bool:=
 (a.op.isM&&b.op.isM)||(a.op.cls==.w&&b.op.cls==.r)||(b.op.cls==.w&&a.op.cls==.r)||clash a b
def aiy(a b:AOper):Bool:=
 !clash a b&&(match a.op,b.op with
 |.store ..,.load .. | .store ..,.lenS .. | .store ..,.mapGet .. | .load ..,.store .. | .lenS ..,.store .. | .mapGet ..,.store ..
 |.append ..,.load .. | .append ..,.lenS .. | .append ..,.mapGet .. | .load ..,.append .. | .lenS ..,.append .. | .mapGet ..,.append ..=>true
 |.call ..,.load .. | .call ..,.lenS .. | .call ..,.mapGet .. | .load ..,.call .. | .lenS ..,.call .. | .mapGet ..,.call ..=>true
 |_,_=>false)
def qz(bf:List Nat)(i j:Nat):Bool:=(bf.getD j 0).testBit i
def a1u(ops:List AOper)(i:Nat):Bool:=
 match(ops.getD i default).op.place with
 |some x=>x.slots.all fun s=>(List.range ops.length).all fun k=>decide (k<i)||(ops.getD k default).dst != some s
 |none=>(ops.getD i default).op.isCallB
def ahy(o:AOper):Bool:=
 o.op.cls != .r||match o.op.place with
  |some (.t _)=>true
  |some (.c (.s _))=>true
  |_=>false
def adj(bf:List Nat)(chk:List (Nat × Nat))(ops:List AOper):Bool:=
 (chk.all fun p=>a1u ops p.1&&a1u ops p.2)&&ops.all ahy&&(List.range ops.length).all fun j=>(List.range j).all fun i=>
  !aab (ops.getD i default) (ops.getD j default)||qz bf i j||(aiy (ops.getD i default) (ops.getD j default)&&chk.contains (i,j))
def AOp.isNew:AOp->Bool
 |.alloc _|.box _|.buildSl .. | .mapNew|.mkSl ..=>true
 |_=>false
def AOp.isSt:AOp->Bool
 |.store ..=>true
 |_=>false
def AOp.isCR:AOp->Bool
 |.callR ..=>true
 |.appR ..=>true
 |_=>false
def a0i(o:AOp):Bool:=(o.cls==.t&&!o.isCall)||o.cls==.r||o.isNew||o.isSt||o.isCR
def a3v(ops:List AOper):Nat->Nat->Bool
 |0,_=>false
 |n+1,i=>(((ops.getD i default).op.cls==.t&&!(ops.getD i default).op.isCall)||(ops.getD i default).op.cls==.r) &&
    (ops.getD i default).reads.all fun s=>(List.range ops.length).all fun k=>(ops.getD k default).dst != some s||(decide (k<i)&&a3v ops n k)
def AOp.isAB:AOp->Bool
 |.alloc _|.box _=>true
 |_=>false
def biq(ops:List AOper)(i:Nat):Bool:=
 match(ops.getD i default).op with
 |.store _ (.t s) _=>(List.range ops.length).any (fun k=>decide (k<i)&&(ops.getD k default).dst==some s) &&
    (List.range ops.length).all fun k=>(ops.getD k default).dst != some s||((ops.getD k default).op.isAB&&(ops.getD k default).guard.isNone)
 |.store ..=>false
 |_=>true
def alc(ops:List AOper):Bool:=(List.range ops.length).all (biq ops)
def agc(ops:List AOper)(i:Nat):Bool:=(ops.getD i default).op.cls==.r&&alc ops&&a3v ops ops.length i
def abv(ops:List AOper)(i j:Nat):Bool:=
 clash (ops.getD i default) (ops.getD j default) ||
 ((ops.getD i default).op.isSt&&((ops.getD j default).op.isSt||((ops.getD j default).op.cls==.r&&!agc ops j)||(ops.getD j default).op.isCR)) ||
 ((ops.getD j default).op.isSt&&((ops.getD i default).op.isSt||((ops.getD i default).op.cls==.r&&!agc ops i)||(ops.getD i default).op.isCR))
def agu(bf:List Nat)(ops:List AOper):Bool:=
 ops.all ahy&&ops.all (fun o=>a0i o.op)&&(List.range ops.length).all fun j=>(List.range j).all fun i=>
  !abv ops i j||qz bf i j
def ag6(bf:List Nat)(chk:List (Nat × Nat))(ops:List AOper):Bool:=adj bf chk ops||(chk.isEmpty&&agu bf ops)
def afs(ops:Array Oper):Bool:=
 (List.range ops.size).all fun j=>match ops[j]? with
  |some o=>o.after.all fun e=>!(Region.binds .any e)||decide (e.on<j)
  |none=>true
def lates(bf:List Nat)(ops:List AOper):List (Nat × Nat):=
 (List.range ops.length).flatMap fun j=>(List.range j).filterMap fun i=>
  if aab (ops.getD i default) (ops.getD j default)&&!qz bf i j&&aiy (ops.getD i default) (ops.getD j default)then some (i,j)else none
def lateF(lt:List Nat):Opd->Bool
 |.c (.fn k _ _)=>lt.contains k
 |_=>false
def aal(lt:List Nat)(bf:List Nat)(ops:List AOper):List AOper:=
 (List.range ops.length).map fun i=>
  let o:=ops.getD i default
  match o.op with
  |.call f xs=>
    if(List.range ops.length).all fun j=>j==i||(ops.getD j default).op.cls==.t||(lateF lt f&&(ops.getD j default).op.cls==.r)||(if i<j then qz bf i j else qz bf j i)then o
    else { o with op:=.callR f xs }
  |.callP f xs=>
    if(List.range ops.length).all fun j=>j==i||(ops.getD j default).op.cls==.t||(if i<j then qz bf i j else qz bf j i)then o
    else { o with op:=.callQ f xs }
  |_=>o
def ael(l:List AOper):List AOper:=
 l.map fun o=>match o.op with
  |.append a b s x=>{ o with op:=.appR a b s x }
  |_=>o
def bjk(ops:Array Oper)(done:List Nat):Option Nat:=
 (List.range ops.size).find? fun i=>!done.contains i&&match ops[i]? with
  |some o=>o.after.all fun e=>!(Region.binds .any e)||done.contains e.on
  |none=>false
def bik(ops:Array Oper):Nat->List Nat->List Nat
 |0,done=>done
 |n+1,done=>match bjk ops done with
   |some i=>bik ops n (done++[i])
   |none=>done
def topo(ops:Array Oper):List Nat:=bik ops ops.size []
def af9(π:List Nat)(i:Nat):Nat:=π.findIdx (·==i)
def af5(π:List Nat)(o:Oper):Oper:={ o with after:=o.after.map fun e=>{ e with on:=af9 π e.on },guard:=o.guard.map fun p=>(af9 π p.1,p.2) }
def x8(π:List Nat)(ops:Array Oper):Array Oper:=(π.map fun i=>af5 π (ops.getD i default)).toArray
def apc(π:List Nat)(ops:Array Oper):Bool:=
 π.length==ops.size&&π.all (fun i=>decide (i<ops.size))&&(List.range ops.size).all (fun i=>π.contains i)&&decide (π.Nodup) &&
 ops.toList.all fun o=>o.after.all (fun e=>decide (e.on<ops.size))&&match o.guard with
  |some p=>decide (p.1<ops.size)
  |none=>true
def agk(ops:Array Oper):Option (Nat × Bool)->Option (Option (Nat × Bool))
 |none=>some none
 |some (j,b)=>match ops[j]? with
   |some o=>match o.dst with
     |some d=>some (some (d,b))
     |none=>none
   |none=>none
def ay1(pure':Nat->Bool)(ops:Array Oper)(o:Oper):Option AOper:=do
 return { dst:=o.dst,op:=(aa1 P pure' o).getD .stuck,guard:=<- agk ops o.guard }
def aff(lt:List Nat)(pure':Nat->Bool)(ops:Array Oper)(draw:Bool):Option (List AOper × List (Nat × Nat)):=do
 let l <- ops.toList.mapM (ay1 P pure' ops)
 if draw then
  let bf:=(Region.before ops).toList
  let l:=aal lt bf l
  let chk:=lates bf l
  if adj bf chk l&&afs ops then return (l,chk)else if agu bf l&&afs ops then return (l,[])else if agu bf (ael l)&&afs ops then return (ael l,[])else none
 else return (l,[])
def aan(lt:List Nat)(pure':Nat->Bool):Code->Option ACode
 |.skip=>some .skip
 |.region _ ops draw=>match aff P lt pure' ops draw with
   |some p=>some (.region p.1 p.2 [])
   |none=>if draw&&apc (topo ops) ops then(aff P lt pure' (x8 (topo ops) ops) true).map fun p=>.region p.1 p.2 []else none
 |.seq a b=>do return .seq (<- aan lt pure' a) (<- aan lt pure' b)
 |.cond c a b=>do return .cond (<- lc c) (<- aan lt pure' a) (<- aan lt pure' b)
 |.block id c=>do return .block id (<- aan lt pure' c)
 |.loop c=>do return .loop [] (<- aan lt pure' c)
 |.rangeFunc f ps a b=>do return .rangeFunc (<- lc f) ps.toList (<- aan lt pure' a) (<- aan lt pure' b)
 |.exit id=>some (.exit id)
 |.label _=>some .skip
 |.ret=>some .ret
 |.scope _|.goto _|.refuse _=>none
def ah4:ResultVar->Option ARes
 |.tmp t=>some (.tmp t)
 |.cell a t=>(af2 P t).map fun(agg,n)=>.cell a agg n
def ARes.slot:ARes->Nat
 |.tmp t=>t
 |.cell t _ _=>t
end
def ACode.bare:ACode->ACode
 |.region ops chk _=>.region ops chk []
 |.regionE ops _ _=>.region ops [] []
 |.loop _ c=>.loop [] c.bare
 |.seq a b=>.seq a.bare b.bare
 |.cond c a b=>.cond c a.bare b.bare
 |.block id c=>.block id c.bare
 |.rangeFunc f ps a b=>.rangeFunc f ps a.bare b.bare
 |c=>c
section
variable (P:Program) (pure':Nat->Bool)
def axy(o:Oper)(ao:AOp):Prop:=
 aa1 P pure' o=some ao\/(∃f xs,aa1 P pure' o=some (.call f xs)/\ao=.callR f xs)\/(∃k xs,aa1 P pure' o=some (.callP k xs)/\ao=.callQ k xs)\/(∃a b s x,aa1 P pure' o=some (.append a b s x)/\ao=.appR a b s x)\/ao=.stuck
def auz(ops:Array Oper)(l:List AOper):Prop:=
 l.length=ops.size/\∀(i:Nat) (o:Oper) (ao:AOper),ops[i]?=some o->l[i]?=some ao->ao.dst=o.dst/\axy P pure' o ao.op/\agk ops o.guard=some ao.guard
inductive CodeR:Code->ACode->Prop
 |skip:CodeR .skip .skip
 |region (id:Nat) (ops:Array Oper) (draw:Bool) (l:List AOper) (chk:List (Nat × Nat)) (kill:List Nat) (h:auz P pure' ops l) (hd:draw=true->ag6 (Region.before ops).toList chk l=true/\afs ops=true):CodeR (.region id ops draw) (.region l chk kill)
 |regionE (id:Nat) (ops:Array Oper) (draw:Bool) (l:List AOper) (kill outs:List Nat) (h:auz P pure' ops l) (hd:draw=true->ag6 (Region.before ops).toList [] l=true/\afs ops=true):CodeR (.region id ops draw) (.regionE l kill outs)
 |regionP (id:Nat) (ops:Array Oper) (π:List Nat) (l:List AOper) (chk:List (Nat × Nat)) (kill:List Nat) (hp:apc π ops=true) (h:auz P pure' (x8 π ops) l) (hd:ag6 (Region.before (x8 π ops)).toList chk l=true/\afs (x8 π ops)=true):CodeR (.region id ops true) (.region l chk kill)
 |regionPE (id:Nat) (ops:Array Oper) (π:List Nat) (l:List AOper) (kill outs:List Nat) (hp:apc π ops=true) (h:auz P pure' (x8 π ops) l) (hd:ag6 (Region.before (x8 π ops)).toList [] l=true/\afs (x8 π ops)=true):CodeR (.region id ops true) (.regionE l kill outs)
 |seq (a b:Code) (x y:ACode) (h:CodeR a x) (k:CodeR b y):CodeR (.seq a b) (.seq x y)
 |cond (c:Operand) (o:Opd) (a b:Code) (x y:ACode) (hc:lc c=some o) (h:CodeR a x) (k:CodeR b y):CodeR (.cond c a b) (.cond o x y)
 |block (id:Nat) (c:Code) (x:ACode) (h:CodeR c x):CodeR (.block id c) (.block id x)
 |loop (c:Code) (kill:List Nat) (x:ACode) (h:CodeR c x):CodeR (.loop c) (.loop kill x)
 |rangeFunc (f:Operand) (o:Opd) (ps:Array Tmp) (a b:Code) (x y:ACode) (hf:lc f=some o) (h:CodeR a x) (k:CodeR b y):CodeR (.rangeFunc f ps a b) (.rangeFunc o ps.toList x y)
 |exit (id:Nat):CodeR (.exit id) (.exit id)
 |label (l:Nat):CodeR (.label l) .skip
 |ret:CodeR .ret .ret
end
open Go.RowKit
structure PX where
 b:Nat->Bool
 fx:Nat->Option (Array Value × TypeId × Nat × Nat)
instance:CoeFun PX fun _=>Nat->Bool:=⟨PX.b⟩
instance:Coe PX (Nat->Bool):=⟨PX.b⟩
instance:Coe (Nat->Bool) PX:=⟨fun b=>⟨b,fun _=>none⟩⟩
structure CX where
 r:Code->ACode->Prop
 fx:Nat->Option (Array Value × TypeId × Nat × Nat)
 bt:TypeId->Bool:=fun _=>false
 b8:TypeId->Bool:=fun _=>false
instance:CoeFun CX fun _=>Code->ACode->Prop:=⟨CX.r⟩
abbrev CR(P:Program)(pure':PX):CX:=⟨CodeR P pure'.b,pure'.fx,bfu P,bha P⟩
class BtOk (CC:CX) (P:Program):Prop where
 ok:∀t,bfu P t=true->CC.bt t=true
 ok8:∀t,bha P t=true->CC.b8 t=true
instance (P:Program) (pure':PX):BtOk (CR P pure') P:=⟨fun _ h=>h,fun _ h=>h⟩
abbrev Mu:=Nat->Nat->Option (Nat × Nat)
inductive PR (Mt:Nat->Prop) (w:World):V->Value->Prop
 |s (v:Value):PR Mt w (.s v) v
 |agg (cs:List V) (vs:Array Value) (hl:cs.length=vs.size) (h:∀(i:Nat) (a:V) (b:Value),cs[i]?=some a->vs[i]?=some b->PR Mt w a b):PR Mt w (.agg cs) (.agg vs)
 |tup (cs:List V) (vs:Array Value) (hl:cs.length=vs.size) (h:∀(i:Nat) (a:V) (b:Value),cs[i]?=some a->vs[i]?=some b->PR Mt w a b):PR Mt w (.tup cs) (.tuple vs)
 |pref (cs:List V) (B o:Nat) (arr:Array Value) (e:TypeId) (fr:Nat × Nat) (hB:w.heap[B]?=some (.cells arr e fr)) (hM:¬Mt B) (hs:o+cs.length<=arr.size)
    (h:∀(i:Nat) (a:V) (b:Value),cs[i]?=some a->arr[o+i]?=some b->PR Mt w a b):PR Mt w (.pref cs) (.pointer (some ⟨B,o,none⟩))
 |psl (es:List (List V)) (sz B o cap:Nat) (arr:Array Value) (e:TypeId) (fr:Nat × Nat) (hB:w.heap[B]?=some (.cells arr e fr)) (hM:¬Mt B) (hc:es.length<=cap)
    (hz:∀(i:Nat) (el:List V),es[i]?=some el->el.length=sz) (hs:o+es.length*sz<=arr.size)
    (h:∀(i:Nat) (el:List V) (j:Nat) (a:V) (b:Value),es[i]?=some el->el[j]?=some a->arr[o+i*sz+j]?=some b->PR Mt w a b):PR Mt w (.psl es sz) (.slice (some ⟨B,o,none⟩) es.length cap)
 |psl0 (sz cap:Nat) (a:Addr):PR Mt w (.psl [] sz) (.slice (some a) 0 cap)
 |esl (a:Addr):PR Mt w .esl (.slice (some a) 0 0)
 |fn (f:Nat) (fst cap:List V) (fst' cap':Array Value) (hf:fst.length=fst'.size) (hc:cap.length=cap'.size) (h1:∀(i:Nat) (a:V) (b:Value),fst[i]?=some a->fst'[i]?=some b->PR Mt w a b)
    (h2:∀(i:Nat) (a:V) (b:Value),cap[i]?=some a->cap'[i]?=some b->PR Mt w a b):PR Mt w (.fn f fst cap) (.func (.func f) fst' cap')
inductive VR (μ:Mu) (Mt:Nat->Prop) (w:World):V->Value->Prop
 |s (v:Value):VR μ Mt w (.s v) v
 |unk (v:Value):VR μ Mt w .unk v
 |agg (cs:List V) (vs:Array Value) (hl:cs.length=vs.size) (h:∀(i:Nat) (a:V) (b:Value),cs[i]?=some a->vs[i]?=some b->VR μ Mt w a b):VR μ Mt w (.agg cs) (.agg vs)
 |tup (cs:List V) (vs:Array Value) (hl:cs.length=vs.size) (h:∀(i:Nat) (a:V) (b:Value),cs[i]?=some a->vs[i]?=some b->VR μ Mt w a b):VR μ Mt w (.tup cs) (.tuple vs)
 |ref (id g off B b:Nat) (hm:μ id g=some (B,b)):VR μ Mt w (.ref id g off) (.pointer (some ⟨B,b+off,none⟩))
 |pref (cs:List V) (B o:Nat) (arr:Array Value) (e:TypeId) (fr:Nat × Nat) (hB:w.heap[B]?=some (.cells arr e fr)) (hM:¬Mt B) (hs:o+cs.length<=arr.size)
    (h:∀(i:Nat) (a:V) (b:Value),cs[i]?=some a->arr[o+i]?=some b->PR Mt w a b):VR μ Mt w (.pref cs) (.pointer (some ⟨B,o,none⟩))
 |sl (id g off len sz B b cap:Nat) (arr:Array Value) (e:TypeId) {fr:Nat × Nat} (hm:μ id g=some (B,b)) (hB:w.heap[B]?=some (.cells arr e fr)) (hc:len<=cap) (hs:b+off+cap*sz<=arr.size):
    VR μ Mt w (.sl id g off len sz) (.slice (some ⟨B,b+off,none⟩) len cap)
 |sl0 (id g off sz B b:Nat) (a:Addr) (hm:μ id g=some (B,b)):VR μ Mt w (.sl id g off 0 sz) (.slice (some a) 0 0)
 |psl (es:List (List V)) (sz B o cap:Nat) (arr:Array Value) (e:TypeId) (fr:Nat × Nat) (hB:w.heap[B]?=some (.cells arr e fr)) (hM:¬Mt B) (hc:es.length<=cap)
    (hz:∀(i:Nat) (el:List V),es[i]?=some el->el.length=sz) (hs:o+es.length*sz<=arr.size)
    (h:∀(i:Nat) (el:List V) (j:Nat) (a:V) (b:Value),es[i]?=some el->el[j]?=some a->arr[o+i*sz+j]?=some b->PR Mt w a b):VR μ Mt w (.psl es sz) (.slice (some ⟨B,o,none⟩) es.length cap)
 |psl0 (sz cap:Nat) (a:Addr):VR μ Mt w (.psl [] sz) (.slice (some a) 0 cap)
 |esl (a:Addr):VR μ Mt w .esl (.slice (some a) 0 0)
 |mp (id B:Nat) (hm:μ id 0=some (B,0)):VR μ Mt w (.mp id) (.map (some B))
 |fn (f:Nat) (fst cap:List V) (fst' cap':Array Value) (hf:fst.length=fst'.size) (hc:cap.length=cap'.size) (h1:∀(i:Nat) (a:V) (b:Value),fst[i]?=some a->fst'[i]?=some b->VR μ Mt w a b)
    (h2:∀(i:Nat) (a:V) (b:Value),cap[i]?=some a->cap'[i]?=some b->VR μ Mt w a b):VR μ Mt w (.fn f fst cap) (.func (.func f) fst' cap')
 |yld (id B:Nat) (hm:μ id 0=some (B,0)):VR μ Mt w (.yld id) (.func (.yield B) #[] #[])
def VRs(μ:Mu)(Mt:Nat->Prop)(w:World)(vs:List V)(cs:List Value):Prop:=
 vs.length=cs.length/\∀(i:Nat) (a:V) (b:Value),vs[i]?=some a->cs[i]?=some b->VR μ Mt w a b
structure Tr (μ:Mu) (w w':World):Prop where
 size:w.heap.size<=w'.heap.size
 shape:∀(B:Nat) (arr:Array Value) (e:TypeId) (fr:Nat × Nat),w.heap[B]?=some (.cells arr e fr)->∃arr' fr',w'.heap[B]?=some (.cells arr' e fr')/\arr'.size=arr.size
 loops:∀(B:Nat) (l:Loop),w.heap[B]?=some (.loop l)->∃l',w'.heap[B]?=some (.loop l')
 keep:∀B,B<w.heap.size->(∀id g b,μ id g≠some (B,b))->w'.heap[B]?=w.heap[B]?
 back:∀(B:Nat) (arr:Array Value) (e:TypeId),w'.heap[B]?=some (.cells arr e (0,0))->(∃arr0,w.heap[B]?=some (.cells arr0 e (0,0)))\/w.heap.size<=B
 os:w'.os=w.os
 tape:w'.tape=w.tape
 output:w'.output=w.output
def lt_of_some{w:World}{B:Nat}{o:Obj}(h:w.heap[B]?=some o):B<w.heap.size:=(bmv.1 h).1
def Tr.refl(μ w):Tr μ w w:=⟨aj _,fun _ arr _ fr h=>⟨arr,fr,h,rfl⟩,fun _ l h=>⟨l,h⟩,fun _ _ _=>rfl,fun _ arr _ h=>.inl ⟨arr,h⟩,rfl,rfl,rfl⟩
def PR.vr{μ}{Mt:Nat->Prop}{w v c}(h:PR Mt w v c):VR μ Mt w v c:=by
 induction h with
 |s v=>exact .s v
 |agg cs vs hl _ ih=>exact .agg cs vs hl ih
 |tup cs vs hl _ ih=>exact .tup cs vs hl ih
 |pref cs B o arr e fr hB hMB hs h _=>exact .pref cs B o arr e fr hB hMB hs h
 |psl es sz B o cap arr e fr hB hMB hc hz hs h _=>exact .psl es sz B o cap arr e fr hB hMB hc hz hs h
 |psl0 sz cap a=>exact .psl0 sz cap a
 |esl a=>exact .esl a
 |fn f fst cap fst' cap' hf hc _ _ ih1 ih2=>exact .fn f fst cap fst' cap' hf hc ih1 ih2
def PR.mono{Mt Mt':Nat->Prop}{w w':World}(hM:∀B,B<w.heap.size->Mt' B->Mt B)(hk:∀B,B<w.heap.size->¬Mt B->w'.heap[B]?=w.heap[B]?){v:V}{c:Value}(h:PR Mt w v c):PR Mt' w' v c:=by
 induction h with
 |s v=>exact .s v
 |agg cs vs hl _ ih=>exact .agg cs vs hl ih
 |tup cs vs hl _ ih=>exact .tup cs vs hl ih
 |pref cs B o arr e fr hB hMB hs _ ih=>exact .pref cs B o arr e fr ((hk B (lt_of_some hB) hMB).trans hB) (fun h=>hMB (hM B (lt_of_some hB) h)) hs ih
 |psl es sz B o cap arr e fr hB hMB hc hz hs _ ih=>exact .psl es sz B o cap arr e fr ((hk B (lt_of_some hB) hMB).trans hB) (fun h=>hMB (hM B (lt_of_some hB) h)) hc hz hs ih
 |psl0 sz cap a=>exact .psl0 sz cap a
 |esl a=>exact .esl a
 |fn f fst cap fst' cap' hf hc _ _ ih1 ih2=>exact .fn f fst cap fst' cap' hf hc ih1 ih2
def VR.mono{μ μ':Mu}{Mt Mt':Nat->Prop}{w w':World}(hμ:∀id g p,μ id g=some p->μ' id g=some p)(hM:∀B,B<w.heap.size->Mt' B->Mt B)(hk:∀B,B<w.heap.size->¬Mt B->w'.heap[B]?=w.heap[B]?)(hsh:∀(B:Nat) (arr:Array Value) (e:TypeId) (fr:Nat × Nat),w.heap[B]?=some (.cells arr e fr)->∃arr' fr',w'.heap[B]?=some (.cells arr' e fr')/\arr'.size=arr.size){v:V}{c:Value}(h:VR μ Mt w v c):VR μ' Mt' w' v c:=by
 induction h with
 |s v=>exact .s v
 |unk v=>exact .unk v
 |agg cs vs hl _ ih=>exact .agg cs vs hl ih
 |tup cs vs hl _ ih=>exact .tup cs vs hl ih
 |ref id g off B b hm=>exact .ref id g off B b (hμ _ _ _ hm)
 |pref cs B o arr e fr hB hMB hs h=>exact .pref cs B o arr e fr ((hk B (lt_of_some hB) hMB).trans hB) (fun h=>hMB (hM B (lt_of_some hB) h)) hs (fun i a b ha hb=>(h i a b ha hb).mono hM hk)
 |sl id g off len sz B b cap arr e hm hB hc hs=>
   obtain⟨arr',fr',h1,h2⟩:=hsh B arr e _ hB
   exact .sl id g off len sz B b cap arr' e (hμ _ _ _ hm) h1 hc (by omega)
 |sl0 id g off sz B b a hm=>exact .sl0 id g off sz B b a (hμ _ _ _ hm)
 |psl es sz B o cap arr e fr hB hMB hc hz hs h=>exact .psl es sz B o cap arr e fr ((hk B (lt_of_some hB) hMB).trans hB) (fun h=>hMB (hM B (lt_of_some hB) h)) hc hz hs (fun i el j a b he ha hb=>(h i el j a b he ha hb).mono hM hk)
 |psl0 sz cap a=>exact .psl0 sz cap a
 |esl a=>exact .esl a
 |mp id B hm=>exact .mp id B (hμ _ _ _ hm)
 |fn f fst cap fst' cap' hf hc _ _ ih1 ih2=>exact .fn f fst cap fst' cap' hf hc ih1 ih2
 |yld id B hm=>exact .yld id B (hμ _ _ _ hm)
def Ob.cur:Ob->Nat->Prop
 |.cells g' _,g=>g'=g
 |.map _,g=>g=0
 |.loop ..,g=>g=0
 |.dead,_=>False
 |.bytes g' _,g=>g'=g
def Ob.gen:Ob->Option Nat
 |.cells g _=>some g
 |.bytes g _=>some g
 |_=>none
def Ob.gen_cur{ob:Ob}{g:Nat}(h:ob.gen=some g):ob.cur g:=by
 cases ob<;>simp[Ob.gen]at h<;>exact h
def amg(st:LoopState)(pend:Option Ex)(pc:Option Code):Prop:=
 match st,pend with
 |.ready,none=>pc=none
 |.busy,none=>True
 |.done,some .ret=>pc=some .ret
 |.done,some (.ext id)=>pc=some (.exit id)
 |_,_=>False
def LoopR(CC:CX)(μ:Mu)(Mt:Nat->Prop)(w:World)(st:LoopState)(pend:Option Ex)(tmps:List V)(params:List Nat)(assign body:ACode)(l:Loop):Prop:=
 l.state=st/\amg st pend l.pending/\VRs μ Mt w tmps l.tmps.toList/\l.params.toList=params/\CC l.assign assign/\CC l.body body
def ak1(CC:CX)(g:Nat)(c:List V)(b:Nat)(arr:Array Value)(e:TypeId):Prop:=g=0->c.head?=some .unk->CC.bt e=true/\b=0/\arr.size=2/\arr[0]?=some (.pointer none)
def ak1.one{CC g c b arr e}(h:c.all V.one=true):ak1 CC g c b arr e:=fun _ hu=>by
 cases c with
 |nil=>cases hu
 |cons x c=>
   cases hu;rw[gp,au]at h
   exact absurd h.1 (by decide)
def ak1.gen{CC g c b arr e}(h:g≠0):ak1 CC g c b arr e:=fun h0=>absurd h0 h
def ObR(CC:CX)(μ:Mu)(Mt:Nat->Prop)(w:World):Ob->Nat->Obj->Prop
 |.cells g c,b,.cells arr e fr=>fr=(0,0)/\b+c.length<=arr.size/\(∀(i:Nat) (a:V) (v:Value),c[i]?=some a->arr[b+i]?=some v->VR μ Mt w a v)/\ak1 CC g c b arr e
 |.map es,b,.map arr clock=>(b=0/\MapKept.Stamped arr clock)/\arr.size=es.length/\∀(i:Nat) (k:Value) (v:V) (e:MapEntry),es[i]?=some (k,v)->arr[i]?=some e->e.key=k/\VR μ Mt w v e.val
 |.bytes _ l,b,.cells arr e fr=>fr=(0,0)/\CC.b8 e=true/\b+l.length<=arr.size/\∀(i:Nat) (x:UInt8),l[i]?=some x->arr[b+i]?=some (.int .u8 x.toNat)
 |.loop st pend tmps params assign body,b,.loop l=>b=0/\LoopR CC μ Mt w st pend tmps params assign body l
 |_,_,_=>False
inductive VW (m:Nat):V->Prop
 |s (v:Value):VW m (.s v)
 |unk:VW m .unk
 |agg (cs:List V) (h:∀v∈cs,VW m v):VW m (.agg cs)
 |tup (cs:List V) (h:∀v∈cs,VW m v):VW m (.tup cs)
 |ref (id g off:Nat) (h:id<m):VW m (.ref id g off)
 |pref (cs:List V):VW m (.pref cs)
 |sl (id g off len sz:Nat) (h:id<m):VW m (.sl id g off len sz)
 |psl (es:List (List V)) (sz:Nat):VW m (.psl es sz)
 |esl:VW m .esl
 |mp (id:Nat) (h:id<m):VW m (.mp id)
 |fn (f:Nat) (a b:List V) (ha:∀v∈a,VW m v) (hb:∀v∈b,VW m v):VW m (.fn f a b)
 |yld (id:Nat) (h:id<m):VW m (.yld id)
def VW.mono{m m'}(hm:m<=m'){v}(h:VW m v):VW m' v:=by
 induction h with
 |s v=>exact .s v
 |unk=>exact .unk
 |agg cs _ ih=>exact .agg cs ih
 |tup cs _ ih=>exact .tup cs ih
 |ref id g off h=>exact .ref id g off (kv h hm)
 |pref cs=>exact .pref cs
 |sl id g off len sz h=>exact .sl id g off len sz (kv h hm)
 |psl es sz=>exact .psl es sz
 |esl=>exact .esl
 |mp id h=>exact .mp id (kv h hm)
 |fn f a b _ _ ih1 ih2=>exact .fn f a b ih1 ih2
 |yld id h=>exact .yld id (kv h hm)
def VR.vw{μ}{Mt:Nat->Prop}{w m}(hd:∀id g p,μ id g=some p->id<m){v c}(h:VR μ Mt w v c):VW m v:=by
 have lists:∀{cs:List V} {vs:Array Value},cs.length=vs.size->(∀(i:Nat) (a:V) (b:Value),cs[i]?=some a->vs[i]?=some b->VW m a)->∀v∈cs,VW m v:=by
  intro cs vs hl h v hv;obtain⟨i,hi,rfl⟩:=vk hv
  exact h i cs[i] vs[i] (af hi) (ko (by omega))
 induction h with
 |s v=>exact .s v
 |unk v=>exact .unk
 |agg cs vs hl _ ih=>exact .agg cs (lists hl ih)
 |tup cs vs hl _ ih=>exact .tup cs (lists hl ih)
 |ref id g off B b hm=>exact .ref id g off (hd _ _ _ hm)
 |pref cs=>exact .pref cs
 |sl id g off len sz B b cap arr e hm=>exact .sl id g off len sz (hd _ _ _ hm)
 |sl0 id g off sz B b a hm=>exact .sl id g off 0 sz (hd _ _ _ hm)
 |psl es sz=>exact .psl es sz
 |psl0 sz=>exact .psl [] sz
 |esl a=>exact .esl
 |mp id B hm=>exact .mp id (hd _ _ _ hm)
 |fn f fst cap fst' cap' hf hc _ _ ih1 ih2=>exact .fn f fst cap (lists hf ih1) (lists hc ih2)
 |yld id B hm=>exact .yld id (hd _ _ _ hm)
def ObW(m:Nat):Ob->Prop
 |.cells _ c=>∀v∈c,VW m v
 |.map es=>∀e∈es,VW m e.2
 |.loop _ _ t _ _ _=>∀v∈t,VW m v
 |.dead=>True
 |.bytes ..=>True
def ObW.mono{m m'}(hm:m<=m'){ob}(h:ObW m ob):ObW m' ob:=by
 cases ob with
 |cells g c=>exact fun v hv=>(h v hv).mono hm
 |map es=>exact fun e he=>(h e he).mono hm
 |loop st pe t ps a b=>exact fun v hv=>(h v hv).mono hm
 |dead=>trivial
 |bytes g l=>trivial
def ObR.obw{CC μ}{Mt:Nat->Prop}{w m}(hd:∀id g p,μ id g=some p->id<m){ob b}{o:Obj}(h:ObR CC μ Mt w ob b o):ObW m ob:=by
 cases ob with
 |cells g c=>
   cases o<;>first|exact h.elim|skip
   intro v hv;obtain⟨i,hi,rfl⟩:=vk hv;obtain⟨_,h1,h2,_⟩:=h
   exact(h2 i c[i] _ (af hi) (ko (by omega))).vw hd
 |map es=>
   cases o<;>first|exact h.elim|skip
   intro e he;obtain⟨i,hi,rfl⟩:=vk he;obtain⟨_,h1,h2⟩:=h
   exact(h2 i es[i].1 es[i].2 _ (af hi) (ko (by omega))).2.vw hd
 |loop st pe t ps a b'=>
   cases o<;>first|exact h.elim|skip
   intro v hv;obtain⟨_,_,_,h3,_⟩:=h;obtain⟨i,hi,rfl⟩:=vk hv;have hl:=h3.1
   exact(h3.2 i t[i] _ (af hi) (af (by omega))).vw hd
 |dead=>trivial
 |bytes g l=>trivial
def VRs.vw{μ}{Mt:Nat->Prop}{w m}(hd:∀id g p,μ id g=some p->id<m){vs cs}(h:VRs μ Mt w vs cs):∀v∈vs,VW m v:=by
 intro v hv;obtain⟨i,hi,rfl⟩:=vk hv;have hl:=h.1
 exact(h.2 i vs[i] cs[i] (af hi) (af (by omega))).vw hd
structure HR (CC:CX) (μ:Mu) (Mt:Nat->Prop) (w:World) (H:Heap):Prop where
 dom:∀id g p,μ id g=some p->id<H.length
 isMut:∀id g B b,μ id g=some (B,b)->Mt B/\B<w.heap.size
 objs:∀(id:Nat) (ob:Ob) (g B b:Nat),H[id]?=some ob->ob.cur g->μ id g=some (B,b)->∃o,w.heap[B]?=some o/\ObR CC μ Mt w ob b o
 inj:∀(id g id' g' B b b':Nat),μ id g=some (B,b)->μ id' g'=some (B,b')->id=id'
 gens:∀(id g g':Nat) (ob:Ob) (p:Nat × Nat),μ id g=some p->H[id]?=some ob->ob.gen=some g'->g<=g'
 wf:∀(id g:Nat) (p:Nat × Nat) (ob:Ob),μ id g=some p->H[id]?=some ob->ObW H.length ob
 fix:∀(B:Nat) (o:Array Value × TypeId × Nat × Nat),CC.fx B=some o->w.heap[B]?=some (.cells o.1 o.2.1 o.2.2)/\¬Mt B
 zero:∀id B b,μ id 0=some (B,b)->b=0
structure Post (CC:CX) (μ:Mu) (Mt:Nat->Prop) (w:World) (H:Heap) (μ':Mu) (Mt':Nat->Prop) (w':World) (H':Heap):Prop where
 len:H.length<=H'.length
 hr:HR CC μ' Mt' w' H'
 ext:∀id g p,μ id g=some p->μ' id g=some p
 mt:∀B,B<w.heap.size->(Mt' B↔Mt B)
 tr:Tr μ w w'
 old:∀id g B b,μ' id g=some (B,b)->B<w.heap.size->∃id0 g0 b0,μ id0 g0=some (B,b0)
 news:∀id g p,μ' id g=some p->id<H.length->∃g0 p0,μ id g0=some p0
def HR.wfn{CC μ}{Mt:Nat->Prop}{w H}(h:HR CC μ Mt w H){id g ob p}(hH:H[id]?=some ob)(hc:ob.cur g)(hm:μ id g=some p):ObW H.length ob:=by
 obtain⟨o,_,hr⟩:=h.objs id ob g p.1 p.2 hH hc hm;exact hr.obw h.dom
def HR.mtOf{CC μ}{Mt:Nat->Prop}{w H}(h:HR CC μ Mt w H){B}(hn:¬Mt B):∀id g b,μ id g≠some (B,b):=
 fun id g b e=>hn (h.isMut id g B b e).1
def HR.fixed{CC:CX}{μ:Mu}{Mt Mt':Nat->Prop}{w w':World}{H:Heap}(h:HR CC μ Mt w H)(hM:∀B,B<w.heap.size->Mt' B->Mt B)(hk:∀B,B<w.heap.size->¬Mt B->w'.heap[B]?=w.heap[B]?):∀(B:Nat) (o:Array Value × TypeId × Nat × Nat),CC.fx B=some o->w'.heap[B]?=some (.cells o.1 o.2.1 o.2.2)/\¬Mt' B:=by
 intro B o e;obtain⟨h1,h2⟩:=h.fix B o e;exact⟨(hk B (lt_of_some h1) h2).trans h1,fun hm=>h2 (hM B (lt_of_some h1) hm)⟩
def Post.vr{CC μ}{Mt:Nat->Prop}{w H μ'}{Mt':Nat->Prop}{w' H'}(h0:HR CC μ Mt w H)(h:Post CC μ Mt w H μ' Mt' w' H'){v c}(hv:VR μ Mt w v c):VR μ' Mt' w' v c:=
 hv.mono h.ext (fun B hB hm=>(h.mt B hB).1 hm) (fun B hB hm=>h.tr.keep B hB (h0.mtOf hm)) h.tr.shape
def Post.vrs{CC μ}{Mt:Nat->Prop}{w H μ'}{Mt':Nat->Prop}{w' H'}(h0:HR CC μ Mt w H)(h:Post CC μ Mt w H μ' Mt' w' H'){v c}(hv:VRs μ Mt w v c):VRs μ' Mt' w' v c:=
 ⟨hv.1,fun i a b ha hb=>h.vr h0 (hv.2 i a b ha hb)⟩
def Post.refl{CC μ}{Mt:Nat->Prop}{w H}(h:HR CC μ Mt w H):Post CC μ Mt w H μ Mt w H:=
 ⟨aj _,h,fun _ _ _ h=>h,fun _ _=>bmj,Tr.refl μ w,fun id g _ b h _=>⟨id,g,b,h⟩,fun _ g p h _=>⟨g,p,h⟩⟩
def Post.trans{CC μ}{Mt:Nat->Prop}{w H μ₁}{Mt₁:Nat->Prop}{w₁ H₁ μ₂}{Mt₂:Nat->Prop}{w₂ H₂}(h:Post CC μ Mt w H μ₁ Mt₁ w₁ H₁)(k:Post CC μ₁ Mt₁ w₁ H₁ μ₂ Mt₂ w₂ H₂):Post CC μ Mt w H μ₂ Mt₂ w₂ H₂ where
 len:=qa h.len k.len
 hr:=k.hr
 ext id g p e:=k.ext id g p (h.ext id g p e)
 mt B hB:=(k.mt B (kv hB h.tr.size)).trans (h.mt B hB)
 tr:={
  size:=qa h.tr.size k.tr.size
  shape:=fun B arr e fr hB=>by
   obtain⟨arr1,fr1,h1,h2⟩:=h.tr.shape B arr e fr hB;obtain⟨arr2,fr2,h3,h4⟩:=k.tr.shape B arr1 e fr1 h1;exact⟨arr2,fr2,h3,h4.trans h2⟩
  loops:=fun B l hB=>by
   obtain⟨l1,h1⟩:=h.tr.loops B l hB;exact k.tr.loops B l1 h1
  keep:=fun B hB hn=>by
   refine(k.tr.keep B (kv hB h.tr.size) ?_).trans (h.tr.keep B hB hn);intro id g b e;obtain⟨id0,g0,b0,e0⟩:=h.old id g B b e hB;exact hn id0 g0 b0 e0
  back:=fun B arr e hB=>by
   rcases k.tr.back B arr e hB with⟨arr1,h1⟩|h1
   .exact h.tr.back B arr1 e h1
   .exact .inr (qa h.tr.size h1)
  os:=k.tr.os.trans h.tr.os
  tape:=k.tr.tape.trans h.tr.tape
  output:=k.tr.output.trans h.tr.output }
 old id g B b e hB:=by
  obtain⟨id1,g1,b1,e1⟩:=k.old id g B b e (kv hB h.tr.size);exact h.old id1 g1 B b1 e1 hB
 news id g p e hid:=by
  obtain⟨g1,p1,e1⟩:=k.news id g p e (kv hid h.len);exact h.news id g1 p1 e1 hid
section
variable {CC:CX} {μ μ':Mu} {Mt Mt':Nat->Prop} {w w':World} {H:Heap}
def VRs.mono(hμ:∀id g p,μ id g=some p->μ' id g=some p)(hM:∀B,B<w.heap.size->Mt' B->Mt B)(hk:∀B,B<w.heap.size->¬Mt B->w'.heap[B]?=w.heap[B]?)(hsh:∀(B:Nat) (arr:Array Value) (e:TypeId) (fr:Nat × Nat),w.heap[B]?=some (.cells arr e fr)->∃arr' fr',w'.heap[B]?=some (.cells arr' e fr')/\arr'.size=arr.size){v c}(h:VRs μ Mt w v c):VRs μ' Mt' w' v c:=
 ⟨h.1,fun i a b ha hb=>(h.2 i a b ha hb).mono hμ hM hk hsh⟩
def ObR.mono(hμ:∀id g p,μ id g=some p->μ' id g=some p)(hM:∀B,B<w.heap.size->Mt' B->Mt B)(hk:∀B,B<w.heap.size->¬Mt B->w'.heap[B]?=w.heap[B]?)(hsh:∀(B:Nat) (arr:Array Value) (e:TypeId) (fr:Nat × Nat),w.heap[B]?=some (.cells arr e fr)->∃arr' fr',w'.heap[B]?=some (.cells arr' e fr')/\arr'.size=arr.size){ob b}{o:Obj}(h:ObR CC μ Mt w ob b o):ObR CC μ' Mt' w' ob b o:=by
 cases ob with
 |cells g c=>cases o<;>first|exact h.elim|exact⟨h.1,h.2.1,fun i a v ha hv=>(h.2.2.1 i a v ha hv).mono hμ hM hk hsh,h.2.2.2⟩
 |map es=>cases o<;>first|exact h.elim|exact⟨h.1,h.2.1,fun i k v e he hv=>⟨(h.2.2 i k v e he hv).1,(h.2.2 i k v e he hv).2.mono hμ hM hk hsh⟩⟩
 |loop st pend tmps params assign body=>
   cases o<;>first|exact h.elim|skip
   obtain⟨h0,h1,h2,h3,h4,h5,h6⟩:=h;exact⟨h0,h1,h2,h3.mono hμ hM hk hsh,h4,h5,h6⟩
 |dead=>cases o<;>exact h.elim
 |bytes g l=>cases o<;>first|exact h.elim|exact h
def qj{o:Obj}(hh:w'.heap=w.heap.push o){B}(hB:B<w.heap.size):w'.heap[B]?=w.heap[B]?:=by
 rw[hh,aba,fu (by omega)]
def xw{o:Obj}(hh:w'.heap=w.heap.push o):w'.heap[w.heap.size]?=some o:=by
 rw[hh,aba,dw rfl]
def aol(μ:Mu)(id g:Nat)(p:Nat × Nat):Mu:=fun i j=>if i=id/\j=g then some p else μ i j
def uo(μ id g p):aol μ id g p id g=some p:=by simp[aol]
def aac{μ id g i j p}(h:¬(i=id/\j=g)):aol μ id g p i j=μ i j:=by simp only[aol,fu h]
def agp{μ id g p}(hn:μ id g=none):∀i j q,μ i j=some q->aol μ id g p i j=some q:=by
 intro i j q h;by_cases e:i=id/\j=g
 .rw[e.1,e.2,hn]at h;cases h
 .rw[aac e];exact h
def HR.none_new(h:HR CC μ Mt w H)(g):μ H.length g=none:=by
 cases e:μ H.length g with
 |none=>rfl
 |some p=>exact absurd (h.dom _ _ _ e) (acg _)
def HR.zero_upd(h:HR CC μ Mt w H){id g p}(hp:g=0->p.2=0):∀i B b,aol μ id g p i 0=some (B,b)->b=0:=by
 intro i B b e;by_cases c:i=id/\0=g
 .obtain⟨rfl,rfl⟩:=c;rw[uo]at e;cases e;exact hp rfl
 .rw[aac c]at e;exact h.zero _ _ _ e
def af7(h:HR CC μ Mt w H)(o:Obj)(ob:Ob)(hob:ObR CC μ Mt w ob 0 o)(hh:w'.heap=w.heap.push o)(hos:w'.os=w.os)(htape:w'.tape=w.tape)(hout:w'.output=w.output):
 Post CC μ Mt w H (aol μ H.length 0 (w.heap.size,0)) (fun B=>Mt B\/B=w.heap.size) w' (H++[ob]):=by
 have hμ:=agp (p:=(w.heap.size,0)) (h.none_new 0)
 have hM:∀B,B<w.heap.size->(Mt B\/B=w.heap.size)->Mt B:=fun B hB hm=>hm.resolve_right (by omega)
 have hk:∀B,B<w.heap.size->¬Mt B->w'.heap[B]?=w.heap[B]?:=fun B hB _=>qj hh hB;have hsh:∀(B:Nat) (arr:Array Value) (e:TypeId) (fr:Nat × Nat),w.heap[B]?=some (.cells arr e fr)->∃arr' fr',w'.heap[B]?=some (.cells arr' e fr')/\arr'.size=arr.size:=
  fun B arr e fr hB=>⟨arr,fr,(qj hh (lt_of_some hB)).trans hB,rfl⟩
 have hbk:∀(B:Nat) (arr:Array Value) (e:TypeId) (fr:Nat × Nat),w'.heap[B]?=some (.cells arr e fr)->(∃arr0,w.heap[B]?=some (.cells arr0 e fr))\/(w.heap.size<=B/\fr=(0,0)):=by
  intro B arr e fr hB;by_cases hlt:B<w.heap.size
  .exact .inl ⟨arr,(qj hh hlt).symm.trans hB⟩
  .have hB':=hB;rw[hh,aba]at hB';split at hB'
   .rename_i hBe
    refine .inr ⟨by omega,?_⟩
    cases hB'
    cases ob<;>first|exact hob.elim|exact hob.1
   .rw[bl7 (by omega)]at hB';cases hB'
 have hsz:w'.heap.size=w.heap.size+1:=by rw[hh,ahh]
 have cases_mu:∀id g p,aol μ H.length 0 (w.heap.size,0) id g=some p->(id=H.length/\g=0/\p=(w.heap.size,0))\/(id<H.length/\μ id g=some p):=by
  intro id g p e;by_cases c:id=H.length/\g=0
  .obtain⟨rfl,rfl⟩:=c;rw[uo]at e;exact .inl ⟨rfl,rfl,(jk e).symm⟩
  .rw[aac c]at e;exact .inr ⟨h.dom _ _ _ e,e⟩
 refine⟨by simp,⟨?_,?_,?_,?_,?_,?_,h.fixed hM hk,h.zero_upd (fun _=>rfl)⟩,hμ,fun B hB=>⟨hM B hB,.inl⟩,⟨by omega,hsh,fun B l hB=>⟨l,(qj hh (lt_of_some hB)).trans hB⟩,fun B hB _=>qj hh hB,(fun B arr e h=>(hbk B arr e (0,0) h).imp (fun x=>x) And.left),hos,htape,hout⟩,?_,?_⟩
 .intro id g p e
  rcases cases_mu id g p e with⟨rfl,_,_⟩|⟨hl,_⟩<;>simp<;>omega
 .intro id g B b e
  rcases cases_mu id g _ e with⟨_,_,hp⟩|⟨_,e'⟩
  .cases hp;exact⟨.inr rfl,by omega⟩
  .exact⟨.inl (h.isMut _ _ _ _ e').1,by have:=(h.isMut _ _ _ _ e').2;omega⟩
 .intro id ob' g B b hH hc e
  rcases cases_mu id g _ e with⟨rfl,rfl,hp⟩|⟨hl,e'⟩
  .cases hp;rw[bz (aj _)]at hH;simp at hH;subst hH;exact⟨o,xw hh,hob.mono hμ hM hk hsh⟩
  .rw[ah hl]at hH;obtain⟨o',ho',hr⟩:=h.objs id ob' g B b hH hc e';exact⟨o',(qj hh (lt_of_some ho')).trans ho',hr.mono hμ hM hk hsh⟩
 .intro id g id' g' B b b' e1 e2
  rcases cases_mu id g _ e1 with⟨r1,_,p1⟩|⟨l1,e1'⟩<;>rcases cases_mu id' g' _ e2 with⟨r2,_,p2⟩|⟨l2,e2'⟩
  .rw[r1,r2]
  .cases p1;have:=(h.isMut _ _ _ _ e2').2;omega
  .cases p2;have:=(h.isMut _ _ _ _ e1').2;omega
  .exact h.inj _ _ _ _ _ _ _ e1' e2'
 .intro id g g' c p e hH
  rcases cases_mu id g _ e with⟨rfl,rfl,_⟩|⟨hl,e'⟩
  .exact fun _=>jo _
  .rw[ah hl]at hH;exact h.gens _ _ _ _ _ e' hH
 .intro id g p ob' e hH
  rcases cases_mu id g _ e with⟨rfl,_,_⟩|⟨hl,e'⟩
  .rw[bz (aj _)]at hH;simp at hH;subst hH
   exact(hob.obw h.dom).mono (by simp)
  .rw[ah hl]at hH
   exact(h.wf id g _ ob' e' hH).mono (by simp)
 .intro id g B b e hB
  rcases cases_mu id g _ e with⟨_,_,hp⟩|⟨_,e'⟩
  .cases hp;omega
  .exact⟨_,_,_,e'⟩
 .intro id g p e hid
  rcases cases_mu id g _ e with⟨rfl,_,_⟩|⟨_,e'⟩
  .omega
  .exact⟨_,_,e'⟩
def heap_set{o':Obj}{B}(hh:w'.heap=w.heap.setIfInBounds B o'){K}(hne:K≠B):w'.heap[K]?=w.heap[K]?:=by
 rw[hh,a1d (by omega)]
def ac4{o':Obj}{B}(hh:w'.heap=w.heap.setIfInBounds B o')(hB:B<w.heap.size):w'.heap[B]?=some o':=by
 rw[hh,ap7 hB]
def as8(h:HR CC μ Mt w H){id g B b:Nat}{ob ob':Ob}{o o':Obj}(g' b':Nat)(hid:H[id]?=some ob)(hcur:ob.cur g)(hm:μ id g=some (B,b))(ho:w.heap[B]?=some o)(hkind:∀arr e fr,o=.cells arr e fr->∃arr' fr',o'=.cells arr' e fr'/\arr'.size=arr.size)(hkind2:∀l,o=.loop l->∃l',o'=.loop l')(hg':g'=g/\b'=b\/(μ id g'=none/\g'≠0))(hc':∀j,ob'.cur j->j=g')(hcells:∀j,ob'.gen=some j->∀k q,μ id k=some q->k<=j)(hh:w'.heap=w.heap.setIfInBounds B o')(hos:w'.os=w.os)(htape:w'.tape=w.tape)(hout:w'.output=w.output)(hwf:ObW H.length ob')(hob:ob'.cur g'->∀μ' Mt',(∀i j q,μ i j=some q->μ' i j=some q)->(∀K,K<w.heap.size->(Mt' K↔Mt K))->ObR CC μ' Mt' w' ob' b' o')(hkind3:∀arr e,o'=.cells arr e (0,0)->∃arr0,o=.cells arr0 e (0,0)):
 Post CC μ Mt w H (aol μ id g' (B,b')) Mt w' (H.set id ob'):=by
 have hlt:B<w.heap.size:=lt_of_some ho
 have hz0:g'=0->(B,b').2=0:=by
  intro e
  rcases hg' with⟨r1,r2⟩|⟨_,hn⟩
  .subst r2;rw[e]at r1;rw[<- r1]at hm;exact h.zero _ _ _ hm
  .exact absurd e hn
 have hμ:∀i j q,μ i j=some q->aol μ id g' (B,b') i j=some q:=by
  rcases hg' with⟨rfl,rfl⟩|hn
  .intro i j q e;by_cases c:i=id/\j=g'
   .obtain⟨rfl,rfl⟩:=c;rw[hm]at e;rw[uo];exact e
   .rw[aac c];exact e
  .exact agp hn.1
 have hk:∀K,K<w.heap.size->¬Mt K->w'.heap[K]?=w.heap[K]?:=fun K _ hn=>heap_set hh (fun e=>hn (e▸(h.isMut _ _ _ _ hm).1))
 have hsh:∀(K:Nat) (arr:Array Value) (e:TypeId) (fr:Nat × Nat),w.heap[K]?=some (.cells arr e fr)->∃arr' fr',w'.heap[K]?=some (.cells arr' e fr')/\arr'.size=arr.size:=by
  intro K arr e fr hK;by_cases c:K=B
  .subst c;rw[ho]at hK;obtain⟨arr',fr',e1,e2⟩:=hkind arr e fr (jk hK)
   exact⟨arr',fr',by rw[ac4 hh hlt,e1],e2⟩
  .exact⟨arr,fr,(heap_set hh c).trans hK,rfl⟩
 have hlp:∀(K:Nat) (l:Loop),w.heap[K]?=some (.loop l)->∃l',w'.heap[K]?=some (.loop l'):=by
  intro K l hK;by_cases c:K=B
  .subst c;rw[ho]at hK;obtain⟨l',e1⟩:=hkind2 l (jk hK)
   exact⟨l',by rw[ac4 hh hlt,e1]⟩
  .exact⟨l,(heap_set hh c).trans hK⟩
 have hsz:w'.heap.size=w.heap.size:=by rw[hh,Array.size_setIfInBounds]
 have hbk:∀(K:Nat) (arr:Array Value) (e:TypeId),w'.heap[K]?=some (.cells arr e (0,0))->(∃arr0,w.heap[K]?=some (.cells arr0 e (0,0)))\/w.heap.size<=K:=by
  intro K arr e hK;by_cases c:K=B
  .subst c;rw[ac4 hh hlt]at hK;obtain⟨arr0,h0⟩:=hkind3 arr e (jk hK)
   exact .inl ⟨arr0,by rw[ho,h0]⟩
  .exact .inl ⟨arr,(heap_set hh c).symm.trans hK⟩
 have hidl:id<H.length:=(bmk.1 hid).1
 have cases_mu:∀i j p,aol μ id g' (B,b') i j=some p->(i=id/\j=g'/\p=(B,b'))\/(¬(i=id/\j=g')/\μ i j=some p):=by
  intro i j p e;by_cases c:i=id/\j=g'
  .obtain⟨rfl,rfl⟩:=c;rw[uo]at e;exact .inl ⟨rfl,rfl,(jk e).symm⟩
  .rw[aac c]at e;exact .inr ⟨c,e⟩
 refine⟨by simp,⟨?_,?_,?_,?_,?_,?_,h.fixed (fun _ _ h=>h) (fun K hK hn=>heap_set hh (fun e=>hn (e▸(h.isMut _ _ _ _ hm).1))),h.zero_upd hz0⟩,hμ,fun _ _=>bmj,⟨by omega,hsh,hlp,fun K _ hn=>heap_set hh (fun e=>hn id g b (e▸hm)),hbk,hos,htape,hout⟩,?_,?_⟩
 .intro i j p e;rw[fe]
  rcases cases_mu i j p e with⟨rfl,_,_⟩|⟨_,e'⟩
  .exact hidl
  .exact h.dom _ _ _ e'
 .intro i j K k e
  rcases cases_mu i j _ e with⟨_,_,hp⟩|⟨_,e'⟩
  .cases hp;exact⟨(h.isMut _ _ _ _ hm).1,by omega⟩
  .exact⟨(h.isMut _ _ _ _ e').1,by have:=(h.isMut _ _ _ _ e').2;omega⟩
 .intro i obi j K k hH hc e;by_cases c:i=id
  .subst c;rw[ma hidl]at hH;cases hH;have:=hc' j hc;subst this;rw[uo]at e;cases e;exact⟨o',ac4 hh hlt,hob hc _ _ hμ (fun _ _=>bmj)⟩
  .rw[ae (sj c)]at hH
   rcases cases_mu i j _ e with⟨r,_,_⟩|⟨_,e'⟩
   .exact absurd r c
   .have hne:K≠B:=fun eq=>by
     subst eq;exact c (h.inj _ _ _ _ _ _ _ e' hm)
    obtain⟨o1,ho1,hr⟩:=h.objs i obi j K k hH hc e';exact⟨o1,(heap_set hh hne).trans ho1,hr.mono hμ (fun _ _ hm=>hm) hk hsh⟩
 .intro i j i' j' K k k' e1 e2
  rcases cases_mu i j _ e1 with⟨r1,_,p1⟩|⟨_,e1'⟩<;>rcases cases_mu i' j' _ e2 with⟨r2,_,p2⟩|⟨_,e2'⟩
  .rw[r1,r2]
  .cases p1;rw[r1];exact h.inj _ _ _ _ _ _ _ hm e2'
  .cases p2;rw[r2];exact h.inj _ _ _ _ _ _ _ e1' hm
  .exact h.inj _ _ _ _ _ _ _ e1' e2'
 .intro i j j' c p e hH;by_cases ci:i=id
  .subst ci;rw[ma hidl]at hH;cases hH
   rcases cases_mu i j _ e with⟨_,rfl,_⟩|⟨_,e'⟩
   .intro hg;have:=hc' j' (Ob.gen_cur hg);omega
   .exact fun hg=>hcells _ hg _ _ e'
  .rw[ae (sj ci)]at hH
   rcases cases_mu i j _ e with⟨r,_,_⟩|⟨_,e'⟩
   .exact absurd r ci
   .exact h.gens _ _ _ _ _ e' hH
 .intro i j p obi e hH;rw[fe];by_cases ci:i=id
  .subst ci;rw[ma hidl]at hH;cases hH;exact hwf
  .rw[ae (sj ci)]at hH
   rcases cases_mu i j _ e with⟨r,_,_⟩|⟨_,e'⟩
   .exact absurd r ci
   .exact h.wf i j _ obi e' hH
 .intro i j K k e _
  rcases cases_mu i j _ e with⟨_,_,hp⟩|⟨_,e'⟩
  .cases hp;exact⟨_,_,_,hm⟩
  .exact⟨_,_,_,e'⟩
 .intro i j p e _
  rcases cases_mu i j _ e with⟨rfl,_,_⟩|⟨_,e'⟩
  .exact⟨_,_,hm⟩
  .exact⟨_,_,e'⟩
def agt(h:HR CC μ Mt w H){id g B b ob ob'}{o o':Obj}(g' b')(hid:H[id]?=some ob)(hcur:ob.cur g)(hm:μ id g=some (B,b))(ho:w.heap[B]?=some o)(hkind:∀arr e fr,o=.cells arr e fr->∃arr',o'=.cells arr' e fr/\arr'.size=arr.size)(hkind2:∀l,o=.loop l->∃l',o'=.loop l')(hg':g'=g/\b'=b\/(μ id g'=none/\g'≠0))(hc':∀j,ob'.cur j->j=g')(hcells:∀j c,ob'=.cells j c->∀k q,μ id k=some q->k<=j)(hh:w'.heap=w.heap.setIfInBounds B o')(hos:w'.os=w.os)(htape:w'.tape=w.tape)(hout:w'.output=w.output)(hwf:ObW H.length ob')(hob:ob'.cur g'->∀μ' Mt',(∀i j q,μ i j=some q->μ' i j=some q)->(∀K,K<w.heap.size->(Mt' K↔Mt K))->ObR CC μ' Mt' w' ob' b' o')(hkind3:∀arr e fr,o'=.cells arr e fr->∃arr0,o=.cells arr0 e fr:=by intro _ _ _ e;cases e<;>exact⟨_,rfl⟩)(hnb:∀g l,ob'≠.bytes g l:=by intro _ _ e;cases e):
 Post CC μ Mt w H (aol μ id g' (B,b')) Mt w' (H.set id ob'):=
 as8 h g' b' hid hcur hm ho (fun arr e fr he=>(hkind arr e fr he).imp fun _ x=>⟨fr,x⟩) hkind2 hg' hc' (fun j hj=>match ob',hj,hcells,hnb with|.cells g c,hj,hcells,_=>by cases hj;exact hcells _ _ rfl|.bytes g l,_,_,hnb=>(hnb g l rfl).elim) hh hos htape hout hwf hob (fun arr e he=>hkind3 arr e (0,0) he)
def as9(h:HR CC μ Mt w H){id:Nat}{ob ob':Ob}(o':Obj)(g':Nat)(hid:H[id]?=some ob){g0:Nat}{p0:Nat × Nat}(hnamed:μ id g0=some p0)(hg':μ id g'=none)(hc':∀j,ob'.cur j->j=g')(hcells:∀j,ob'.gen=some j->∀k q,μ id k=some q->k<=j)(hob:ObR CC μ Mt w ob' 0 o')(hh:w'.heap=w.heap.push o')(hos:w'.os=w.os)(htape:w'.tape=w.tape)(hout:w'.output=w.output):
 Post CC μ Mt w H (aol μ id g' (w.heap.size,0)) (fun B=>Mt B\/B=w.heap.size) w' (H.set id ob'):=by
 have hμ:=agp (p:=(w.heap.size,0)) hg'
 have hM:∀B,B<w.heap.size->(Mt B\/B=w.heap.size)->Mt B:=fun B hB hm=>hm.resolve_right (by omega)
 have hk:∀B,B<w.heap.size->¬Mt B->w'.heap[B]?=w.heap[B]?:=fun B hB _=>qj hh hB;have hsh:∀(B:Nat) (arr:Array Value) (e:TypeId) (fr:Nat × Nat),w.heap[B]?=some (.cells arr e fr)->∃arr' fr',w'.heap[B]?=some (.cells arr' e fr')/\arr'.size=arr.size:=
  fun B arr e fr hB=>⟨arr,fr,(qj hh (lt_of_some hB)).trans hB,rfl⟩
 have hbk:∀(B:Nat) (arr:Array Value) (e:TypeId) (fr:Nat × Nat),w'.heap[B]?=some (.cells arr e fr)->(∃arr0,w.heap[B]?=some (.cells arr0 e fr))\/(w.heap.size<=B/\fr=(0,0)):=by
  intro B arr e fr hB;by_cases hlt:B<w.heap.size
  .exact .inl ⟨arr,(qj hh hlt).symm.trans hB⟩
  .have hB':=hB;rw[hh,aba]at hB';split at hB'
   .rename_i hBe
    refine .inr ⟨by omega,?_⟩
    cases hB'
    cases ob'<;>first|exact hob.elim|exact hob.1
   .rw[bl7 (by omega)]at hB';cases hB'
 have hsz:w'.heap.size=w.heap.size+1:=by rw[hh,ahh]
 have hidl:id<H.length:=(bmk.1 hid).1
 have cases_mu:∀i j p,aol μ id g' (w.heap.size,0) i j=some p->(i=id/\j=g'/\p=(w.heap.size,0))\/(¬(i=id/\j=g')/\μ i j=some p):=by
  intro i j p e;by_cases c:i=id/\j=g'
  .obtain⟨rfl,rfl⟩:=c;rw[uo]at e;exact .inl ⟨rfl,rfl,(jk e).symm⟩
  .rw[aac c]at e;exact .inr ⟨c,e⟩
 refine⟨by simp,⟨?_,?_,?_,?_,?_,?_,h.fixed hM hk,h.zero_upd (fun _=>rfl)⟩,hμ,fun B hB=>⟨hM B hB,.inl⟩,⟨by omega,hsh,fun B l hB=>⟨l,(qj hh (lt_of_some hB)).trans hB⟩,fun B hB _=>qj hh hB,(fun B arr e h=>(hbk B arr e (0,0) h).imp (fun x=>x) And.left),hos,htape,hout⟩,?_,?_⟩
 .intro i j p e;rw[fe]
  rcases cases_mu i j p e with⟨rfl,_,_⟩|⟨_,e'⟩
  .exact hidl
  .exact h.dom _ _ _ e'
 .intro i j K k e
  rcases cases_mu i j _ e with⟨_,_,hp⟩|⟨_,e'⟩
  .cases hp;exact⟨.inr rfl,by omega⟩
  .exact⟨.inl (h.isMut _ _ _ _ e').1,by have:=(h.isMut _ _ _ _ e').2;omega⟩
 .intro i obi j K k hH hc e;by_cases c:i=id
  .subst c;rw[ma hidl]at hH;cases hH;have:=hc' j hc;subst this;rw[uo]at e;cases e;exact⟨o',xw hh,hob.mono hμ hM hk hsh⟩
  .rw[ae (sj c)]at hH
   rcases cases_mu i j _ e with⟨r,_,_⟩|⟨_,e'⟩
   .exact absurd r c
   .obtain⟨o1,ho1,hr⟩:=h.objs i obi j K k hH hc e';exact⟨o1,(qj hh (lt_of_some ho1)).trans ho1,hr.mono hμ hM hk hsh⟩
 .intro i j i' j' K k k' e1 e2
  rcases cases_mu i j _ e1 with⟨r1,_,p1⟩|⟨_,e1'⟩<;>rcases cases_mu i' j' _ e2 with⟨r2,_,p2⟩|⟨_,e2'⟩
  .rw[r1,r2]
  .cases p1;have:=(h.isMut _ _ _ _ e2').2;omega
  .cases p2;have:=(h.isMut _ _ _ _ e1').2;omega
  .exact h.inj _ _ _ _ _ _ _ e1' e2'
 .intro i j j' c p e hH;by_cases ci:i=id
  .subst ci;rw[ma hidl]at hH;cases hH
   rcases cases_mu i j _ e with⟨_,rfl,_⟩|⟨_,e'⟩
   .intro hg;have:=hc' j' (Ob.gen_cur hg);omega
   .exact fun hg=>hcells _ hg _ _ e'
  .rw[ae (sj ci)]at hH
   rcases cases_mu i j _ e with⟨r,_,_⟩|⟨_,e'⟩
   .exact absurd r ci
   .exact h.gens _ _ _ _ _ e' hH
 .intro i j p obi e hH;rw[fe];by_cases ci:i=id
  .subst ci;rw[ma hidl]at hH;cases hH;exact hob.obw h.dom
  .rw[ae (sj ci)]at hH
   rcases cases_mu i j _ e with⟨r,_,_⟩|⟨_,e'⟩
   .exact absurd r ci
   .exact h.wf i j _ obi e' hH
 .intro i j K k e hB
  rcases cases_mu i j _ e with⟨_,_,hp⟩|⟨_,e'⟩
  .cases hp;omega
  .exact⟨_,_,_,e'⟩
 .intro i j p e _
  rcases cases_mu i j _ e with⟨rfl,_,_⟩|⟨_,e'⟩
  .exact⟨_,_,hnamed⟩
  .exact⟨_,_,e'⟩
def apb(h:HR CC μ Mt w H)(o:Obj)(hh:w'.heap=w.heap.push o)(hos:w'.os=w.os)(htape:w'.tape=w.tape)(hout:w'.output=w.output):Post CC μ Mt w H μ Mt w' H:=by
 have hk:∀B,B<w.heap.size->¬Mt B->w'.heap[B]?=w.heap[B]?:=fun B hB _=>qj hh hB;have hsh:∀(B:Nat) (arr:Array Value) (e:TypeId) (fr:Nat × Nat),w.heap[B]?=some (.cells arr e fr)->∃arr' fr',w'.heap[B]?=some (.cells arr' e fr')/\arr'.size=arr.size:=
  fun B arr e fr hB=>⟨arr,fr,(qj hh (lt_of_some hB)).trans hB,rfl⟩
 have hbk:∀(B:Nat) (arr:Array Value) (e:TypeId) (fr:Nat × Nat),w'.heap[B]?=some (.cells arr e fr)->(∃arr0,w.heap[B]?=some (.cells arr0 e fr))\/w.heap.size<=B:=by
  intro B arr e fr hB;by_cases hlt:B<w.heap.size
  .exact .inl ⟨arr,(qj hh hlt).symm.trans hB⟩
  .exact .inr (by omega)
 have hsz:w'.heap.size=w.heap.size+1:=by rw[hh,ahh]
 refine⟨aj _,⟨h.dom,fun id g B b e=>⟨(h.isMut id g B b e).1,by have:=(h.isMut id g B b e).2;omega⟩,fun id ob g B b hH hc e=>?_,h.inj,h.gens,h.wf,h.fixed (fun _ _ h=>h) hk,h.zero⟩,fun _ _ _ h=>h,fun _ _=>bmj,
  ⟨by omega,hsh,fun B l hB=>⟨l,(qj hh (lt_of_some hB)).trans hB⟩,fun B hB _=>qj hh hB,fun B arr e h=>hbk B arr e (0,0) h,hos,htape,hout⟩,fun id g _ b e _=>⟨id,g,b,e⟩,fun _ g p e _=>⟨g,p,e⟩⟩
 obtain⟨o1,ho1,hr⟩:=h.objs id ob g B b hH hc e;exact⟨o1,(qj hh (lt_of_some ho1)).trans ho1,hr.mono (fun _ _ _ h=>h) (fun _ _ h=>h) hk hsh⟩
def ait(h:HR CC μ Mt w H)(hh:w'.heap=w.heap)(hos:w'.os=w.os)(htape:w'.tape=w.tape)(hout:w'.output=w.output):Post CC μ Mt w H μ Mt w' H:=by
 have hk:∀B,B<w.heap.size->¬Mt B->w'.heap[B]?=w.heap[B]?:=fun B hB _=>by rw[hh]
 have hsh:∀(B:Nat) (arr:Array Value) (e:TypeId) (fr:Nat × Nat),w.heap[B]?=some (.cells arr e fr)->∃arr' fr',w'.heap[B]?=some (.cells arr' e fr')/\arr'.size=arr.size:=
  fun B arr e fr hB=>⟨arr,fr,by rw[hh];exact hB,rfl⟩
 refine⟨aj _,⟨h.dom,fun id g B b e=>by rw[hh];exact h.isMut id g B b e,fun id ob g B b hH hc e=>?_,h.inj,h.gens,h.wf,h.fixed (fun _ _ h=>h) hk,h.zero⟩,fun _ _ _ h=>h,fun _ _=>bmj,
  ⟨by rw[hh];exact aj _,hsh,fun B l hB=>⟨l,by rw[hh];exact hB⟩,fun B hB _=>by rw[hh],fun B arr e hB=>.inl ⟨arr,by rw[hh]at hB;exact hB⟩,hos,htape,hout⟩,fun id g _ b e _=>⟨id,g,b,e⟩,fun _ g p e _=>⟨g,p,e⟩⟩
 obtain⟨o1,ho1,hr⟩:=h.objs id ob g B b hH hc e
 exact⟨o1,by rw[hh];exact ho1,hr.mono (fun _ _ _ h=>h) (fun _ _ h=>h) hk hsh⟩
end
open Go.RowKit
section
variable {CC:CX} {μ μ':Mu} {Mt Mt':Nat->Prop} {w w':World} {H H':Heap} {P:Program}
def VRs.nil:VRs μ Mt w [] []:=⟨rfl,fun _ _ _ h=>by simp at h⟩
def VRs.cons{v c vs cs}(h:VR μ Mt w v c)(t:VRs μ Mt w vs cs):VRs μ Mt w (v::vs) (c::cs):=
 ⟨by simp[t.1],fun i a b ha hb=>by
  cases i with
  |zero=>simp at ha hb;subst ha;subst hb;exact h
  |succ i=>simp at ha hb;exact t.2 i a b ha hb⟩
def VR.cons{v c vs cs}(h:VR μ Mt w v c)(t:VRs μ Mt w vs cs):VRs μ Mt w (v::vs) (c::cs):=VRs.cons h t
def VRs.get{vs cs}(h:VRs μ Mt w vs cs){i:Nat}{a}(ha:vs[i]?=some a):∃b,cs[i]?=some b/\VR μ Mt w a b:=by
 have hl:i<cs.length:=by rw[<- h.1];exact(bmk.1 ha).1
 exact⟨cs[i],af hl,h.2 i a _ ha (af hl)⟩
def VRs.append{a b c d}(h:VRs μ Mt w a c)(k:VRs μ Mt w b d):VRs μ Mt w (a++b) (c++d):=
 ⟨by simp[h.1,k.1],fun i x y hx hy=>by
  by_cases hi:i<a.length
  .rw[ah hi]at hx
   rw[ah (by rw[<- h.1];exact hi)]at hy
   exact h.2 i x y hx hy
  .rw[bz (by omega)]at hx
   rw[bz (by rw[<- h.1];omega),<- h.1]at hy
   exact k.2 _ x y hx hy⟩
def VRs.drop{a c}(h:VRs μ Mt w a c)(n):VRs μ Mt w (a.drop n) (c.drop n):=
 ⟨by simp[h.1],fun i x y hx hy=>by
  rw[jc]at hx hy;exact h.2 _ x y hx hy⟩
def VRs.take{a c}(h:VRs μ Mt w a c)(n):VRs μ Mt w (a.take n) (c.take n):=
 ⟨by simp[h.1],fun i x y hx hy=>by
  have hi:i<n:=by have:=(bmk.1 hx).1;simp at this;omega
  rw[gu hi]at hx hy;exact h.2 _ x y hx hy⟩
def VRs.set{a c}(h:VRs μ Mt w a c)(i){x y}(hxy:VR μ Mt w x y):VRs μ Mt w (a.set i x) (c.set i y):=
 ⟨by simp[h.1],fun j u v hu hv=>by
  by_cases hj:i=j
  .subst hj
   have hl:i<a.length:=by have:=(bmk.1 hu).1;simpa using this
   rw[ma hl]at hu
   rw[ma (by rw[<- h.1];exact hl)]at hv
   cases hu;cases hv;exact hxy
  .rw[ae hj]at hu hv;exact h.2 j u v hu hv⟩
def VRs.flatten_replicate(n){v c}(h:VRs μ Mt w v c):VRs μ Mt w (List.replicate n v).flatten (List.replicate n c).flatten:=by
 induction n with
 |zero=>exact VRs.nil
 |succ n ih=>simp only[bmf,uu];exact h.append ih
def VRs.of_mapM{α:Type}{l:List α}{f:α->Option V}{g:α->Value}(hf:∀x∈l,∀v,f x=some v->VR μ Mt w v (g x)):∀{vs:List V},l.mapM f=some vs->VRs μ Mt w vs (l.map g):=by
 induction l with
 |nil=>intro vs h;simp at h;subst h;exact VRs.nil
 |cons x l ih=>
   intro vs h;simp only[qf,iw,fo,ak]at h;obtain⟨v,hv,us,hus,e⟩:=h;cases e
   exact(hf x (by simp) v hv).cons (ih (fun y hy=>hf y (by simp[hy])) hus)
theorem aa6{v c}(h:VR μ Mt w (.s v) c):c=v:=by cases h;rfl
def a1l{cs c}(h:VR μ Mt w (.agg cs) c):∃vs:Array Value,c=.agg vs/\VRs μ Mt w cs vs.toList:=by
 cases h with|agg _ vs hl h=>exact⟨vs,rfl,by simpa using hl,fun i a b ha hb=>h i a b ha (by simpa using hb)⟩
def bih{cs c}(h:VR μ Mt w (.tup cs) c):∃vs:Array Value,c=.tuple vs/\VRs μ Mt w cs vs.toList:=by
 cases h with|tup _ vs hl h=>exact⟨vs,rfl,by simpa using hl,fun i a b ha hb=>h i a b ha (by simpa using hb)⟩
def aso{id g off c}(h:VR μ Mt w (.ref id g off) c):∃B b,μ id g=some (B,b)/\c=.pointer (some ⟨B,b+off,none⟩):=by
 cases h with|ref _ _ _ B b hm=>exact⟨B,b,hm,rfl⟩
def a7t{id c}(h:VR μ Mt w (.mp id) c):∃B,μ id 0=some (B,0)/\c=.map (some B):=by
 cases h with|mp _ B hm=>exact⟨B,hm,rfl⟩
def afy{cs vs}(h:VRs μ Mt w cs vs):VR μ Mt w (.agg cs) (.agg vs.toArray):=
 .agg cs _ (by simpa using h.1) (fun i a b ha hb=>h.2 i a b ha (by simpa using hb))
def a1k{cs vs}(h:VRs μ Mt w cs vs):VR μ Mt w (.tup cs) (.tuple vs.toArray):=
 .tup cs _ (by simpa using h.1) (fun i a b ha hb=>h.2 i a b ha (by simpa using hb))
def ab9{v c}(h:VR μ Mt w v c)(hu:v.cells.all V.one=true):VRs μ Mt w v.cells c.cells.toList:=by
 cases h with
 |agg cs vs hl h=>exact⟨by simpa[V.cells,Value.cells]using hl,fun i a b ha hb=>h i a b ha (by simpa[Value.cells]using hb)⟩
 |s=>cases c<;>first|(simp[V.cells,V.one]at hu;done)|exact VR.cons (.s _) VRs.nil
 |unk v=>simp[V.cells,V.one]at hu
 |tup cs vs hl h=>simp[V.cells,V.one]at hu
 |ref id g off B b hm=>exact VR.cons (.ref id g off B b hm) VRs.nil
 |pref cs B o arr e fr hB hM hs h=>exact VR.cons (.pref cs B o arr e fr hB hM hs h) VRs.nil
 |sl id g off len sz B b cap arr e hm hB hc hs=>exact VR.cons (.sl id g off len sz B b cap arr e hm hB hc hs) VRs.nil
 |sl0 id g off sz B b a hm=>exact VR.cons (.sl0 id g off sz B b a hm) VRs.nil
 |psl es sz B o cap arr e fr hB hM hc hz hs h=>exact VR.cons (.psl es sz B o cap arr e fr hB hM hc hz hs h) VRs.nil
 |psl0 sz cap a=>exact VR.cons (.psl0 sz cap a) VRs.nil
 |esl a=>exact VR.cons (.esl a) VRs.nil
 |mp id B hm=>exact VR.cons (.mp id B hm) VRs.nil
 |fn f fst cap fst' cap' hf hc h1 h2=>exact VR.cons (.fn f fst cap fst' cap' hf hc h1 h2) VRs.nil
 |yld id B hm=>exact VR.cons (.yld id B hm) VRs.nil
def bij{v c}(h:VR μ Mt w v c)(hu:v.one=true):c.oneCell'=true:=by
 cases h<;>first|rfl|(simp[V.one]at hu;done)|skip
 cases c<;>first|rfl|(simp[V.one]at hu;done)
def au5{vs cs}(h:VRs μ Mt w vs cs)(hu:vs.all V.one=true):∀c∈cs,c.oneCell'=true:=by
 intro c hc;obtain⟨i,hi,rfl⟩:=vk hc
 have hi':i<vs.length:=by rw[h.1];exact hi
 exact bij (h.2 i vs[i] cs[i] (af hi') (af hi)) (by rw[bq]at hu;exact hu _ (xu hi'))
def ahz{v x}(h:agv v=some x):x=.s v/\v.oneCell'=true:=by
 unfold agv at h;split at h<;>simp_all[Value.oneCell']
def aat{v x}(h:ah0 v=some x):VR μ Mt w x v:=by
 unfold ah0 at h;split at h
 .rename_i cs;rw[bu]at h;obtain⟨us,hus,rfl⟩:=h
  have:=VRs.of_mapM (μ:=μ) (Mt:=Mt) (w:=w) (g:=id) (fun x _ v hv=>by rw[(ahz hv).1];exact .s x) hus
  simp at this
  simpa using afy this
 .rw[(ahz h).1];exact .s v
def FR(μ:Mu)(Mt:Nat->Prop)(w:World)(fr:List V)(tmps:Array Value):Prop:=VRs μ Mt w fr tmps.toList
def FR.getD{fr tmps}(h:FR μ Mt w fr tmps)(t:Nat):VR μ Mt w (fr.getD t .unk) (tmps.getD t Go.undef):=by
 by_cases hl:t<fr.length
 .obtain⟨b,hb,hv⟩:=h.get (af hl)
  have hb':tmps[t]?=some b:=by simpa using hb
  have e1:fr.getD t .unk=fr[t]:=by simp[List.getD,hl]
  have e2:tmps.getD t Go.undef=b:=by simp[hb']
  rw[e1,e2];exact hv
 .have e1:fr.getD t .unk=.unk:=by simp[List.getD,hl]
  rw[e1];exact .unk _
def ni{a:Act}{fr:List V}(h:FR μ Mt w fr a.tmps){x:Operand}{y:Opd}(hc:lc x=some y):VR μ Mt w (ev fr y) (a.eval x):=by
 cases x with
 |tmp t=>simp[lc]at hc;subst hc;exact h.getD t
 |const v=>
   simp only[lc,bu]at hc;obtain⟨u,hu,rfl⟩:=hc;exact aat hu
 |global g=>simp[lc]at hc
 |func f=>
   simp[lc]at hc;subst hc
   exact .fn f [] [] #[] #[] rfl rfl (fun _ _ _ h=>by simp at h) (fun _ _ _ h=>by simp at h)
def akn{a:Act}{fr:List V}(h:FR μ Mt w fr a.tmps){xs:Array Operand}{ys:List Opd}(hc:ad7 xs=some ys):VRs μ Mt w (ys.map (ev fr)) (xs.map a.eval).toList:=by
 rw[Array.toList_map];unfold ad7 at hc;generalize xs.toList=l at hc
 induction l generalizing ys with
 |nil=>simp at hc;subst hc;exact VRs.nil
 |cons x l ih=>
   simp only[qf,iw,fo,ak]at hc;obtain⟨v,hv,us,hus,e⟩:=hc;cases e;exact(ni h hv).cons (ih hus)
def a9l{a:Act}{fr:List V}(h:FR μ Mt w fr a.tmps){ps:Array (Nat × Operand)}{qs:List (Nat × Opd)}(hc:acm ps=some qs):
 (qs.map (·.1))=ps.toList.map (·.1)/\VRs μ Mt w (qs.map fun p=>ev fr p.2) (ps.toList.map fun p=>a.eval p.2):=by
 unfold acm at hc;generalize ps.toList=l at hc
 induction l generalizing qs with
 |nil=>simp at hc;subst hc;exact⟨rfl,VRs.nil⟩
 |cons x l ih=>
   simp only[qf,iw,fo,ak,bu]at hc;obtain⟨v,⟨y,hy,rfl⟩,us,hus,e⟩:=hc;cases e;obtain⟨i1,i2⟩:=ih hus
   exact⟨by simp[i1],(ni h hy).cons i2⟩
def ald(μ:Mu)(Mt:Nat->Prop)(w:World)(cs:List V)(a:Addr):Prop:=
 ∃vs:List Value,VRs μ Mt w cs vs/\∀(j:Nat) (v:Value),vs[j]?=some v->w.cell? (a.add j)=some v
theorem ahb(B o j):(⟨B,o,none⟩:Addr).add j=⟨B,o+j,none⟩:=by
 unfold Addr.add;split
 .rename_i h;subst h;rfl
 .rfl
def cell_of_heap{B o arr e fr}(h:w.heap[B]?=some (.cells arr e fr)):w.cell? ⟨B,o,none⟩=arr[o]?:=by
 simp[World.cell?,h]
def ae8{B o arr e fr cs}(hB:w.heap[B]?=some (.cells arr e fr))(hs:o+cs.length<=arr.size)(h:∀(i:Nat) (a:V) (b:Value),cs[i]?=some a->arr[o+i]?=some b->VR μ Mt w a b):ald μ Mt w cs ⟨B,o,none⟩:=by
 refine⟨(arr.toList.drop o).take cs.length,⟨?_,?_⟩,?_⟩
 .simp;omega
 .intro i a b ha hb;have hi:i<cs.length:=(bmk.1 ha).1;rw[gu hi,jc]at hb
  exact h i a b ha (by simpa using hb)
 .intro j v hv
  have hi:j<cs.length:=by have:=(bmk.1 hv).1;simp at this;omega
  rw[gu hi,jc]at hv;rw[ahb,cell_of_heap hB]
  simpa using hv
def yx{id g c}(h:getC H id g=some c):H[id]?=some (.cells g c):=by
 unfold getC at h;split at h
 .rename_i g' c' e;split at h
  .rename_i hg;subst hg;simp at h;subst h;exact e
  .simp at h
 .simp at h
def HR.row(h:HR CC μ Mt w H){id g B b c}(hc:getC H id g=some c)(hm:μ id g=some (B,b)):
 ∃arr e,w.heap[B]?=some (.cells arr e (0,0))/\b+c.length<=arr.size/\∀(i:Nat) (a:V) (v:Value),c[i]?=some a->arr[b+i]?=some v->VR μ Mt w a v:=by
 obtain⟨o,ho,hr⟩:=h.objs id _ g B b (yx hc) rfl hm
 cases o<;>first|exact hr.elim|skip
 rename_i arr e fr;obtain⟨rfl,h1,h2,_⟩:=hr;exact⟨arr,e,ho,h1,h2⟩
def HR.fresh(h:HR CC μ Mt w H){id g B b c}(hc:getC H id g=some c)(hm:μ id g=some (B,b)){arr e fr}(hB:w.heap[B]?=some (.cells arr e fr)):ak1 CC g c b arr e:=by
 obtain⟨o,ho,hr⟩:=h.objs id _ g B b (yx hc) rfl hm;rw[hB]at ho;cases ho;exact hr.2.2.2
def HR.place(h:HR CC μ Mt w H){id g B b off n c}(hc:getC H id g=some c)(hm:μ id g=some (B,b))(hn:((c.drop off).take n).length=n):
 ald μ Mt w ((c.drop off).take n) ⟨B,b+off,none⟩:=by
 obtain⟨arr,e,hB,hs,hv⟩:=h.row hc hm;simp at hn;by_cases hn0:n=0
 .subst hn0
  exact⟨[],⟨by simp,fun i a b ha _=>by simp at ha⟩,fun j v hv=>by simp at hv⟩
 refine ae8 hB (by simp;omega) ?_
 intro i a v ha hv'
 have hi:i<n:=by have:=(bmk.1 ha).1;simp at this;omega
 rw[gu hi,jc]at ha
 exact hv _ a v ha (by rw[<- yh];exact hv')
def ald.take{cs a}(h:ald μ Mt w cs a)(n):ald μ Mt w (cs.take n) a:=by
 obtain⟨vs,h1,h2⟩:=h;refine⟨vs.take n,h1.take n,fun j v hv=>h2 j v ?_⟩
 have hi:j<n:=by have:=(bmk.1 hv).1;simp at this;omega
 rwa[gu hi]at hv
def akj{cs c}(h:VR μ Mt w (.pref cs) c):∃a,c=.pointer (some a)/\ald μ Mt w cs a:=by
 cases h with|pref _ B o arr e fr hB hM hs hv=>exact⟨_,rfl,ae8 hB hs (fun i a b ha hb=>(hv i a b ha hb).vr)⟩
theorem aem{t b}(h:aa3 P t=some b):(isAgg t).run P w=.ok b w:=by
 unfold aa3 at h;simp only[isAgg,Sem.run_bind];cases e:P.underlying t with
 |none=>rw[e]at h;simp at h
 |some d=>
   rw[run_underlying e];rw[e]at h;cases d<;>simp at h<;>subst h<;>rfl
def run_sizeOf{t n}(h:yl P t=some n):(sizeOf t).run P w=.ok n w:=by
 unfold yl at h;rw[bu]at h;obtain⟨i,hi,rfl⟩:=h;simp[sizeOf,typeInfo,hi]
def ajn{t b n}(h:af2 P t=some (b,n)):aa3 P t=some b/\yl P t=some n/\(b=false->n=1):=by
 unfold af2 at h;split at h<;>simp at h<;>obtain⟨rfl,rfl⟩:=h<;>simp_all
def ani{t agg}{n:Nat}(hs:af2 P t=some (agg,n)){cs a}(hp:ald μ Mt w cs a)(hl:cs.length=n){v}(hv:shut agg cs=some v):
 ∃c,(loadVar t a).run P w=.ok c w/\VR μ Mt w v c:=by
 obtain⟨h1,h2,h3⟩:=ajn hs;obtain⟨vs,hr,hc⟩:=hp;cases agg with
 |true=>
   simp[shut]at hv;subst hv;refine⟨.agg vs.toArray,?_,afy hr⟩;have:=run_loadCells_list (P:=P) w a vs hc;rw[<- hr.1,hl]at this;simp[loadVar,Sem.run_bind,aem h1,Result.andThen,run_sizeOf h2,this]
 |false=>
   have hn:=h3 rfl;subst hn
   match cs,hl,hv with
   | [x],_,hv=>
     simp[shut]at hv;subst hv;obtain⟨b,hb,hx⟩:=hr.get (i:=0) (a:=x) rfl;have hcell:=hc 0 b hb
     have e0:a.add 0=a:=by simp[Addr.add]
     rw[e0]at hcell
     exact⟨b,by simp[loadVar,Sem.run_bind,aem h1,Result.andThen,hcell],hx⟩
def atu{t agg n}(hs:af2 P t=some (agg,n))(h:HR CC μ Mt w H){x v c}(hx:VR μ Mt w x c)(hv:abf H agg n x=some v):
 ∃r,(Instr.loadAt t c).run P w=.ok r w/\VR μ Mt w v r:=by
 unfold abf at hv;dsimp only at hv;split at hv
 .rename_i id g off;obtain⟨B,b,hm,rfl⟩:=aso hx;split at hv
  .rename_i cs hc;split at hv
   .rename_i hl;obtain⟨r,h1,h2⟩:=ani (P:=P) hs (h.place hc hm hl) hl hv
    exact⟨r,by simp[Instr.loadAt,Instr.sureAddr,h1],h2⟩
   .simp at hv
  .simp at hv
 .rename_i cs;obtain⟨a,rfl,hp⟩:=akj hx;split at hv
  .rename_i hl;obtain⟨r,h1,h2⟩:=ani (P:=P) hs (hp.take n) hl hv
   exact⟨r,by simp[Instr.loadAt,Instr.sureAddr,h1],h2⟩
  .simp at hv
 .simp at hv
def qb(CC:CX)(μ:Mu)(Mt:Nat->Prop)(w:World)(H:Heap)(r:Result Next)(v:V)(H':Heap):Prop:=
 ∃cv w' μ' Mt',(r=.ok (.value cv) w'\/(r=.ok .skip w'/\cv=Go.undef))/\VR μ' Mt' w' v cv/\Post CC μ Mt w H μ' Mt' w' H'
def qb.still(h:HR CC μ Mt w H){v c}(hv:VR μ Mt w v c){r:Result Next}(hr:r=.ok (.value c) w):qb CC μ Mt w H r v H:=
 ⟨c,w,μ,Mt,.inl hr,hv,Post.refl h⟩
def ams{B:Nat}{arr arr':Array Value}{e:TypeId}{fr:Nat × Nat}(h:w.heap[B]?=some (.cells arr e fr)):(w.setRow B arr').heap=w.heap.setIfInBounds B (.cells arr' e fr):=by
 apply Array.ext_getElem?;intro i;by_cases hi:i=B
 .subst hi;rw[setRow_heap w i arr arr' e fr h,ap7 (lt_of_some h)]
 .rw[setRow_other w B i arr' hi,a1d (sj hi)]
def axc{g b off c vs us arr e}(h:ak1 CC g c b arr e)(h1:vs.all V.one=true)(hl:off+vs.length<=c.length)(hul:us.length=vs.length)(hbl:b+c.length<=arr.size):ak1 CC g (splice c off vs) b (arr.toList.take (b+off)++us++arr.toList.drop (b+off+us.length)).toArray e:=by
 intro h0 hu;have e2:arr.toList.length=arr.size:=rfl;by_cases hv:vs=[]
 .subst hv;have hu0:us=[]:=List.length_eq_zero_iff.1 hul;subst hu0
  have ec:splice c off []=c:=by simp[splice]
  rw[ec]at hu;obtain⟨f1,f2,f3,f4⟩:=h h0 hu
  have ea:(arr.toList.take (b+off)++[]++arr.toList.drop (b+off+([]:List Value).length)).toArray=arr:=by simp
  rw[ea];exact⟨f1,f2,f3,f4⟩
 .have hoff:off≠0:=by
   intro e0;subst e0;cases vs with
   |nil=>exact hv rfl
   |cons x vs=>
     have:splice c 0 (x::vs)=x::(vs++c.drop (0+(x::vs).length)):=by simp[splice]
     rw[this]at hu;cases hu;rw[gp,au]at h1
     exact absurd h1.1 (by decide)
  have hc:c.head?=some .unk:=by
   cases c with
   |nil=>cases vs with
     |nil=>exact absurd rfl hv
     |cons x vs=>simp at hl
   |cons y c=>
     obtain⟨o,rfl⟩:∃o,off=o+1:=⟨off-1,by omega⟩
     simpa[splice]using hu
  obtain⟨f1,f2,f3,f4⟩:=h h0 hc;subst f2;refine⟨f1,rfl,?_,?_⟩
  .simp only[ug,gm,l5,ig];omega
  .have h2:0<(arr.toList.take (0+off)).length:=by
    rw[l5];omega
   have:((arr.toList.take (0+off)++us++arr.toList.drop (0+off+us.length)).toArray)[0]?=arr[0]?:=by
    rw[vz,ku,ah h2,gu (by omega)]
    simp
   rw[this];exact f4
def akk(h:HR CC μ Mt w H){id g B b off c vs us}(hc:getC H id g=some c)(hm:μ id g=some (B,b))(hl:off+vs.length<=c.length)(hv:VRs μ Mt w vs us)(h1:vs.all V.one=true):
 ∃w',(storeCells ⟨B,b+off,none⟩ us).run P w=.ok () w'/\Post CC μ Mt w H (aol μ id g (B,b)) Mt w' (H.set id (.cells g (splice c off vs))):=by
 obtain⟨arr,e,hB,hs,hr⟩:=h.row hc hm;have hul:us.length=vs.length:=hv.1.symm
 have hrun:=run_storeCells_at P B (b+off) e us 0 arr w hB (by omega) (au5 hv h1)
 refine⟨_,hrun,?_⟩;simp only[o7]
 have hsz:((arr.toList.take (b+off)++us++arr.toList.drop (b+off+us.length)).toArray).size=arr.size:=by simp;omega
 refine agt h (o':=.cells (arr.toList.take (b+off)++us++arr.toList.drop (b+off+us.length)).toArray e (0,0)) g b (yx hc) rfl hm hB ?_ (by simp) (.inl ⟨rfl,rfl⟩) (fun j hj=>hj.symm) (fun j c' e' k q hk=>by cases e';exact h.gens _ _ _ _ _ hk (yx hc) rfl) (ams hB) rfl rfl rfl ?_ ?_
 .intro arr0 e0 fr0 h0;cases h0;exact⟨_,rfl,hsz⟩
 .intro v hx;have hx:v∈splice c off vs:=hx;unfold splice at hx;have hcw:∀v∈c,VW H.length v:=h.wfn (yx hc) rfl hm
  rcases mo.1 hx with hx|hx
  .rcases mo.1 hx with hx|hx
   .exact hcw v (acp hx)
   .exact hv.vw h.dom v hx
  .exact hcw v (agm hx)
 .intro _ μ' Mt' hμ hM;have hk:∀K,K<w.heap.size->¬Mt K->(w.setRow B (arr.toList.take (b+off)++us++arr.toList.drop (b+off+us.length)).toArray).heap[K]?=w.heap[K]?:=
   fun K _ hn=>setRow_other w B K _ (fun e=>hn (e▸(h.isMut _ _ _ _ hm).1))
  have hsh:∀(K:Nat) (a0:Array Value) (e:TypeId) (fr:Nat × Nat),w.heap[K]?=some (.cells a0 e fr)->∃arr' fr',(w.setRow B (arr.toList.take (b+off)++us++arr.toList.drop (b+off+us.length)).toArray).heap[K]?=some (.cells arr' e fr')/\arr'.size=a0.size:=by
   intro K a0 e0 fr0 hK;by_cases ck:K=B
   .subst ck;rw[hB]at hK;cases hK;exact⟨_,_,setRow_heap w K arr _ e (0,0) hB,hsz⟩
   .exact⟨a0,_,(setRow_other w B K _ ck).trans hK,rfl⟩
  refine⟨rfl,by rw[hsz];simp[splice];omega,?_,axc (h.fresh hc hm hB) h1 hl hul hs⟩
  intro i a v ha hv';have mono:VR μ Mt w a v->VR μ' Mt' (w.setRow B (arr.toList.take (b+off)++us++arr.toList.drop (b+off+us.length)).toArray) a v:=
   fun x=>x.mono hμ (fun K hK hm=>(hM K hK).1 hm) hk hsh
  apply mono
  have hv2:(arr.toList.take (b+off)++us++arr.toList.drop (b+off+us.length))[b+i]?=some v:=by simpa using hv'
  have hi:i<(splice c off vs).length:=(bmk.1 ha).1
  have hlen:(splice c off vs).length=c.length:=by simp[splice];omega
  rw[hlen]at hi;unfold splice at ha;by_cases c1:i<off
  .rw[ku,ah (by simp;omega),gu c1]at ha
   rw[ku,ah (by simp;omega),gu (by omega)]at hv2
   exact hr i a v ha (by simpa using hv2)
  .by_cases c2:i<off+vs.length
   .rw[ku,bz (by simp;omega),ah (by simp;omega)]at ha
    rw[ku,bz (by simp;omega),ah (by simp;omega)]at hv2
    have e1:i-(List.take off c).length=i-off:=by simp;omega
    have e2:b+i-(List.take (b+off) arr.toList).length=i-off:=by simp;omega
    rw[e1]at ha;rw[e2]at hv2;exact hv.2 _ a v ha hv2
   .rw[bz (by simp;omega)]at ha
    rw[bz (by simp;omega)]at hv2
    rw[jc]at ha hv2
    have e1:off+vs.length+(i-(List.take off c++vs).length)=i:=by simp;omega
    have e2:b+off+us.length+(b+i-(List.take (b+off) arr.toList++us).length)=b+i:=by simp;omega
    rw[e1]at ha;rw[e2]at hv2
    exact hr i a v ha (by simpa using hv2)
end
open Go.RowKit
section
variable {CC:CX} {μ μ':Mu} {Mt Mt':Nat->Prop} {w w':World} {H H':Heap} {P:Program}
theorem ak7{v x}(h:agv v=some x):x.one=true:=by
 unfold agv at h;split at h<;>simp at h<;>subst h<;>rfl
def baf{α β:Type}{f:α->Option β}{p:β->Bool}(hf:∀x y,f x=some y->p y=true):∀{l:List α} {us:List β},l.mapM f=some us->us.all p=true:=by
 intro l
 induction l with
 |nil=>intro us h;simp at h;subst h;rfl
 |cons x l ih=>
   intro us h;simp only[qf,iw,fo,ak]at h;obtain⟨v,hv,us,hus,e⟩:=h;cases e;simp[hf _ _ hv,ih hus]
def y9{v x}(h:ah0 v=some x):x.cells.all V.one=true:=by
 unfold ah0 at h;split at h
 .rw[bu]at h;obtain⟨us,hus,rfl⟩:=h;exact baf (fun _ _ h=>ak7 h) hus
 .have:=ahz h;have h1:=ak7 h;rw[this.1]at h1 |-;simp[V.cells,h1]
def abp{t z}(h:aej P t=some z):∃zv,(zeroValue t).run P w=.ok zv w/\ah0 zv=some z/\∃i,P.info? t=some i/\i.zero=some zv:=by
 unfold aej at h;split at h
 .rename_i i hi;split at h
  .rename_i zv hz
   exact⟨zv,by simp[zeroValue,typeInfo,hi,hz],h,i,hi,hz⟩
  .simp at h
 .simp at h
def a3y{cs vs e}(h:VRs μ Mt w cs vs)(g)(h1:cs.all V.one=true):ObR CC μ Mt w (.cells g cs) 0 (.cells vs.toArray e (0,0)):=
 ⟨rfl,by simp[h.1],fun i a v ha hv=>h.2 i a v ha (by simpa using hv),ak1.one h1⟩
def ape{cs arr e}(h:VRs μ Mt w cs arr.toList)(g)(h1:cs.all V.one=true):ObR CC μ Mt w (.cells g cs) 0 (.cells arr e (0,0)):=by
 have:=a3y (CC:=CC) (e:=e) h g h1;simpa using this
def ahc(CC:CX)(μ:Mu)(Mt:Nat->Prop)(w:World)(r:Result Next)(vf:Nat->V)(ob:Ob):Prop:=
 ∃cv o,r=.ok (.value cv) (w.alloc o)/\ObR CC μ Mt w ob 0 o/\∀id μ' Mt',μ' id 0=some (w.heap.size,0)->VR μ' Mt' (w.alloc o) (vf id) cv
def ahc.op(h:HR CC μ Mt w H){r:Result Next}{vf:Nat->V}{ob}(hn:ahc CC μ Mt w r vf ob):qb CC μ Mt w H r (vf H.length) (H++[ob]):=by
 obtain⟨cv,o,hr,hob,hv⟩:=hn;exact⟨cv,_,_,_,.inl hr,hv _ _ _ (uo _ _ _ _),af7 h o ob hob rfl rfl rfl rfl⟩
def apj{cs arr e}(hv:VRs μ Mt w cs arr.toList)(h1:cs.all V.one=true){r:Result Next}(hr:r=.ok (.value (.pointer (some ⟨w.heap.size,0,none⟩))) (w.alloc (.cells arr e))):ahc CC μ Mt w r (fun id=>.ref id 0 0) (.cells 0 cs):=
 ⟨_,_,hr,ape hv 0 h1,fun id μ' Mt' hm=>.ref _ _ _ w.heap.size 0 hm⟩
def atl{t z}(hz:aej P t=some z):
 ahc CC μ Mt w ((do pure (.value (<- Instr.alloc t true (.tuple #[]))):Sem Next).run P w) (fun id=>.ref id 0 0) (.cells 0 z.cells):=by
 obtain⟨zv,h1,h2,_⟩:=abp (w:=w) hz;refine apj (arr:=zv.cells) (e:=t) (ab9 (aat h2) (y9 h2)) (y9 h2) ?_;simp[Instr.alloc,Sem.run_bind,h1,Result.andThen,newVar,newRow]
def api{t z c}(hz:aej P t=some z)(hc:bldZ z=some c)(hb:CC.bt t=true):
 ahc CC μ Mt w ((do pure (.value (<- Instr.alloc t true (.tuple #[]))):Sem Next).run P w) (fun id=>.ref id 0 0) (.cells 0 c):=by
 obtain⟨zv,h1,h2,_⟩:=abp (w:=w) hz
 have hr:((do pure (.value (<- Instr.alloc t true (.tuple #[]))):Sem Next).run P w)=.ok (.value (.pointer (some ⟨w.heap.size,0,none⟩))) (w.alloc (.cells zv.cells t)):=by simp[Instr.alloc,Sem.run_bind,h1,Result.andThen,newVar,newRow]
 unfold bldZ at hc;split at hc
 .rename_i v;cases hc;have hv:=ab9 (μ:=μ) (Mt:=Mt) (w:=w) (aat h2) (y9 h2);obtain⟨hl,hg⟩:=hv
  have hsz:zv.cells.size=2:=by
   have:[V.s (.pointer none),v].length=zv.cells.toList.length:=hl
   simpa using this.symm
  have h0:zv.cells[0]?=some (.pointer none):=by
   have hlt:0<zv.cells.size:=by omega
   have:=hg 0 _ zv.cells[0] rfl (by simp)
   rw[ko hlt];exact jv some (aa6 this)
  refine⟨_,_,hr,⟨rfl,by simp[hsz],fun i a x ha hx=>?_,fun _ _=>⟨hb,rfl,hsz,h0⟩⟩,fun id μ' Mt' hm=>.ref _ _ _ w.heap.size 0 hm⟩
  match i with
  |0=>cases ha;exact .unk _
  |1=>cases ha;exact hg 1 v x rfl (by simpa using hx)
  |i+2=>simp at ha
 .cases hc
def a11(h:HR CC μ Mt w H){t z}(hz:aej P t=some z):
 qb CC μ Mt w H ((do pure (.value (<- Instr.alloc t true (.tuple #[]))):Sem Next).run P w) (.ref H.length 0 0) (H++[.cells 0 z.cells]):=(atl hz).op h
def a3z{t x c}(hx:VR μ Mt w x c)(h1:x.cells.all V.one=true):
 ahc CC μ Mt w ((do pure (.value (<- Instr.box t c)):Sem Next).run P w) (fun id=>.ref id 0 0) (.cells 0 x.cells):=by
 refine apj (arr:=c.cells) (e:=t) (ab9 hx h1) h1 ?_;simp[Instr.box,newVar,newRow]
def bd3(h:HR CC μ Mt w H){t x c}(hx:VR μ Mt w x c)(h1:x.cells.all V.one=true):
 qb CC μ Mt w H ((do pure (.value (<- Instr.box t c)):Sem Next).run P w) (.ref H.length 0 0) (H++[.cells 0 x.cells]):=(a3z hx h1).op h
def foldl_set(off):∀(l:List Value) (k:Nat) (cells:Array Value),off+k+l.length<=cells.size->
 ((l.zipIdx k).foldl (fun cs p=>cs.setIfInBounds (off+p.2) p.1) cells).toList=cells.toList.take (off+k)++l++cells.toList.drop (off+k+l.length)
 | [],k,cells,_=>by simp
 |v::l,k,cells,h=>by
   simp only[bn]at h;simp only[List.zipIdx_cons,ahf]
   rw[foldl_set off l (k+1) _ (by simp;omega)]
   apply wh;intro i;simp only[Array.toList_setIfInBounds];rw[ku,ku];by_cases c1:i<off+k
   .rw[ah (by simp;omega),ah (by simp;omega),gu (by omega),gu c1,ae (by omega)]
   .by_cases c2:i=off+k
    .subst c2
     rw[ah (by simp;omega),bz (by simp;omega),gu (by omega),ma (by simp;omega)]
     have e:off+k-(List.take (off+k) cells.toList).length=0:=by simp;omega
     rw[e];rfl
    .rw[bz (l₁:=List.take (off+(k+1)) _) (by simp;omega),bz (l₁:=List.take (off+k) _) (by simp;omega)]
     have e1:i-(List.take (off+(k+1)) (cells.toList.set (off+k) v)).length=i-(off+k+1):=by simp;omega
     have e2:i-(List.take (off+k) cells.toList).length=(i-(off+k+1))+1:=by simp;omega
     rw[e1,e2,bg,wu];by_cases c3:i-(off+k+1)<l.length
     .rw[ah c3,ah c3]
     .rw[bz (by omega),bz (by omega),jc,jc,ae (by omega)]
      congr 1
      simp only[bn];omega
def VRs.splice{a b c d}(h:VRs μ Mt w a c)(k:VRs μ Mt w b d)(off):VRs μ Mt w (splice a off b) (c.take off++d++c.drop (off+d.length)):=by
 have:=k.1;unfold AM.splice;rw[this];exact((h.take off).append k).append (h.drop _)
def ayt{place place':Nat->Option (Nat × Nat)}(hp:∀i,place' i=place i):∀{ps:List (Nat × V)} {cs:List (Nat × Value)} {cells r:List V} {arr:Array Value},
 ps.map (·.1)=cs.map (·.1)->VRs μ Mt w (ps.map (·.2)) (cs.map (·.2))->VRs μ Mt w cells arr.toList->acu place cells ps=some r->
 ∃ra:Array Value,Instr.fill place' arr cs=some ra/\VRs μ Mt w r ra.toList:=by
 intro ps
 induction ps with
 |nil=>
   intro cs cells r arr h1 h2 h3 h4;cases cs with
   |nil=>simp[acu]at h4;subst h4;exact⟨arr,rfl,h3⟩
   |cons=>simp at h1
 |cons p ps ih=>
   intro cs cells r arr h1 h2 h3 h4;cases cs with
   |nil=>simp at h1
   |cons c cs=>
     obtain⟨i,v⟩:=p;obtain⟨i',u⟩:=c;simp only[pq,List.cons.injEq]at h1;obtain⟨rfl,h1⟩:=h1;have hvu:VR μ Mt w v u:=h2.2 0 v u rfl rfl
     have h2':VRs μ Mt w (ps.map (·.2)) (cs.map (·.2)):=by
      refine⟨by have:=h2.1;simpa using this,fun j a b ha hb=>h2.2 (j+1) a b (by simpa using ha) (by simpa using hb)⟩
     simp only[acu]at h4;split at h4
     .simp at h4
     .rename_i off size hpl;split at h4
      .rename_i hcond;obtain⟨hsz,hle,hone⟩:=hcond;have hcv:=ab9 hvu hone
       have hcl:u.cells.size=size:=by rw[<- hsz,hcv.1];simp
       have hal:arr.size=cells.length:=by rw[h3.1];simp
       have hsp:=h3.splice hcv off
       have hf:=foldl_set off u.cells.toList 0 arr (by simp only[o7,Array.length_toList];omega)
       simp only[o7]at hf;rw[<- hf]at hsp;obtain⟨ra,hra,hr⟩:=ih (arr:=(u.cells.toList.zipIdx 0).foldl (fun cs p=>cs.setIfInBounds (off+p.2) p.1) arr) h1 h2' hsp h4;refine⟨ra,?_,hr⟩;unfold Instr.fill;simp only[hp,hpl]
       rw[fu (by simp;omega)]
       rw[<- hra]
       congr 1
       rw[<- ajg,Array.toList_zipIdx]
      .simp at h4
def atb{a:Act}{fr:List V}(h:FR μ Mt w fr a.tmps){ps:Array (Nat × Operand)}{qs:List (Nat × Opd)}(hc:acm ps=some qs):
 (qs.map fun p=>(p.1,ev fr p.2)).map (·.1)=((ps.map fun(i,x)=>(i,a.eval x)).toList).map (·.1)/\
 VRs μ Mt w ((qs.map fun p=>(p.1,ev fr p.2)).map (·.2)) (((ps.map fun(i,x)=>(i,a.eval x)).toList).map (·.2)):=by
 obtain⟨h1,h2⟩:=a9l h hc
 refine⟨by simpa[a1b]using h1,?_⟩
 have:((ps.map fun(i,x)=>(i,a.eval x)).toList).map (·.2)=ps.toList.map fun p=>a.eval p.2:=by simp[a1b]
 rw[this]
 simpa[a1b]using h2
def az1(fs:Array Field){pl}(h:(fs.toList.mapM fun f=>(yl P f.type).map fun n=>(f.offset,n))=some pl):
 (fs.mapM fun f=>(do pure (f.offset,<- sizeOf f.type):Sem (Nat × Nat))).run P w=.ok pl.toArray w:=by
 have key:∀(l:List Field) (pl:List (Nat × Nat)),(l.mapM fun f=>(yl P f.type).map fun n=>(f.offset,n))=some pl->
  (l.mapM fun f=>(do pure (f.offset,<- sizeOf f.type):Sem (Nat × Nat))).run P w=.ok pl w:=by
  intro l
  induction l with
  |nil=>intro pl h;simp at h;subst h;rfl
  |cons f l ih=>
    intro pl h;simp only[qf,iw,fo,ak,bu]at h;obtain⟨p,⟨n,hn,rfl⟩,us,hus,e⟩:=h;cases e;simp only[qf,Sem.run_bind,run_sizeOf hn,bm0,Sem.run_pure,ih us hus]
 rw[bhg];simp only[Sem.run_map,key _ _ h,bm0]
def a10(h:HR CC μ Mt w H){a:Act}{fr:List V}(hf:FR μ Mt w fr a.tmps){t:TypeId}{z:V}{fs:Array Field}{pl:List (Nat × Nat)}{ps:Array (Nat × Operand)}{qs:List (Nat × Opd)}{cs:List V}(hz:aej P t=some z)(ht:P.underlying t=some (.struct fs))(hpl:(fs.toList.mapM fun f=>(yl P f.type).map fun n=>(f.offset,n))=some pl)(hps:acm ps=some qs)(hfill:acu (pl[·]?) z.cells (qs.map fun p=>(p.1,ev fr p.2))=some cs):
 qb CC μ Mt w H ((do pure (.value (<- Instr.build t (ps.map fun(i,x)=>(i,a.eval x)))):Sem Next).run P w) (.agg cs) H:=by
 obtain⟨zv,h1,h2,_⟩:=abp (w:=w) hz;obtain⟨p1,p2⟩:=atb hf hps
 obtain⟨ra,hra,hr⟩:=ayt (place':=(pl.toArray[·]?)) (by intro i;simp) p1 p2 (ab9 (aat h2) (y9 h2)) hfill
 refine qb.still h (afy hr) ?_;simp only[Instr.build,Sem.run_bind,h1,bm0,run_underlying ht,Sem.run_pure,az1 fs hpl,hra]
def aec(l:List Value)(len:Nat)(hl:0<l.length):((Array.range (len*l.length)).map (l.toArray[· % l.toArray.size]!)).toList=(List.replicate len l).flatten:=by
 apply wh;intro i
 have hlen:(List.replicate len l).flatten.length=len*l.length:=by simp
 by_cases hi:i<len*l.length
 .have h1:(((Array.range (len*l.length)).map (l.toArray[· % l.toArray.size]!)).toList)[i]?=some (l.toArray[i % l.length]!):=by simp[hi]
  rw[h1];have hm:i % l.length<l.length:=Nat.mod_lt _ hl
  have:∀(n i:Nat),i<n*l.length->(List.replicate n l).flatten[i]?=l[i % l.length]?:=by
   intro n
   induction n with
   |zero=>intro i hi;simp at hi
   |succ n ih=>
     intro i hi;rw[bmf,uu];by_cases c:i<l.length
     .rw[ah c,Nat.mod_eq_of_lt c]
     .rw[bz (by omega),ih (i-l.length) (by rw[zu,bdm]at hi;omega),<- Nat.mod_eq_sub_mod (by omega)]
  rw[this len i hi,af hm];simp[hm]
 .rw[jw (by simp;omega),jw (by omega)]
def a0r{place:Nat->Option (Nat × Nat)}:∀(ps:List (Nat × V)) (c r:List V),c.all V.one=true->acu place c ps=some r->r.all V.one=true:=by
 intro ps
 induction ps with
 |nil=>intro c r h0 h;simp only[acu,je]at h;rw[<- h];exact h0
 |cons p ps ih=>
   intro c r h0 h;obtain⟨i,v⟩:=p;simp only[acu]at h;split at h
   .cases h
   .split at h
    .rename_i hc;refine ih _ _ ?_ h;rw[bq]at h0 |-;intro x hx;unfold splice at hx
     rcases mo.1 hx with hx|hx
     .rcases mo.1 hx with hx|hx
      .exact h0 x (acp hx)
      .exact bq.1 hc.2.2 x hx
     .exact h0 x (agm hx)
    .cases h
def ant{a:Act}{fr:List V}(hf:FR μ Mt w fr a.tmps){t e:TypeId}{z:V}{sz len:Nat}{ps:Array (Nat × Operand)}{qs:List (Nat × Opd)}{cs:List V}(ht:P.underlying t=some (.slice e))(hsz:yl P e=some sz)(hz:aej P e=some z)(h0:0<sz)(hb:len*sz<=2^24)(hzl:z.cells.length=sz)(hps:acm ps=some qs)(hfill:acu (fun i=>some (i*sz,sz)) (List.replicate len z.cells).flatten (qs.map fun p=>(p.1,ev fr p.2))=some cs):
 ahc CC μ Mt w ((do pure (.value (<- Instr.buildSlice t len (ps.map fun(i,x)=>(i,a.eval x)))):Sem Next).run P w) (fun id=>if len=0 then .esl else .sl id 0 0 len sz) (.cells 0 cs):=by
 obtain⟨zv,h1,h2,_⟩:=abp (w:=w) hz;obtain⟨p1,p2⟩:=atb hf hps;have hzc:=ab9 (μ:=μ) (Mt:=Mt) (w:=w) (aat h2) (y9 h2)
 have hzs:zv.cells.size=sz:=by rw[<- hzl,hzc.1];simp
 have hcells:VRs μ Mt w (List.replicate len z.cells).flatten ((Array.range (len*sz)).map (zv.cells[· % zv.cells.size]!)).toList:=by
  have:=hzc.flatten_replicate len
  rw[<- aec zv.cells.toList len (by simp;omega)]at this
  simpa[hzs]using this
 obtain⟨ra,hra,hr⟩:=ayt (place':=fun i=>some (i*sz,sz)) (fun _=>rfl) p1 p2 hcells hfill;have hral:len*sz<=ra.size\/True:=.inr trivial
 have hcsl:cs.length=len*sz:=by
  have:∀(ps:List (Nat × V)) (c r:List V),acu (fun i=>some (i*sz,sz)) c ps=some r->r.length=c.length:=by
   intro ps
   induction ps with
   |nil=>intro c r h;simp[acu]at h;rw[h]
   |cons p ps ih=>
     intro c r h;obtain⟨i,v⟩:=p;simp only[acu]at h;split at h
     .rename_i hc;rw[ih _ _ h];simp[splice];omega
     .simp at h
  rw[this _ _ _ hfill];simp[hzl]
 have hrun:((do pure (.value (<- Instr.buildSlice t len (ps.map fun(i,x)=>(i,a.eval x)))):Sem Next).run P w)=.ok (.value (.slice (some ⟨w.heap.size,0,none⟩) len len)) (w.alloc (.cells ra e)):=by
  have hb':¬(len*sz > 16777216):=by simpa using hb
  by_cases hl0:len*sz=0
  .have hr0:Instr.fill (fun i=>some (i*sz,sz)) (Array.map (fun x=>(#[]:Array Value)[x % 0]!) (Array.range 0)) (ps.map fun(i,x)=>(i,a.eval x)).toList=some ra:=by
    have em:∀f:Nat->Value,Array.map f (Array.range 0)=#[]:=fun f=>by apply afo;simp
    rw[<- hra,hl0,em,em]
   simp only[Instr.buildSlice,Sem.run_bind,run_underlying ht,run_sizeOf hsz,bm0,hl0,Sem.run_pure,jf,Sem.run_ite];simp at hr0;simp[hr0,newRow]
  .simp only[Instr.buildSlice,Sem.run_bind,run_underlying ht,run_sizeOf hsz,bm0,Sem.run_pure,Sem.run_ite,fu hl0,h1,hra,newRow,run_newObj,Nat.reducePow,fu hb'];rfl
 have hone:cs.all V.one=true:=by
  refine a0r _ _ _ ?_ hfill;rw[bq];intro x hx;obtain⟨r,hr,hxr⟩:=aoj.1 hx;rw[(ajf.1 hr).2]at hxr;obtain⟨zv',_,z2',_⟩:=abp (w:=w) hz;have:=y9 z2';rw[bq]at this;exact this x hxr
 refine⟨_,_,hrun,ape hr 0 hone,fun id μ' Mt' hm=>?_⟩;dsimp only;split
 .rename_i hl;subst hl;exact .esl _
 .refine .sl id 0 0 len sz w.heap.size 0 len ra e hm (xw (w:=w) rfl) (aj _) ?_;have:=hr.1;simp at this;omega
def ava(h:HR CC μ Mt w H){a:Act}{fr:List V}(hf:FR μ Mt w fr a.tmps){t e:TypeId}{z:V}{sz len:Nat}{ps:Array (Nat × Operand)}{qs:List (Nat × Opd)}{cs:List V}(ht:P.underlying t=some (.slice e))(hsz:yl P e=some sz)(hz:aej P e=some z)(h0:0<sz)(hb:len*sz<=2^24)(hzl:z.cells.length=sz)(hps:acm ps=some qs)(hfill:acu (fun i=>some (i*sz,sz)) (List.replicate len z.cells).flatten (qs.map fun p=>(p.1,ev fr p.2))=some cs):
 qb CC μ Mt w H ((do pure (.value (<- Instr.buildSlice t len (ps.map fun(i,x)=>(i,a.eval x)))):Sem Next).run P w) (if len=0 then .esl else .sl H.length 0 0 len sz) (H++[.cells 0 cs]):=
 (ant hf ht hsz hz h0 hb hzl hps hfill).op h
def a1z(h:HR CC μ Mt w H){t e z}{sz:Nat}{ts ty x c}{base:Nat}{v}(hts:ts[0]?=some t)(ht:P.underlying t=some (.slice e))(hz:aej P e=some z)(h0:0<sz)(hzl:z.cells.length=sz)(hev:(match x with
  |.s (.slice none 0 0)=>some (und,H)
  |.esl=>some (und,H)
  |.sl id g off len sz'=>if len=0 then some (und,H)else if base<=id/\sz'=sz then match getC H id g with
     |some c=>if z.cells.length=sz/\off+len*sz<=c.length/\z.cells.all V.one then some (und,H.set id (.cells g (splice c off (List.replicate len z.cells).flatten)))else none
     |none=>none
    else none
  |_=>none)=some (v,H'))(hx:VR μ Mt w x c):
 qb CC μ Mt w H ((do pure (.value (<- Builtin.clear_ ts ty #[c])):Sem Next).run P w) v H':=by
 have quiet:∀c,(Builtin.clear_ ts ty #[c]).run P w=.ok (.tuple #[]) w->qb CC μ Mt w H ((do pure (.value (<- Builtin.clear_ ts ty #[c])):Sem Next).run P w) und H:=by
  intro c hc
  exact qb.still h (c:=.tuple #[]) (.s _) (by simp only[Sem.run_bind,hc,bm0,Sem.run_pure])
 have still:∀c,(c=.slice none 0 0\/∃a n,c=.slice (some a) 0 n)->(Builtin.clear_ ts ty #[c]).run P w=.ok (.tuple #[]) w:=by
  rintro c (rfl|⟨a,n,rfl⟩)
  .simp[Builtin.clear_,hts,run_underlying ht]
  .simp[Builtin.clear_,hts,run_underlying ht]
 revert hx;split at hev
 .intro hx;cases hev;rw[aa6 hx];exact quiet _ (still _ (.inl rfl))
 .intro hx;cases hev;cases hx with
  |esl a=>exact quiet _ (still _ (.inr ⟨a,0,rfl⟩))
 .rename_i id g off len sz';intro hx;split at hev
  .rename_i hl;cases hev;subst hl;cases hx with
   |sl _ _ _ _ _ B b cap arr e' hm hB hc hs=>exact quiet _ (still _ (.inr ⟨_,_,rfl⟩))
   |sl0 _ _ _ _ B b a hm=>exact quiet _ (still _ (.inr ⟨_,_,rfl⟩))
  .rename_i hl;split at hev
   .rename_i hb;split at hev
    .rename_i cc hcc;split at hev
     .rename_i hk;cases hev;obtain⟨zv,h1,h2,_⟩:=abp (w:=w) hz;have hzc:=ab9 (μ:=μ) (Mt:=Mt) (w:=w) (aat h2) (y9 h2)
      have hzs:zv.cells.size=sz:=by rw[<- hzl,hzc.1];simp
      have hcells:VRs μ Mt w (List.replicate len z.cells).flatten (Builtin.zeroCells zv.cells len).toList:=by
       have:=hzc.flatten_replicate len
       rw[<- aec zv.cells.toList len (by simp;omega)]at this
       simpa[Builtin.zeroCells,hzs]using this
      have hlen:(List.replicate len z.cells).flatten.length=len*sz:=by simp[hzl]
      have hone:(List.replicate len z.cells).flatten.all V.one=true:=by
       rw[bq];intro y hy;rw[aoj]at hy;obtain⟨l,hl1,hl2⟩:=hy;rw[ajf]at hl1;rw[hl1.2]at hl2;exact(bq.1 hk.2.2) y hl2
      cases hx with
      |sl0=>exact absurd rfl hl
      |sl _ _ _ _ _ B b cap arr e' hm hB hc hs=>
        obtain⟨w',hr,hp⟩:=akk (P:=P) h hcc hm (by rw[hlen];exact hk.2.1) hcells hone
        obtain⟨n,rfl⟩:∃n,len=n+1:=⟨len-1,by omega⟩
        have hrun:(Builtin.clear_ ts ty #[.slice (some ⟨B,b+off,none⟩) (n+1) cap]).run P w=.ok (.tuple #[]) w':=by
         simp only[Builtin.clear_,hts,Sem.run_bind,run_underlying ht,bm0,vz,zh,h1,hr,Sem.run_pure]
        exact⟨.tuple #[],w',_,_,.inl (by simp only[Sem.run_bind,hrun,bm0,Sem.run_pure]),.s _,hp⟩
     .cases hev
    .cases hev
   .cases hev
 .cases hev
end
open Go.RowKit
section
variable {CC:CX} {μ μ':Mu} {Mt Mt':Nat->Prop} {w w':World} {H H':Heap} {P:Program}
def aas{op:BinOp}{t x y a b}(h:∀c d,¬(a=.agg c/\b=.agg d))(h':a≠.nilIface):(eqGuard op t x y a b).run P w=.ok () w:=by
 unfold eqGuard
 cases a<;>cases b<;>first|(exact absurd rfl h')|(exact absurd ⟨rfl,rfl⟩ (h _ _))|(cases op<;>rfl)
def a2g{op:BinOp}{t x y a b v}(h:ag9 op a b=some v):
 ((do pure (.value (<- (do eqGuard op t x y a b;binOp op t a b))):Sem Next).run P w)=.ok (.value v) w:=by
 have hg:(eqGuard op t x y a b).run P w=.ok () w:=by
  apply aas
  .rintro c d ⟨rfl,rfl⟩;simp[ag9]at h
  .rintro rfl;simp[ag9]at h
 have hb:(binOp op t a b).run P w=.ok v w:=by
  unfold ag9 at h;split at h
  .rename_i k a k' b;cases op<;>simp only at h
   case shl=>split at h<;>simp at h;subst h;rename_i hb;simp[binOp,Op.shift,hb]
   case shr=>split at h<;>simp at h;subst h;rename_i hb;simp[binOp,Op.shift,hb]
   all_goals
    split at h
    .simp at h
    .rename_i hk
     have hk:k=k':=by simpa using hk
     subst hk
     first
      |(simp only[je]at h;subst h;simp[binOp,Op.intArith,Op.intBits,Op.intCmp];done)
      |(split at h<;>simp at h;subst h;rename_i hb;simp[binOp,Op.intDiv,hb];done)
      |(simp at h)
  .rename_i a b;simp only[<- ByteArray.toList_eq]at h;cases op<;>simp only at h
   case add=>
    split at h
    .simp at h
    .rename_i hb;simp only[je]at h;subst h;simp only[binOp,Op.stringOp,fu hb];rfl
   all_goals first
    |(simp only[je]at h;subst h;rfl)
    |(simp at h)
  .simp at h
 simp only[Sem.run_bind,hg,hb,bm0,Sem.run_pure]
def bd6{t x y a b neg}{op:BinOp}(ho:abz op=some neg)(ht:P.underlying t=some .bool):
 ((do pure (.value (<- (do eqGuard op t x y (.bool a) (.bool b);binOp op t (.bool a) (.bool b)))):Sem Next).run P w)=.ok (.value (.bool ((a==b) != neg))) w:=by
 have hg:(eqGuard op t x y (.bool a) (.bool b)).run P w=.ok () w:=aas (by simp) (by simp)
 have he:(Op.equal t (.bool a) (.bool b)).run P w=.ok (a==b) w:=run_equalIn_bool' w 9999 t a b ht;simp only[Sem.run_bind,hg,bm0];cases op<;>simp[abz]at ho<;>subst ho<;>simp[binOp,he]
def a6d(d){t e}{i:TypeInfo}{a b ca cb ta tb}(ht:P.underlying t=some (.pointer e))(hi:P.info? e=some i)(hs:i.size≠0)(hne:a≠b)(ha:w.heap[a.block]?=some (.cells ca ta (0,0)))(hb:w.heap[b.block]?=some (.cells cb tb (0,0))):(Op.equalIn (d+1) t (.pointer (some a)) (.pointer (some b))).run P w=.ok false w:=by
 simp[Op.equalIn,run_underlying ht,sizeOf,typeInfo,hi,hs,run_sameAddr_other w hne ha hb]
def bd5{t e x y a b neg}{op:BinOp}{n ca cb ta tb}(ho:abz op=some neg)(ht:P.underlying t=some (.pointer e))(hn:yl P e=some n)(h0:n≠0)(hne:a≠b)(ha:w.heap[a.block]?=some (.cells ca ta (0,0)))(hb:w.heap[b.block]?=some (.cells cb tb (0,0))):
 ((do pure (.value (<- (do eqGuard op t x y (.pointer (some a)) (.pointer (some b));binOp op t (.pointer (some a)) (.pointer (some b))))):Sem Next).run P w)=.ok (.value (.bool neg)) w:=by
 have hg:(eqGuard op t x y (.pointer (some a)) (.pointer (some b))).run P w=.ok () w:=aas (by simp) (by simp)
 unfold yl at hn;cases hi:P.info? e with
 |none=>rw[hi]at hn;cases hn
 |some i=>
   rw[hi]at hn
   have hs:i.size≠0:=by
    simp only[mh,je]at hn;rw[hn];exact h0
   have he:(Op.equal t (.pointer (some a)) (.pointer (some b))).run P w=.ok false w:=by
    exact a6d 9999 ht hi hs hne ha hb
   simp only[Sem.run_bind,hg,bm0];cases op<;>simp[abz]at ho<;>subst ho<;>simp[binOp,he]
def anr{d x}{k:NK}(h:apg d x=some k):
 (∃e,d=some (.pointer e)/\x=.const (.pointer none)/\k=.p)\/(∃e,d=some (.slice e)/\x=.const (.slice none 0 0)/\k=.s)\/
 (∃a b,d=some (.map a b)/\x=.const (.map none)/\k=.m)\/(∃a b c,d=some (.func a b c)/\x=.const .nilFunc/\k=.f):=by
 unfold apg at h;split at h<;>simp at h<;>subst h<;>simp
def ba5{k:NK}{x c b}(hx:VR μ Mt w x c)(h:V.isNil k x=some b):
 match k with
 |.p=>∃p,c=.pointer p/\b=p.isNone
 |.s=>∃p n m,c=.slice p n m/\b=p.isNone
 |.m=>∃p,c=.map p/\b=p.isNone
 |.f=>(c=.nilFunc/\b=true)\/(∃f a d,c=.func f a d/\b=false):=by
 unfold V.isNil at h;split at h<;>simp at h<;>subst h<;>cases hx<;>simp
theorem a6f(d){t e}(hd:P.underlying t=some (.pointer e))(p):(Op.equalIn (d+1) t (.pointer p) (.pointer none)).run P w=.ok p.isNone w:=by
 cases p<;>simp only[Op.equalIn,Sem.run_bind,run_underlying hd,bm0]<;>rfl
theorem a6e(d){t e}(hd:P.underlying t=some (.pointer e))(p):(Op.equalIn (d+1) t (.pointer none) (.pointer p)).run P w=.ok p.isNone w:=by
 cases p<;>simp only[Op.equalIn,Sem.run_bind,run_underlying hd,bm0]<;>rfl
theorem bb5(d){t e}(hd:P.underlying t=some (.slice e))(p n m):(Op.equalIn (d+1) t (.slice p n m) (.slice none 0 0)).run P w=.ok p.isNone w:=by
 cases p<;>simp only[Op.equalIn,Sem.run_bind,run_underlying hd,bm0]<;>rfl
theorem bb4(d){t e}(hd:P.underlying t=some (.slice e))(p n m):(Op.equalIn (d+1) t (.slice none 0 0) (.slice p n m)).run P w=.ok p.isNone w:=by
 cases p<;>simp only[Op.equalIn,Sem.run_bind,run_underlying hd,bm0]<;>rfl
theorem a6h(d){t e f}(hd:P.underlying t=some (.map e f))(p):(Op.equalIn (d+1) t (.map p) (.map none)).run P w=.ok p.isNone w:=by
 cases p<;>simp only[Op.equalIn,Sem.run_bind,run_underlying hd,bm0]<;>rfl
theorem a6g(d){t e f}(hd:P.underlying t=some (.map e f))(p):(Op.equalIn (d+1) t (.map none) (.map p)).run P w=.ok p.isNone w:=by
 cases p<;>simp only[Op.equalIn,Sem.run_bind,run_underlying hd,bm0]<;>rfl
theorem ayy(d){t e f g}(hd:P.underlying t=some (.func e f g)):(Op.equalIn (d+1) t .nilFunc .nilFunc).run P w=.ok true w:=by
 simp only[Op.equalIn,Sem.run_bind,run_underlying hd,bm0];rfl
theorem bb7(d){t e f g}(hd:P.underlying t=some (.func e f g))(x y z):(Op.equalIn (d+1) t (.func x y z) .nilFunc).run P w=.ok false w:=by
 simp only[Op.equalIn,Sem.run_bind,run_underlying hd,bm0];rfl
theorem bb6(d){t e f g}(hd:P.underlying t=some (.func e f g))(x y z):(Op.equalIn (d+1) t .nilFunc (.func x y z)).run P w=.ok false w:=by
 simp only[Op.equalIn,Sem.run_bind,run_underlying hd,bm0];rfl
def as0{t X Y}{k:NK}{neg b}{op:BinOp}{x c}(ho:abz op=some neg)(hx:VR μ Mt w x c)(hn:V.isNil k x=some b)(ρ:Operand->Value)(hρ:∀v,ρ (.const v)=v)(hk:(apg (P.underlying t) Y=some k/\ρ X=c)\/(apg (P.underlying t) X=some k/\ρ Y=c)):
 ((do pure (.value (<- (do eqGuard op t X Y (ρ X) (ρ Y);binOp op t (ρ X) (ρ Y)))):Sem Next).run P w)=.ok (.value (.bool (b != neg))) w:=by
 have hv:=ba5 hx hn
 have key:∀(p q:Value),(∀u v,¬(p=.agg u/\q=.agg v))->p≠.nilIface->(Op.equal t p q).run P w=.ok b w->((binOp op t p q)=(if neg then(do pure (.bool (!(<- Op.equal t p q))))else(do pure (.bool (<- Op.equal t p q)))))->
  ((do pure (.value (<- (do eqGuard op t X Y p q;binOp op t p q))):Sem Next).run P w)=.ok (.value (.bool (b != neg))) w:=by
  intro p q h1 h2 he hb;simp only[Sem.run_bind,aas h1 h2,bm0,hb];cases neg<;>simp[he]
 have cases':∀p q:Value,(ρ X=p/\ρ Y=q)->((do pure (.value (<- (do eqGuard op t X Y p q;binOp op t p q))):Sem Next).run P w)=.ok (.value (.bool (b != neg))) w->
  ((do pure (.value (<- (do eqGuard op t X Y (ρ X) (ρ Y);binOp op t (ρ X) (ρ Y)))):Sem Next).run P w)=.ok (.value (.bool (b != neg))) w:=by
  rintro p q ⟨h1,h2⟩ h;rw[h1,h2];exact h
 rcases hk with⟨hk,hc⟩|⟨hk,hc⟩
 .rcases anr hk with⟨e,hd,rfl,rfl⟩|⟨e,hd,rfl,rfl⟩|⟨e,f,hd,rfl,rfl⟩|⟨e,f,g,hd,rfl,rfl⟩
  .obtain⟨p,rfl,rfl⟩:=hv
   refine cases' (.pointer p) (.pointer none) ⟨hc,hρ _⟩ (key _ _ (by simp) (by simp) ?_ (by cases op<;>simp[abz]at ho<;>subst ho<;>rfl))
   exact a6f 9999 hd p
  .obtain⟨p,n,m,rfl,rfl⟩:=hv
   refine cases' (.slice p n m) (.slice none 0 0) ⟨hc,hρ _⟩ (key _ _ (by simp) (by simp) ?_ (by cases op<;>simp[abz]at ho<;>subst ho<;>rfl))
   exact bb5 9999 hd p n m
  .obtain⟨p,rfl,rfl⟩:=hv
   refine cases' (.map p) (.map none) ⟨hc,hρ _⟩ (key _ _ (by simp) (by simp) ?_ (by cases op<;>simp[abz]at ho<;>subst ho<;>rfl))
   exact a6h 9999 hd p
  .rcases hv with⟨rfl,rfl⟩|⟨f,a,d,rfl,rfl⟩
   .refine cases' .nilFunc .nilFunc ⟨hc,hρ _⟩ (key _ _ (by simp) (by simp) ?_ (by cases op<;>simp[abz]at ho<;>subst ho<;>rfl))
    exact ayy 9999 hd
   .refine cases' (.func f a d) .nilFunc ⟨hc,hρ _⟩ (key _ _ (by simp) (by simp) ?_ (by cases op<;>simp[abz]at ho<;>subst ho<;>rfl))
    exact bb7 9999 hd f a d
 .rcases anr hk with⟨e,hd,rfl,rfl⟩|⟨e,hd,rfl,rfl⟩|⟨e,f,hd,rfl,rfl⟩|⟨e,f,g,hd,rfl,rfl⟩
  .obtain⟨p,rfl,rfl⟩:=hv
   refine cases' (.pointer none) (.pointer p) ⟨hρ _,hc⟩ (key _ _ (by simp) (by simp) ?_ (by cases op<;>simp[abz]at ho<;>subst ho<;>rfl))
   exact a6e 9999 hd p
  .obtain⟨p,n,m,rfl,rfl⟩:=hv
   refine cases' (.slice none 0 0) (.slice p n m) ⟨hρ _,hc⟩ (key _ _ (by simp) (by simp) ?_ (by cases op<;>simp[abz]at ho<;>subst ho<;>rfl))
   exact bb4 9999 hd p n m
  .obtain⟨p,rfl,rfl⟩:=hv
   refine cases' (.map none) (.map p) ⟨hρ _,hc⟩ (key _ _ (by simp) (by simp) ?_ (by cases op<;>simp[abz]at ho<;>subst ho<;>rfl))
   exact a6g 9999 hd p
  .rcases hv with⟨rfl,rfl⟩|⟨f,a,d,rfl,rfl⟩
   .refine cases' .nilFunc .nilFunc ⟨hρ _,hc⟩ (key _ _ (by simp) (by simp) ?_ (by cases op<;>simp[abz]at ho<;>subst ho<;>rfl))
    exact ayy 9999 hd
   .refine cases' .nilFunc (.func f a d) ⟨hρ _,hc⟩ (key _ _ (by simp) (by simp) ?_ (by cases op<;>simp[abz]at ho<;>subst ho<;>rfl))
    exact bb6 9999 hd f a d
def valOf(P:Program)(t:TypeId)(cs:List Value):Value:=
 match aa3 P t with
 |some true=>.agg cs.toArray
 |_=>cs.headD Go.undef
theorem ax4{t:TypeId}{n off:Nat}{cs:List Value}(hn:yl P t=some n)(ha:(aa3 P t).isSome=true)(hl:off+n<=cs.length)(h0:aa3 P t=some false->n=1):
 (part t cs.toArray off).run P w=.ok (valOf P t ((cs.drop off).take n)) w:=by
 unfold part;obtain⟨b,hb⟩:=Option.isSome_iff_exists.1 ha;simp only[Sem.run_bind,aem hb,bm0,Sem.run_ite];cases b with
 |true=>
   simp only[jf,run_sizeOf hn,bm0,Sem.run_pure,valOf,hb]
   congr 2
   apply xz;simp
 |false=>
   have:=h0 hb;subst this;simp only[ic,ky,valOf,hb]
   have hlt:off<cs.length:=by omega
   have e1:cs.toArray[off]?=some cs[off]:=by simp[hlt]
   rw[e1];simp only[Sem.run_pure]
   congr 2
   have:(cs.drop off).take 1=[cs[off]]:=by
    rw[ed hlt];rfl
   rw[this];rfl
def aob:∀{l1 l2:List Leaf} {xs ys:List V} {b:Bool},si (l1++l2) xs ys=some b->
 ∃b1 b2,si l1 (xs.take l1.length) (ys.take l1.length)=some b1/\si l2 (xs.drop l1.length) (ys.drop l1.length)=some b2/\b=(b1&&b2):=by
 intro l1
 induction l1 with
 |nil=>intro l2 xs ys b h;exact⟨true,b,by simp[si],by simpa using h,by simp⟩
 |cons l l1 ih=>
   intro l2 xs ys b h;cases xs with
   |nil=>simp[si]at h
   |cons x xs=>
     cases ys with
     |nil=>simp[si]at h
     |cons y ys=>
       simp only[bg,si]at h;split at h
       .rename_i a b' ha hb;simp at h;obtain⟨b1,b2,h1,h2,h3⟩:=ih hb
        exact⟨a&&b1,b2,by simp[si,ha,h1],by simpa using h2,by rw[<- h,h3,Bool.and_assoc]⟩
       .simp at h
def adm:∀{l:List Leaf} {xs ys:List V} {b:Bool},si l xs ys=some b->xs.length=l.length/\ys.length=l.length:=by
 intro l
 induction l with
 |nil=>intro xs ys b h;cases xs<;>cases ys<;>simp[si]at h |-
 |cons l ls ih=>
   intro xs ys b h;cases xs with
   |nil=>simp[si]at h
   |cons x xs=>
     cases ys with
     |nil=>simp[si]at h
     |cons y ys=>
       simp only[si]at h;split at h
       .rename_i a b' ha hb;have:=ih hb;simp[this.1,this.2]
       .simp at h
def an3{t}{fs:Array Field}(h:P.underlying t=some (.struct fs)):P.fieldsOf t=fs:=by
 simp[Program.fieldsOf,h]
def aoc{l:Leaf}{x y b c d}(h:aum l x y=some b)(hx:VR μ Mt w x c)(hy:VR μ Mt w y d):
 (∃k p q,l=.int k/\c=.int k p/\d=.int k q/\b=(p==q))\/(∃p q,l=.bool/\c=.bool p/\d=.bool q/\b=(p==q))\/(∃p q:ByteArray,l=.str/\c=.string p/\d=.string q/\b=(p.toList==q.toList)):=by
 unfold aum at h;split at h
 .rename_i k j p j' q;split at h
  .rename_i hk;obtain⟨rfl,rfl⟩:=hk;simp at h;rw[aa6 hx,aa6 hy];exact .inl ⟨_,p,q,rfl,rfl,rfl,h.symm⟩
  .simp at h
 .rename_i p q;simp at h;rw[aa6 hx,aa6 hy];exact .inr (.inl ⟨p,q,rfl,rfl,rfl,h.symm⟩)
 .rename_i p q;simp only[<- ByteArray.toList_eq,je]at h;rw[aa6 hx,aa6 hy];exact .inr (.inr ⟨p,q,rfl,rfl,rfl,h.symm⟩)
 .simp at h
def ari{t}{l:Leaf}{ls:List Leaf}(hls:ls=[l]){xs ys cx cy b}(hx:VRs μ Mt w xs cx)(hy:VRs μ Mt w ys cy)(h:si ls xs ys=some b):
 ∃x y c d,xs=[x]/\ys=[y]/\cx=[c]/\cy=[d]/\VR μ Mt w x c/\VR μ Mt w y d/\aum l x y=some b/\(aa3 P t=some false->valOf P t cx=c/\valOf P t cy=d):=by
 subst hls;have hl:=adm h
 match xs,ys,cx,cy,hl,hx,hy,h with
 | [x],[y],[c],[d],_,hx,hy,h=>
   refine⟨x,y,c,d,rfl,rfl,rfl,rfl,hx.2 0 x c rfl rfl,hy.2 0 y d rfl rfl,?_,fun ha=>by simp[valOf,ha]⟩
   simp only[si]at h;split at h
   .rename_i a b' ha hb;simp at hb h;subst hb
    simpa[<- h]using ha
   .simp at h
 | [x],[y],[],_,_,hx,_,_=>exact absurd hx.1 (by simp)
 | [x],[y],_::_::_,_,_,hx,_,_=>exact absurd hx.1 (by simp)
 | [x],[y],_,[],_,_,hy,_=>exact absurd hy.1 (by simp)
 | [x],[y],_,_::_::_,_,_,hy,_=>exact absurd hy.1 (by simp)
mutual
def atw:∀(d:Nat) (t:TypeId) (ls:List Leaf) (m:Nat) (xs ys:List V) (cx cy:List Value) (b:Bool),akp P d t=some ls->d<=m->
 VRs μ Mt w xs cx->VRs μ Mt w ys cy->si ls xs ys=some b->(Op.equalIn m t (valOf P t cx) (valOf P t cy)).run P w=.ok b w/\(aa3 P t).isSome=true/\(aa3 P t=some false->ls.length=1):=by
 intro d t ls m xs ys cx cy b hl hm hx hy h;cases d with
 |zero=>simp[akp]at hl
 |succ d=>
   obtain⟨m,rfl⟩:∃k,m=k+1:=⟨m-1,by omega⟩
   simp only[akp]at hl;split at hl
   .rename_i k hk;split at hl<;>simp at hl
    have ha:aa3 P t=some false:=by simp[aa3,hk]
    obtain⟨x,y,c,e,rfl,rfl,rfl,rfl,h1,h2,h3,h4⟩:=ari (P:=P) (t:=t) hl.symm hx hy h;rw[(h4 ha).1,(h4 ha).2]
    refine⟨?_,by simp[ha],fun _=>by rw[<- hl];rfl⟩
    rcases aoc h3 h1 h2 with⟨k,p,q,_,rfl,rfl,rfl⟩|⟨p,q,hh,_⟩|⟨p,q,hh,_⟩
    .exact run_equalIn_int w m t k _ p q hk
    .cases hh
    .cases hh
   .rename_i hk;split at hl<;>simp at hl
    have ha:aa3 P t=some false:=by simp[aa3,hk]
    obtain⟨x,y,c,e,rfl,rfl,rfl,rfl,h1,h2,h3,h4⟩:=ari (P:=P) (t:=t) hl.symm hx hy h;rw[(h4 ha).1,(h4 ha).2]
    refine⟨?_,by simp[ha],fun _=>by rw[<- hl];rfl⟩
    rcases aoc h3 h1 h2 with⟨k,p,q,hh,_⟩|⟨p,q,_,rfl,rfl,rfl⟩|⟨p,q,hh,_⟩
    .cases hh
    .exact run_equalIn_bool' w m t p q hk
    .cases hh
   .rename_i hk;split at hl<;>simp at hl
    have ha:aa3 P t=some false:=by simp[aa3,hk]
    obtain⟨x,y,c,e,rfl,rfl,rfl,rfl,h1,h2,h3,h4⟩:=ari (P:=P) (t:=t) hl.symm hx hy h;rw[(h4 ha).1,(h4 ha).2]
    refine⟨?_,by simp[ha],fun _=>by rw[<- hl];rfl⟩
    rcases aoc h3 h1 h2 with⟨k,p,q,hh,_⟩|⟨p,q,hh,_⟩|⟨p,q,_,rfl,rfl,rfl⟩
    .cases hh
    .cases hh
    .exact run_equalIn_string w m t p q hk
   .rename_i fs hk;split at hl
    .simp at hl
    .rename_i hst
     have ha:aa3 P t=some true:=by simp[aa3,hk]
     refine⟨?_,by simp[ha],fun h=>by simp[ha]at h⟩
     simp only[valOf,ha]
     have hst':P.stoodInHeld t=false:=by simpa using hst
     rw[run_equalIn_struct (P:=P) w m t cx.toArray cy.toArray (by rw[an3 hk];exact hk) hst',an3 hk]
     exact anx d 0 fs.toList ls m cx cy xs ys b hl (by omega) (by simpa using hx) (by simpa using hy) h
   .simp at hl
def anx:∀(d off:Nat) (fs:List Field) (ls:List Leaf) (m:Nat) (cx cy:List Value) (xs ys:List V) (b:Bool),agw P d off fs=some ls->d<=m->
 VRs μ Mt w xs (cx.drop off)->VRs μ Mt w ys (cy.drop off)->si ls xs ys=some b->(Op.eqFields m cx.toArray cy.toArray fs).run P w=.ok b w:=by
 intro d off fs ls m cx cy xs ys b hl hm hx hy h;cases d with
 |zero=>simp[agw]at hl
 |succ d=>
   cases fs with
   |nil=>
     simp[agw]at hl;subst hl;have:=adm h
     match xs,ys,this,h with
     | [],[],_,h=>simp[si]at h;subst h;rfl
   |cons f fs=>
     simp only[agw]at hl;split at hl
     .rename_i hc;obtain⟨hoff,hname⟩:=hc;split at hl
      .rename_i l1 n h1 h2;split at hl
       .rename_i hln;split at hl
        .rename_i rest hrest;simp at hl;subst hl;obtain⟨b1,b2,e1,e2,rfl⟩:=aob h;have hlen:=adm h;simp only[gm]at hlen
         have hcx:off+n<=cx.length\/n=0:=by
          have:=hx.1;simp at this;omega
         have hxl:=hx.1;have hyl:=hy.1;simp only[ig]at hxl hyl
         obtain⟨r1,r2,r3⟩:=atw d f.type l1 m (xs.take l1.length) (ys.take l1.length) ((cx.drop off).take n) ((cy.drop off).take n) b1 h1 (by omega) (by rw[hln];exact hx.take n) (by rw[hln];exact hy.take n) e1
         have r4:=anx d (off+n) fs rest m cx cy (xs.drop l1.length) (ys.drop l1.length) b2 hrest (by omega) (by rw[hln,<- qc];exact hx.drop n) (by rw[hln,<- qc];exact hy.drop n) e2
         simp only[Op.eqFields];rw[dw hname];by_cases hz:off+n<=cx.length/\off+n<=cy.length
         .have p1:=ax4 (P:=P) (w:=w) (cs:=cx) h2 r2 hz.1 (fun h0=>by rw[<- hln];exact r3 h0)
          have p2:=ax4 (P:=P) (w:=w) (cs:=cy) h2 r2 hz.2 (fun h0=>by rw[<- hln];exact r3 h0)
          simp only[Sem.run_bind,hoff,p1,p2,bm0,r1];cases b1
          .simp
          .simpa using r4
         .
          have hn0:n=0:=by omega
          subst hn0
          have hagg:aa3 P f.type=some true:=by
           obtain⟨bb,hbb⟩:=Option.isSome_iff_exists.1 r2;cases bb
           .have:=r3 hbb;omega
           .exact hbb
          have pp:∀cs:List Value,(part f.type cs.toArray f.offset).run P w=.ok (valOf P f.type []) w:=by
           intro cs;simp only[part,Sem.run_bind,aem hagg,bm0,jf,run_sizeOf h2,Sem.run_pure,valOf,hagg]
           congr 2
           apply xz;simp
          simp only[Sem.run_bind,pp,bm0];simp only[fq]at r1;simp only[r1,bm0];cases b1
          .simp
          .simpa using r4
        .simp at hl
       .simp at hl
      .simp at hl
     .simp at hl
end
def a2f{t X Y neg b}{op:BinOp}{ls:List Leaf}{xs ys cx cy}{fs:Array Field}(ho:abz op=some neg)(ht:P.underlying t=some (.struct fs))(hg:P.eqGuardType P.depth t=false)(hl:akp P 12 t=some ls)(hx:VRs μ Mt w xs cx.toList)(hy:VRs μ Mt w ys cy.toList)(h:si ls xs ys=some b):
 ((do pure (.value (<- (do eqGuard op t X Y (.agg cx) (.agg cy);binOp op t (.agg cx) (.agg cy)))):Sem Next).run P w)=.ok (.value (.bool (b != neg))) w:=by
 have he:=(atw 12 t ls 10000 xs ys cx.toList cy.toList b hl (by omega) hx hy h).1
 have ha:aa3 P t=some true:=by simp[aa3,ht]
 simp only[valOf,ha,xh]at he;simp only[Sem.run_bind,run_eqGuard_agg w op t X Y cx cy hg,bm0];cases op<;>simp[abz]at ho<;>subst ho
 .rw[run_eql_struct,he];simp
 .rw[run_neq_struct,he];simp
end
open Go.RowKit
section
variable {CC:CX} {μ μ':Mu} {Mt Mt':Nat->Prop} {w w':World} {H H':Heap} {P:Program}
def ark{t k}(h:at0 P t=some k):P.underlying t=some k:=by
 unfold at0 at h;split at h<;>simp at h<;>subst h<;>assumption
def afb{k v}(h:agf k v=true):(∃q n,k=.int q/\v=.int q n)\/(∃s,k=.string/\v=.string s)\/(∃b,k=.bool/\v=.bool b):=by
 unfold agf at h;split at h<;>simp_all
theorem run_checkKey{e}(d){t k v}(ht:P.underlying t=some k)(hk:agf k v=true):(Instr.checkKey e (d+1) t v).run P w=.ok () w:=by
 rcases afb hk with⟨q,n,rfl,rfl⟩|⟨s,rfl,rfl⟩|⟨b,rfl,rfl⟩ <;>
  simp only[Instr.checkKey,Sem.run_bind,run_underlying ht,bm0]<;>rfl
def bhe(μ:Mu)(Mt:Nat->Prop)(w:World)(es:List (Value × V))(l:List MapEntry):Prop:=
 es.length=l.length/\∀(i:Nat) (k:Value) (v:V) (e:MapEntry),es[i]?=some (k,v)->l[i]?=some e->e.key=k/\VR μ Mt w v e.val
def agx{kind key}:∀{es:List (Value × V)} {l:List MapEntry} (i:Nat) {r:Option (Nat × V)},bhe μ Mt w es l->ag8 kind key es i=some r->
 (r=none->Instr.findNow kind key l i=some none)/\
 (∀j v,r=some (j,v)->i<=j/\∃e k',Instr.findNow kind key l i=some (some (j,e.val))/\l[j-i]?=some e/\es[j-i]?=some (k',v)/\Instr.sameNow kind key k'=some true/\VR μ Mt w v e.val):=by
 intro es
 induction es with
 |nil=>
   intro l i r h hf
   have:l=[]:=jb (by simpa using h.1.symm)
   subst this;simp[ag8]at hf;subst hf
   exact⟨fun _=>rfl,fun j v h=>by simp at h⟩
 |cons e es ih=>
   intro l i r h hf;obtain⟨k,v⟩:=e;cases l with
   |nil=>exact absurd h.1 (by simp)
   |cons x l=>
     have hx:=h.2 0 k v x rfl rfl
     have ht:bhe μ Mt w es l:=⟨by simpa using h.1,fun i k v e h1 h2=>h.2 (i+1) k v e (by simpa using h1) (by simpa using h2)⟩
     simp only[ag8]at hf;split at hf
     .rename_i hs;simp at hf;subst hf
      refine⟨fun h=>by simp at h,fun j u hu=>?_⟩
      simp at hu;obtain⟨rfl,rfl⟩:=hu
      refine⟨aj _,x,k,?_,by simp,by simp,hs,hx.2⟩
      simp[Instr.findNow,hx.1,hs]
     .rename_i hs;obtain⟨h1,h2⟩:=ih (i+1) ht hf;refine⟨fun h=>?_,fun j u hu=>?_⟩
      .simp[Instr.findNow,hx.1,hs,h1 h]
      .obtain⟨hle,e,k',e1,e2,e3,e4,e5⟩:=h2 j u hu
       refine⟨by omega,e,k',by simp[Instr.findNow,hx.1,hs,e1],?_,?_,e4,e5⟩
       .rw[show j-i=(j-(i+1))+1 by omega];simpa using e2
       .rw[show j-i=(j-(i+1))+1 by omega];simpa using e3
     .simp at hf
def HR.mapAt(h:HR CC μ Mt w H){id B es}(hH:H[id]?=some (.map es))(hm:μ id 0=some (B,0)):
 ∃arr clock,w.heap[B]?=some (.map arr clock)/\bhe μ Mt w es arr.toList:=by
 obtain⟨o,ho,hr⟩:=h.objs id _ 0 B 0 hH rfl hm
 cases o<;>first|exact hr.elim|skip
 rename_i arr clock;obtain⟨_,h1,h2⟩:=hr
 exact⟨arr,clock,ho,by simpa using h1.symm,fun i k v e a b=>h2 i k v e a (by simpa using b)⟩
def HR.stamped(h:HR CC μ Mt w H){id B es}(hH:H[id]?=some (.map es))(hm:μ id 0=some (B,0)){arr:Array MapEntry}{clock}(hB:w.heap[B]?=some (.map arr clock)):MapKept.Stamped arr clock:=by
 obtain⟨o,ho,hr⟩:=h.objs id _ 0 B 0 hH rfl hm;rw[hB]at ho;cases ho;exact hr.1.2
def toList_inj{a b:ByteArray}(h:a.toList=b.toList):a=b:=by
 have h2:(a==b)=true:=by rw[beq_toListBytes];simp[h]
 have h3:(a.data==b.data)=true:=h2;exact ByteArray.ext (eq_of_beq h3)
theorem azs{kind:TypeDesc}{a b:Value}(hk:agf kind a=true)(h:Instr.sameNow kind a b=some true):b=a:=by
 rcases afb hk with⟨q,n,rfl,rfl⟩|⟨s,rfl,rfl⟩|⟨x,rfl,rfl⟩
 .cases b<;>simp[Instr.sameNow]at h;obtain⟨rfl,h⟩:=h;subst h;rfl
 .cases b<;>simp[Instr.sameNow]at h;rw[beq_toListBytes]at h;simp at h;rw[toList_inj h]
 .cases b<;>simp[Instr.sameNow]at h;subst h;rfl
def asy{kind a}(hk:agf kind a=true):Instr.sameNow kind a a=some true:=by
 rcases afb hk with⟨q,n,rfl,rfl⟩|⟨s,rfl,rfl⟩|⟨x,rfl,rfl⟩
 .simp[Instr.sameNow]
 .simp[Instr.sameNow,beq_toListBytes]
 .simp[Instr.sameNow]
def a0q{kind key}(hk:agf kind key=true):∀{es:List (Value × V)} (i:Nat),ag8 kind key es i=some none->∀p∈es,p.1≠key:=by
 intro es
 induction es with
 |nil=>intro i _ p hp;cases hp
 |cons e es ih=>
   intro i hf p hp;obtain⟨k',v⟩:=e;simp only[ag8]at hf;split at hf
   .cases hf
   .rename_i hs
    rcases mq.1 hp with rfl|hp
    .intro e;simp only at e;subst e;rw[asy hk]at hs;cases hs
    .exact ih _ hf p hp
   .cases hf
def bhe.key{es}{l:List MapEntry}(h:bhe μ Mt w es l){e:MapEntry}(he:e∈l):∃v,(e.key,v)∈es:=by
 obtain⟨i,hi,rfl⟩:=vk he;have hl:=h.1
 have hes:es[i]?=some es[i]:=af (by omega)
 have:=h.2 i es[i].1 es[i].2 l[i] hes (af hi)
 exact⟨es[i].2,by rw[this.1];exact xu _⟩
def run_getObj_map{B}{arr:Array MapEntry}{clock}(h:w.heap[B]?=some (.map arr clock)):(getObj B).run P w=.ok (.map arr clock) w:=by
 simp[getObj,Sem.run,h]
def run_setObj_map{B}{arr:Array MapEntry}{clock}(o:Obj)(h:w.heap[B]?=some (.map arr clock)):(setObj B o).run P w=.ok () { w with heap:=w.heap.setIfInBounds B o }:=by
 simp[setObj,Sem.run,h]
def run_findKey{t k key}{es:List MapEntry}{r}(ht:P.underlying t=some k)(h:Instr.findNow k key es 0=some r):
 (Instr.findKey t key es).run P w=.ok r w:=by
 simp[Instr.findKey,run_underlying ht,h]
def azo(h:HR CC μ Mt w H){t kt e kind zero x v c key ok}(ht:P.underlying t=some (.map kt e))(hk:at0 P kt=some kind)(hz:aej P e=some zero)(hx:VR μ Mt w x c)(hkey:agf kind key=true)(hev:(match(generalizing:=false) x with
  |.s (.map none)=>some (if ok then V.tup [zero,bl false]else zero,H)
  |.mp id=>match H[id]? with
    |some (.map es)=>match ag8 kind key es 0 with
      |some (some (_,v))=>some (if ok then V.tup [v,bl true]else v,H)
      |some none=>some (if ok then V.tup [zero,bl false]else zero,H)
      |none=>none
    |_=>none
  |_=>none)=some (v,H')):
 qb CC μ Mt w H ((do pure (.value (<- Instr.lookup t c key ok)):Sem Next).run P w) v H':=by
 obtain⟨zv,z1,z2,_⟩:=abp (w:=w) hz;have hzv:VR μ Mt w zero zv:=aat z2;have hku:=ark hk
 have pack:∀(u:V) (d:Value) (b:Bool),VR μ Mt w u d->VR μ Mt w (if ok then V.tup [u,bl b]else u) (if ok then .tuple #[d,.bool b]else d):=by
  intro u d b hu;cases ok
  .exact hu
  .exact a1k (vs:=[d,.bool b]) (hu.cons (VR.cons (.s _) VRs.nil))
 split at hev
 .simp at hev;obtain⟨rfl,rfl⟩:=hev;have:=aa6 hx;subst this;refine qb.still h (pack _ zv false hzv) ?_;have hck:=run_checkKey (P:=P) (w:=w) (e:=true) 9999 hku hkey
  have hfk:(Instr.findKey kt key []).run P w=.ok none w:=run_findKey hku (by simp[Instr.findNow])
  simp only[Instr.lookup,Sem.run_bind,run_underlying ht,bm0,Sem.run_pure,Array.isEmpty_empty,hck,hfk,z1]
 .rename_i id;obtain⟨B,hm,rfl⟩:=a7t hx;split at hev
  .rename_i es hH;obtain⟨arr,clock,hB,hR⟩:=h.mapAt hH hm;have hck:=fun b=>run_checkKey (P:=P) (w:=w) (e:=b) 9999 hku hkey;split at hev
   .rename_i j u hf;simp at hev;obtain⟨rfl,rfl⟩:=hev;obtain⟨_,h2⟩:=agx 0 hR hf;obtain⟨_,en,k',f1,f2,f3,f4,f5⟩:=h2 j u rfl;refine qb.still h (pack u en.val true f5) ?_;have hfk:=run_findKey (P:=P) (w:=w) hku f1;simp only[Instr.lookup,Sem.run_bind,run_underlying ht,bm0,run_getObj_map hB,Sem.run_pure,hck,hfk]
   .rename_i hf;simp at hev;obtain⟨rfl,rfl⟩:=hev;obtain⟨h1,_⟩:=agx 0 hR hf;refine qb.still h (pack _ zv false hzv) ?_;have hfk:=run_findKey (P:=P) (w:=w) hku (h1 rfl);simp only[Instr.lookup,Sem.run_bind,run_underlying ht,bm0,run_getObj_map hB,Sem.run_pure,hck,hfk,z1]
   .simp at hev
  .simp at hev
 .simp at hev
def a2a{kind a b}(hk:agf kind a=true)(h:Instr.sameNow kind a b=some true):Instr.sameBits 10000 b a=true:=by
 rcases afb hk with⟨q,n,rfl,rfl⟩|⟨s,rfl,rfl⟩|⟨x,rfl,rfl⟩
 .cases b<;>simp[Instr.sameNow]at h;obtain⟨rfl,h⟩:=h;subst h;simp[Instr.sameBits]
 .cases b<;>simp[Instr.sameNow]at h;rw[beq_toListBytes]at h;simp only[Instr.sameBits];rw[beq_toListBytes];simp at h;simp[h]
 .cases b<;>simp[Instr.sameNow]at h;subst h;simp[Instr.sameBits]
def aly(h:HR CC μ Mt w H){id B es es'}{arr arr':Array MapEntry}{clock clock'}(hH:H[id]?=some (.map es))(hm:μ id 0=some (B,0))(hB:w.heap[B]?=some (.map arr clock))(hR:bhe μ Mt w es' arr'.toList)(hst:MapKept.Stamped arr' clock'):
 Post CC μ Mt w H (aol μ id 0 (B,0)) Mt { w with heap:=w.heap.setIfInBounds B (.map arr' clock') } (H.set id (.map es')):=by
 refine agt h (o':=.map arr' clock') 0 0 hH rfl hm hB (by simp) (by simp) (.inl ⟨rfl,rfl⟩) (fun j hj=>hj) (fun _ _ e=>by cases e) rfl rfl rfl rfl ?_ ?_
 .intro e he;have he:e∈es':=he;obtain⟨i,hi,rfl⟩:=vk he;have hl:=hR.1
  exact(hR.2 i es'[i].1 es'[i].2 _ (af hi) (af (by omega))).2.vw h.dom
 intro _ μ' Mt' hμ hM
 refine⟨⟨rfl,hst⟩,by simpa using hR.1.symm,fun i k v e h1 h2=>?_⟩
 have:=hR.2 i k v e h1 (by simpa using h2)
 refine⟨this.1,this.2.mono hμ (fun K hK hm=>(hM K hK).1 hm) (fun K _ hn=>heap_set (w':={ w with heap:=w.heap.setIfInBounds B (.map arr' clock') }) rfl (fun e=>hn (e▸(h.isMut _ _ _ _ hm).1))) ?_⟩;intro K a0 e0 fr0 hK
 have hne:K≠B:=fun e=>by subst e;rw[hB]at hK;cases hK
 exact⟨a0,_,(heap_set (w':={ w with heap:=w.heap.setIfInBounds B (.map arr' clock') }) rfl hne).trans hK,rfl⟩
def ao8(h:HR CC μ Mt w H){t kt e kind y v c key d}(ht:P.underlying t=some (.map kt e))(hk:at0 P kt=some kind){id}(hx:VR μ Mt w (.mp id) c)(hy:VR μ Mt w y d)(hkey:agf kind key=true){es}(hH:H[id]?=some (.map es))(hev:(match ag8 kind key es 0 with
      |some (some (i,_))=>some (und,H.set id (.map (es.set i (key,y))))
      |some none=>some (und,H.set id (.map (es++[(key,y)])))
      |none=>none)=some (v,H')):
 qb CC μ Mt w H ((do Instr.mapUpdate t c key d;pure .skip:Sem Next).run P w) v H':=by
 obtain⟨B,hm,rfl⟩:=a7t hx;obtain⟨arr,clock,hB,hR⟩:=h.mapAt hH hm;have hku:=ark hk;have hck:=run_checkKey (P:=P) (w:=w) (e:=false) 9999 hku hkey;split at hev
 .rename_i j u hf;simp at hev;obtain⟨rfl,rfl⟩:=hev;obtain⟨_,h2⟩:=agx 0 hR hf;obtain⟨_,en,k',f1,f2,f3,f4,f5⟩:=h2 j u rfl;simp only[bl8]at f2 f3;have hfk:=run_findKey (P:=P) (w:=w) hku f1
  have hjl:j<arr.size:=by have:=(bmk.1 f2).1;simpa using this
  have hen:arr[j]?=some en:=by simpa using f2
  have hkeyeq:en.key=k':=(hR.2 j k' u en f3 f2).1
  have hsb:Instr.sameBits 10000 en.key key=true:=by rw[hkeyeq];exact a2a hkey f4
  have hks:(Instr.keyThatStays en.key key).run P w=.ok key w:=by simp[Instr.keyThatStays,hsb]
  refine⟨Go.undef,{ w with heap:=w.heap.setIfInBounds B (.map (arr.modify j fun e=>{ e with key:=key,val:=d }) clock) },_,_,.inr ⟨?_,rfl⟩,.s _,aly h (es':=es.set j (key,y)) hH hm hB ?_ (MapKept.stamped_modify (h.stamped hH hm hB) j _ (fun _ _=>rfl) fun e _ he=>by rw[hen]at he;cases he;rw[hkeyeq];exact(azs hkey f4).symm)⟩
  .simp only[Instr.mapUpdate,Sem.run_bind,run_underlying ht,bm0,run_getObj_map hB,hck,hfk,hen,mh,aft,hks,run_setObj_map _ hB,Sem.run_pure]
  .refine⟨by simpa using hR.1,fun i k v e h1 h2=>?_⟩
   by_cases hij:j=i
   .subst hij
    rw[ma (by have:=(bmk.1 f3).1;exact this)]at h1
    simp at h1;obtain⟨rfl,rfl⟩:=h1;simp[hjl]at h2;subst h2;exact⟨rfl,hy⟩
   .rw[ae hij]at h1;simp[hij]at h2
    exact hR.2 i k v e h1 (by simpa using h2)
 .rename_i hf;simp at hev;obtain⟨rfl,rfl⟩:=hev;obtain⟨h1,_⟩:=agx 0 hR hf;have hfk:=run_findKey (P:=P) (w:=w) hku (h1 rfl)
  refine⟨Go.undef,{ w with heap:=w.heap.setIfInBounds B (.map (arr.push { key,val:=d,born:=clock }) (clock+1)) },_,_,.inr ⟨?_,rfl⟩,.s _,aly h (es':=es++[(key,y)]) hH hm hB ?_ (MapKept.stamped_push (h.stamped hH hm hB) fun x hx e=>by obtain⟨v,hv⟩:=hR.key hx;exact a0q hkey 0 hf _ hv e)⟩
  .simp only[Instr.mapUpdate,Sem.run_bind,run_underlying ht,bm0,run_getObj_map hB,hck,hfk,run_setObj_map _ hB,Sem.run_pure]
  .have hl:=hR.1
   refine⟨by simpa using hl,fun i k v e h1 h2=>?_⟩
   by_cases hi:i<es.length
   .rw[ah hi]at h1
    rw[alf,ah (by omega)]at h2
    exact hR.2 i k v e h1 h2
   .rw[bz (by omega)]at h1
    rw[alf,bz (by omega),<- hl]at h2
    have:i-es.length=0:=by have:=(bmk.1 h1).1;simp at this;omega
    rw[this]at h1 h2;simp at h1 h2;obtain⟨rfl,rfl⟩:=h1;subst h2;exact⟨rfl,hy⟩
 .simp at hev
def azp(h:HR CC μ Mt w H){t kt e ts ty kind v c key}(hts:ts[0]?=some t)(ht:P.underlying t=some (.map kt e))(hk:at0 P kt=some kind){id}(hx:VR μ Mt w (.mp id) c)(hkey:agf kind key=true){es}(hH:H[id]?=some (.map es))(hev:(match ag8 kind key es 0 with
      |some (some (i,_))=>some (und,H.set id (.map (es.eraseIdx i)))
      |some none=>some (und,H)
      |none=>none)=some (v,H')):
 qb CC μ Mt w H ((do pure (.value (<- Builtin.delete_ ts ty #[c,key])):Sem Next).run P w) v H':=by
 obtain⟨B,hm,rfl⟩:=a7t hx;obtain⟨arr,clock,hB,hR⟩:=h.mapAt hH hm;have hku:=ark hk;have hck:=fun b=>run_checkKey (P:=P) (w:=w) (e:=b) 9999 hku hkey;split at hev
 .rename_i j u hf;simp at hev;obtain⟨rfl,rfl⟩:=hev;obtain⟨_,h2⟩:=agx 0 hR hf;obtain⟨_,en,k',f1,f2,f3,f4,f5⟩:=h2 j u rfl;simp only[bl8]at f2 f3;have hfk:=run_findKey (P:=P) (w:=w) hku f1;refine⟨.tuple #[],{ w with heap:=w.heap.setIfInBounds B (.map (arr.eraseIdxIfInBounds j) clock) },_,_,.inl ?_,.s _,aly h (es':=es.eraseIdx j) hH hm hB ?_ (MapKept.stamped_erase (h.stamped hH hm hB) j)⟩
  .simp only[Builtin.delete_,hts,Sem.run_bind,run_underlying ht,bm0,run_getObj_map hB,hck,hfk,run_setObj_map _ hB,Sem.run_pure,vz,zh,wu]
  .have hjl:j<arr.size:=by have:=(bmk.1 f2).1;simpa using this
   have hto:(arr.eraseIdxIfInBounds j).toList=arr.toList.eraseIdx j:=by simp
   rw[hto]
   refine⟨by rw[bmc,bmc,hR.1],fun i k v e h1 h2=>?_⟩
   rw[List.getElem?_eraseIdx]at h1 h2;split at h1
   .rename_i hi;rw[dw hi]at h2;exact hR.2 i k v e h1 h2
   .rename_i hi;rw[fu hi]at h2;exact hR.2 (i+1) k v e h1 h2
 .rename_i hf;simp at hev;obtain⟨rfl,rfl⟩:=hev;obtain⟨h1,_⟩:=agx 0 hR hf;have hfk:=run_findKey (P:=P) (w:=w) hku (h1 rfl);have hp:=aly (CC:=CC) h (clock':=clock) hH hm hB hR (h.stamped hH hm hB)
  have hset:H.set id (.map es)=H:=by
   apply wh;intro i;by_cases hi:id=i
   .subst hi;rw[ma (bmk.1 hH).1,hH]
   .rw[ae hi]
  rw[hset]at hp;refine⟨.tuple #[],{ w with heap:=w.heap.setIfInBounds B (.map arr clock) },_,_,.inl ?_,.s _,hp⟩;simp only[Builtin.delete_,hts,Sem.run_bind,run_underlying ht,bm0,run_getObj_map hB,hck,hfk,run_setObj_map _ hB,Sem.run_pure,vz,zh,wu]
 .simp at hev
def aph(t):ahc CC μ Mt w ((do pure (.value (<- Instr.makeMap t none)):Sem Next).run P w) (fun id=>.mp id) (.map []):=by
 refine⟨.map (some w.heap.size),.map #[] 0,?_,⟨⟨rfl,MapKept.stamped_empty 0⟩,rfl,fun i k v e h=>by simp at h⟩,fun id μ' Mt' hm=>.mp _ _ hm⟩
 simp[Instr.makeMap]
def azn(h:HR CC μ Mt w H)(t):qb CC μ Mt w H ((do pure (.value (<- Instr.makeMap t none)):Sem Next).run P w) (.mp H.length) (H++[.map []]):=(aph t).op h
end
open Go.RowKit
section
variable {CC:CX} {μ μ':Mu} {Mt Mt':Nat->Prop} {w w':World} {H H':Heap} {P:Program}
def aqf(h:HR CC μ Mt w H){t}{fs:Array Field}{f n}{fd:Field}{x v c}(ht:P.underlying t=some (.struct fs))(hf:fs[f]?=some fd)(hn:yl P fd.type=some n)(h0:n≠0)(hx:VR μ Mt w x c)(hev:(match(generalizing:=false) x with
  |.ref id g o=>some (V.ref id g (o+fd.offset),H)
  |.pref cs=>if fd.offset<=cs.length then some (V.pref (cs.drop fd.offset),H)else none
  |_=>none)=some (v,H')):
 qb CC μ Mt w H ((do pure (.value (<- Instr.fieldAt t c f)):Sem Next).run P w) v H':=by
 have hrun:∀a:Addr,((do pure (.value (<- Instr.fieldAt t (.pointer (some a)) f)):Sem Next).run P w)=.ok (.value (.pointer (some (a.add fd.offset)))) w:=by
  intro a;simp only[Instr.fieldAt,Sem.run_bind,run_underlying ht,bm0,hf,Instr.sureAddr,Sem.run_pure,fieldPlace,run_sizeOf hn,Sem.run_ite,fu h0]
 split at hev
 .rename_i id g o;simp at hev;obtain⟨rfl,rfl⟩:=hev;obtain⟨B,b,hm,rfl⟩:=aso hx;refine qb.still h ?_ (hrun _);rw[ahb,yh];exact .ref id g _ B b hm
 .rename_i cs;split at hev
  .rename_i hle;simp at hev;obtain⟨rfl,rfl⟩:=hev;cases hx with
   |pref _ B o arr e fr hB hM hs hv=>
     refine qb.still h ?_ (hrun _);rw[ahb]
     refine .pref _ B _ arr e fr hB hM (by simp;omega) (fun i a b ha hb=>?_)
     rw[jc]at ha
     exact hv _ a b ha (by rw[<- yh];exact hb)
  .simp at hev
 .simp at hev
def a1y(h:HR CC μ Mt w H){t}{fs:Array Field}{f n:Nat}{agg}{fd:Field}{cs v c}(ht:P.underlying t=some (.struct fs))(hf:fs[f]?=some fd)(hs:af2 P fd.type=some (agg,n))(hx:VR μ Mt w (.agg cs) c)(hl:((cs.drop fd.offset).take n).length=n)(hv:shut agg ((cs.drop fd.offset).take n)=some v):
 qb CC μ Mt w H ((do pure (.value (<- Instr.field t c f)):Sem Next).run P w) v H:=by
 obtain⟨vs,rfl,hvs⟩:=a1l hx;obtain⟨h1,h2,h3⟩:=ajn hs
 have hlen:fd.offset+n<=vs.toList.length\/n=0:=by
  have:=hvs.1;simp at hl this;simp;omega
 cases agg with
 |true=>
   simp[shut]at hv;subst hv;refine qb.still h (afy ((hvs.drop _).take n)) ?_;simp only[Instr.field,Sem.run_bind,run_underlying ht,bm0,hf,asAgg,Sem.run_pure,part,aem h1,jf,run_sizeOf h2]
   congr 3
   apply xz;simp
 |false=>
   have hn:=h3 rfl;subst hn;have hk:=(hvs.drop fd.offset).take 1;revert hk hv hl;generalize hA:(cs.drop fd.offset).take 1=A;intro hl hv hk
   match A,hl,hv with
   | [x],_,hv=>
     simp[shut]at hv;subst hv;obtain⟨b,hb,hxb⟩:=hk.get (i:=0) (a:=x) rfl;refine qb.still h hxb ?_
     have hb':vs[fd.offset]?=some b:=by
      rw[gu (by omega),jc]at hb
      simpa using hb
     simp only[Instr.field,Sem.run_bind,run_underlying ht,bm0,hf,asAgg,Sem.run_pure,part,aem h1,ic,ky,hb']
def run_indexAt{t e}{sz len cap:Nat}{k}{n:Int}{a}(ht:P.underlying t=some (.slice e))(hs:yl P e=some sz)(h0:0<=n)(h1:n<len):
 ((do pure (.value (<- Instr.indexAt t (.slice (some a) len cap) (.int k n))):Sem Next).run P w)=.ok (.value (.pointer (some (a.add (n.toNat*sz))))) w:=by
 simp only[Instr.indexAt,asIntOf,Sem.run_bind,Sem.run_pure,bm0,run_underlying ht,Sem.run_ite];rw[dw ⟨h0,h1⟩];simp only[run_sizeOf hs,bm0]
def aij(h:HR CC μ Mt w H){t e}{sz:Nat}{x v c k}{n:Int}(ht:P.underlying t=some (.slice e))(hs:yl P e=some sz)(hx:VR μ Mt w x c)(hev:(match(generalizing:=false) x with
  |.sl id g off len sz'=>if 0<=n/\n<len/\sz'=sz then some (V.ref id g (off+n.toNat*sz),H)else none
  |.psl es sz'=>if 0<=n/\sz'=sz then match es[n.toNat]? with
    |some e=>some (V.pref e,H)
    |none=>none
  else none
  |_=>none)=some (v,H')):
 qb CC μ Mt w H ((do pure (.value (<- Instr.indexAt t c (.int k n))):Sem Next).run P w) v H':=by
 split at hev
 .rename_i id g off len sz';split at hev
  .rename_i hc;obtain⟨h0,h1,rfl⟩:=hc;simp at hev;obtain⟨rfl,rfl⟩:=hev;cases hx with
   |sl _ _ _ _ _ B b cap arr e' hm hB hcap hsz=>
     refine qb.still h ?_ (run_indexAt ht hs h0 h1);rw[ahb,yh];exact .ref id g _ B b hm
   |sl0=>simp at h1;omega
  .simp at hev
 .rename_i es sz';split at hev
  .rename_i hc;obtain⟨h0,rfl⟩:=hc;split at hev
   .rename_i el hel;simp at hev;obtain⟨rfl,rfl⟩:=hev;have hlt:n.toNat<es.length:=(bmk.1 hel).1;cases hx with
    |psl _ _ B o cap arr e' fr hB hM hcap hz hsz hv=>
      refine qb.still h ?_ (run_indexAt ht hs h0 (by omega))
      rw[ahb];have hll:=hz _ _ hel
      have hmul:n.toNat*sz'+sz'<=es.length*sz':=by
       have:(n.toNat+1)*sz'<=es.length*sz':=qd _ hlt
       rwa[zu,bdm]at this
      exact .pref el B _ arr e' fr hB hM (by omega) (fun i a b ha hb=>hv _ el i a b hel ha hb)
    |psl0=>simp at hlt
   .simp at hev
  .simp at hev
 .simp at hev
def a6u{s:ByteArray}{n:Nat}{c:UInt8}(h:s.data.toList[n]?=some c):s[n]?=some c:=by
 have hl:n<s.size:=by have:=(bmk.1 h).1;simpa using this
 rw[getElem?_pos s n hl]
 have:s.data.toList[n]?=some s.data[n]:=by simp
 rw[this]at h;exact h
def asz{t:TypeId}{s:ByteArray}{k:IntKind}{n:Int}{c:UInt8}(ht:P.underlying t=some .string)(h0:0<=n)(hc:s.data.toList[n.toNat]?=some c):
 ((do pure (.value (<- Instr.index t (.string s) (.int k n))):Sem Next).run P w)=.ok (.value (.int .u8 c.toNat)) w:=by
 simp only[Instr.index,asIntOf,Sem.run_bind,Sem.run_pure,bm0,run_underlying ht,dw h0,a6u hc]
def asc(o:Option Value)(d l:Int):Prop:=(o=none/\l=d)\/∃k,o=some (.int k l)
def ab3{s}{len cap:Nat}{lo hi}{l h:Int}(hl:asc lo 0 l)(hh:asc hi len h)(h0:0<=l)(h1:l<=h)(h2:h<=len)(h3:len<=cap):
 (Instr.sliceBounds s len cap lo hi none).run P w=.ok (l.toNat,h.toNat,cap) w:=by
 have hb:∀(k:IntKind) (i:Int) (y:Nat) (code:BoundsCode),0<=i->i<=y->(Instr.sliceBound (.int k i) y code).run P w=.ok i.toNat w:=fun k i y code a b=>run_sliceBound w k i y code a b
 rcases hh with⟨rfl,rfl⟩|⟨kh,rfl⟩<;>rcases hl with⟨rfl,rfl⟩|⟨kl,rfl⟩
 .simp[Instr.sliceBounds]
 .simp only[Instr.sliceBounds,Sem.run_bind,Sem.run_pure,bm0,hb kl l len _ h0 h1];simp
 .simp only[Instr.sliceBounds,Sem.run_bind,Sem.run_pure,bm0,hb kh h cap _ (by omega) (by omega)];simp
 .simp only[Instr.sliceBounds,Sem.run_bind,Sem.run_pure,bm0,hb kh h cap _ (by omega) (by omega),hb kl l h.toNat _ h0 (by omega)]
def awd{len cap lo k1 k2}(hl:asc lo 0 0):
 (Instr.sliceBounds true len cap lo (some (.int k1 0)) (some (.int k2 0))).run P w=.ok (0,0,0) w:=by
 have hb:∀(k:IntKind) (y:Nat) (code:BoundsCode),(Instr.sliceBound (.int k 0) y code).run P w=.ok 0 w:=fun k y code=>by
  have:=run_sliceBound (P:=P) w k 0 y code (by omega) (by omega);simpa using this
 rcases hl with⟨rfl,_⟩|⟨kl,rfl⟩<;>simp only[Instr.sliceBounds,Sem.run_bind,Sem.run_pure,bm0,hb]
def abd{t e sz len cap a lo hi mx l h m}(ht:P.underlying t=some (.slice e))(hs:yl P e=some sz)(hb:(Instr.sliceBounds true len cap lo hi mx).run P w=.ok (l,h,m) w):
 ((do pure (.value (<- Instr.sliceAt t (.slice a len cap) lo hi mx)):Sem Next).run P w)=.ok (.value (.slice (if m=l then a else a.map (·.add (l*sz))) (h-l) (m-l))) w:=by
 simp only[Instr.sliceAt,Sem.run_bind,run_underlying ht,bm0,Instr.slice,hb,run_sizeOf hs,Sem.run_pure]
def a1x(h:HR CC μ Mt w H){t e}{sz:Nat}{x v c lo hi}{l hh:Int}(ht:P.underlying t=some (.slice e))(hs:yl P e=some sz)(hx:VR μ Mt w x c)(hl:asc lo 0 l)[∀d:Int,Decidable (asc hi d hh)](hev:(match(generalizing:=false) x with
  |.s (.slice none 0 0)=>if asc hi 0 hh/\l=0/\hh=0 then some ow else none
  |.esl=>if asc hi 0 hh/\l=0/\hh=0 then some .esl else none
  |.psl es sz'=>if asc hi es.length hh/\0<=l/\l<=hh/\hh<=es.length/\sz'=sz then some (V.psl ((es.drop l.toNat).take (hh-l).toNat) sz)else none
  |.sl id g off len sz'=>if asc hi len hh/\0<=l/\l<=hh/\hh<=len/\sz'=sz then some (V.sl id g (off+l.toNat*sz) (hh-l).toNat sz)else none
  |_=>none)=some v):
 qb CC μ Mt w H ((do pure (.value (<- Instr.sliceAt t c lo hi none)):Sem Next).run P w) v H:=by
 split at hev
 .split at hev
  .rename_i hc;obtain⟨hb,rfl,rfl⟩:=hc;simp at hev;subst hev;have:=aa6 hx;subst this;refine qb.still h (.s _) ?_
   rw[abd (a:=none) (len:=0) (cap:=0) (sz:=sz) ht hs (ab3 hl (by simpa using hb) (by omega) (by omega) (by omega) (by omega))]
   simp
  .simp at hev
 .split at hev
  .rename_i hc;obtain⟨hb,rfl,rfl⟩:=hc;simp at hev;subst hev;cases hx with
   |esl a=>
     refine qb.still h (.esl a) ?_
     rw[abd (a:=some a) (len:=0) (cap:=0) (sz:=sz) ht hs (ab3 hl (by simpa using hb) (by omega) (by omega) (by omega) (by omega))]
     simp
  .simp at hev
 .rename_i es sz';split at hev
  .rename_i hc;obtain⟨hb,h0,h1,h2,rfl⟩:=hc;simp at hev;subst hev
   have hdt:∀i el,((es.drop l.toNat).take (hh-l).toNat)[i]?=some el->es[l.toNat+i]?=some el:=by
    intro i el he
    have hi:i<(hh-l).toNat:=by have:=(bmk.1 he).1;simp at this;omega
    rwa[gu hi,jc]at he
   have hlen:((es.drop l.toNat).take (hh-l).toNat).length=(hh-l).toNat:=by simp;omega
   cases hx with
   |psl _ _ B o cap arr e' fr hB hM hcap hz hsz hv=>
     have hrun:=abd (P:=P) (w:=w) (a:=some ⟨B,o,none⟩) (len:=es.length) (cap:=cap) ht hs (ab3 hl hb h0 h1 h2 hcap);refine qb.still h ?_ hrun
     have hsub:hh.toNat-l.toNat=(hh-l).toNat:=by omega
     by_cases hcl:cap=l.toNat
     .rw[dw hcl,hsub]
      have e0:(hh-l).toNat=0:=by omega
      rw[e0]at hlen |-;rw[fq];exact .psl0 _ _ _
     .rw[fu hcl,hsub,mh,ahb]
      have hmul:l.toNat*sz'+(hh-l).toNat*sz'<=es.length*sz':=by
       rw[<- zu];exact qd _ (by omega)
      have key:VR μ Mt w (.psl ((es.drop l.toNat).take (hh-l).toNat) sz') (.slice (some ⟨B,o+l.toNat*sz',none⟩) ((es.drop l.toNat).take (hh-l).toNat).length (cap-l.toNat)):=by
       refine .psl _ sz' B (o+l.toNat*sz') (cap-l.toNat) arr e' fr hB hM (by rw[hlen];omega) (fun i el he=>hz _ el (hdt i el he)) (by rw[hlen];omega) (fun i el j a b he ha hb'=>?_)
       refine hv _ el j a b (hdt i el he) ha ?_;rw[zu];rw[<- hb']
       congr 1
       omega
      rw[hlen]at key;exact key
   |psl0 _ cap a=>
     have hrun:=abd (P:=P) (w:=w) (a:=some a) (len:=0) (cap:=cap) (sz:=sz') ht hs (ab3 hl (by simpa using hb) h0 h1 (by simpa using h2) (by omega))
     have e1:hh.toNat-l.toNat=0:=by simp at h2;omega
     rw[e1]at hrun;refine qb.still h ?_ hrun;simp only[oq,List.take_nil]
     have e2:l.toNat=0:=by simp at h2;omega
     split
     .exact .psl0 _ _ _
     .simp only[mh];exact .psl0 _ _ _
  .simp at hev
 .rename_i id g off len sz';split at hev
  .rename_i hc;obtain⟨hb,h0,h1,h2,rfl⟩:=hc;simp at hev;subst hev
   have hsub:hh.toNat-l.toNat=(hh-l).toNat:=by omega
   cases hx with
   |sl _ _ _ _ _ B b cap arr e' hm hB hcap hsz=>
     have hrun:=abd (P:=P) (w:=w) (a:=some ⟨B,b+off,none⟩) (len:=len) (cap:=cap) ht hs (ab3 hl hb h0 h1 h2 hcap);refine qb.still h ?_ hrun;by_cases hcl:cap=l.toNat
     .rw[dw hcl,hsub]
      have e0:(hh-l).toNat=0:=by omega
      have e1:cap-l.toNat=0:=by omega
      rw[e0,e1];exact .sl0 _ _ _ _ B b _ hm
     .rw[fu hcl,hsub,mh,ahb,yh]
      have hmul:l.toNat*sz'+(cap-l.toNat)*sz'=cap*sz':=by
       rw[<- zu];congr 1;omega
      exact .sl id g _ _ sz' B b _ arr e' hm hB (by omega) (by omega)
   |sl0 _ _ _ _ B b a hm=>
     have hrun:=abd (P:=P) (w:=w) (a:=some a) (len:=0) (cap:=0) (sz:=sz') ht hs (ab3 hl (by simpa using hb) h0 h1 (by simpa using h2) (by omega))
     have e1:hh.toNat-l.toNat=0:=by simp at h2;omega
     have e2:l.toNat=0:=by simp at h2;omega
     rw[e1,e2]at hrun;refine qb.still h ?_ hrun;simp only[jf]
     rw[show(hh-l).toNat=0 by omega]
     exact .sl0 _ _ _ _ B b _ hm
  .simp at hev
 .simp at hev
def azm(h:HR CC μ Mt w H){t e sz x v c lo k1 k2}(ht:P.underlying t=some (.slice e))(hs:yl P e=some sz)(hx:VR μ Mt w x c)(hl:asc lo 0 0)(hev:(match(generalizing:=false) x with
      |.s (.slice none 0 0)=>some (ow,H)
      |.esl=>some (.esl,H)
      |.psl _ _=>some (.esl,H)
      |.sl _ _ _ _ _=>some (.esl,H)
      |_=>none)=some (v,H')):
 qb CC μ Mt w H ((do pure (.value (<- Instr.sliceAt t c lo (some (.int k1 0)) (some (.int k2 0)))):Sem Next).run P w) v H':=by
 have hrun:∀a len cap,((do pure (.value (<- Instr.sliceAt t (.slice a len cap) lo (some (.int k1 0)) (some (.int k2 0)))):Sem Next).run P w)=.ok (.value (.slice a 0 0)) w:=by
  intro a len cap;rw[abd ht hs (awd hl)];simp
 split at hev<;>simp at hev
 all_goals obtain⟨rfl,rfl⟩:=hev
 .rw[aa6 hx];exact qb.still h (.s _) (hrun _ _ _)
 all_goals
  cases hx<;>exact qb.still h (.esl _) (hrun _ _ _)
def azv{t s lo hi}{l h:Int}(ht:P.underlying t=some .string)(hl:asc lo 0 l)(hh:asc hi s.size h)(h0:0<=l)(h1:l<=h)(h2:h<=s.size):
 ((do pure (.value (<- Instr.sliceAt t (.string s) lo hi none)):Sem Next).run P w)=.ok (.value (.string (s.extract l.toNat h.toNat))) w:=by
 simp only[Instr.sliceAt,Sem.run_bind,run_underlying ht,bm0,Instr.slice,Option.isSome_none,ic,ky,ab3 (P:=P) (w:=w) (s:=false) hl hh h0 h1 h2 (aj _),Sem.run_pure]
end
open Go.RowKit
section
variable {CC:CX} {μ μ':Mu} {Mt Mt':Nat->Prop} {w w':World} {H H':Heap} {P:Program}
def ayi{t e}{i:TypeInfo}{z k1 k2}{l c:Int}(ht:P.underlying t=some (.slice e))(hi:P.info? e=some i)(hz:aej P e=some z)(hs:0<i.size)(hb:0<i.bytes)(hzl:z.cells.length=i.size)(h0:0<=l)(h1:l<=c)(h2:c*i.bytes<=2^47):
 ahc CC μ Mt w ((do pure (.value (<- Instr.makeSlice t (.int k1 l) (.int k2 c))):Sem Next).run P w) (fun id=>.sl id 0 0 l.toNat i.size) (.cells 0 (List.replicate l.toNat z.cells).flatten):=by
 obtain⟨zv,z1,z2,i',hi',_⟩:=abp (w:=w) hz;have hzc:=ab9 (μ:=μ) (Mt:=Mt) (w:=w) (aat z2) (y9 z2)
 have hzs:zv.cells.size=i.size:=by rw[<- hzl,hzc.1];simp
 have hcb:c<=c*i.bytes:=by
  have:c*1<=c*(i.bytes:Int):=Int.mul_le_mul_of_nonneg_left (by omega) (by omega)
  omega
 have hc47:c<=140737488355328:=by simp at h2;omega
 have wl:IntKind.i64.wrap l=l:=IntWalk.i64_in _ (by omega)
 have wc:IntKind.i64.wrap c=c:=IntWalk.i64_in _ (by omega)
 have hsz:(sizeOf e).run P w=.ok i.size w:=run_sizeOf (by simp[yl,hi])
 have hcond:((decide (c<0)||decide ((i.bytes:Int)*c > 2^48))||decide (l<0)||decide (l > c))=false:=by
  have:(i.bytes:Int)*c<=2^47:=by rw[Int.mul_comm];exact h2
  simp;simp at this;omega
 have hrows:∀arr:Array Value,arr.toList=(List.replicate c.toNat zv.cells.toList).flatten->((do pure (.value (<- Instr.makeSlice t (.int k1 l) (.int k2 c))):Sem Next).run P w)=.ok (.value (.slice (some ⟨w.heap.size,0,none⟩) l.toNat c.toNat)) (w.alloc (.cells arr e)):=by
  intro arr harr
  have hinfo:(typeInfo e).run P w=.ok i w:=by simp[typeInfo,hi]
  simp only[Instr.makeSlice,Sem.run_bind,run_underlying ht,bm0,asInt,asIntOf,Sem.run_pure,hinfo,wl,wc,Sem.run_ite,hcond,ic,ky,run_askRoom,hsz];by_cases hn:c.toNat*i.size=0
  .have hc0:c.toNat=0:=by rcases Nat.mul_eq_zero.1 hn with h|h<;>omega
   have harr0:arr=#[]:=by
    apply xz;rw[harr,hc0];rfl
   have em:∀f:Nat->Value,Array.map f (Array.range 0)=#[]:=fun f=>by apply afo;simp
   simp only[hn,jf,Sem.run_pure,bm0,em,newRow,Sem.run_bind,run_newObj,harr0];rfl
  .have harr1:Array.map (fun x=>zv.cells[x % zv.cells.size]!) (Array.range (c.toNat*i.size))=arr:=by
    apply xz
    rw[harr,<- aec zv.cells.toList c.toNat (by simp;omega)]
    simp[hzs]
   simp only[hn,ky,Sem.run_bind,z1,Sem.run_pure,bm0,newRow,run_newObj,harr1];rfl
 have hlc:l.toNat<=c.toNat:=by omega
 have hvr:VRs μ Mt w (List.replicate l.toNat z.cells).flatten (List.replicate l.toNat zv.cells.toList).flatten:=hzc.flatten_replicate _
 have hsplit:(List.replicate c.toNat zv.cells.toList).flatten=(List.replicate l.toNat zv.cells.toList).flatten++(List.replicate (c.toNat-l.toNat) zv.cells.toList).flatten:=by
  rw[<- qx,List.replicate_append_replicate]
  congr 2;omega
 have hll:(List.replicate l.toNat zv.cells.toList).flatten.length=l.toNat*i.size:=by simp[hzs]
 have hcl:(List.replicate c.toNat zv.cells.toList).flatten.length=c.toNat*i.size:=by simp[hzs]
 have hzone:(List.replicate l.toNat z.cells).flatten.all V.one=true:=by
  rw[bq];intro x hx;obtain⟨r,hr,hxr⟩:=aoj.1 hx;rw[(ajf.1 hr).2]at hxr;have:=y9 z2;rw[bq]at this;exact this x hxr
 have hob:ObR CC μ Mt w (.cells 0 (List.replicate l.toNat z.cells).flatten) 0 (.cells (List.replicate c.toNat zv.cells.toList).flatten.toArray e (0,0)):=by
  refine⟨rfl,?_,fun j a v ha hv=>?_,ak1.one hzone⟩
  .rw[ug,hvr.1,hll,hcl,ng];exact qd _ hlc
  .have hj:j<(List.replicate l.toNat zv.cells.toList).flatten.length:=by rw[<- hvr.1];exact(bmk.1 ha).1
   rw[ng,vz,hsplit,ah hj]at hv;exact hvr.2 j a v ha hv
 refine⟨_,_,hrows (List.replicate c.toNat zv.cells.toList).flatten.toArray (by simp),hob,fun id μ' Mt' hm=>?_⟩
 refine .sl id 0 0 l.toNat i.size w.heap.size 0 c.toNat _ e hm (xw (w:=w) rfl) hlc ?_;rw[ug,hcl];simp
def a8b(h:HR CC μ Mt w H){t e}{i:TypeInfo}{z k1 k2}{l c:Int}(ht:P.underlying t=some (.slice e))(hi:P.info? e=some i)(hz:aej P e=some z)(hs:0<i.size)(hb:0<i.bytes)(hzl:z.cells.length=i.size)(h0:0<=l)(h1:l<=c)(h2:c*i.bytes<=2^47):
 qb CC μ Mt w H ((do pure (.value (<- Instr.makeSlice t (.int k1 l) (.int k2 c))):Sem Next).run P w) (.sl H.length 0 0 l.toNat i.size) (H++[.cells 0 (List.replicate l.toNat z.cells).flatten]):=
 (ayi ht hi hz hs hb hzl h0 h1 h2).op h
theorem flat_get{sz}(h0:0<sz):∀{es:List (List V)},(∀el∈es,el.length=sz)->∀i,es.flatten[i]?=(es[i / sz]?).bind (·[i % sz]?):=by
 intro es
 induction es with
 |nil=>intro _ i;simp
 |cons el es ih=>
   intro hz i
   have hel:=hz el (by simp)
   rw[uu];by_cases hi:i<sz
   .rw[ah (by omega),Nat.div_eq_of_lt hi,Nat.mod_eq_of_lt hi];rfl
   .rw[bz (by omega),ih (fun e he=>hz e (by simp[he])),hel]
    have e1:i / sz=(i-sz) / sz+1:=by
     rw[Nat.div_eq_sub_div h0 (by omega)]
    have e2:i % sz=(i-sz) % sz:=Nat.mod_eq_sub_mod (by omega)
    rw[e1,e2];rfl
def as7{es sz c}(h0:0<sz)(h:VR μ Mt w (.psl es sz) c):∃a cap,c=.slice (some a) es.length cap/\es.flatten.length=es.length*sz/\ald μ Mt w es.flatten a:=by
 cases h with
 |psl _ _ B o cap arr e fr hB hM hc hz hs hv=>
   have hz':∀el∈es,el.length=sz:=fun el hel=>by
    obtain⟨i,hi,rfl⟩:=vk hel;exact hz i _ (af hi)
   have hlen:es.flatten.length=es.length*sz:=by
    clear hv hs hc hz
    induction es with
    |nil=>simp
    |cons e es ih=>rw[uu,gm,ih (fun x hx=>hz' x (by simp[hx])),hz' e (by simp),bn,zu];omega
   refine⟨_,cap,rfl,hlen,ae8 hB (by omega) (fun i a b ha hb=>?_)⟩
   rw[flat_get h0 hz']at ha;rw[ak]at ha;obtain⟨el,hel,ha⟩:=ha;refine(hv _ el _ a b hel ha ?_).vr;rw[<- hb]
   congr 1
   have:=Nat.div_add_mod i sz;rw[Nat.mul_comm]at this;omega
 |psl0 _ cap a=>exact⟨a,cap,rfl,by simp,[],VRs.nil,fun j v hv=>by simp at hv⟩
def zf{sz m cap:Nat}{a:Addr}{vs:List Value}(hl:vs.length=m*sz)(hc:∀(j:Nat) (v:Value),vs[j]?=some v->w.cell? (a.add j)=some v){w'':World}(hw:w''.heap=w.heap):
 (Builtin.firstCells sz m (.slice (some a) m cap)).run P w''=.ok vs.toArray w'':=
 run_firstCells_some (P:=P) w'' sz m a m cap vs hl (fun j v hv=>by rw[<- hc j v hv];simp[World.cell?,hw])
def a6j(h:HR CC μ Mt w H){sz m:Nat}{x:V}{xs:List V}{c:Value}(h0:0<sz)(hx:VR μ Mt w x c)(he:elems H sz x=some (m,xs)):
 xs.length=m*sz/\∃vs:List Value,VRs μ Mt w xs vs/\∀w'':World,w''.heap=w.heap->(Builtin.lenOf c).run P w''=.ok m w''/\(Builtin.firstCells sz m c).run P w''=.ok vs.toArray w'':=by
 unfold elems at he;dsimp only at he;split at he
 .cases he;rw[aa6 hx]
  exact⟨by simp,[],VRs.nil,fun w'' _=>⟨rfl,rfl⟩⟩
 .cases he;cases hx with
  |esl a=>exact⟨by simp,[],VRs.nil,fun w'' _=>⟨rfl,zf (w:=w) (by simp) (fun j v hv=>by simp at hv) ‹_›⟩⟩
 .rename_i es sz';split at he
  .rename_i hsz;subst hsz;cases he;obtain⟨a,cap,rfl,hl,vs,hv,hc⟩:=as7 h0 hx
   exact⟨hl,vs,hv,fun w'' hw=>⟨rfl,zf (by rw[<- hv.1,hl]) hc hw⟩⟩
  .simp at he
 .rename_i id g off len sz';split at he
  .rename_i hsz;subst hsz;split at he
   .rename_i cs hcs;split at he
    .rename_i hlen;cases he;cases hx with
     |sl _ _ _ _ _ B b cap arr e hm hB hcap hsz=>
       obtain⟨vs,hv,hc⟩:=h.place hcs hm hlen
       exact⟨hlen,vs,hv,fun w'' hw=>⟨rfl,zf (by rw[<- hv.1,hlen]) hc hw⟩⟩
     |sl0 _ _ _ _ B b a hm=>
       refine⟨by simp,[],⟨by simp,fun i a b h=>by simp at h⟩,fun w'' hw=>⟨rfl,zf (w:=w) (by simp) (fun j v hv=>by simp at hv) hw⟩⟩
    .simp at he
   .simp at he
  .simp at he
 .simp at he
def aq2{ts ty t t' e}{i:TypeInfo}{zv base sLen sCap m c olds vs}(h0:ts[0]?=some t)(h1:ts[1]?=some t')(ht:P.underlying t=some (.slice e))(ht':(∃e',P.underlying t'=some (.slice e'))\/P.underlying t'=some .string)(hi:P.info? e=some i)(hz:i.zero=some zv)(hb:0<i.bytes)(hlen:(Builtin.lenOf c).run P w=.ok m w)(hold:(Builtin.firstCells i.size sLen (.slice base sLen sCap)).run P w.drew=.ok olds w.drew)(hnew:(Builtin.firstCells i.size m c).run P w.drew=.ok vs w.drew)(hg:sCap<sLen+m)(hbytes:(sLen+m)*i.bytes<=140737488355328):
 (Builtin.append_ ts ty #[.slice base sLen sCap,c]).run P w=
  .ok (.slice (some ⟨w.heap.size,0,none⟩) (sLen+m) (grownCap w (sLen+m) sCap e)) (w.drew.alloc (.cells (olds++vs++Builtin.zeroCells zv.cells (grownCap w (sLen+m) sCap e-(sLen+m))) e)):=by
 have hn:¬(sLen+m<=sCap):=by omega
 have hfit:=growslice_fits (bytes:=i.bytes) hg hbytes
 have h48':¬(281474976710656<Builtin.nextslicecap (sLen+m) sCap*i.bytes):=by omega
 have hb0:¬(i.bytes=0):=by omega
 rcases ht' with⟨e',ht'⟩|ht' <;>
  simp[Builtin.append_,run_underlying ht,run_underlying ht',h0,h1,sizeOf,typeInfo,zeroValue,hi,hz,hlen,hn,h48',hb0,Question.forced,hold,hnew,newRow,grownCap]
def alv{ts ty t t' e}{i:TypeInfo}{base sLen sCap m c vs}(h0:ts[0]?=some t)(h1:ts[1]?=some t')(ht:P.underlying t=some (.slice e))(ht':(∃e',P.underlying t'=some (.slice e'))\/P.underlying t'=some .string)(hi:P.info? e=some i)(hlen:(Builtin.lenOf c).run P w=.ok m w)(hnew:(Builtin.firstCells i.size m c).run P w=.ok vs w)(hr:sLen+m<=sCap)(hst:∀a,base=some a->(storeCells (a.add (sLen*i.size)) vs.toList).run P w=.ok () w')(hst':base=none->w'=w):
 (Builtin.append_ ts ty #[.slice base sLen sCap,c]).run P w=.ok (.slice base (sLen+m) sCap) w':=by
 cases base with
 |none=>
   rw[hst' rfl]
   rcases ht' with⟨e',ht'⟩|ht' <;>
    simp[Builtin.append_,run_underlying ht,run_underlying ht',h0,h1,sizeOf,typeInfo,hi,hlen,hr,hnew]
 |some a=>
   have:=hst a rfl
   rcases ht' with⟨e',ht'⟩|ht' <;>
    simp[Builtin.append_,run_underlying ht,run_underlying ht',h0,h1,sizeOf,typeInfo,hi,hlen,hr,hnew,this]
end
open Go.RowKit
section
variable {CC:CX} {μ μ':Mu} {Mt Mt':Nat->Prop} {w w':World} {H H':Heap} {P:Program}
def HR.next(h:HR CC μ Mt w H){id g c}(hc:getC H id g=some c):μ id (g+1)=none:=by
 cases e:μ id (g+1)with
 |none=>rfl
 |some p=>have:=h.gens _ _ _ _ _ e (yx hc) rfl;omega
def HR.nextB(h:HR CC μ Mt w H){id g l}(hc:H[id]?=some (.bytes g l)):μ id (g+1)=none:=by
 cases e:μ id (g+1)with
 |none=>rfl
 |some p=>have:=h.gens _ _ _ _ _ e hc rfl;omega
def a6w(P e b):b<=apy P e b:=by
 unfold apy;split
 .split<;>omega
 .exact aj _
def a6v(P){e b}(_:0<b):apy P e b=1->bha P e=true:=by
 unfold apy;split
 .split
  .intro _;assumption
  .intro h;cases h
 .rename_i h;intro h2;exact absurd h2 h
def u8C(x:UInt8):Value:=.int .u8 x.toNat
theorem avb [BtOk CC P] (h:HR CC μ Mt w H) {ts:Array TypeId} {ty t t' e:TypeId} {i:TypeInfo} {base bytes:Nat} {s x v:V} {cs c:Value}
 (h0:ts[0]?=some t) (h1:ts[1]?=some t') (ht:P.underlying t=some (.slice e)) (ht':(∃ e',P.underlying t'=some (.slice e'))∨P.underlying t'=some .string) (hi:P.info? e=some i)
 {zv:Value} (hzv:i.zero=some zv) (hzi:zv.cells.size=i.size) (hb:0 < i.bytes) (hib:i.bytes≤bytes) (h8:bytes=1→bha P e=true) (hs:VR μ Mt w s cs) (hx:VR μ Mt w x c) (hev:aky H base i.size bytes s x=some (v,H')):
 qb CC μ Mt w H ((do pure (.value (← Builtin.append_ ts ty #[cs,c])):Sem Next).run P w) v H':=by
 unfold aky at hev;split at hev
 case h_2=>cases hev
 rename_i b;split at hev
 case isFalse=>cases hev
 rename_i hc1;obtain ⟨hsz1,hby⟩:=hc1;have hcx:=aa6 hx;subst hcx;have hu8:CC.b8 e=true:=BtOk.ok8 (P:=P) _ (h8 hby)
 have hib1:i.bytes≤1:=by omega
 have hvl:(b.data.toList.map u8C).length=b.size:=by simp
 have hlen:∀ w'':World,(Builtin.lenOf (.string b)).run P w''=.ok b.size w'':=fun _=>rfl
 have hfc:∀ w'':World,(Builtin.firstCells i.size b.size (.string b)).run P w''=.ok (b.data.toList.map u8C).toArray w'':=by
  intro w'';simp only [Builtin.firstCells,Sem.run_pure]
  congr 1
  apply xz
  have:b.extract 0 b.size=b:=by simp
  rw [this];simp [u8C]
 have hone:((b.data.toList.map u8C).map V.s).all V.one=true:=by
  rw [bq];intro x hx;simp only [aa4] at hx;obtain ⟨_,⟨u,_,rfl⟩,rfl⟩:=hx;rfl
 have hvs:VRs μ Mt w ((b.data.toList.map u8C).map V.s) (b.data.toList.map u8C):=by
  refine ⟨by simp,fun i p q hp hq=>?_⟩
  rw [nz,hq] at hp;cases hp;exact .s _
 have stay:∀ (a:Option Addr) (len cap:Nat),b.size=0→len≤cap→((do pure (.value (← Builtin.append_ ts ty #[.slice a len cap,.string b])):Sem Next).run P w)=.ok (.value (.slice a len cap)) w:=by
  intro a len cap hm hc
  have hvn:b.data.toList.map u8C=[]:=jb (by omega)
  have h2:=hfc w;rw [hvn] at h2
  have:=alv (P:=P) (w:=w) (w':=w) (base:=a) (sLen:=len) (sCap:=cap) (ty:=ty) h0 h1 ht ht' hi (hlen w) h2 (by omega) (fun _ _=>rfl) (fun _=>rfl)
  simp [this,hm]
 have grown:∀ (a:Option Addr) (len cap:Nat) (l:List UInt8),l.length=len→(Builtin.firstCells i.size len (.slice a len cap)).run P w.drew=.ok (l.map u8C).toArray w.drew→cap < len+b.size→(len+b.size)≤2 ^ 47→
  ((do pure (.value (← Builtin.append_ ts ty #[.slice a len cap,.string b])):Sem Next).run P w)=.ok (.value (.slice (some ⟨w.heap.size,0,none⟩) (len+b.size) (grownCap w (len+b.size) cap e))) (w.drew.alloc (.cells ((l.map u8C).toArray ++ (b.data.toList.map u8C).toArray ++ Builtin.zeroCells zv.cells (grownCap w (len+b.size) cap e - (len+b.size))) e)):=by
  intro a len cap l hll hold hg hbb
  have:=aq2 (P:=P) (w:=w) (base:=a) (sLen:=len) (sCap:=cap) (ty:=ty) h0 h1 ht ht' hi hzv hb (hlen w) hold (hfc w.drew) hg (qa (ahd _ hib1) (by rw [ab1];exact hbb))
  simp only [Sem.run_bind,this,bm0,Sem.run_pure]
 have hzs:∀ k,(Builtin.zeroCells zv.cells k).size=k:=fun k=>by rw [size_zeroCells,hzi,hsz1,ab1]
 have hobj:∀ (g:Nat) (l:List UInt8) (k:Nat),ObR CC μ Mt w (.bytes g (l ++ b.data.toList)) 0 (.cells ((l.map u8C).toArray ++ (b.data.toList.map u8C).toArray ++ Builtin.zeroCells zv.cells k) e (0,0)):=by
  intro g l k
  refine ⟨rfl,hu8,by simp,fun j x hj=>?_⟩
  have hjl:=(bmk.1 hj).1
  have e1:(l.map u8C).toArray ++ (b.data.toList.map u8C).toArray=((l ++ b.data.toList).map u8C).toArray:=by simp
  rw [ng,e1,ah9 (by simpa using hjl),vz,nz,hj]
  rfl
 split at hev
 ·
  have hcs:=aa6 hs;subst hcs;split at hev
  ·rename_i hm;cases hev;exact qb.still h (.s _) (stay none 0 0 hm (aj _))
  ·rename_i hm;split at hev
   case isFalse=>cases hev
   rename_i hbb;cases hev
   have hr:=grown none 0 0 [] rfl (by simp [Builtin.firstCells]) (by omega) (by omega)
   rw [ng] at hr;refine ⟨_,_,_,_,.inl hr,?_,af7 h _ (.bytes 0 b.data.toList) (hobj 0 [] _) rfl rfl rfl rfl⟩;refine .sl H.length 0 0 b.size 1 w.heap.size 0 _ _ e (uo _ _ _ _) (xw (w:=w) rfl) (grownCap_ge _ _ _ _) ?_;have:=grownCap_ge w b.size 0 e;simp only [ng,alg,ug,hvl,hzs,ab2,d9];omega
 ·
  rename_i id g len;split at hev
  case isFalse=>cases hev
  rename_i hbase;split at hev
  case h_2=>cases hev
  rename_i g' l hH;split at hev
  case isFalse=>cases hev
  rename_i hgl;obtain ⟨rfl,hl⟩:=hgl;split at hev
  ·rename_i hm;cases hev;cases hs with
   | sl _ _ _ _ _ B b cap arr e' hm' hB hcap hs'=>exact qb.still h (.sl _ _ _ _ _ B b cap arr e' hm' hB hcap hs') (stay _ _ _ hm hcap)
   | sl0 _ _ _ _ B b a hm'=>exact qb.still h (.sl0 _ _ _ _ B b a hm') (stay _ _ _ hm (aj _))
  ·rename_i hm;split at hev
   case isFalse=>cases hev
   rename_i hbb;cases hev;have move:∀ (a:Option Addr) (cap:Nat) (p0:Nat × Nat),μ id g'=some p0→(Builtin.firstCells i.size len (.slice a len cap)).run P w.drew=.ok (l.map u8C).toArray w.drew→cap < len+b.size→
    qb CC μ Mt w H ((do pure (.value (← Builtin.append_ ts ty #[.slice a len cap,.string b])):Sem Next).run P w) (.sl id (g'+1) 0 (len+b.size) 1) (H.set id (.bytes (g'+1) (l ++ b.data.toList))):=by
    intro a cap p0 hnm hold hg;have hr:=grown a len cap l hl.symm hold hg hbb
    refine ⟨_,_,_,_,.inl hr,?_,as9 h _ (g'+1) hH hnm (h.nextB hH) (fun j hj=>hj.symm) (fun j e' k q hk=>by cases e';have:=h.gens _ _ _ _ _ hk hH rfl;omega) (hobj _ _ _) rfl rfl rfl rfl⟩
    refine .sl id (g'+1) 0 (len+b.size) 1 w.heap.size 0 _ _ e (uo _ _ _ _) (xw (w:=w) rfl) (grownCap_ge _ _ _ _) ?_;have:=grownCap_ge w (len+b.size) cap e;simp only [ng,alg,ug,hvl,hzs,aay];omega
   cases hs with
   | sl0 _ _ _ _ B bb a hm'=>
     have hl0:l=[]:=jb hl.symm
     refine move (some a) 0 (B,bb) hm' ?_ (by omega)
     rw [hl0];simp [Builtin.firstCells,loadCells,loadCellsFrom]
   | sl _ _ _ _ _ B bb cap arr e0 hm' hB hcap hs'=>
     obtain ⟨o,ho,hr⟩:=h.objs id _ g' B bb hH rfl hm';rw [hB] at ho;cases ho;obtain ⟨rfl,h8',hfit,hcells⟩:=hr;by_cases hroom:len+b.size≤cap
     ·have hst:=run_storeCells_at P B (bb+0+len * i.size) e0 (b.data.toList.map u8C) 0 arr w hB (by rw [hsz1];omega) (au5 hvs hone)
      have hlz:len * i.size=len:=by rw [hsz1,ab1]
      simp only [o7,hlz,hvl] at hst
      have hrn:=alv (P:=P) (w:=w) (base:=some ⟨B,bb+0,none⟩) (sLen:=len) (sCap:=cap) (ty:=ty) h0 h1 ht ht' hi (hlen w) (hfc w) hroom (fun a ha=>by cases ha;rw [ahb,hlz];exact hst) (fun h=>by cases h)
      have hrn2:((do pure (.value (← Builtin.append_ ts ty #[.slice (some ⟨B,bb+0,none⟩) len cap,.string b])):Sem Next).run P w)=.ok (.value (.slice (some ⟨B,bb+0,none⟩) (len+b.size) cap)) (w.setRow B (arr.toList.take (bb+len) ++ b.data.toList.map u8C ++ arr.toList.drop (bb+len+b.size)).toArray):=by
       simp only [Sem.run_bind,hrn,bm0,Sem.run_pure]
      have hsz2:((arr.toList.take (bb+len) ++ b.data.toList.map u8C ++ arr.toList.drop (bb+len+b.size)).toArray).size=arr.size:=by simp;omega
      refine ⟨.slice (some ⟨B,bb+0,none⟩) (len+b.size) cap,_,_,_,.inl hrn2,?_,as8 h (ob':=.bytes (g'+1) (l ++ b.data.toList)) (o':=.cells (arr.toList.take (bb+len) ++ b.data.toList.map u8C ++ arr.toList.drop (bb+len+b.size)).toArray e0 (0,0)) (g'+1) bb hH rfl hm' hB (fun a1 e1 f1 h1'=>by cases h1';exact ⟨_,_,rfl,hsz2⟩) (by simp) (.inr ⟨h.nextB hH,by omega⟩) (fun j hj=>hj.symm) (fun j e' k q hk=>by cases e';have:=h.gens _ _ _ _ _ hk hH rfl;omega) (ams hB) rfl rfl rfl trivial ?_ (fun a1 e1 h1'=>by cases h1';exact ⟨_,rfl⟩)⟩
      ·exact .sl id (g'+1) 0 (len+b.size) 1 B bb cap _ e0 (uo _ _ _ _) (setRow_heap w B arr _ e0 (0,0) hB) hroom (by rw [hsz2];omega)
      ·intro _ μ' Mt' _ _
       refine ⟨rfl,h8',by rw [hsz2,gm,← hl];have:b.data.toList.length=b.size:=by simp
                          omega,fun j x hj=>?_⟩
       have hbl:b.data.toList.length=b.size:=by simp
       rw [vz];by_cases c1:j < l.length
       ·rw [ah c1] at hj;have:=hcells j x hj
        rw [ku,ah (by simp;omega),gu (by omega),Array.getElem?_toList]
        exact this
       ·rw [bz (by omega)] at hj
        have hj2:=(bmk.1 hj).1
        rw [ku,bz (by simp;omega),ah (by simp;omega),nz]
        have e2:bb+j - (arr.toList.take (bb+len)).length=j - l.length:=by simp;omega
        rw [e2,hj];rfl
     ·refine move _ cap (B,bb) hm' (run_firstCells_some (P:=P) w.drew i.size len _ len cap _ (by rw [hsz1];simp [hl]) (fun j v hv=>?_)) (by omega)
      rw [nz,bu] at hv;obtain ⟨x,hx1,rfl⟩:=hv;rw [ahb];exact (cell_of_heap (w:=w) hB).trans (hcells j x hx1)
 ·cases hev
def azq[BtOk CC P](h:HR CC μ Mt w H){ts ty t t' e}{i:TypeInfo}{base bytes s x v cs c}(h0:ts[0]?=some t)(h1:ts[1]?=some t')(ht:P.underlying t=some (.slice e))(ht':(∃e',P.underlying t'=some (.slice e'))\/P.underlying t'=some .string)(hi:P.info? e=some i){z}(hz:aej P e=some z)(hzl:z.cells.length=i.size)(hsz:0<i.size)(hb:0<i.bytes)(hib:i.bytes<=bytes)(h8:bytes=1->bha P e=true)(hs:VR μ Mt w s cs)(hx:VR μ Mt w x c)(hev:qp H base i.size bytes s x=some (v,H')):
 qb CC μ Mt w H ((do pure (.value (<- Builtin.append_ ts ty #[cs,c])):Sem Next).run P w) v H':=by
 obtain⟨zv,z1,z2,i',hi',hzv⟩:=abp (w:=w) hz;rw[hi]at hi';cases hi';have hzc:=ab9 (μ:=μ) (Mt:=Mt) (w:=w) (aat z2) (y9 z2)
 have hzi:zv.cells.size=i.size:=by rw[<- hzl,hzc.1];simp
 unfold qp at hev;split at hev
 .exact avb h h0 h1 ht ht' hi hzv hzi hb hib h8 hs hx hev
 rename_i m xs he;obtain⟨hxl,vs,hvs,hrun⟩:=a6j (P:=P) h hsz hx he;obtain⟨hl0,hf0⟩:=hrun w rfl;obtain⟨hl1,hf1⟩:=hrun w.drew rfl
 have hvl:vs.length=m*i.size:=by rw[<- hvs.1,hxl]
 split at hev
 case isFalse=>simp at hev
 rename_i hone
 have stay:∀(a:Option Addr) (len cap:Nat),m=0->len<=cap->((do pure (.value (<- Builtin.append_ ts ty #[.slice a len cap,c])):Sem Next).run P w)=.ok (.value (.slice a len cap)) w:=by
  intro a len cap hm hc;subst hm
  have hvn:vs=[]:=jb (by simpa using hvl)
  subst hvn
  have:=alv (P:=P) (w:=w) (w':=w) (base:=a) (sLen:=len) (sCap:=cap) (ty:=ty) h0 h1 ht ht' hi hl0 hf0 (by omega) (fun _ _=>rfl) (fun _=>rfl)
  simp[this]
 have fresh:∀(a:Option Addr),(a=none\/∃b,a=some b)->m≠0->m*i.bytes<=2^47->
  ((do pure (.value (<- Builtin.append_ ts ty #[.slice a 0 0,c])):Sem Next).run P w)=.ok (.value (.slice (some ⟨w.heap.size,0,none⟩) m (grownCap w m 0 e))) (w.drew.alloc (.cells (vs.toArray++Builtin.zeroCells zv.cells (grownCap w m 0 e-m)) e))/\m<=grownCap w m 0 e:=by
  intro a _ hm hbb
  have hold:(Builtin.firstCells i.size 0 (.slice a 0 0)).run P w.drew=.ok #[] w.drew:=by
   cases a<;>simp[Builtin.firstCells,loadCells,loadCellsFrom]
  have:=aq2 (P:=P) (w:=w) (base:=a) (sLen:=0) (sCap:=0) (ty:=ty) h0 h1 ht ht' hi hzv hb hl0 hold hf1 (by omega) (by rw[ng];exact hbb)
  rw[ng]at this;refine⟨?_,grownCap_ge w m 0 e⟩;simp[this]
 have newRes:∀(a:Option Addr),(a=none\/∃b,a=some b)->m≠0->m*i.bytes<=2^47->cs=.slice a 0 0->
  qb CC μ Mt w H ((do pure (.value (<- Builtin.append_ ts ty #[cs,c])):Sem Next).run P w) (.sl H.length 0 0 m i.size) (H++[.cells 0 xs]):=by
  intro a ha hm hbb hcs;obtain⟨hr,hge⟩:=fresh a ha hm hbb;rw[hcs];have hzs:(Builtin.zeroCells zv.cells (grownCap w m 0 e-m)).size=(grownCap w m 0 e-m)*zv.cells.size:=size_zeroCells _ _
  have hob:ObR CC μ Mt w (.cells 0 xs) 0 (.cells (vs.toArray++Builtin.zeroCells zv.cells (grownCap w m 0 e-m)) e (0,0)):=by
   refine⟨rfl,by simp;omega,fun j a v ha hv=>?_,ak1.one hone⟩
   have hj:j<vs.length:=by rw[<- hvs.1];exact(bmk.1 ha).1
   rw[ng,ah9 (by simpa using hj)]at hv
   exact hvs.2 j a v ha (by simpa using hv)
  refine⟨_,_,_,_,.inl hr,?_,af7 h _ _ hob rfl rfl rfl rfl⟩;refine .sl H.length 0 0 m i.size w.heap.size 0 _ _ e (uo _ _ _ _) (xw (w:=w) rfl) hge ?_;simp only[ng,alg,ug,hvl,hzs,hzi,<- zu]
  exact qd _ (by omega)
 split at hev
 .
  have hcs:=aa6 hs;split at hev
  .rename_i hm;cases hev;rw[hcs];exact qb.still h (.s _) (stay none 0 0 hm (aj _))
  .rename_i hm;split at hev
   .rename_i hbb;cases hev;exact newRes none (.inl rfl) hm (qa (ahd _ hib) hbb) hcs
   .cases hev
 .
  cases hs with
  |esl a=>
    split at hev
    .rename_i hm;cases hev;exact qb.still h (.esl a) (stay (some a) 0 0 hm (aj _))
    .rename_i hm;split at hev
     .rename_i hbb;cases hev;exact newRes (some a) (.inr ⟨a,rfl⟩) hm (qa (ahd _ hib) hbb) rfl
     .cases hev
 .
  rename_i es sz';split at hev
  .rename_i hm;cases hev;cases hs with
   |psl es sz' B o cap arr e' fr hB hM hc hz' hs' hv=>
     exact qb.still h (.psl es sz' B o cap arr e' fr hB hM hc hz' hs' hv) (stay _ _ _ hm.1 hc)
   |psl0 _ cap a=>exact qb.still h (.psl0 _ cap a) (stay _ _ _ hm.1 (by omega))
  .cases hev
 .
  rename_i id g off len sz';split at hev
  case isFalse=>cases hev
  rename_i hc;obtain⟨rfl,hbase⟩:=hc;split at hev
  case h_2=>cases hev
  rename_i row hrow;split at hev
  case isFalse=>cases hev
  rename_i hfit;split at hev
  .rename_i hm;cases hev;cases hs with
   |sl _ _ _ _ _ B b cap arr e' hm' hB hcap hs'=>exact qb.still h (.sl _ _ _ _ _ B b cap arr e' hm' hB hcap hs') (stay _ _ _ hm hcap)
   |sl0 _ _ _ _ B b a hm'=>exact qb.still h (.sl0 _ _ _ _ B b a hm') (stay _ _ _ hm (aj _))
  .rename_i hm;split at hev
   case isFalse=>cases hev
   rename_i hbb;replace hbb:=qa (ahd _ hib) hbb;cases hev
   have hlen:((row.drop off).take (len*i.size)).length=len*i.size:=by simp;omega
   have hidl:id<H.length:=(bmk.1 (yx hrow)).1;have move:∀(a:Option Addr) (cap:Nat) (olds:List Value) (g0:Nat) (p0:Nat × Nat),μ id g0=some p0->cap<len+m->VRs μ Mt w ((row.drop off).take (len*i.size)) olds->
    (Builtin.firstCells i.size len (.slice a len cap)).run P w.drew=.ok olds.toArray w.drew->
    qb CC μ Mt w H ((do pure (.value (<- Builtin.append_ ts ty #[.slice a len cap,c])):Sem Next).run P w) (.sl id (g+1) 0 (len+m) i.size) (H.set id (.cells (g+1) ((row.drop off).take (len*i.size)++xs))):=by
    intro a cap olds g0 p0 hnm hg holds hfc;have hr:=aq2 (P:=P) (w:=w) (base:=a) (sLen:=len) (sCap:=cap) (ty:=ty) h0 h1 ht ht' hi hzv hb hl0 hfc hf1 hg hbb;have hge:=grownCap_ge w (len+m) cap e
    have hol:olds.length=len*i.size:=by rw[<- holds.1,hlen]
    have hzs:(Builtin.zeroCells zv.cells (grownCap w (len+m) cap e-(len+m))).size=(grownCap w (len+m) cap e-(len+m))*zv.cells.size:=size_zeroCells _ _;have hall:=holds.append hvs
    have hob:ObR CC μ Mt w (.cells (g+1) ((row.drop off).take (len*i.size)++xs)) 0 (.cells (olds.toArray++vs.toArray++Builtin.zeroCells zv.cells (grownCap w (len+m) cap e-(len+m))) e (0,0)):=by
     refine⟨rfl,by have:=hall.1;simp at this |-;omega,fun j a v ha hv=>?_,ak1.gen (Nat.succ_ne_zero g)⟩
     have hj:j<(olds++vs).length:=by rw[<- hall.1];exact(bmk.1 ha).1
     rw[ng,ah9 (by simpa using hj)]at hv
     exact hall.2 j a v ha (by simpa using hv)
    have hr2:((do pure (.value (<- Builtin.append_ ts ty #[.slice a len cap,c])):Sem Next).run P w)=.ok (.value (.slice (some ⟨w.heap.size,0,none⟩) (len+m) (grownCap w (len+m) cap e))) (w.drew.alloc (.cells (olds.toArray++vs.toArray++Builtin.zeroCells zv.cells (grownCap w (len+m) cap e-(len+m))) e)):=by
     simp only[Sem.run_bind,hr,bm0,Sem.run_pure]
    refine⟨_,_,_,_,.inl hr2,?_,as9 h _ (g+1) (yx hrow) hnm (h.next hrow) (fun j hj=>hj.symm) (fun j e' k q hk=>by cases e';have:=h.gens _ _ _ _ _ hk (yx hrow) rfl;omega) hob rfl rfl rfl rfl⟩
    refine .sl id (g+1) 0 (len+m) i.size w.heap.size 0 _ _ e (uo _ _ _ _) (xw (w:=w) rfl) hge ?_;simp only[ng,alg,ug,hol,hvl,hzs,hzi,<- zu]
    exact qd _ (by omega)
   cases hs with
   |sl0 _ _ _ _ B b a hm'=>
     refine move (some a) 0 [] g (B,b) hm' (by omega) ⟨by simp,fun j a v ha _=>by simp at ha⟩ ?_
     simp[Builtin.firstCells,loadCells,loadCellsFrom]
   |sl _ _ _ _ _ B b cap arr e' hm' hB hcap hs'=>
     by_cases hroom:len+m<=cap
     .
      obtain⟨arr0,e0,hB0,hsz0,hr0⟩:=h.row hrow hm';rw[hB]at hB0;cases hB0
      have hmulc:len*i.size+m*i.size<=cap*i.size:=by rw[<- zu];exact qd _ hroom
      have hst:=run_storeCells_at P B (b+off+len*i.size) e' vs 0 arr w hB (by omega) (au5 hvs hone)
      simp only[o7]at hst
      have hrn:=alv (P:=P) (w:=w) (base:=some ⟨B,b+off,none⟩) (sLen:=len) (sCap:=cap) (ty:=ty) h0 h1 ht ht' hi hl0 hf0 hroom (fun a ha=>by cases ha;rw[ahb];exact hst) (fun h=>by cases h)
      have hsz1:((arr.toList.take (b+off+len*i.size)++vs++arr.toList.drop (b+off+len*i.size+vs.length)).toArray).size=arr.size:=by simp;omega
      have hrn2:((do pure (.value (<- Builtin.append_ ts ty #[.slice (some ⟨B,b+off,none⟩) len cap,c])):Sem Next).run P w)=.ok (.value (.slice (some ⟨B,b+off,none⟩) (len+m) cap)) (w.setRow B (arr.toList.take (b+off+len*i.size)++vs++arr.toList.drop (b+off+len*i.size+vs.length)).toArray):=by
       simp only[Sem.run_bind,hrn,bm0,Sem.run_pure]
      refine⟨.slice (some ⟨B,b+off,none⟩) (len+m) cap,_,_,_,.inl hrn2,?_,agt h (o':=.cells (arr.toList.take (b+off+len*i.size)++vs++arr.toList.drop (b+off+len*i.size+vs.length)).toArray e' (0,0)) (g+1) (b+off) (yx hrow) rfl hm' hB ?_ (by simp) (.inr ⟨h.next hrow,by omega⟩) (fun j hj=>hj.symm) (fun j c' e' k q hk=>by cases e';have:=h.gens _ _ _ _ _ hk (yx hrow) rfl;omega) (ams hB) rfl rfl rfl ?_ ?_⟩
      .exact .sl id (g+1) 0 (len+m) i.size B (b+off) cap _ e' (uo _ _ _ _) (setRow_heap w B arr _ e' (0,0) hB) hroom (by rw[hsz1];omega)
      .intro arr1 e1 fr1 h1';cases h1';exact⟨_,rfl,hsz1⟩
      .intro v hx;have hx:v∈(row.drop off).take (len*i.size)++xs:=hx;have hcw:∀v∈row,VW H.length v:=h.wfn (yx hrow) rfl hm'
       rcases mo.1 hx with hx|hx
       .exact hcw v (agm (acp hx))
       .exact hvs.vw h.dom v hx
      .intro _ μ' Mt' hμ hM;have hk:∀K,K<w.heap.size->¬Mt K->(w.setRow B (arr.toList.take (b+off+len*i.size)++vs++arr.toList.drop (b+off+len*i.size+vs.length)).toArray).heap[K]?=w.heap[K]?:=
        fun K _ hn=>setRow_other w B K _ (fun e=>hn (e▸(h.isMut _ _ _ _ hm').1))
       have hsh:∀(K:Nat) (a0:Array Value) (e:TypeId) (fr:Nat × Nat),w.heap[K]?=some (.cells a0 e fr)->∃arr' fr',(w.setRow B (arr.toList.take (b+off+len*i.size)++vs++arr.toList.drop (b+off+len*i.size+vs.length)).toArray).heap[K]?=some (.cells arr' e fr')/\arr'.size=a0.size:=by
        intro K a0 e0 fr0 hK;by_cases ck:K=B
        .subst ck;rw[hB]at hK;cases hK;exact⟨_,_,setRow_heap w K arr _ e' (0,0) hB,hsz1⟩
        .exact⟨a0,_,(setRow_other w B K _ ck).trans hK,rfl⟩
       refine⟨rfl,by rw[hsz1];have:=hvs.1;simp;omega,?_,ak1.gen (Nat.succ_ne_zero g)⟩
       intro j a v ha hv;have mono:VR μ Mt w a v->VR μ' Mt' (w.setRow B (arr.toList.take (b+off+len*i.size)++vs++arr.toList.drop (b+off+len*i.size+vs.length)).toArray) a v:=
        fun x=>x.mono hμ (fun K hK hm=>(hM K hK).1 hm) hk hsh
       apply mono
       have hv2:(arr.toList.take (b+off+len*i.size)++vs++arr.toList.drop (b+off+len*i.size+vs.length))[b+off+j]?=some v:=by simpa using hv
       by_cases c1:j<len*i.size
       .rw[ah (by omega),gu c1,jc]at ha
        rw[ku,ah (by simp;omega),gu (by omega)]at hv2
        exact hr0 _ a v ha (by rw[<- yh];simpa using hv2)
       .rw[bz (by omega),hlen]at ha
        have hj:j-len*i.size<vs.length:=by rw[<- hvs.1];exact(bmk.1 ha).1
        rw[ku,bz (by simp;omega),ah (by simp;omega)]at hv2
        have e2:b+off+j-(List.take (b+off+len*i.size) arr.toList).length=j-len*i.size:=by simp;omega
        rw[e2]at hv2;exact hvs.2 _ a v ha hv2
     .obtain⟨olds,holds,hcell⟩:=h.place hrow hm' hlen
      exact move (some ⟨B,b+off,none⟩) cap olds g (B,b) hm' (by omega) holds (run_firstCells_some (P:=P) w.drew i.size len _ len cap olds (by rw[<- holds.1,hlen]) (fun j v hv=>by simpa using hcell j v hv))
 .cases hev
def aod(h:HR CC μ Mt w H){sz m x xs c}(h0:0<sz)(hns:∀b,x≠.s (.string b))(hx:VR μ Mt w x c)(he:elems H sz x=some (m,xs)):
 xs.length=m*sz/\∃vs:List Value,VRs μ Mt w xs vs/\((c=.slice none 0 0/\m=0)\/∃a cap,c=.slice (some a) m cap/\∀(j:Nat) (v:Value),vs[j]?=some v->w.cell? (a.add j)=some v):=by
 unfold elems at he;dsimp only at he;split at he
 .cases he;rw[aa6 hx]
  exact⟨by simp,[],VRs.nil,.inl ⟨rfl,rfl⟩⟩
 .cases he;cases hx with
  |esl a=>exact⟨by simp,[],VRs.nil,.inr ⟨a,0,rfl,fun j v hv=>by simp at hv⟩⟩
 .rename_i es sz';split at he
  .rename_i hsz;subst hsz;cases he;obtain⟨a,cap,rfl,hl,vs,hv,hc⟩:=as7 h0 hx;exact⟨hl,vs,hv,.inr ⟨a,cap,rfl,hc⟩⟩
  .simp at he
 .rename_i id g off len sz';split at he
  .rename_i hsz;subst hsz;split at he
   .rename_i cs hcs;split at he
    .rename_i hlen;cases he;cases hx with
     |sl _ _ _ _ _ B b cap arr e hm hB hcap hsz=>
       obtain⟨vs,hv,hc⟩:=h.place hcs hm hlen;exact⟨hlen,vs,hv,.inr ⟨_,cap,rfl,hc⟩⟩
     |sl0 _ _ _ _ B b a hm=>
       refine⟨by simp,[],⟨by simp,fun i a b h=>by simp at h⟩,.inr ⟨a,0,rfl,fun j v hv=>by simp at hv⟩⟩
    .simp at he
   .simp at he
  .simp at he
 .simp at he
def a8c(h:HR CC μ Mt w H){t e sz ts ty d s v cd cs base}(hts:ts[0]?=some t)(ht:P.underlying t=some (.slice e))(hsz:yl P e=some sz)(h0:0<sz)(hev:copyV H base sz d s=some (v,H'))(hd:VR μ Mt w d cd)(hs:VR μ Mt w s cs):qb CC μ Mt w H ((do pure (.value (<- Builtin.copy_ ts ty #[cd,cs])):Sem Next).run P w) v H':=by
 unfold copyV at hev;split at hev
 .cases hev
 rename_i hns;split at hev
 .cases hev
 rename_i m xs he;obtain⟨hxl,vs,hvs,hpl⟩:=aod h h0 (fun b e=>hns b e) hs he;split at hev
 case isFalse=>cases hev
 rename_i hone
 have hvl:vs.length=m*sz:=by rw[<- hvs.1,hxl]
 have hlen:(Builtin.lenOf cs).run P w=.ok m w:=by
  rcases hpl with⟨rfl,rfl⟩|⟨a,cap,rfl,_⟩<;>rfl
 have hfirst:∀n,n<=m->(Builtin.firstCells sz n cs).run P w=.ok (vs.take (n*sz)).toArray w:=by
  intro n hn;have hmul:n*sz<=m*sz:=qd _ hn
  rcases hpl with⟨rfl,rfl⟩|⟨a,cap,rfl,hc⟩
  .have hn0:n=0:=by omega
   subst hn0;simp[Builtin.firstCells]
  .refine run_firstCells_some (P:=P) w sz n a m cap (vs.take (n*sz)) (by simp;omega) fun j v hj=>?_
   have hjl:j<n*sz:=by have:=(bmk.1 hj).1;simp at this;omega
   rw[gu hjl]at hj;exact hc j v hj
 have run0:∀(b:Option Addr) (n:Nat),((do pure (.value (<- Builtin.copy_ ts ty #[.slice b 0 n,cs])):Sem Next).run P w)=.ok (.value (.int .i64 0)) w:=by
  intro b n;have hf:=hfirst 0 (jo _);simp only[ap1,fq]at hf;have hm0:Nat.min m 0=0:=bl9 _;cases b<;>simp[Builtin.copy_,hts,run_underlying ht,run_sizeOf hsz,hlen,hf,storeCells,goInt]
 split at hev
 .cases hev;rw[aa6 hd];exact qb.still h (.s _) (run0 none 0)
 .cases hev;cases hd with
  |esl a=>exact qb.still h (.s _) (run0 (some a) 0)
 .rename_i id g off len sz';split at hev
  case isFalse=>cases hev
  rename_i hc;obtain⟨rfl,hbase⟩:=hc;split at hev
  case h_2=>cases hev
  rename_i row hrow;split at hev
  case isFalse=>cases hev
  rename_i hfit;cases hev;cases hd with
  |sl0 _ _ _ _ B b a hm=>
    have hset:H.set id (.cells g (splice row off (xs.take (min m 0*sz'))))=H:=by
     simp only[bl9,ap1,fq]
     have hsp:splice row off []=row:=by simp[splice]
     rw[hsp];apply wh;intro i;by_cases hi:id=i
     .subst hi;rw[ma (bmk.1 (yx hrow)).1,yx hrow]
     .rw[ae hi]
    rw[hset];simp only[bl9];exact qb.still h (.s _) (run0 (some a) 0)
  |sl _ _ _ _ _ B b cap arr e' hm hB hcap hs'=>
    have hn1:min m len<=m:=Nat.min_le_left _ _;have hn2:min m len<=len:=Nat.min_le_right _ _;have hmul:min m len*sz'<=m*sz':=qd _ hn1;have hmul2:min m len*sz'<=len*sz':=qd _ hn2
    have hxt:(xs.take (min m len*sz')).length=min m len*sz':=by rw[l5,hxl];omega
    obtain⟨w',hst,hpost⟩:=akk (P:=P) (off:=off) (vs:=xs.take (min m len*sz')) (us:=vs.take (min m len*sz')) h hrow hm (by rw[hxt];omega) (hvs.take _) (by
     rw[bq]at hone |-;exact fun v hv=>hone v (acp hv))
    refine⟨.int .i64 (min m len:Nat),w',_,_,.inl ?_,.s _,hpost⟩;have hnm:Nat.min m len=min m len:=rfl;simp[Builtin.copy_,hts,run_underlying ht,run_sizeOf hsz,hlen,hnm,hfirst _ hn1,hst,goInt]
 .cases hev
def a05:∀{xs:List V} {bs:List UInt8} {vs:List Value},ay3 xs=some bs->VRs μ Mt w xs vs->∃ns:List Int,vs=ns.map (Value.int .u8)/\bs=ns.map fun n=>UInt8.ofNat n.toNat:=by
 intro xs
 induction xs with
 |nil=>
   intro bs vs h hv;cases h;have:vs=[]:=jb hv.1.symm;exact⟨[],this,rfl⟩
 |cons x xs ih=>
   intro bs vs h hv;unfold ay3 at h;split at h
   .cases ‹x::xs=[]›
   .rename_i n xs' e;cases e;split at h
    .rename_i bs' hb;cases h;cases vs with
     |nil=>have:=hv.1;simp at this
     |cons u vs=>
       have h1:=aa6 (hv.2 0 _ _ rfl rfl)
       obtain⟨ns,rfl,rfl⟩:=ih (vs:=vs) hb ⟨by have:=hv.1;simpa using this,fun i a b ha hb=>hv.2 (i+1) a b (by simpa using ha) (by simpa using hb)⟩
       exact⟨n::ns,by rw[h1];rfl,rfl⟩
    .cases h
   .cases h
def a8d(h:HR CC μ Mt w H){src dst e x r c}{ρ:Operand->Value}{o y}(hs:P.underlying src=some (.slice e))(hd:P.underlying dst=some .string)(he:P.underlying e=some (.int .u8))(hx:VR μ Mt w x c)(hev:bgn H x=some r)(ho:o.op=.convert src dst y)(hy:ρ y=c):qb CC μ Mt w H ((execOp ρ o).run P w) r H:=by
 have hexec:execOp ρ o=(do pure (.value (<- convert src dst c)):Sem Next):=by
  unfold execOp;rw[ho];subst hy;rfl
 rw[hexec];unfold bgn at hev;split at hev
 .cases hev
 rename_i hns;split at hev
 .rename_i m xs hel;split at hev
  .rename_i bs hbs;cases hev;obtain⟨hxl,vs,hvs,hpl⟩:=aod h (abm 0) (fun b e=>hns b e) hx hel;obtain⟨ns,rfl,rfl⟩:=a05 hbs hvs
   have hnl:ns.length=m:=by have:=hvs.1;simp at this;omega
   refine qb.still h (.s _) ?_
   rcases hpl with⟨rfl,rfl⟩|⟨a,cap,rfl,hc⟩
   .have:ns=[]:=jb hnl;subst this;simp only[Sem.run_bind,run_convert_bytes_string w src dst e _ _ _ hs he hd,Conv.bytesToString,Sem.run_pure,bm0];rfl
   .have hl:(loadCells a m).run P w=.ok (ns.map (Value.int .u8)).toArray w:=by
     have:=run_loadCells_list (P:=P) w a (ns.map (Value.int .u8)) hc
     simpa[hnl]using this
    simp only[Sem.run_bind,run_convert_bytes_string w src dst e _ _ _ hs he hd,run_bytesToString w a m cap ns hl,Sem.run_pure,bm0,foldl_push_bytes]
    congr 3
    simp[ByteArray.empty,ByteArray.emptyWithCapacity];rfl
  .cases hev
 .cases hev
end
end Go.AM
