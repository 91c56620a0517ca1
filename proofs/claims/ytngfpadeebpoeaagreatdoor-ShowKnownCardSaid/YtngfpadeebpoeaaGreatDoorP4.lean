/- Texts of the proof: ShoF1, ShoF5, ShnA2, ShnF1, ShnA3, ShnP1, ShnP2, ShnSh, ShnB1, ShnC1, ShoF2, ShoF3, ShoF4, ShnC2, ShnD1, ShnD2, ShnD4, ShoF6, ShoF7, ShoF8, ShoF9, ShoF10, ShnH1, ShnH2, ShnH3, ShnD5, ShnI1, ShoF11, ShoF12, ShoF13, ShoP1. -/
import Derived.Test.YtngfpadeebpoeaaGreatDoorP0
import Derived.Test.YtngfpadeebpoeaaGreatDoorP1
import Derived.Test.YtngfpadeebpoeaaGreatDoorP2
import Derived.Test.YtngfpadeebpoeaaGreatDoorP3
set_option linter.all false
set_option maxRecDepth 100000
namespace Go.Proofs.YtngfpadeebpoeaaGreatDoor
open Go.AM
def bSp:ByteArray:=⟨#[32]⟩
def bCm:ByteArray:=⟨#[44,32]⟩
def wordsT (xs:List ByteArray):ByteArray:=joinB xs bSp
def argsT (xs:List ByteArray):ByteArray:=(⟨#[40]⟩ ++ joinB xs bCm) ++ ⟨#[41]⟩
def JoinOk (xs:List ByteArray) (sep:ByteArray):Prop:=xs.length≤140737488355328∧(Lib.join (xs.map (·.data.toList)) sep.data.toList).length≤140737488355328
theorem joinB_size {xs:List ByteArray} {sep:ByteArray} (h:JoinOk xs sep):(joinB xs sep).size≤140737488355328:=h.2
theorem catOk {a b:ByteArray} (h:a.size+b.size≤4611686018427387904):(((a.size+b.size:Nat):Int) > IntKind.i64.max)=False:=by
 have e:IntKind.i64.max=9223372036854775807:=rfl
 rw [e]
 exact eq_false (by omega)
theorem size_cat (a b:ByteArray):(a ++ b).size=a.size+b.size:=ByteArray.size_append
theorem strs_flat:∀ {es:List (List V)} {xs:List ByteArray},es.flatten=xs.map Sb→(∀ e∈es,e.length=1)→strsOf1 es=some xs:=by
 intro es
 induction es with
 | nil=>intro xs h _;cases xs with | nil=>rfl | cons x xs=>cases h
 | cons e es ih=>
   intro xs h hw
   have he:=hw e List.mem_cons_self
   match e,he with
   | [v],_=>
     cases xs with
     | nil=>cases h
     | cons x xs=>
       simp only [List.flatten_cons,List.cons_append,List.nil_append,List.map_cons,List.cons.injEq] at h
       obtain ⟨rfl,h2⟩:=h
       simp only [strsOf1,ih h2 (fun e he=>hw e (List.mem_cons_of_mem _ he)),Option.map_some]
theorem strs_rd {H:Heap} {v:V} {xs:List ByteArray} (h:Rd H v (xs.map Sb)) (hw:Wide1 v):strsV H v=some xs:=by
 rcases h.cases with ⟨h1,rfl | rfl⟩ | ⟨es,rfl,h2,_⟩ | ⟨id,g,off,n,c,rfl,hc,h2,h3⟩
 ·cases xs with | nil=>rfl | cons x xs=>cases h1
 ·cases xs with | nil=>rfl | cons x xs=>cases h1
 ·exact strs_flat h2 hw
 ·simp only [strsV,hc]
  rw [if_pos (by rw [h2,h3]),h2]
  exact strsOf_map xs
theorem strs_new (D:Heap) (xs:List ByteArray):strsV (D ++ [.cells 0 (xs.map Sb)]) (.sl D.length 0 0 xs.length 1)=some xs:=by
 simp only [strsV,getC_new,List.drop_zero]
 rw [List.take_of_length_le (by simp),if_pos (by simp)]
 exact strsOf_map xs
theorem joinTail_le (sep:List UInt8) {M:Nat}:∀ {xs:List (List UInt8)},(∀ x∈xs,x.length≤M)→(Lib.joinTail sep xs).length≤xs.length * (sep.length+M):=by
 intro xs
 induction xs with
 | nil=>intro _;simp [Lib.joinTail]
 | cons x xs ih=>
   intro h
   have h1:=ih fun y hy=>h y (List.mem_cons_of_mem _ hy)
   have h2:=h x List.mem_cons_self
   have e:Lib.joinTail sep (x :: xs)=(sep ++ x) ++ Lib.joinTail sep xs:=rfl
   rw [e,List.length_append,List.length_append,List.length_cons,Nat.succ_mul]
   omega
theorem join_le (sep:List UInt8) {M:Nat} {xs:List (List UInt8)} (h:∀ x∈xs,x.length≤M):(Lib.join xs sep).length≤xs.length * (sep.length+M):=by
 cases xs with
 | nil=>simp [Lib.join_nil]
 | cons x xs=>
   have h1:=joinTail_le sep fun y hy=>h y (List.mem_cons_of_mem _ hy)
   have h2:=h x List.mem_cons_self
   rw [Lib.join_cons,List.length_append,List.length_cons,Nat.succ_mul]
   omega
structure LibT (CT:Nat→Option CFun):Prop where
 join:CT k_f20=some (.prim joinG)
 bst:CT k_f24=some (.prim bstG)
 itoa:CT k_f53=some (.prim itoaG)
 copy:CT k_strings_Builder_copyCheck=some (.prim copyG)
section
variable {CT:Nat→Option CFun}
theorem join_fun (h:LibT CT) (base:Nat) {H:Heap} {v:V} {xs:List ByteArray} (hv:strsV H v=some xs) {sep:ByteArray} (hj:JoinOk xs sep):callW CT (.fn k_f20 [] []) [v,.s (.string sep)] base H=some (.s (.string (joinB xs sep)),H):=by
 refine callW_eq ?_
 simp only [evCall,h.join,joinG,hv,List.nil_append,List.append_nil]
 exact if_pos hj
theorem itoa_fun (h:LibT CT) (base:Nat) {H:Heap} {n:Int} (h0:0≤n) (h1:n < 100):callW CT (.fn k_f53 [] []) [.s (.int .i64 n)] base H=some (.s (.string ⟨(Lib.decDigits n.toNat).toArray⟩),H):=by
 refine callW_eq ?_
 simp only [evCall,h.itoa,itoaG]
 exact if_pos ⟨h0,h1⟩
theorem words_fun (h:LibT CT) (hT:CT k_f21=some (.code s_f21)) (base:Nat) {H:Heap} {v:V} {xs:List ByteArray} (hv:strsV H v=some xs) (hj:JoinOk xs bSp):callW CT (.fn k_f21 [] []) [v] base H=some (.s (.string (wordsT xs)),H):=by
 have h1:=join_fun h base hv hj
 simp only [bSp] at h1
 refine callW_fn (c:=s_f21) hT (by simp [s_f21]) ?_
 simp only [s_f21,a_f21,aa,reduceIte,reduceCtorEq,Nat.reduceEqDiff,Nat.reduceLT,Nat.reduceLeDiff,Nat.reduceBEq,Nat.reduceAdd,Nat.reduceMul,op_appR,h1]
 rfl
theorem args_fun (h:LibT CT) (hT:CT k_f22=some (.code s_f22)) (base:Nat) {H:Heap} {v:V} {xs:List ByteArray} (hv:strsV H v=some xs) (hj:JoinOk xs bCm):callW CT (.fn k_f22 [] []) [v] base H=some (.s (.string (argsT xs)),H):=by
 have h1:=join_fun h base hv hj
 simp only [bCm] at h1
 refine callW_fn (c:=s_f22) hT (by simp [s_f22]) ?_
 have hs:=joinB_size hj
 simp only [bCm] at hs
 have n1:(⟨#[40]⟩:ByteArray).size=1:=rfl
 have n2:(⟨#[41]⟩:ByteArray).size=1:=rfl
 have c1:(⟨#[40]⟩:ByteArray).size+(joinB xs ⟨#[44,32]⟩).size≤4611686018427387904:=by omega
 have c2:((⟨#[40]⟩:ByteArray) ++ joinB xs ⟨#[44,32]⟩).size+(⟨#[41]⟩:ByteArray).size≤4611686018427387904:=by
  rw [size_cat];omega
 simp only [s_f22,a_f22,aa,reduceIte,reduceCtorEq,Nat.reduceEqDiff,Nat.reduceLT,Nat.reduceLeDiff,Nat.reduceBEq,Nat.reduceAdd,Nat.reduceMul,op_appR,h1,catOk c1,catOk c2,if_false]
 rfl
end
end Go.Proofs.YtngfpadeebpoeaaGreatDoor
set_option maxRecDepth 100000
namespace Go.Proofs.YtngfpadeebpoeaaGreatDoor
open Go.AM
def Bld (m:Nat) (H:Heap) (b:Nat) (txt:List UInt8):Prop:=m≤b∧((txt=[]∧getC H b 0=some [.unk,.s (.slice none 0 0)])∨∃ id g,getC H b 0=some [.ref b 0 0,.sl id g 0 txt.length 1]∧H[id]?=some (.bytes g txt)∧m≤id∧txt≠[])
def Wr (m b:Nat) (H H':Heap):Prop:=H.length≤H'.length∧(∀ i,i < m→H'[i]?=H[i]?)∧∀ i,i≠b→i < H.length→(∀ g l,H[i]?≠some (.bytes g l))→H'[i]?=H[i]?
theorem appendV_nilB {H:Heap} {base:Nat} {s:ByteArray} (hs:s.size≠0) (hl:s.size≤2 ^ 47):appendV H base 1 1 (.s (.slice none 0 0)) (.s (.string s))=some (.sl H.length 0 0 s.size 1,H ++ [.bytes 0 s.data.toList]):=by
 simp only [appendV,elems,appendB,and_self,if_true,hs,if_false,hl]
theorem appendV_slB {H:Heap} {base id g:Nat} {l:List UInt8} {s:ByteArray} (hH:H[id]?=some (.bytes g l)) (hb:base≤id) (hs:s.size≠0) (hl:l.length+s.size≤2 ^ 47):
 appendV H base 1 1 (.sl id g 0 l.length 1) (.s (.string s))=some (.sl id (g+1) 0 (l.length+s.size) 1,H.set id (.bytes (g+1) (l ++ s.data.toList))):=by
 simp only [appendV,elems,appendB,and_self,if_true,hs,if_false,hl,hb,hH]
section
variable {CT:Nat→Option CFun}
theorem copy1 (h:LibT CT) {base:Nat} {H:Heap} {b:Nat} {v:V} (hg:getC H b 0=some [.unk,v]) (hb:base≤b):callW CT (.fn k_strings_Builder_copyCheck [] []) [.ref b 0 0] base H=some (und,H.set b (.cells 0 [.ref b 0 0,v])):=by
 refine callW_eq ?_
 simp only [evCall,h.copy,copyG,List.nil_append,List.append_nil,hg]
 exact if_pos hb
theorem copy2 (h:LibT CT) {base:Nat} {H:Heap} {b:Nat} {v:V} (hg:getC H b 0=some [.ref b 0 0,v]):callW CT (.fn k_strings_Builder_copyCheck [] []) [.ref b 0 0] base H=some (und,H):=by
 refine callW_eq ?_
 simp only [evCall,h.copy,copyG,List.nil_append,List.append_nil,hg,if_true]
theorem write_fun (h:LibT CT) (hT:CT k_f19=some (.code s_f19)) {base m:Nat} (hb:base≤m) {H:Heap} {b:Nat} {txt:List UInt8} (hB:Bld m H b txt) {s:ByteArray} (hs:s.size≠0) (hl:txt.length+s.size≤2 ^ 47):
 ∃ H',callW CT (.fn k_f19 [] []) [.ref b 0 0,.s (.string s)] base H=some (.tup [Iz s.size,.s .nilIface],H')∧Bld m H' b (txt ++ s.data.toList)∧Wr m b H H':=by
 have hsn:∀ l:List UInt8,l ++ s.data.toList≠[]:=fun l e=>hs (by
  have:=congrArg List.length e
  rw [List.length_append] at this
  have h2:s.data.toList.length=s.size:=rfl
  simp only [List.length_nil] at this
  omega)
 obtain ⟨hmb,⟨rfl,hg⟩ | ⟨id,g,hg,hH,hid,_⟩⟩:=hB
 ·have hlt:=getC_lt hg
  have hc:=copy1 h (base:=base) hg (by omega)
  obtain ⟨H1,hH1⟩:∃ H1,H.set b (.cells 0 [.ref b 0 0,.s (.slice none 0 0)])=H1:=⟨_,rfl⟩
  have l1:H1.length=H.length:=by rw [← hH1,List.length_set]
  rw [hH1] at hc
  have g1:getC H1 b 0=some [.ref b 0 0,.s (.slice none 0 0)]:=hH1 ▸ getC_set hg _
  have ha:=appendV_nilB (H:=H1) (base:=base) hs (by simpa using hl)
  have g2:=getC_app g1 (G:=[Ob.bytes 0 s.data.toList])
  refine ⟨(H1 ++ [Ob.bytes 0 s.data.toList]).set b (.cells 0 [.ref b 0 0,.sl H1.length 0 0 s.size 1]),callW_fn (c:=s_f19) hT (by simp [s_f19]) ?_,?_,?_⟩
  ·simp only [s_f19,a_f19,aa,reduceIte,reduceCtorEq,Nat.reduceEqDiff,Nat.reduceLT,Nat.reduceLeDiff,Nat.reduceBEq,Nat.reduceAdd,Nat.reduceMul,op_appR,hc,g1,ha,g2,show base≤b by omega]
  ·refine ⟨hmb,.inr ⟨H1.length,0,?_,?_,by omega,hsn _⟩⟩
   ·have:=getC_set (c':=[V.ref b 0 0,.sl H1.length 0 0 s.size 1]) g2 0
    simpa using this
   ·rw [List.getElem?_set_ne (by omega)]
    simp
  ·refine ⟨by simp [l1],fun i hi=>?_,fun i hi hil _=>?_⟩
   ·rw [List.getElem?_set_ne (by omega),List.getElem?_append_left (by omega),← hH1,List.getElem?_set_ne (by omega)]
   ·rw [List.getElem?_set_ne (Ne.symm hi),List.getElem?_append_left (by omega),← hH1,List.getElem?_set_ne (Ne.symm hi)]
 ·have hlt:=getC_lt hg
  have hli:=(List.getElem?_eq_some_iff.1 hH).1
  have hc:=copy2 h (base:=base) hg
  have hne:id≠b:=by
   intro e
   subst e
   unfold getC at hg
   rw [hH] at hg
   cases hg
  have ha:=appendV_slB (base:=base) hH (by omega) hs hl
  have g2:getC (H.set id (.bytes (g+1) (txt ++ s.data.toList))) b 0=some [.ref b 0 0,.sl id g 0 txt.length 1]:=by
   unfold getC at hg ⊢
   rw [List.getElem?_set_ne hne]
   exact hg
  refine ⟨(H.set id (.bytes (g+1) (txt ++ s.data.toList))).set b (.cells 0 [.ref b 0 0,.sl id (g+1) 0 (txt.length+s.size) 1]),callW_fn (c:=s_f19) hT (by simp [s_f19]) ?_,?_,?_⟩
  ·simp only [s_f19,a_f19,aa,reduceIte,reduceCtorEq,Nat.reduceEqDiff,Nat.reduceLT,Nat.reduceLeDiff,Nat.reduceBEq,Nat.reduceAdd,Nat.reduceMul,op_appR,hc,hg,ha,g2,show base≤b by omega]
  ·refine ⟨hmb,.inr ⟨id,g+1,?_,?_,hid,hsn _⟩⟩
   ·have:=getC_set (c':=[V.ref b 0 0,.sl id (g+1) 0 (txt.length+s.size) 1]) g2 0
    simpa using this
   ·rw [List.getElem?_set_ne (Ne.symm hne),List.getElem?_set_self hli]
  ·refine ⟨by simp,fun i hi=>?_,fun i hi hil hnb=>?_⟩
   ·rw [List.getElem?_set_ne (by omega),List.getElem?_set_ne (by omega)]
   ·have hni:id≠i:=by intro e;subst e;exact hnb _ _ hH
    rw [List.getElem?_set_ne (Ne.symm hi),List.getElem?_set_ne hni]
def lineT (xs:List ByteArray):ByteArray:=joinB xs ⟨#[]⟩ ++ ⟨#[10]⟩
theorem line_fun (h:LibT CT) (hW:CT k_f19=some (.code s_f19)) (hT:CT k_f18=some (.code s_f18)) {base m:Nat} (hb:base≤m) {H:Heap} {b:Nat} {txt:List UInt8} (hB:Bld m H b txt) {v:V} {xs:List ByteArray} (hv:strsV H v=some xs) (hj:JoinOk xs ⟨#[]⟩) (hl:txt.length+(lineT xs).size≤2 ^ 47):
 ∃ H',callW CT (.fn k_f18 [] [.ref b 0 0]) [v] base H=some (.tup [],H')∧Bld m H' b (txt ++ (lineT xs).data.toList)∧Wr m b H H':=by
 have hjn:=join_fun h base hv hj
 have n1:(⟨#[10]⟩:ByteArray).size=1:=rfl
 have hz:(lineT xs).size=(joinB xs ⟨#[]⟩).size+1:=by unfold lineT;rw [size_cat,n1]
 have hjs:=joinB_size hj
 have c1:(joinB xs ⟨#[]⟩).size+(⟨#[10]⟩:ByteArray).size≤4611686018427387904:=by omega
 obtain ⟨H',hw,h1,h2⟩:=write_fun h hW hb hB (s:=lineT xs) (by omega) hl
 refine ⟨H',callW_fnA (c:=s_f18) (k:=2) hT rfl (by decide) s_f18_first ?_,h1,h2⟩
 simp only [lineT] at hw
 simp only [s_f18,a_f18,aa,reduceIte,reduceCtorEq,Nat.reduceEqDiff,Nat.reduceLT,Nat.reduceLeDiff,Nat.reduceBEq,Nat.reduceAdd,Nat.reduceMul,op_appR,hjn,catOk c1,if_false,hw]
 try rfl
end
end Go.Proofs.YtngfpadeebpoeaaGreatDoor
set_option maxRecDepth 100000
namespace Go.Proofs.YtngfpadeebpoeaaGreatDoor
open Go.AM
def idxP {α:Type} (p:α→Bool) (l:List α):Int:=match l.findIdx? p with | some i=>(i:Int) | none=>-1
theorem idxP_none {α:Type} {p:α→Bool} {l:List α} (d:α) (h:∀ i,i < l.length→p (l.getD i d)=false):idxP p l=-1:=by
 have:l.findIdx? p=none:=by
  rw [List.findIdx?_eq_none_iff]
  intro x hx
  obtain ⟨i,hi⟩:=List.mem_iff_getElem?.1 hx
  have:=h i (List.getElem?_eq_some_iff.1 hi).1
  rwa [getD_some hi] at this
 rw [idxP,this]
theorem idxP_some {α:Type} {p:α→Bool} {l:List α} (d:α) {i:Nat} (hi:i < l.length) (h1:p (l.getD i d)=true) (h2:∀ j,j < i→p (l.getD j d)=false):idxP p l=(i:Int):=by
 have:l.findIdx? p=some i:=by
  rw [List.findIdx?_eq_some_iff_getElem]
  refine ⟨hi,?_,fun j hj=>?_⟩
  ·have:=some_getD hi d
   rw [List.getElem?_eq_getElem hi] at this
   rw [Option.some.inj this];exact h1
  ·have hjl:j < l.length:=by omega
   have:=some_getD hjl d
   rw [List.getElem?_eq_getElem hjl] at this
   rw [Option.some.inj this,h2 j hj];simp
 rw [idxP,this]
theorem idxP_any {α:Type} (p:α→Bool) (l:List α):decide (idxP p l ≥ 0)=l.any p:=by
 unfold idxP
 cases h:l.findIdx? p with
 | none=>
   rw [List.findIdx?_eq_none_iff] at h
   symm
   rw [show decide ((-1:Int) ≥ 0)=false from rfl,List.any_eq_false]
   intro x hx
   rw [h x hx];simp
 | some i=>
   rw [List.findIdx?_eq_some_iff_getElem] at h
   obtain ⟨h1,h2,_⟩:=h
   have e1:l.any p=true:=List.any_eq_true.2 ⟨_,List.getElem_mem h1,h2⟩
   rw [e1]
   simp
section
variable {CT:Nat→Option CFun}
theorem calls_fun (hT:CT k_f100=some (.code s_f100)) (base:Nat) (H:Heap) (o:Int):callW CT (.fn k_f100 [] []) [.s (.int .u8 o)] base H=some (.s (.bool (o == 10 || o == 11)),H):=by
 refine callW_fn (c:=s_f100) hT (by simp [s_f100]) ?_
 simp only [s_f100,a_f100,aa,reduceIte,reduceCtorEq,Nat.reduceEqDiff,Nat.reduceLT,Nat.reduceLeDiff,Nat.reduceBEq,Nat.reduceAdd,Nat.reduceMul,op_appR]
theorem idxS_fun (hT:CT k_f135=some (.code s_f135)) (base:Nat) (A:Heap) {v f:V} {l:List ByteArray} {p:ByteArray→Bool} (hv:Rd A v (l.map Sb)) (hw:Wide1 v) (hp:∀ x,x∈l→∀ D,Ext A D→∃ D',callW CT f [Sb x] base D=some (.s (.bool (p x)),D')∧Ext D D') (hl:l.length < 2 ^ 40):
 ∃ H',callW CT (.fn k_f135 [] []) [v,f] base A=some (Iz (idxP p l),H')∧Ext A H':=by
 have step:∀ i C,i < l.length→Ext A C→∃ C',(p (l.getD i ⟨#[]⟩)=false→itW (evC (callW CT) itW base s_f135_l0) [] A.length (frOf 19 [(0,v),(1,f),(7,Iz l.length),(8,Iz i)]) C=itW (evC (callW CT) itW base s_f135_l0) [] A.length (frOf 19 [(0,v),(1,f),(7,Iz l.length),(8,Iz (i+1:Nat))]) (trim A.length (frOf 19 [(0,v),(1,f),(7,Iz l.length),(8,Iz (i+1:Nat))]) C'))∧(p (l.getD i ⟨#[]⟩)=true→itW (evC (callW CT) itW base s_f135_l0) [] A.length (frOf 19 [(0,v),(1,f),(7,Iz l.length),(8,Iz i)]) C=some (.ret,frOf 19 [(4,Iz i)],trim A.length (frOf 19 [(4,Iz i)]) C'))∧Ext A C':=by
  intro i C hi hE
  have hlt':((i:Int) < (l.length:Int)):=by omega
  have hwk:=w64 (n:=i) (by omega)
  obtain ⟨a,a1,a2⟩:=Sb_at (hv.ext hE) hw hi
  obtain ⟨C',c1,c2⟩:=hp _ (List.mem_of_getElem? (some_getD hi ⟨#[]⟩)) C hE
  simp only [Sb] at c1
  refine ⟨C',fun hp=>?_,fun hp=>?_,hE.trans c2⟩
  ·rw [hp] at c1
   rw [itW_step]
   simp only [Iz,a_f135,s_f135_l0_b,aa,reduceIte,reduceCtorEq,Nat.reduceEqDiff,Nat.reduceLT,Nat.reduceLeDiff,Nat.reduceBEq,Nat.reduceAdd,Nat.reduceMul,op_appR,hlt',a1,a2,c1,hwk]
  ·rw [hp] at c1
   rw [itW_step]
   simp only [Iz,a_f135,s_f135_l0_b,aa,reduceIte,reduceCtorEq,Nat.reduceEqDiff,Nat.reduceLT,Nat.reduceLeDiff,Nat.reduceBEq,Nat.reduceAdd,Nat.reduceMul,op_appR,hlt',a1,a2,c1,hwk]
 have hlen:=Sb_len hv
 rcases it_findR l.length (fun i=>p (l.getD i ⟨#[]⟩)) (fun C=>Ext A C) (fun i C=>itW (evC (callW CT) itW base s_f135_l0) [] A.length (frOf 19 [(0,v),(1,f),(7,Iz l.length),(8,Iz i)]) C) (fun i C hi hp hE=>by obtain ⟨C',q1,_,q3⟩:=step i C hi hE;exact ⟨_,q1 hp,q3.trim (Nat.le_refl _) _⟩) A (Ext.refl A) with ⟨h1,C,h2,h3⟩ | ⟨i,C,hi,h1,h2,h3,h4⟩
 ·refine ⟨trim A.length (frOf 19 [(0,v),(1,f),(7,Iz l.length),(8,Iz l.length),(9,bl false)]) C,callW_fn (c:=s_f135) hT (by simp [s_f135]) ?_,h3.trim (Nat.le_refl _) _⟩
  rw [idxP_none ⟨#[]⟩ h1]
  have hend:itW (evC (callW CT) itW base s_f135_l0) [] A.length (frOf 19 [(0,v),(1,f),(7,Iz l.length),(8,Iz l.length)]) C=some (.ext 0,frOf 19 [(0,v),(1,f),(7,Iz l.length),(8,Iz l.length),(9,bl false)],trim A.length (frOf 19 [(0,v),(1,f),(7,Iz l.length),(8,Iz l.length),(9,bl false)]) C):=by
   rw [itW_step]
   simp only [Iz,bl,a_f135,s_f135_l0_b,aa,reduceIte,reduceCtorEq,Nat.reduceEqDiff,Nat.reduceLT,Nat.reduceLeDiff,Nat.reduceBEq,Nat.reduceAdd,Nat.reduceMul,op_appR,Int.lt_irrefl]
  have h4:=h2.trans hend
  simp only [Iz,bl,cast0] at h4
  simp only [Iz,bl,s_f135,a_f135,s_f135_l0_b,aa,reduceIte,reduceCtorEq,Nat.reduceEqDiff,Nat.reduceLT,Nat.reduceLeDiff,Nat.reduceBEq,Nat.reduceAdd,Nat.reduceMul,op_appR,hlen,h4]
 ·obtain ⟨C',_,q2,q3⟩:=step i C hi h4
  refine ⟨trim A.length (frOf 19 [(4,Iz i)]) C',callW_fn (c:=s_f135) hT (by simp [s_f135]) ?_,q3.trim (Nat.le_refl _) _⟩
  rw [idxP_some ⟨#[]⟩ hi h1 h2]
  have h5:=h3.trans (q2 h1)
  simp only [Iz,bl,cast0] at h5
  simp only [Iz,bl,s_f135,a_f135,s_f135_l0_b,aa,reduceIte,reduceCtorEq,Nat.reduceEqDiff,Nat.reduceLT,Nat.reduceLeDiff,Nat.reduceBEq,Nat.reduceAdd,Nat.reduceMul,op_appR,hlen,h5]
theorem conS_fun (hT:CT k_f93=some (.code s_f93)) (hI:CT k_f135=some (.code s_f135)) (base:Nat) (A:Heap) {v f:V} {l:List ByteArray} {p:ByteArray→Bool} (hv:Rd A v (l.map Sb)) (hw:Wide1 v) (hp:∀ x,x∈l→∀ D,Ext A D→∃ D',callW CT f [Sb x] base D=some (.s (.bool (p x)),D')∧Ext D D') (hl:l.length < 2 ^ 40):
 ∃ H',callW CT (.fn k_f93 [] []) [v,f] base A=some (.s (.bool (l.any p)),H')∧Ext A H':=by
 obtain ⟨H',h1,h2⟩:=idxS_fun hI base A hv hw hp hl
 refine ⟨H',callW_fn (c:=s_f93) hT (by simp [s_f93]) ?_,h2⟩
 rw [← idxP_any]
 simp only [Iz] at h1
 simp only [s_f93,a_f93,aa,reduceIte,reduceCtorEq,Nat.reduceEqDiff,Nat.reduceLT,Nat.reduceLeDiff,Nat.reduceBEq,Nat.reduceAdd,Nat.reduceMul,op_appR,h1]
end
end Go.Proofs.YtngfpadeebpoeaaGreatDoor
set_option maxRecDepth 100000
namespace Go.Proofs.YtngfpadeebpoeaaGreatDoor
open Go.AM
def letter (c:Int):Bool:=decide (c ≥ 97) && decide (c≤122) || decide (c ≥ 65) && decide (c≤90) || c == 95
def badAt (i:Nat) (c:UInt8):Bool:=!letter c.toNat && ((i:Int) == 0 || (decide ((c.toNat:Int) < 48) || decide ((c.toNat:Int) > 57)) && (c.toNat:Int) != 46)
def okFrom:Nat→List UInt8→Bool
 | _,[]=>true
 | i,c :: l=>!badAt i c && okFrom (i+1) l
theorem is_loop (call:CallF) (base:Nat) (b:ByteArray) (hb:b.size≤64) (H:Heap):∀ (l:List UInt8) (i:Nat),b.data.toList.drop i=l→i≤b.size→
 itW (evC call itW base s_f92_l0) [] H.length (frOf 62 [(0,.s (.string b)),(18,.s (.int .i64 b.size)),(19,.s (.int .i64 i))]) H=
 bif okFrom i l then some (.ext 0,frOf 62 [(0,.s (.string b)),(18,.s (.int .i64 b.size)),(19,.s (.int .i64 b.size)),(20,bl false)],H) else some (.ret,frOf 62 [(2,bl false)],H):=by
 intro l
 have hsz:b.data.toList.length=b.size:=rfl
 induction l with
 | nil=>
   intro i hd hi
   have hin:i=b.size:=by
    have:=congrArg List.length hd
    rw [List.length_drop,hsz] at this
    simp at this
    omega
   subst hin
   rw [itW_step]
   simp only [a_f92,s_f92_l0_b,aa,reduceIte,reduceCtorEq,Nat.reduceEqDiff,Nat.reduceLT,Nat.reduceLeDiff,Nat.reduceBEq,Nat.reduceAdd,Nat.reduceMul,op_appR,Int.lt_irrefl,okFrom]
 | cons c l ih=>
   intro i hd hi
   have hc:b.data.toList[i]?=some c:=by have:=congrArg (·[0]?) hd;simp only [List.getElem?_drop] at this;exact this
   have hlt:i < b.size:=by have:=(List.getElem?_eq_some_iff.1 hc).1;omega
   have hi':((i:Int) < (b.size:Int)):=by omega
   have hd':b.data.toList.drop (i+1)=l:=by
    have:=congrArg (List.drop 1) hd
    simpa [List.drop_drop,Nat.add_comm] using this
   have hw:IntKind.i64.wrap ((i:Int)+1)=((i+1:Nat):Int):=by rw [IntKind.wrap_i64];omega
   rw [itW_step]
   simp only [a_f92,s_f92_l0_b,aa,reduceIte,reduceCtorEq,Nat.reduceEqDiff,Nat.reduceLT,Nat.reduceLeDiff,Nat.reduceBEq,Nat.reduceAdd,Nat.reduceMul,op_appR,hi',hc,hw,okFrom] at ih ⊢
   rw [ih (i+1) hd' hlt]
   cases h:badAt i c <;> (unfold badAt letter at h;simp only [h,aa,reduceIte,reduceCtorEq,Nat.reduceEqDiff,Nat.reduceLT,Nat.reduceLeDiff,Nat.reduceBEq,Nat.reduceAdd,Nat.reduceMul,op_appR])
def isName (b:ByteArray):Bool:=!(b.data.toList == [] || decide ((b.size:Int) > 64) || b.data.toList == [110,117,108,108]) && okFrom 0 b.data.toList
theorem is_fun (CT:Nat→Option CFun) (hT:CT k_f92=some (.code s_f92)) (b:ByteArray) (base:Nat) (H:Heap):callW CT (.fn k_f92 [] []) [.s (.string b)] base H=some (bl (isName b),H):=by
 refine callW_fn (c:=s_f92) hT (by simp [s_f92]) ?_
 have hl:=is_loop (callW CT) base b
 simp only [s_f92,a_f92,s_f92_l0_b,aa,reduceIte,reduceCtorEq,Nat.reduceEqDiff,Nat.reduceLT,Nat.reduceLeDiff,Nat.reduceBEq,Nat.reduceAdd,Nat.reduceMul,op_appR]
 cases hz:(b.data.toList == [] || decide ((b.size:Int) > 64) || b.data.toList == [110,117,108,108]) with
 | true=>simp only [hz,isName,aa,reduceIte,reduceCtorEq,Nat.reduceEqDiff,Nat.reduceLT,Nat.reduceLeDiff,Nat.reduceBEq,Nat.reduceAdd,Nat.reduceMul,op_appR]
 | false=>
   have hb:b.size≤64:=by
    simp only [Bool.or_eq_false_iff,decide_eq_false_iff_not] at hz
    have:=hz.1.2
    omega
   have hl:=is_loop (callW CT) base b hb H b.data.toList 0 rfl (Nat.zero_le _)
   rw [show ((0:Nat):Int)=0 from rfl] at hl
   simp only [isName,hz,hl,a_f92,s_f92_l0_b,aa,reduceIte,reduceCtorEq,Nat.reduceEqDiff,Nat.reduceLT,Nat.reduceLeDiff,Nat.reduceBEq,Nat.reduceAdd,Nat.reduceMul,op_appR]
   cases okFrom 0 b.data.toList <;> simp only [a_f92,s_f92_l0_b,aa,reduceIte,reduceCtorEq,Nat.reduceEqDiff,Nat.reduceLT,Nat.reduceLeDiff,Nat.reduceBEq,Nat.reduceAdd,Nat.reduceMul,op_appR]
end Go.Proofs.YtngfpadeebpoeaaGreatDoor
set_option maxRecDepth 100000
namespace Go.Proofs.YtngfpadeebpoeaaGreatDoor
open Go.AM
def emptyB (s:ByteArray):Bool:=s.data.toList == []
def nullB (s:ByteArray):Bool:=s.data.toList == [110,117,108,108]
def badS (op:Bool) (s:ByteArray):Bool:=!emptyB s && !isName s && !(op && nullB s)
section
variable {CT:Nat→Option CFun}
theorem badName1_fun (hI:CT k_f92=some (.code s_f92)) (hT:CT k_f94=some (.code s_f94)) (base:Nat) (H:Heap) (s:ByteArray):callW CT (.fn k_f94 [] []) [Sb s] base H=some (.s (.bool (!isName s)),H):=by
 have h:=is_fun CT hI s base H
 refine callW_fn (c:=s_f94) hT (by simp [s_f94]) ?_
 simp only [bl] at h
 simp only [s_f94,a_f94,aa,reduceIte,reduceCtorEq,Nat.reduceEqDiff,Nat.reduceLT,Nat.reduceLeDiff,Nat.reduceBEq,Nat.reduceAdd,Nat.reduceMul,op_appR,h]
theorem bad1_fun (hI:CT k_f92=some (.code s_f92)) (hT:CT k_f136=some (.code s_f136)) (base:Nat) {H:Heap} {id:Nat} {op:Bool} (hg:getC H id 0=some [.s (.bool op)]) (s:ByteArray):callW CT (.fn k_f136 [] [.ref id 0 0]) [Sb s] base H=some (.s (.bool (badS op s)),H):=by
 have h:=is_fun CT hI s base H
 have hx:=getC_load hg
 refine callW_fn (c:=s_f136) hT (by simp [s_f136]) ?_
 simp only [bl] at h
 unfold badS emptyB nullB
 cases h0:(s.data.toList == []) with
 | true=>simp only [s_f136,a_f136,aa,reduceIte,reduceCtorEq,Nat.reduceEqDiff,Nat.reduceLT,Nat.reduceLeDiff,Nat.reduceBEq,Nat.reduceAdd,Nat.reduceMul,op_appR,h0]
 | false=>
   cases h1:isName s with
   | true=>
     rw [h1] at h
     simp only [s_f136,a_f136,aa,reduceIte,reduceCtorEq,Nat.reduceEqDiff,Nat.reduceLT,Nat.reduceLeDiff,Nat.reduceBEq,Nat.reduceAdd,Nat.reduceMul,op_appR,h0,h]
   | false=>
     rw [h1] at h
     cases op with
     | true=>simp only [s_f136,a_f136,aa,reduceIte,reduceCtorEq,Nat.reduceEqDiff,Nat.reduceLT,Nat.reduceLeDiff,Nat.reduceBEq,Nat.reduceAdd,Nat.reduceMul,op_appR,h0,h,hx]
     | false=>simp only [s_f136,a_f136,aa,reduceIte,reduceCtorEq,Nat.reduceEqDiff,Nat.reduceLT,Nat.reduceLeDiff,Nat.reduceBEq,Nat.reduceAdd,Nat.reduceMul,op_appR,h0,h,hx]
theorem bad_fun (hI:CT k_f92=some (.code s_f92)) (hT1:CT k_f136=some (.code s_f136)) (hT:CT k_f95=some (.code s_f95)) (hC:CT k_f93=some (.code s_f93)) (hX:CT k_f135=some (.code s_f135)) (base:Nat) (H:Heap) (op:Bool) {v:V} {l:List ByteArray} (hv:Rd H v (l.map Sb)) (hw:Wide1 v) (hl:l.length < 2 ^ 40):
 ∃ H',callW CT (.fn k_f95 [] []) [.s (.bool op),v] base H=some (.s (.bool (l.any (badS op))),H')∧Ext H H':=by
 have e0:Ext H (H ++ [Ob.cells 0 [.s (.bool op)]]):=Ext.app _ _
 obtain ⟨H',h1,h2⟩:=conS_fun hC hX base (H ++ [Ob.cells 0 [.s (.bool op)]]) (f:=.fn k_f136 [] [.ref H.length 0 0]) (p:=badS op) (hv.ext e0) hw (fun x _ D hD=>⟨D,bad1_fun hI hT1 base (getC_ext (getC_new H 0 _) hD) x,Ext.refl D⟩) hl
 refine ⟨H',callW_fnA (c:=s_f95) (k:=2) hT rfl (by decide) s_f95_first ?_,e0.trans h2⟩
 simp only [s_f95,a_f95,aa,reduceIte,reduceCtorEq,Nat.reduceEqDiff,Nat.reduceLT,Nat.reduceLeDiff,Nat.reduceBEq,Nat.reduceAdd,Nat.reduceMul,op_appR,xsub_mkFn,h1]
theorem indexS_fun (hT:CT k_f137=some (.code s_f137)) (base:Nat) (A:Heap) {v:V} {l:List ByteArray} (s:ByteArray) (hv:Rd A v (l.map Sb)) (hw:Wide1 v) (hl:l.length < 2 ^ 40):
 callW CT (.fn k_f137 [] []) [v,Sb s] base A=some (Iz (idxP (fun x=>s.data.toList == x.data.toList) l),A):=by
 have hlen:=Sb_len hv
 have step:∀ i,i < l.length→(s.data.toList == (l.getD i ⟨#[]⟩).data.toList)=false→itW (evC (callW CT) itW base s_f137_l0) [] A.length (frOf 19 [(0,v),(1,Sb s),(7,Iz l.length),(8,Iz i)]) A=itW (evC (callW CT) itW base s_f137_l0) [] A.length (frOf 19 [(0,v),(1,Sb s),(7,Iz l.length),(8,Iz (i+1:Nat))]) A:=by
  intro i hi hp
  have hlt':((i:Int) < (l.length:Int)):=by omega
  have hwk:=w64 (n:=i) (by omega)
  obtain ⟨a,a1,a2⟩:=Sb_at hv hw hi
  rw [itW_step]
  simp only [Iz,Sb,a_f137,s_f137_l0_b,aa,reduceIte,reduceCtorEq,Nat.reduceEqDiff,Nat.reduceLT,Nat.reduceLeDiff,Nat.reduceBEq,Nat.reduceAdd,Nat.reduceMul,op_appR,hlt',a1,a2,hp,hwk,trim_same rfl]
 refine callW_fn (c:=s_f137) hT (by simp [s_f137]) ?_
 rcases it_find l.length (fun i=>s.data.toList == (l.getD i ⟨#[]⟩).data.toList) (fun i=>itW (evC (callW CT) itW base s_f137_l0) [] A.length (frOf 19 [(0,v),(1,Sb s),(7,Iz l.length),(8,Iz i)]) A) step with ⟨h1,h2⟩ | ⟨i,hi,h1,h2,h3⟩
 ·rw [idxP_none ⟨#[]⟩ h1]
  have hend:itW (evC (callW CT) itW base s_f137_l0) [] A.length (frOf 19 [(0,v),(1,Sb s),(7,Iz l.length),(8,Iz l.length)]) A=some (.ext 0,frOf 19 [(0,v),(1,Sb s),(7,Iz l.length),(8,Iz l.length),(9,bl false)],A):=by
   rw [itW_step]
   simp only [Iz,Sb,bl,a_f137,s_f137_l0_b,aa,reduceIte,reduceCtorEq,Nat.reduceEqDiff,Nat.reduceLT,Nat.reduceLeDiff,Nat.reduceBEq,Nat.reduceAdd,Nat.reduceMul,op_appR,Int.lt_irrefl,trim_same rfl]
  have h4:=h2.trans hend
  simp only [Iz,Sb,bl,cast0] at h4
  simp only [Iz,Sb,s_f137,a_f137,s_f137_l0_b,aa,reduceIte,reduceCtorEq,Nat.reduceEqDiff,Nat.reduceLT,Nat.reduceLeDiff,Nat.reduceBEq,Nat.reduceAdd,Nat.reduceMul,op_appR,hlen,h4]
 ·rw [idxP_some ⟨#[]⟩ hi h1 h2]
  have hlt':((i:Int) < (l.length:Int)):=by omega
  obtain ⟨a,a1,a2⟩:=Sb_at hv hw hi
  have hend:itW (evC (callW CT) itW base s_f137_l0) [] A.length (frOf 19 [(0,v),(1,Sb s),(7,Iz l.length),(8,Iz i)]) A=some (.ret,frOf 19 [(4,Iz i)],A):=by
   rw [itW_step]
   simp only [Iz,Sb,bl,a_f137,s_f137_l0_b,aa,reduceIte,reduceCtorEq,Nat.reduceEqDiff,Nat.reduceLT,Nat.reduceLeDiff,Nat.reduceBEq,Nat.reduceAdd,Nat.reduceMul,op_appR,hlt',a1,a2,h1,trim_same rfl]
  have h4:=h3.trans hend
  simp only [Iz,Sb,bl,cast0] at h4
  simp only [Iz,Sb,s_f137,a_f137,s_f137_l0_b,aa,reduceIte,reduceCtorEq,Nat.reduceEqDiff,Nat.reduceLT,Nat.reduceLeDiff,Nat.reduceBEq,Nat.reduceAdd,Nat.reduceMul,op_appR,hlen,h4]
theorem containsS_fun (hT:CT k_f96=some (.code s_f96)) (hI:CT k_f137=some (.code s_f137)) (base:Nat) (A:Heap) {v:V} {l:List ByteArray} (s:ByteArray) (hv:Rd A v (l.map Sb)) (hw:Wide1 v) (hl:l.length < 2 ^ 40):
 callW CT (.fn k_f96 [] []) [v,Sb s] base A=some (.s (.bool (l.any fun x=>s.data.toList == x.data.toList)),A):=by
 have h:=indexS_fun hI base A s hv hw hl
 refine callW_fn (c:=s_f96) hT (by simp [s_f96]) ?_
 rw [← idxP_any]
 simp only [Iz,Sb] at h
 simp only [Sb,s_f96,a_f96,aa,reduceIte,reduceCtorEq,Nat.reduceEqDiff,Nat.reduceLT,Nat.reduceLeDiff,Nat.reduceBEq,Nat.reduceAdd,Nat.reduceMul,op_appR,h]
end
end Go.Proofs.YtngfpadeebpoeaaGreatDoor
set_option maxRecDepth 100000
namespace Go.AM
def srch {α β:Type} (f:Nat→α→Option β):List α→Nat→Option β
 | [],_=>none
 | x :: l,i=>match f i x with | some b=>some b | none=>srch f l (i+1)
theorem srch_none {α β:Type} {f:Nat→α→Option β}:∀ {l:List α} {k:Nat},srch f l k=none↔∀ i x,l[i]?=some x→f (k+i) x=none:=by
 intro l
 induction l with
 | nil=>intro k;simp [srch]
 | cons a l ih=>
   intro k
   rw [srch]
   cases h:f k a with
   | some b=>
     simp only [reduceCtorEq,false_iff]
     intro hc
     have:=hc 0 a rfl
     rw [Nat.add_zero,h] at this
     cases this
   | none=>
     simp only
     rw [ih]
     constructor
     ·intro hc i x hx
      cases i with
      | zero=>rw [List.getElem?_cons_zero] at hx;rw [← Option.some.inj hx];exact h
      | succ i=>rw [List.getElem?_cons_succ] at hx;have:=hc i x hx;rwa [show k+1+i=k+(i+1) by omega] at this
     ·intro hc i x hx
      have:=hc (i+1) x (by rw [List.getElem?_cons_succ];exact hx)
      rwa [show k+(i+1)=k+1+i by omega] at this
theorem it_srch {α β S T:Type} (l:List α) (d:α) (f:Nat→α→Option β) (P:Nat→S→Prop) (X:Nat→S→T) (Q:β→T→Prop) (step:∀ i s,i < l.length→P i s→(f i (l.getD i d)=none∧∃ s',X i s=X (i+1) s'∧P (i+1) s')∨∃ b,f i (l.getD i d)=some b∧Q b (X i s)):∀ s,P 0 s→(srch f l 0=none∧∃ s',X 0 s=X l.length s'∧P l.length s')∨∃ b,srch f l 0=some b∧Q b (X 0 s):=by
 have key:∀ (r:List α) (i:Nat) (s0 s:S),l.drop i=r→i≤l.length→X 0 s0=X i s→P i s→(srch f r i=none∧∃ s',X 0 s0=X l.length s'∧P l.length s')∨∃ b,srch f r i=some b∧Q b (X 0 s0):=by
  intro r
  induction r with
  | nil=>
    intro i s0 s hd hi hx hp
    have hin:i=l.length:=by
     have:=congrArg List.length hd
     rw [List.length_drop] at this
     simp at this
     omega
    subst hin
    exact .inl ⟨rfl,s,hx,hp⟩
  | cons a r ih=>
    intro i s0 s hd hi hx hp
    have hc:l[i]?=some a:=by have:=congrArg (·[0]?) hd;simp only [List.getElem?_drop] at this;exact this
    have hlt:i < l.length:=(List.getElem?_eq_some_iff.1 hc).1
    have hd':l.drop (i+1)=r:=by
     have:=congrArg (List.drop 1) hd
     simpa [List.drop_drop,Nat.add_comm] using this
    have hg:l.getD i d=a:=by rw [List.getD,hc];rfl
    rw [srch]
    rcases step i s hlt hp with ⟨h1,s',h2,h3⟩ | ⟨b,h1,h2⟩
    ·rw [hg] at h1
     rw [h1]
     exact ih (i+1) s0 s' hd' hlt (hx.trans h2) h3
    ·rw [hg] at h1
     rw [h1]
     exact .inr ⟨b,rfl,by rw [hx];exact h2⟩
 exact fun s hp=>key l 0 s s rfl (Nat.zero_le _) rfl hp
end Go.AM
set_option maxRecDepth 100000
namespace Go.AM
section
variable {κ:Type} [DecidableEq κ]
def SetOf (enc:κ→Value) (S:κ→Bool) (M:Ob):Prop:=∃ ks,M=.map (esG enc ks fun _=>.s (.bool true))∧ks.Nodup∧∀ l,l∈ks↔S l=true
theorem SetOf.congr {enc:κ→Value} {S T:κ→Bool} {M:Ob} (h:SetOf enc S M) (e:∀ l,S l=T l):SetOf enc T M:=by
 obtain ⟨ks,h1,h2,h3⟩:=h
 exact ⟨ks,h1,h2,fun l=>by rw [h3,e]⟩
end
def esI (k:IntKind) (l:List (Int × V)):List (Value × V):=l.map fun p=>(.int k p.1,p.2)
theorem keyI (k:IntKind) (n:Int):keyOk (.int k) (.int k n)=true:=by simp [keyOk]
theorem sameI (k:IntKind) (a b:Int):Instr.sameNow (.int k) (.int k a) (.int k b)=some (decide (a=b)):=by
 cases k <;> (first | rw [sameNow_int] | skip) <;> rfl
theorem findA_I (k:IntKind) (n:Int):∀ (l:List (Int × V)) (i:Nat),findA (.int k) (.int k n) (esI k l) i=some (match l.findIdx? fun p=>decide (n=p.1) with | some j=>some (i+j,(l.getD j (0,und)).2) | none=>none):=by
 intro l
 induction l with
 | nil=>intro i;rfl
 | cons p l ih=>
   intro i
   have e:esI k (p :: l)=(.int k p.1,p.2) :: esI k l:=rfl
   rw [e]
   simp only [findA,sameI,List.findIdx?_cons]
   by_cases h:n=p.1
   ·simp [h]
   ·simp only [decide_eq_false h,ih,Bool.false_eq_true,if_false,cond_false]
    cases l.findIdx? fun p=>decide (n=p.1) with
    | none=>rfl
    | some j=>
      simp
      omega
def lookI (l:List (Int × V)) (n:Int):Option V:=match l.findIdx? fun p=>decide (n=p.1) with | some j=>some (l.getD j (0,und)).2 | none=>none
theorem upd_I {H:Heap} {base:Nat} (hb:base≤H.length) (k:IntKind) (l:List (Int × V)) (n:Int) (v:V) (hn:(l.all fun p=>decide (p.1≠n))=true):updMV (H ++ [.map (esI k l)]) base (.int k) (.mp H.length) (.s (.int k n)) v=some (und,H ++ [.map (esI k (l ++ [(n,v)]))]):=by
 have hH:(H ++ [Ob.map (esI k l)])[H.length]?=some (.map (esI k l)):=by simp
 have hf:=findA_I k n l 0
 have hnone:l.findIdx? (fun p=>decide (n=p.1))=none:=by
  rw [List.findIdx?_eq_none_iff]
  intro p hp
  have:=List.all_eq_true.1 hn p hp
  simpa using fun e=>(of_decide_eq_true this) e.symm
 rw [hnone] at hf
 simp only [updMV,hb,keyI,and_self,if_true,hH,hf]
 simp [esI]
theorem get_I {H:Heap} {j:Nat} (k:IntKind) {l:List (Int × V)} (hH:H[j]?=some (.map (esI k l))) (z:V) (ok:Bool) (n:Int):
 xMapGet H (.int k) z ok (.mp j) (.s (.int k n))=some (if ok then .tup [(lookI l n).getD z,bl (lookI l n).isSome] else (lookI l n).getD z):=by
 have hf:=findA_I k n l 0
 simp only [xMapGet,evOp,ev,List.getD_cons_zero,List.getD_cons_succ,keyI,if_true,hH,hf,lookI]
 cases l.findIdx? fun p=>decide (n=p.1) with
 | none=>cases ok <;> rfl
 | some j=>cases ok <;> rfl
end Go.AM
set_option maxRecDepth 100000
namespace Go.Proofs.YtngfpadeebpoeaaGreatDoor
open Go.AM
structure ShD where
 d:Bool
 a:Bool
 b:Bool
 k:Bool
 f:Bool
 xs:Bool
 ls:Bool
def ShD.c (s:ShD):List V:=[.s (.bool s.d),.s (.bool s.a),.s (.bool s.b),.s (.bool s.k),.s (.bool s.f),.s (.bool s.xs),.s (.bool s.ls)]
def shT:List (Int × V):=[(1,.agg (ShD.c ⟨true,false,false,true,false,false,false⟩)),(2,.agg (ShD.c ⟨true,false,false,true,false,false,false⟩)),(3,.agg (ShD.c ⟨true,false,false,false,false,false,false⟩)),(4,.agg (ShD.c ⟨true,false,false,false,true,false,false⟩)),(5,.agg (ShD.c ⟨true,true,false,false,false,false,false⟩)),(8,.agg (ShD.c ⟨true,true,false,false,false,false,false⟩)),(6,.agg (ShD.c ⟨true,false,false,false,false,true,true⟩)),(7,.agg (ShD.c ⟨true,true,false,true,false,false,false⟩)),(9,.agg (ShD.c ⟨false,true,true,false,false,false,false⟩)),(10,.agg (ShD.c ⟨true,false,false,false,true,true,false⟩)),(11,.agg (ShD.c ⟨true,true,false,false,false,true,false⟩)),(12,.agg (ShD.c ⟨false,false,false,false,false,false,true⟩)),(13,.agg (ShD.c ⟨false,false,false,false,false,false,true⟩)),(14,.agg (ShD.c ⟨false,true,false,false,false,false,false⟩))]
def shp (n:Int):ShD:=if n=1 then ⟨true,false,false,true,false,false,false⟩ else if n=2 then ⟨true,false,false,true,false,false,false⟩ else if n=3 then ⟨true,false,false,false,false,false,false⟩ else if n=4 then ⟨true,false,false,false,true,false,false⟩ else if n=5 then ⟨true,true,false,false,false,false,false⟩ else if n=8 then ⟨true,true,false,false,false,false,false⟩ else if n=6 then ⟨true,false,false,false,false,true,true⟩ else if n=7 then ⟨true,true,false,true,false,false,false⟩ else if n=9 then ⟨false,true,true,false,false,false,false⟩ else if n=10 then ⟨true,false,false,false,true,true,false⟩ else if n=11 then ⟨true,true,false,false,false,true,false⟩ else if n=12 then ⟨false,false,false,false,false,false,true⟩ else if n=13 then ⟨false,false,false,false,false,false,true⟩ else if n=14 then ⟨false,true,false,false,false,false,false⟩ else ⟨false,false,false,false,false,false,false⟩
theorem shT_get (n:Int):(lookI shT n).getD (.agg (ShD.c ⟨false,false,false,false,false,false,false⟩))=.agg (shp n).c:=by
 by_cases h1:n=1
 ·subst h1;rfl
 by_cases h2:n=2
 ·subst h2;rfl
 by_cases h3:n=3
 ·subst h3;rfl
 by_cases h4:n=4
 ·subst h4;rfl
 by_cases h5:n=5
 ·subst h5;rfl
 by_cases h8:n=8
 ·subst h8;rfl
 by_cases h6:n=6
 ·subst h6;rfl
 by_cases h7:n=7
 ·subst h7;rfl
 by_cases h9:n=9
 ·subst h9;rfl
 by_cases h10:n=10
 ·subst h10;rfl
 by_cases h11:n=11
 ·subst h11;rfl
 by_cases h12:n=12
 ·subst h12;rfl
 by_cases h13:n=13
 ·subst h13;rfl
 by_cases h14:n=14
 ·subst h14;rfl
 simp [lookI,shT,shp,List.findIdx?_cons,h1,h2,h3,h4,h5,h8,h6,h7,h9,h10,h11,h12,h13,h14]
section
variable {CT:Nat→Option CFun}
theorem shapes_fun (hT:CT k_f35=some (.code s_f35)) (base:Nat) (H:Heap) (hb:base≤H.length):callW CT (.fn k_f35 [] []) [] base H=some (.mp H.length,H ++ [.map (esI .u8 shT)]):=by
 refine callW_fn (c:=s_f35) hT (by simp [s_f35]) ?_
 have e0:(Ob.map []:Ob)=.map (esI .u8 []):=rfl
 have u1:=upd_I hb .u8 (shT.take 0) 1 (.agg (ShD.c ⟨true,false,false,true,false,false,false⟩)) (by decide)
 have u2:=upd_I hb .u8 (shT.take 1) 2 (.agg (ShD.c ⟨true,false,false,true,false,false,false⟩)) (by decide)
 have u3:=upd_I hb .u8 (shT.take 2) 3 (.agg (ShD.c ⟨true,false,false,false,false,false,false⟩)) (by decide)
 have u4:=upd_I hb .u8 (shT.take 3) 4 (.agg (ShD.c ⟨true,false,false,false,true,false,false⟩)) (by decide)
 have u5:=upd_I hb .u8 (shT.take 4) 5 (.agg (ShD.c ⟨true,true,false,false,false,false,false⟩)) (by decide)
 have u8:=upd_I hb .u8 (shT.take 5) 8 (.agg (ShD.c ⟨true,true,false,false,false,false,false⟩)) (by decide)
 have u6:=upd_I hb .u8 (shT.take 6) 6 (.agg (ShD.c ⟨true,false,false,false,false,true,true⟩)) (by decide)
 have u7:=upd_I hb .u8 (shT.take 7) 7 (.agg (ShD.c ⟨true,true,false,true,false,false,false⟩)) (by decide)
 have u9:=upd_I hb .u8 (shT.take 8) 9 (.agg (ShD.c ⟨false,true,true,false,false,false,false⟩)) (by decide)
 have u10:=upd_I hb .u8 (shT.take 9) 10 (.agg (ShD.c ⟨true,false,false,false,true,true,false⟩)) (by decide)
 have u11:=upd_I hb .u8 (shT.take 10) 11 (.agg (ShD.c ⟨true,true,false,false,false,true,false⟩)) (by decide)
 have u12:=upd_I hb .u8 (shT.take 11) 12 (.agg (ShD.c ⟨false,false,false,false,false,false,true⟩)) (by decide)
 have u13:=upd_I hb .u8 (shT.take 12) 13 (.agg (ShD.c ⟨false,false,false,false,false,false,true⟩)) (by decide)
 have u14:=upd_I hb .u8 (shT.take 13) 14 (.agg (ShD.c ⟨false,true,false,false,false,false,false⟩)) (by decide)
 simp only [shT,List.take_succ_cons,List.take_zero,List.cons_append,List.nil_append,ShD.c] at u1
 simp only [shT,List.take_succ_cons,List.take_zero,List.cons_append,List.nil_append,ShD.c] at u2
 simp only [shT,List.take_succ_cons,List.take_zero,List.cons_append,List.nil_append,ShD.c] at u3
 simp only [shT,List.take_succ_cons,List.take_zero,List.cons_append,List.nil_append,ShD.c] at u4
 simp only [shT,List.take_succ_cons,List.take_zero,List.cons_append,List.nil_append,ShD.c] at u5
 simp only [shT,List.take_succ_cons,List.take_zero,List.cons_append,List.nil_append,ShD.c] at u8
 simp only [shT,List.take_succ_cons,List.take_zero,List.cons_append,List.nil_append,ShD.c] at u6
 simp only [shT,List.take_succ_cons,List.take_zero,List.cons_append,List.nil_append,ShD.c] at u7
 simp only [shT,List.take_succ_cons,List.take_zero,List.cons_append,List.nil_append,ShD.c] at u9
 simp only [shT,List.take_succ_cons,List.take_zero,List.cons_append,List.nil_append,ShD.c] at u10
 simp only [shT,List.take_succ_cons,List.take_zero,List.cons_append,List.nil_append,ShD.c] at u11
 simp only [shT,List.take_succ_cons,List.take_zero,List.cons_append,List.nil_append,ShD.c] at u12
 simp only [shT,List.take_succ_cons,List.take_zero,List.cons_append,List.nil_append,ShD.c] at u13
 simp only [shT,List.take_succ_cons,List.take_zero,List.cons_append,List.nil_append,ShD.c] at u14
 simp only [shT,ShD.c]
 simp only [s_f35,a_f35,aa,reduceIte,reduceCtorEq,Nat.reduceEqDiff,Nat.reduceLT,Nat.reduceLeDiff,Nat.reduceBEq,Nat.reduceAdd,Nat.reduceMul,op_appR,op_mapNew,op_mapUpd,hb,e0,u1,u2,u3,u4,u5,u8,u6,u7,u9,u10,u11,u12,u13,u14]
end
end Go.Proofs.YtngfpadeebpoeaaGreatDoor
set_option maxRecDepth 100000
namespace Go.Proofs.YtngfpadeebpoeaaGreatDoor
open Go.AM
abbrev Pt:=Nat × Nat × Nat
structure Small (fs:List FunD):Prop where
 n:fs.length < 2 ^ 20
 ps:∀ f∈fs,f.ps.length < 2 ^ 20
 nb:∀ f∈fs,f.blocks.length < 2 ^ 20
 nc:∀ f∈fs,∀ b∈f.blocks,b.code.length < 2 ^ 20
 xs:∀ f∈fs,∀ b∈f.blocks,∀ x∈b.code,x.xs.length < 2 ^ 20
 ls:∀ f∈fs,∀ b∈f.blocks,∀ x∈b.code,x.ls.length < 2 ^ 20
structure NC (A:Heap) (w sm:Nat) (fv:V) (fs:List FunD):Prop where
 gw:getC A w 0=some [fv,.mp sm]
 rd:RdProg A fv fs
 sml:Small fs
 sh:A[sm]?=some (.map (esI .u8 shT))
theorem Ext.at' {A B:Heap} (k:Ext A B) {i:Nat} {x:Ob} (h:A[i]?=some x):B[i]?=some x:=by
 obtain ⟨G,rfl⟩:=k
 rw [List.getElem?_append_left (List.getElem?_eq_some_iff.1 h).1]
 exact h
theorem NC.ext {A B:Heap} {w sm:Nat} {fv:V} {fs:List FunD} (h:NC A w sm fv fs) (k:Ext A B):NC B w sm fv fs:=⟨getC_ext h.gw k,h.rd.ext k,h.sml,Ext.at' k h.sh⟩
theorem NC.load {A B:Heap} {w sm:Nat} {fv:V} {fs:List FunD} (h:NC A w sm fv fs) (k:Ext A B):xLoad B false 1 (.ref w 0 0)=some fv:=by
 rw [xo_ref,getC_ext h.gw k];rfl
def Found (A:Heap) (n h:Nat) (t:Pt) (r:Option (Ex × List V × Heap)):Prop:=∃ D,r=some (.ret,frOf n [(2,.ref h 0 0),(3,bl true)],D)∧Ext A D∧getC D h 0=some [Iz t.1,Iz t.2.1,Iz t.2.2]
theorem rdI_ext {H H':Heap} {v:V} {l:List InsD} (h:RdL 8 RdIns H v l) (k:Ext H H'):RdL 8 RdIns H' v l:=RdL.ext (P:=RdIns) RdIns.ext h k
theorem rdB_ext {H H':Heap} {v:V} {l:List BlkD} (h:RdL 2 RdBlk H v l) (k:Ext H H'):RdL 2 RdBlk H' v l:=RdL.ext (P:=RdBlk) RdBlk.ext h k
def resP:Option Pt→V
 | none=>.tup [.agg [Iz 0,Iz 0,Iz 0],.s (.bool false)]
 | some (i,b,k)=>.tup [.agg [Iz i,Iz b,Iz k],.s (.bool true)]
end Go.Proofs.YtngfpadeebpoeaaGreatDoor
set_option maxRecDepth 100000
namespace Go.Proofs.YtngfpadeebpoeaaGreatDoor
open Go.AM
theorem trim_app2 {C:Heap} {m:Nat} (h:C.length≤m) (fr:List V) (G:Heap):∃ G',trim m fr (C ++ G)=C ++ G':=by
 rcases trim_or m fr (C ++ G) with e | ⟨e,_⟩
 ·exact ⟨G,e⟩
 ·exact ⟨G.take (m - C.length),by rw [e,List.take_append,List.take_of_length_le h]⟩
def cI (bs:List BlkD):Nat:=(bs.map fun b=>b.code.length).sum
def cF (fs:List FunD):Nat:=(fs.map fun f=>cI f.blocks).sum
theorem cI_take {bs:List BlkD} {k:Nat} {x:BlkD} (h:bs[k]?=some x):cI (bs.take (k+1))=cI (bs.take k)+x.code.length:=by
 rw [List.take_add_one,h,cI,List.map_append,List.sum_append];simp [cI]
theorem cF_take {fs:List FunD} {k:Nat} {x:FunD} (h:fs[k]?=some x):cF (fs.take (k+1))=cF (fs.take k)+cI x.blocks:=by
 rw [List.take_add_one,h,cF,List.map_append,List.sum_append];simp [cF]
def giI (G:Nat→Nat→Nat→Nat→InsD→Bool) (n i b:Nat) (k:Nat) (x:InsD):Option Pt:=if G (n+k) i b k x then some (i,b,k) else none
def giB (G:Nat→Nat→Nat→Nat→InsD→Bool) (n i:Nat) (bs:List BlkD) (b:Nat) (bl:BlkD):Option Pt:=srch (giI G (n+cI (bs.take b)) i b) bl.code 0
def giF (G:Nat→Nat→Nat→Nat→InsD→Bool) (fs:List FunD) (i:Nat) (f:FunD):Option Pt:=srch (giB G (cF (fs.take i)) i f.blocks) f.blocks 0
def gSrch (G:Nat→Nat→Nat→Nat→InsD→Bool) (fs:List FunD):Option Pt:=srch (giF G fs) fs 0
section
variable {CT:Nat→Option CFun}
def Yld (CT:Nat→Option CFun) (base:Nat) (y:V) (K:Nat→Heap) (KD:Nat→Nat→Nat→Nat→Heap) (n i b k:Nat) (r:List V) (g:Bool):Prop:=∀ G,∃ G',callW CT y [.agg [Iz i,Iz b,Iz k],.agg r] base (K n ++ G)=if g then some (bl false,KD n i b k ++ G') else some (bl true,K (n+1) ++ G')
theorem cd_l0 (base:Nat) {A:Heap} {K:Nat→Heap} {KD:Nat→Nat→Nat→Nat→Heap} {Gf:Nat→Nat→Nat→Nat→InsD→Bool} {y:V} {L0 L:Nat} (hL:L0≤L) (hK:∀ n,(K n).length=L0) (hKD:∀ n i b k,(KD n i b k).length=L0) (hE:∀ n,Ext A (K n)) (hb:base≤L0) {i b n0:Nat} {v13 v21 cv:V} {n14 n15 n22 n23:Int} {l:List InsD} (hv:RdL 8 RdIns A cv l) (hn:l.length < 2 ^ 20) (hy:∀ k x r,l[k]?=some x→RdIns A r x→Yld CT base y K KD (n0+k) i b k r (Gf (n0+k) i b k x)):
 ∀ C,(∃ G,C=K (n0) ++ G)→(srch (giI Gf n0 i b) l 0=none∧∃ G',itW (evC (callW CT) itW base s_f168_l0) [] L (frOf 47 [(0,y),(3,Iz i),(5,Iz b),(13,v13),(14,Iz n14),(15,Iz n15),(21,v21),(22,Iz n22),(23,Iz n23),(29,cv),(30,Iz l.length),(31,Iz 0)]) C=some (.ext 4,frOf 47 [(0,y),(3,Iz i),(5,Iz b),(13,v13),(14,Iz n14),(15,Iz n15),(21,v21),(22,Iz n22),(23,Iz n23),(29,cv),(30,Iz l.length),(31,Iz l.length),(32,bl false)],K (n0+l.length) ++ G'))∨∃ t,srch (giI Gf n0 i b) l 0=some t∧∃ fr n G',itW (evC (callW CT) itW base s_f168_l0) [] L (frOf 47 [(0,y),(3,Iz i),(5,Iz b),(13,v13),(14,Iz n14),(15,Iz n15),(21,v21),(22,Iz n22),(23,Iz n23),(29,cv),(30,Iz l.length),(31,Iz 0)]) C=some (.ret,fr,KD n t.1 t.2.1 t.2.2 ++ G'):=by
 intro C0 hC0
 rcases it_srch l ins0 (giI Gf n0 i b) (fun k C=>∃ G,C=K (n0+k) ++ G) (fun k C=>itW (evC (callW CT) itW base s_f168_l0) [] L (frOf 47 [(0,y),(3,Iz i),(5,Iz b),(13,v13),(14,Iz n14),(15,Iz n15),(21,v21),(22,Iz n22),(23,Iz n23),(29,cv),(30,Iz l.length),(31,Iz k)]) C) (fun t r=>∃ fr n G',r=some (.ret,fr,KD n t.1 t.2.1 t.2.2 ++ G')) (by
  intro k C hk ⟨G,hC'⟩
  have hC:=hC'.symm
  have hlt':((k:Int) < (l.length:Int)):=by omega
  have hwk:=w64 (n:=k) (by omega)
  have hkx:=some_getD hk ins0
  obtain ⟨x,hxe⟩:∃ x,l.getD k ins0=x:=⟨_,rfl⟩
  rw [hxe] at hkx ⊢
  have hmem:=List.mem_of_getElem? hkx
  obtain ⟨a,r,a1,hr,a2,_⟩:=hv.at2 hkx
  have hEA:Ext A C:=hC ▸ (hE _).trans ⟨G,rfl⟩
  have ld:=a2 C hEA
  have hbC:base≤C.length:=by rw [← hC,List.length_append,hK];omega
  have hgg:∀ c,getC (C ++ [Ob.cells 0 c]) C.length 0=some c:=fun c=>getC_new C 0 c
  have hss:∀ c d,(C ++ [c]).set C.length d=C ++ [d]:=fun c d=>set_snoc C c d
  have eC:∀ c,Ext C (C ++ [Ob.cells 0 c]):=fun c=>Ext.app _ _
  have eG:∀ c:List V,C ++ [Ob.cells 0 c]=K (n0+k) ++ (G ++ [Ob.cells 0 c]):=fun c=>by rw [← hC,List.append_assoc]
  obtain ⟨av,lv,rfl,q1,q2,q3,q4,_⟩:=id hr
  obtain ⟨G',y1⟩:=hy k x _ hkx hr (G ++ [Ob.cells 0 (insC x av lv)])
  rw [← eG] at y1
  have hav:=q1.one
  have hlv:=q3.one
  unfold giI
  cases hg:Gf (n0+k) i b k x with
  | false=>
    rw [hg,if_neg Bool.false_ne_true] at y1
    obtain ⟨G2,hG2⟩:=trim_app2 (C:=K (n0+(k+1))) (m:=L) (by rw [hK];exact hL) (frOf 47 [(0,y),(3,Iz i),(5,Iz b),(13,v13),(14,Iz n14),(15,Iz n15),(21,v21),(22,Iz n22),(23,Iz n23),(29,cv),(30,Iz l.length),(31,Iz (k+1:Nat))]) G'
    refine .inl ⟨if_neg Bool.false_ne_true,K (n0+(k+1)) ++ G2,?_,G2,rfl⟩
    simp only [insC,Iz,bl,Nat.add_assoc] at ld y1 hG2 ⊢
    rw [itW_step]
    simp only [Iz,bl,a_f168,s_f168_l0_b,s_f168_l1_b,s_f168_l2_b,aa,reduceIte,reduceCtorEq,Nat.reduceEqDiff,Nat.reduceLT,Nat.reduceLeDiff,Nat.reduceBEq,Nat.reduceAdd,Nat.reduceMul,op_appR,hlt',a1,ld,hbC,hgg,hss,hav,hlv,Bool.and_self,y1,hwk,hG2]
  | true=>
    rw [hg,if_pos rfl] at y1
    obtain ⟨G2,hG2⟩:=trim_app2 (C:=KD (n0+k) i b k) (m:=L) (by rw [hKD];exact hL) (frOf 47 [(0,y),(3,Iz i),(5,Iz b),(13,v13),(14,Iz n14),(15,Iz n15),(21,v21),(22,Iz n22),(23,Iz n23),(29,cv),(30,Iz l.length),(31,Iz k),(43,bl true)]) G'
    refine .inr ⟨(i,b,k),if_pos rfl,frOf 47 [(0,y),(3,Iz i),(5,Iz b),(13,v13),(14,Iz n14),(15,Iz n15),(21,v21),(22,Iz n22),(23,Iz n23),(29,cv),(30,Iz l.length),(31,Iz k),(43,bl true)],n0+k,G2,?_⟩
    simp only [insC,Iz,bl] at ld y1 hG2 ⊢
    rw [itW_step]
    simp only [Iz,bl,a_f168,s_f168_l0_b,s_f168_l1_b,s_f168_l2_b,aa,reduceIte,reduceCtorEq,Nat.reduceEqDiff,Nat.reduceLT,Nat.reduceLeDiff,Nat.reduceBEq,Nat.reduceAdd,Nat.reduceMul,op_appR,hlt',a1,ld,hbC,hgg,hss,hav,hlv,Bool.and_self,y1,hG2]) C0 (by exact hC0) with ⟨e1,C,e2,G,e3⟩ | e
 ·refine .inl ⟨e1,?_⟩
  rw [show n0+l.length=n0+l.length from rfl] at e3
  obtain ⟨G',hG'⟩:=trim_app2 (C:=K (n0+l.length)) (m:=L) (by rw [hK];exact hL) (frOf 47 [(0,y),(3,Iz i),(5,Iz b),(13,v13),(14,Iz n14),(15,Iz n15),(21,v21),(22,Iz n22),(23,Iz n23),(29,cv),(30,Iz l.length),(31,Iz l.length),(32,bl false)]) G
  refine ⟨G',?_⟩
  rw [cast0] at e2
  refine e2.trans ?_
  subst e3
  rw [itW_step]
  simp only [Iz,bl] at hG'
  simp only [Iz,bl,a_f168,s_f168_l0_b,s_f168_l1_b,s_f168_l2_b,aa,reduceIte,reduceCtorEq,Nat.reduceEqDiff,Nat.reduceLT,Nat.reduceLeDiff,Nat.reduceBEq,Nat.reduceAdd,Nat.reduceMul,op_appR,Int.lt_irrefl,hG']
 ·rw [cast0] at e
  exact .inr e
theorem cd_l1 (base:Nat) {A:Heap} {K:Nat→Heap} {KD:Nat→Nat→Nat→Nat→Heap} {Gf:Nat→Nat→Nat→Nat→InsD→Bool} {y:V} {L0 L:Nat} (hL:L0≤L) (hK:∀ n,(K n).length=L0) (hKD:∀ n i b k,(KD n i b k).length=L0) (hE:∀ n,Ext A (K n)) (hb:base≤L0) {i n0:Nat} {v13 bv:V} {n14 n15:Int} {l:List BlkD} (hv:RdL 2 RdBlk A bv l) (hn:l.length < 2 ^ 20) (hnc:∀ b∈l,b.code.length < 2 ^ 20) (hy:∀ b x,l[b]?=some x→∀ k z r,x.code[k]?=some z→RdIns A r z→Yld CT base y K KD (n0+cI (l.take b)+k) i b k r (Gf (n0+cI (l.take b)+k) i b k z)):
 ∀ C,(∃ G,C=K (n0) ++ G)→(srch (giB Gf n0 i l) l 0=none∧∃ G',itW (evC (callW CT) itW base s_f168_l1) [] L (frOf 47 [(0,y),(3,Iz i),(13,v13),(14,Iz n14),(15,Iz n15),(21,bv),(22,Iz l.length),(23,Iz 0)]) C=some (.ext 2,frOf 47 [(0,y),(3,Iz i),(13,v13),(14,Iz n14),(15,Iz n15),(21,bv),(22,Iz l.length),(23,Iz l.length),(24,bl false)],K (n0+cI l) ++ G'))∨∃ t,srch (giB Gf n0 i l) l 0=some t∧∃ fr n G',itW (evC (callW CT) itW base s_f168_l1) [] L (frOf 47 [(0,y),(3,Iz i),(13,v13),(14,Iz n14),(15,Iz n15),(21,bv),(22,Iz l.length),(23,Iz 0)]) C=some (.ret,fr,KD n t.1 t.2.1 t.2.2 ++ G'):=by
 intro C0 hC0
 rcases it_srch l blk0 (giB Gf n0 i l) (fun k C=>∃ G,C=K (n0+cI (l.take k)) ++ G) (fun k C=>itW (evC (callW CT) itW base s_f168_l1) [] L (frOf 47 [(0,y),(3,Iz i),(13,v13),(14,Iz n14),(15,Iz n15),(21,bv),(22,Iz l.length),(23,Iz k)]) C) (fun t r=>∃ fr n G',r=some (.ret,fr,KD n t.1 t.2.1 t.2.2 ++ G')) (by
  intro k C hk ⟨G,hC'⟩
  have hC:=hC'.symm
  have hlt':((k:Int) < (l.length:Int)):=by omega
  have hwk:=w64 (n:=k) (by omega)
  have hkx:=some_getD hk blk0
  obtain ⟨x,hxe⟩:∃ x,l.getD k blk0=x:=⟨_,rfl⟩
  rw [hxe] at hkx ⊢
  have hmem:=List.mem_of_getElem? hkx
  obtain ⟨a,r,a1,hr,a2,_⟩:=hv.at2 hkx
  have hEA:Ext A C:=hC ▸ (hE _).trans ⟨G,rfl⟩
  have ld:=a2 C hEA
  have hbC:base≤C.length:=by rw [← hC,List.length_append,hK];omega
  have hgg:∀ c,getC (C ++ [Ob.cells 0 c]) C.length 0=some c:=fun c=>getC_new C 0 c
  have hss:∀ c d,(C ++ [c]).set C.length d=C ++ [d]:=fun c d=>set_snoc C c d
  have eC:∀ c,Ext C (C ++ [Ob.cells 0 c]):=fun c=>Ext.app _ _
  have eG:∀ c:List V,C ++ [Ob.cells 0 c]=K (n0+cI (l.take k)) ++ (G ++ [Ob.cells 0 c]):=fun c=>by rw [← hC,List.append_assoc]
  obtain ⟨cv,rfl,hcv⟩:=id hr
  have hcl:=(rdI_ext hcv (hEA.trans (eC [Sb x.label,cv]))).len
  have hco:=hcv.one
  have hct:=cI_take hkx
  have hl2:(C ++ [Ob.cells 0 [Sb x.label,cv]]).length=C.length+1:=by simp
  have hL1:L0≤C.length+1:=by rw [← hC,List.length_append,hK];omega
  have hin:=cd_l0 (CT:=CT) (Gf:=Gf) (y:=y) (v13:=v13) (v21:=bv) (i:=i) (b:=k) (n14:=n14) (n15:=n15) (n22:=l.length) (n23:=k) base (L:=C.length+1) hL1 hK hKD hE hb hcv (hnc x hmem) (n0:=n0+cI (l.take k)) (hy k x hkx) (C ++ [Ob.cells 0 [Sb x.label,cv]]) ⟨G ++ [Ob.cells 0 [Sb x.label,cv]],eG _⟩
  rw [show n0+cI (l.take k)+x.code.length=n0+cI (l.take (k+1)) by rw [hct];omega] at hin
  rcases hin with ⟨z1,G',z2⟩ | ⟨t,z1,fr,n,G',z2⟩
  ·obtain ⟨G2,hG2⟩:=trim_app2 (C:=K (n0+cI (l.take (k+1)))) (m:=L) (by rw [hK];exact hL) (frOf 47 [(0,y),(3,Iz i),(13,v13),(14,Iz n14),(15,Iz n15),(21,bv),(22,Iz l.length),(23,Iz (k+1:Nat))]) G'
   refine .inl ⟨z1,K (n0+cI (l.take (k+1))) ++ G2,?_,G2,rfl⟩
   simp only [Iz,bl] at z2 hG2 ld ⊢
   rw [itW_step]
   simp only [Iz,bl,a_f168,s_f168_l0_b,s_f168_l1_b,s_f168_l2_b,aa,reduceIte,reduceCtorEq,Nat.reduceEqDiff,Nat.reduceLT,Nat.reduceLeDiff,Nat.reduceBEq,Nat.reduceAdd,Nat.reduceMul,op_appR,hlt',a1,ld,hbC,hgg,hss,hco,hcl,Bool.and_self,hl2,z2,hwk,hG2]
  ·obtain ⟨G2,hG2⟩:=trim_app2 (C:=KD n t.1 t.2.1 t.2.2) (m:=L) (by rw [hKD];exact hL) (killS [] fr) G'
   refine .inr ⟨t,z1,killS [] fr,n,G2,?_⟩
   simp only [Iz,bl] at z2 hG2 ld ⊢
   rw [itW_step]
   simp only [Iz,bl,a_f168,s_f168_l0_b,s_f168_l1_b,s_f168_l2_b,aa,reduceIte,reduceCtorEq,Nat.reduceEqDiff,Nat.reduceLT,Nat.reduceLeDiff,Nat.reduceBEq,Nat.reduceAdd,Nat.reduceMul,op_appR,hlt',a1,ld,hbC,hgg,hss,hco,hcl,Bool.and_self,hl2,z2,hG2]) C0 (by rw [List.take_zero,show n0+cI []=n0 from rfl];exact hC0) with ⟨e1,C,e2,G,e3⟩ | e
 ·refine .inl ⟨e1,?_⟩
  rw [List.take_length] at e3
  obtain ⟨G',hG'⟩:=trim_app2 (C:=K (n0+cI l)) (m:=L) (by rw [hK];exact hL) (frOf 47 [(0,y),(3,Iz i),(13,v13),(14,Iz n14),(15,Iz n15),(21,bv),(22,Iz l.length),(23,Iz l.length),(24,bl false)]) G
  refine ⟨G',?_⟩
  rw [cast0] at e2
  refine e2.trans ?_
  subst e3
  rw [itW_step]
  simp only [Iz,bl] at hG'
  simp only [Iz,bl,a_f168,s_f168_l0_b,s_f168_l1_b,s_f168_l2_b,aa,reduceIte,reduceCtorEq,Nat.reduceEqDiff,Nat.reduceLT,Nat.reduceLeDiff,Nat.reduceBEq,Nat.reduceAdd,Nat.reduceMul,op_appR,Int.lt_irrefl,hG']
 ·rw [cast0] at e
  exact .inr e
theorem cd_l2 (base:Nat) {A:Heap} {K:Nat→Heap} {KD:Nat→Nat→Nat→Nat→Heap} {Gf:Nat→Nat→Nat→Nat→InsD→Bool} {y:V} {L0 L:Nat} (hL:L0≤L) (hK:∀ n,(K n).length=L0) (hKD:∀ n i b k,(KD n i b k).length=L0) (hE:∀ n,Ext A (K n)) (hb:base≤L0) {fv:V} {l:List FunD} (hv:RdL 3 RdFun A fv l) (hn:l.length < 2 ^ 20) (hnb:∀ f∈l,f.blocks.length < 2 ^ 20) (hnc:∀ f∈l,∀ b∈f.blocks,b.code.length < 2 ^ 20) (hy:∀ i f,l[i]?=some f→∀ b x,f.blocks[b]?=some x→∀ k z r,x.code[k]?=some z→RdIns A r z→Yld CT base y K KD (cF (l.take i)+cI (f.blocks.take b)+k) i b k r (Gf (cF (l.take i)+cI (f.blocks.take b)+k) i b k z)):
 ∀ C,(∃ G,C=K (0) ++ G)→(srch (giF Gf l) l 0=none∧∃ G',itW (evC (callW CT) itW base s_f168_l2) [] L (frOf 47 [(0,y),(13,fv),(14,Iz l.length),(15,Iz 0)]) C=some (.ext 0,frOf 47 [(0,y),(13,fv),(14,Iz l.length),(15,Iz l.length),(16,bl false)],K (cF l) ++ G'))∨∃ t,srch (giF Gf l) l 0=some t∧∃ fr n G',itW (evC (callW CT) itW base s_f168_l2) [] L (frOf 47 [(0,y),(13,fv),(14,Iz l.length),(15,Iz 0)]) C=some (.ret,fr,KD n t.1 t.2.1 t.2.2 ++ G'):=by
 intro C0 hC0
 rcases it_srch l fun0 (giF Gf l) (fun k C=>∃ G,C=K (cF (l.take k)) ++ G) (fun k C=>itW (evC (callW CT) itW base s_f168_l2) [] L (frOf 47 [(0,y),(13,fv),(14,Iz l.length),(15,Iz k)]) C) (fun t r=>∃ fr n G',r=some (.ret,fr,KD n t.1 t.2.1 t.2.2 ++ G')) (by
  intro k C hk ⟨G,hC'⟩
  have hC:=hC'.symm
  have hlt':((k:Int) < (l.length:Int)):=by omega
  have hwk:=w64 (n:=k) (by omega)
  have hkx:=some_getD hk fun0
  obtain ⟨x,hxe⟩:∃ x,l.getD k fun0=x:=⟨_,rfl⟩
  rw [hxe] at hkx ⊢
  have hmem:=List.mem_of_getElem? hkx
  obtain ⟨a,r,a1,hr,a2,_⟩:=hv.at2 hkx
  have hEA:Ext A C:=hC ▸ (hE _).trans ⟨G,rfl⟩
  have ld:=a2 C hEA
  have hbC:base≤C.length:=by rw [← hC,List.length_append,hK];omega
  have hgg:∀ c,getC (C ++ [Ob.cells 0 c]) C.length 0=some c:=fun c=>getC_new C 0 c
  have hss:∀ c d,(C ++ [c]).set C.length d=C ++ [d]:=fun c d=>set_snoc C c d
  have eC:∀ c,Ext C (C ++ [Ob.cells 0 c]):=fun c=>Ext.app _ _
  have eG:∀ c:List V,C ++ [Ob.cells 0 c]=K (cF (l.take k)) ++ (G ++ [Ob.cells 0 c]):=fun c=>by rw [← hC,List.append_assoc]
  obtain ⟨pv,bv,rfl,q1,q2,q3,hbv⟩:=id hr
  have hpo:=q1.one
  have hbo:=hbv.one
  have hbl:=(rdB_ext hbv (hEA.trans (eC [Sb x.name,pv,bv]))).len
  have hct:=cF_take hkx
  have hl2:(C ++ [Ob.cells 0 [Sb x.name,pv,bv]]).length=C.length+1:=by simp
  have hL1:L0≤C.length+1:=by rw [← hC,List.length_append,hK];omega
  have hin:=cd_l1 (CT:=CT) (Gf:=Gf) (y:=y) (v13:=fv) (i:=k) (n14:=l.length) (n15:=k) base (L:=C.length+1) hL1 hK hKD hE hb hbv (hnb x hmem) (hnc x hmem) (n0:=cF (l.take k)) (hy k x hkx) (C ++ [Ob.cells 0 [Sb x.name,pv,bv]]) ⟨G ++ [Ob.cells 0 [Sb x.name,pv,bv]],eG _⟩
  rw [← hct] at hin
  rcases hin with ⟨z1,G',z2⟩ | ⟨t,z1,fr,n,G',z2⟩
  ·obtain ⟨G2,hG2⟩:=trim_app2 (C:=K (cF (l.take (k+1)))) (m:=L) (by rw [hK];exact hL) (frOf 47 [(0,y),(13,fv),(14,Iz l.length),(15,Iz (k+1:Nat))]) G'
   refine .inl ⟨z1,K (cF (l.take (k+1))) ++ G2,?_,G2,rfl⟩
   simp only [Iz,bl] at z2 hG2 ld ⊢
   rw [itW_step]
   simp only [Iz,bl,a_f168,s_f168_l0_b,s_f168_l1_b,s_f168_l2_b,aa,reduceIte,reduceCtorEq,Nat.reduceEqDiff,Nat.reduceLT,Nat.reduceLeDiff,Nat.reduceBEq,Nat.reduceAdd,Nat.reduceMul,op_appR,hlt',a1,ld,hbC,hgg,hss,hpo,hbo,hbl,Bool.and_self,hl2,z2,hwk,hG2]
  ·obtain ⟨G2,hG2⟩:=trim_app2 (C:=KD n t.1 t.2.1 t.2.2) (m:=L) (by rw [hKD];exact hL) (killS [] fr) G'
   refine .inr ⟨t,z1,killS [] fr,n,G2,?_⟩
   simp only [Iz,bl] at z2 hG2 ld ⊢
   rw [itW_step]
   simp only [Iz,bl,a_f168,s_f168_l0_b,s_f168_l1_b,s_f168_l2_b,aa,reduceIte,reduceCtorEq,Nat.reduceEqDiff,Nat.reduceLT,Nat.reduceLeDiff,Nat.reduceBEq,Nat.reduceAdd,Nat.reduceMul,op_appR,hlt',a1,ld,hbC,hgg,hss,hpo,hbo,hbl,Bool.and_self,hl2,z2,hG2]) C0 (by rw [List.take_zero,show cF []=0 from rfl];exact hC0) with ⟨e1,C,e2,G,e3⟩ | e
 ·refine .inl ⟨e1,?_⟩
  rw [List.take_length] at e3
  obtain ⟨G',hG'⟩:=trim_app2 (C:=K (cF l)) (m:=L) (by rw [hK];exact hL) (frOf 47 [(0,y),(13,fv),(14,Iz l.length),(15,Iz l.length),(16,bl false)]) G
  refine ⟨G',?_⟩
  rw [cast0] at e2
  refine e2.trans ?_
  subst e3
  rw [itW_step]
  simp only [Iz,bl] at hG'
  simp only [Iz,bl,a_f168,s_f168_l0_b,s_f168_l1_b,s_f168_l2_b,aa,reduceIte,reduceCtorEq,Nat.reduceEqDiff,Nat.reduceLT,Nat.reduceLeDiff,Nat.reduceBEq,Nat.reduceAdd,Nat.reduceMul,op_appR,Int.lt_irrefl,hG']
 ·rw [cast0] at e
  exact .inr e
theorem code1_fun (hT:CT k_f168=some (.code s_f168)) (base:Nat) {A:Heap} {K:Nat→Heap} {KD:Nat→Nat→Nat→Nat→Heap} {Gf:Nat→Nat→Nat→Nat→InsD→Bool} {y:V} {L0:Nat} (hK:∀ n,(K n).length=L0) (hKD:∀ n i b k,(KD n i b k).length=L0) (hE:∀ n,Ext A (K n)) (hb:base≤L0) {w w1 sm:Nat} {fv:V} {fs:List FunD} (hc:NC A w sm fv fs) (hw:getC (K 0) w1 0=some [.ref w 0 0])
 (hy:∀ i f,fs[i]?=some f→∀ b x,f.blocks[b]?=some x→∀ k z r,x.code[k]?=some z→RdIns A r z→Yld CT base y K KD (cF (fs.take i)+cI (f.blocks.take b)+k) i b k r (Gf (cF (fs.take i)+cI (f.blocks.take b)+k) i b k z)):
 (gSrch Gf fs=none∧∃ G,callW CT (.fn k_f168 [] [.ref w1 0 0]) [y] base (K 0)=some (.tup [],K (cF fs) ++ G))∨∃ t,gSrch Gf fs=some t∧∃ n G,callW CT (.fn k_f168 [] [.ref w1 0 0]) [y] base (K 0)=some (.tup [],KD n t.1 t.2.1 t.2.2 ++ G):=by
 have x1:=getC_load hw
 have x2:=hc.load (hE 0)
 have x3:=(hc.rd.ext (hE 0)).len
 rcases cd_l2 (CT:=CT) (Gf:=Gf) (y:=y) (L:=L0) base (Nat.le_refl _) hK hKD hE hb hc.rd hc.sml.n hc.sml.nb hc.sml.nc hy (K 0) ⟨[],(List.append_nil _).symm⟩ with ⟨z1,G,z2⟩ | ⟨t,z1,fr,n,G,z2⟩
 ·refine .inl ⟨z1,G,callW_fn (c:=s_f168) hT (by simp [s_f168]) ?_⟩
  simp only [Iz,bl] at z2 x3
  simp only [s_f168,a_f168,s_f168_l0_b,s_f168_l1_b,s_f168_l2_b,aa,reduceIte,reduceCtorEq,Nat.reduceEqDiff,Nat.reduceLT,Nat.reduceLeDiff,Nat.reduceBEq,Nat.reduceAdd,Nat.reduceMul,op_appR,x1,x2,x3,hK,z2,res_nil]
 ·refine .inr ⟨t,z1,n,G,callW_fn (c:=s_f168) hT (by simp [s_f168]) ?_⟩
  simp only [Iz,bl] at z2 x3
  simp only [s_f168,a_f168,s_f168_l0_b,s_f168_l1_b,s_f168_l2_b,aa,reduceIte,reduceCtorEq,Nat.reduceEqDiff,Nat.reduceLT,Nat.reduceLeDiff,Nat.reduceBEq,Nat.reduceAdd,Nat.reduceMul,op_appR,x1,x2,x3,hK,z2,res_nil]
end
end Go.Proofs.YtngfpadeebpoeaaGreatDoor
set_option maxRecDepth 100000
namespace Go.Proofs.YtngfpadeebpoeaaGreatDoor
open Go.AM
theorem joinOkM {M:Nat} {xs:List ByteArray} {sep:ByteArray} (h1:xs.length≤1048576) (h2:∀ x∈xs,x.size≤M) (hM:M≤1048576) (h3:sep.size≤2):JoinOk xs sep∧(joinB xs sep).size≤xs.length * (M+2):=by
 have h:=join_le sep.data.toList (M:=M) (xs:=xs.map (·.data.toList)) (by
  intro x hx
  obtain ⟨b,hb,rfl⟩:=List.mem_map.1 hx
  exact h2 b hb)
 have h3':sep.data.toList.length≤2:=h3
 rw [List.length_map] at h
 have h4:xs.length * (sep.data.toList.length+M)≤xs.length * (M+2):=Nat.mul_le_mul_left _ (by omega)
 have h5:xs.length * (M+2)≤1048576 * 1048578:=Nat.mul_le_mul h1 (by omega)
 exact ⟨⟨by omega,by omega⟩,Nat.le_trans h h4⟩
theorem two_le {M:Nat} {a b:ByteArray} (ha:a.size≤M) (hb:b.size≤M):∀ x∈[a,b],x.size≤M:=by
 intro x hx
 simp only [List.mem_cons,List.not_mem_nil,or_false] at hx
 rcases hx with rfl | rfl <;> assumption
theorem three_le {M:Nat} {a b c:ByteArray} (ha:a.size≤M) (hb:b.size≤M) (hc:c.size≤M):∀ x∈[a,b,c],x.size≤M:=by
 intro x hx
 simp only [List.mem_cons,List.not_mem_nil,or_false] at hx
 rcases hx with rfl | rfl | rfl <;> assumption
def bAlloca:ByteArray:=⟨#[97,108,108,111,99,97]⟩
def bMalloc:ByteArray:=⟨#[109,97,108,108,111,99]⟩
def bNull:ByteArray:=⟨#[110,117,108,108]⟩
def bAddr:ByteArray:=⟨#[97,100,100,114]⟩
def bCopy:ByteArray:=⟨#[99,111,112,121]⟩
def bPhi:ByteArray:=⟨#[112,104,105]⟩
def bField:ByteArray:=⟨#[102,105,101,108,100]⟩
def bLoad:ByteArray:=⟨#[108,111,97,100]⟩
def bStore:ByteArray:=⟨#[115,116,111,114,101]⟩
def bCall:ByteArray:=⟨#[99,97,108,108]⟩
def bICall:ByteArray:=⟨#[105,99,97,108,108]⟩
def bBr:ByteArray:=⟨#[98,114]⟩
def bGoto:ByteArray:=⟨#[103,111,116,111]⟩
def bRet:ByteArray:=⟨#[114,101,116]⟩
def bComma:ByteArray:=⟨#[44]⟩
def itB (n:Int):ByteArray:=⟨(Lib.decDigits n.toNat).toArray⟩
theorem decDigits_len:∀ n:Nat,n < 100→(Lib.decDigits n).length≤2:=by
 intro n hn
 rw [Lib.decDigits]
 split
 ·simp
 ·rw [Lib.decDigits,dif_pos (by omega)]
  simp
theorem itB_size {n:Int} (h0:0≤n) (h1:n < 100):(itB n).size≤2:=decDigits_len n.toNat (by omega)
structure SmI (x:InsD):Prop where
 d:x.d.size≤200
 a:x.a.size≤200
 b:x.b.size≤200
 f:x.f.size≤200
 nx:x.xs.length≤20
 nl:x.ls.length≤20
 xs:∀ s∈x.xs,s.size≤200
 ls:∀ s∈x.ls,s.size≤200
structure WorT (CT:Nat→Option CFun):Prop where
 L:LibT CT
 W:CT k_f21=some (.code s_f21)
 A:CT k_f22=some (.code s_f22)
 T:CT k_f69=some (.prim trimG)
theorem argsT_size {xs:List ByteArray} (h1:xs.length≤20) (h2:∀ x∈xs,x.size≤200):JoinOk xs bCm∧(argsT xs).size≤5000:=by
 have h:=joinOkM (sep:=bCm) (by omega) h2 (by omega) (by decide)
 have n1:(⟨#[40]⟩:ByteArray).size=1:=rfl
 have n2:(⟨#[41]⟩:ByteArray).size=1:=rfl
 have h3:xs.length * (200+2)≤20 * 202:=Nat.mul_le_mul_right _ h1
 refine ⟨h.1,?_⟩
 unfold argsT
 rw [size_cat,size_cat]
 omega
section
variable {CT:Nat→Option CFun}
theorem f5_fun (h:WorT CT) (hT:CT k_f57=some (.code s_f57)) (base:Nat) {A:Heap} {av lv:V} {x:InsD} (hr:RdIns A (insC x av lv) x) (hx:SmI x):
 ∃ H',callW CT (.fn k_f57 [] []) [.agg (insC x av lv)] base A=some (Sb (wordsT [bAddr,x.f]),H')∧Ext A H':=by
 obtain ⟨av',lv',he,q1,q2,q3,q4,_⟩:=hr
 cases he
 have hav:=q1.one
 have hlv:=q3.one
 have ha:=hx.a;have hb:=hx.b;have hf:=hx.f;have hd:=hx.d
 have hl1:=len_snoc A (Ob.cells 0 (insC x av lv))
 have hgg:=getC_new A 0 (insC x av lv)
 have e1:Ext A (A ++ [Ob.cells 0 (insC x av lv)]):=Ext.app _ _
 have hsv:=strs_new (A ++ [Ob.cells 0 (insC x av lv)]) [bAddr,x.f]
 have hj:=joinOkM (xs:=[bAddr,x.f]) (sep:=bSp) (by simp) (two_le (M:=10000) (by first | decide | omega) (by first | decide | omega)) (by omega) (by decide)
 have hw:=words_fun h.L h.W base hsv hj.1
 refine ⟨_,callW_fnA (c:=s_f57) (k:=1) hT rfl (by decide) s_f57_first ?_,e1.trans (Ext.app _ [Ob.cells 0 ([bAddr,x.f].map Sb)])⟩
 rw [hl1] at hw
 simp only [insC,List.map_cons,List.map_nil,List.length_cons,List.length_nil,bAddr] at hw hgg hl1
 simp only [insC,s_f57,a_f57,aa,reduceIte,reduceCtorEq,Nat.reduceEqDiff,Nat.reduceLT,Nat.reduceLeDiff,Nat.reduceBEq,Nat.reduceAdd,Nat.reduceMul,op_appR,hav,hlv,Bool.and_self,hl1,hgg,hw]
 rfl
theorem f6_fun (h:WorT CT) (hT:CT k_f58=some (.code s_f58)) (base:Nat) {A:Heap} {av lv:V} {x:InsD} (hr:RdIns A (insC x av lv) x) (hx:SmI x):
 ∃ H',callW CT (.fn k_f58 [] []) [.agg (insC x av lv)] base A=some (Sb (wordsT [bCopy,x.a]),H')∧Ext A H':=by
 obtain ⟨av',lv',he,q1,q2,q3,q4,_⟩:=hr
 cases he
 have hav:=q1.one
 have hlv:=q3.one
 have ha:=hx.a;have hb:=hx.b;have hf:=hx.f;have hd:=hx.d
 have hl1:=len_snoc A (Ob.cells 0 (insC x av lv))
 have hgg:=getC_new A 0 (insC x av lv)
 have e1:Ext A (A ++ [Ob.cells 0 (insC x av lv)]):=Ext.app _ _
 have hsv:=strs_new (A ++ [Ob.cells 0 (insC x av lv)]) [bCopy,x.a]
 have hj:=joinOkM (xs:=[bCopy,x.a]) (sep:=bSp) (by simp) (two_le (M:=10000) (by first | decide | omega) (by first | decide | omega)) (by omega) (by decide)
 have hw:=words_fun h.L h.W base hsv hj.1
 refine ⟨_,callW_fnA (c:=s_f58) (k:=1) hT rfl (by decide) s_f58_first ?_,e1.trans (Ext.app _ [Ob.cells 0 ([bCopy,x.a].map Sb)])⟩
 rw [hl1] at hw
 simp only [insC,List.map_cons,List.map_nil,List.length_cons,List.length_nil,bCopy] at hw hgg hl1
 simp only [insC,s_f58,a_f58,aa,reduceIte,reduceCtorEq,Nat.reduceEqDiff,Nat.reduceLT,Nat.reduceLeDiff,Nat.reduceBEq,Nat.reduceAdd,Nat.reduceMul,op_appR,hav,hlv,Bool.and_self,hl1,hgg,hw]
 rfl
theorem f9_fun (h:WorT CT) (hT:CT k_f62=some (.code s_f62)) (base:Nat) {A:Heap} {av lv:V} {x:InsD} (hr:RdIns A (insC x av lv) x) (hx:SmI x):
 ∃ H',callW CT (.fn k_f62 [] []) [.agg (insC x av lv)] base A=some (Sb (wordsT [bLoad,x.a]),H')∧Ext A H':=by
 obtain ⟨av',lv',he,q1,q2,q3,q4,_⟩:=hr
 cases he
 have hav:=q1.one
 have hlv:=q3.one
 have ha:=hx.a;have hb:=hx.b;have hf:=hx.f;have hd:=hx.d
 have hl1:=len_snoc A (Ob.cells 0 (insC x av lv))
 have hgg:=getC_new A 0 (insC x av lv)
 have e1:Ext A (A ++ [Ob.cells 0 (insC x av lv)]):=Ext.app _ _
 have hsv:=strs_new (A ++ [Ob.cells 0 (insC x av lv)]) [bLoad,x.a]
 have hj:=joinOkM (xs:=[bLoad,x.a]) (sep:=bSp) (by simp) (two_le (M:=10000) (by first | decide | omega) (by first | decide | omega)) (by omega) (by decide)
 have hw:=words_fun h.L h.W base hsv hj.1
 refine ⟨_,callW_fnA (c:=s_f62) (k:=1) hT rfl (by decide) s_f62_first ?_,e1.trans (Ext.app _ [Ob.cells 0 ([bLoad,x.a].map Sb)])⟩
 rw [hl1] at hw
 simp only [insC,List.map_cons,List.map_nil,List.length_cons,List.length_nil,bLoad] at hw hgg hl1
 simp only [insC,s_f62,a_f62,aa,reduceIte,reduceCtorEq,Nat.reduceEqDiff,Nat.reduceLT,Nat.reduceLeDiff,Nat.reduceBEq,Nat.reduceAdd,Nat.reduceMul,op_appR,hav,hlv,Bool.and_self,hl1,hgg,hw]
 rfl
theorem f10_fun (h:WorT CT) (hT:CT k_f63=some (.code s_f63)) (base:Nat) {A:Heap} {av lv:V} {x:InsD} (hr:RdIns A (insC x av lv) x) (hx:SmI x):
 ∃ H',callW CT (.fn k_f63 [] []) [.agg (insC x av lv)] base A=some (Sb (wordsT [bStore,x.a ++ bComma,x.b]),H')∧Ext A H':=by
 obtain ⟨av',lv',he,q1,q2,q3,q4,_⟩:=hr
 cases he
 have hav:=q1.one
 have hlv:=q3.one
 have ha:=hx.a;have hb:=hx.b;have hf:=hx.f;have hd:=hx.d
 have hl1:=len_snoc A (Ob.cells 0 (insC x av lv))
 have hgg:=getC_new A 0 (insC x av lv)
 have e1:Ext A (A ++ [Ob.cells 0 (insC x av lv)]):=Ext.app _ _
 have n1:bComma.size=1:=rfl
 have c1:x.a.size+bComma.size≤4611686018427387904:=by omega
 have c2:(x.a ++ bComma).size≤10000:=by rw [size_cat];omega
 have hsv:=strs_new (A ++ [Ob.cells 0 (insC x av lv)]) [bStore,x.a ++ bComma,x.b]
 have hj:=joinOkM (xs:=[bStore,x.a ++ bComma,x.b]) (sep:=bSp) (by simp) (three_le (M:=10000) (by first | decide | omega) (by first | decide | omega) (by first | decide | omega)) (by omega) (by decide)
 have hw:=words_fun h.L h.W base hsv hj.1
 refine ⟨_,callW_fnA (c:=s_f63) (k:=1) hT rfl (by decide) s_f63_first ?_,e1.trans (Ext.app _ [Ob.cells 0 ([bStore,x.a ++ bComma,x.b].map Sb)])⟩
 rw [hl1] at hw
 simp only [insC,List.map_cons,List.map_nil,List.length_cons,List.length_nil,bStore,bComma] at hw hgg hl1 c1
 simp only [insC,s_f63,a_f63,aa,reduceIte,reduceCtorEq,Nat.reduceEqDiff,Nat.reduceLT,Nat.reduceLeDiff,Nat.reduceBEq,Nat.reduceAdd,Nat.reduceMul,op_appR,hav,hlv,Bool.and_self,hl1,hgg,hw,catOk c1,if_false]
 rfl
theorem f11_fun (h:WorT CT) (hT:CT k_f64=some (.code s_f64)) (base:Nat) {A:Heap} {av lv:V} {x:InsD} (hr:RdIns A (insC x av lv) x) (hx:SmI x):
 ∃ H',callW CT (.fn k_f64 [] []) [.agg (insC x av lv)] base A=some (Sb (wordsT [bCall,x.f ++ argsT x.xs]),H')∧Ext A H':=by
 obtain ⟨av',lv',he,q1,q2,q3,q4,_⟩:=hr
 cases he
 have hav:=q1.one
 have hlv:=q3.one
 have ha:=hx.a;have hb:=hx.b;have hf:=hx.f;have hd:=hx.d
 have hl1:=len_snoc A (Ob.cells 0 (insC x av lv))
 have hgg:=getC_new A 0 (insC x av lv)
 have e1:Ext A (A ++ [Ob.cells 0 (insC x av lv)]):=Ext.app _ _
 have hz:=argsT_size hx.nx hx.xs
 have hA:=args_fun h.L h.A (A ++ [Ob.cells 0 (insC x av lv)]).length (strs_rd (q1.ext e1) q2) hz.1
 rw [hl1] at hA
 have c1:x.f.size+(argsT x.xs).size≤4611686018427387904:=by omega
 have c2:(x.f ++ argsT x.xs).size≤10000:=by rw [size_cat];omega
 have hsv:=strs_new (A ++ [Ob.cells 0 (insC x av lv)]) [bCall,x.f ++ argsT x.xs]
 have hj:=joinOkM (xs:=[bCall,x.f ++ argsT x.xs]) (sep:=bSp) (by simp) (two_le (M:=10000) (by first | decide | omega) (by first | decide | omega)) (by omega) (by decide)
 have hw:=words_fun h.L h.W base hsv hj.1
 refine ⟨_,callW_fnA (c:=s_f64) (k:=1) hT rfl (by decide) s_f64_first ?_,e1.trans (Ext.app _ [Ob.cells 0 ([bCall,x.f ++ argsT x.xs].map Sb)])⟩
 rw [hl1] at hw
 simp only [insC,List.map_cons,List.map_nil,List.length_cons,List.length_nil,bCall] at hw hgg hl1 hA
 simp only [insC,s_f64,a_f64,aa,reduceIte,reduceCtorEq,Nat.reduceEqDiff,Nat.reduceLT,Nat.reduceLeDiff,Nat.reduceBEq,Nat.reduceAdd,Nat.reduceMul,op_appR,hav,hlv,Bool.and_self,hl1,hgg,hw,hA,catOk c1,if_false]
 rfl
theorem f12_fun (h:WorT CT) (hT:CT k_f65=some (.code s_f65)) (base:Nat) {A:Heap} {av lv:V} {x:InsD} (hr:RdIns A (insC x av lv) x) (hx:SmI x):
 ∃ H',callW CT (.fn k_f65 [] []) [.agg (insC x av lv)] base A=some (Sb (wordsT [bICall,x.a ++ argsT x.xs]),H')∧Ext A H':=by
 obtain ⟨av',lv',he,q1,q2,q3,q4,_⟩:=hr
 cases he
 have hav:=q1.one
 have hlv:=q3.one
 have ha:=hx.a;have hb:=hx.b;have hf:=hx.f;have hd:=hx.d
 have hl1:=len_snoc A (Ob.cells 0 (insC x av lv))
 have hgg:=getC_new A 0 (insC x av lv)
 have e1:Ext A (A ++ [Ob.cells 0 (insC x av lv)]):=Ext.app _ _
 have hz:=argsT_size hx.nx hx.xs
 have hA:=args_fun h.L h.A (A ++ [Ob.cells 0 (insC x av lv)]).length (strs_rd (q1.ext e1) q2) hz.1
 rw [hl1] at hA
 have c1:x.a.size+(argsT x.xs).size≤4611686018427387904:=by omega
 have c2:(x.a ++ argsT x.xs).size≤10000:=by rw [size_cat];omega
 have hsv:=strs_new (A ++ [Ob.cells 0 (insC x av lv)]) [bICall,x.a ++ argsT x.xs]
 have hj:=joinOkM (xs:=[bICall,x.a ++ argsT x.xs]) (sep:=bSp) (by simp) (two_le (M:=10000) (by first | decide | omega) (by first | decide | omega)) (by omega) (by decide)
 have hw:=words_fun h.L h.W base hsv hj.1
 refine ⟨_,callW_fnA (c:=s_f65) (k:=1) hT rfl (by decide) s_f65_first ?_,e1.trans (Ext.app _ [Ob.cells 0 ([bICall,x.a ++ argsT x.xs].map Sb)])⟩
 rw [hl1] at hw
 simp only [insC,List.map_cons,List.map_nil,List.length_cons,List.length_nil,bICall] at hw hgg hl1 hA
 simp only [insC,s_f65,a_f65,aa,reduceIte,reduceCtorEq,Nat.reduceEqDiff,Nat.reduceLT,Nat.reduceLeDiff,Nat.reduceBEq,Nat.reduceAdd,Nat.reduceMul,op_appR,hav,hlv,Bool.and_self,hl1,hgg,hw,hA,catOk c1,if_false]
 rfl
theorem f13_fun (h:WorT CT) (hT:CT k_f66=some (.code s_f66)) (base:Nat) {A:Heap} {av lv:V} {x:InsD} (hr:RdIns A (insC x av lv) x) (hx:SmI x) (hn:x.ls.length=2):
 ∃ H',callW CT (.fn k_f66 [] []) [.agg (insC x av lv)] base A=some (Sb (wordsT [bBr,x.ls.getD 0 ⟨#[]⟩,x.ls.getD 1 ⟨#[]⟩]),H')∧Ext A H':=by
 obtain ⟨av',lv',he,q1,q2,q3,q4,_⟩:=hr
 cases he
 have hav:=q1.one
 have hlv:=q3.one
 have ha:=hx.a;have hb:=hx.b;have hf:=hx.f;have hd:=hx.d
 have hl1:=len_snoc A (Ob.cells 0 (insC x av lv))
 have hgg:=getC_new A 0 (insC x av lv)
 have e1:Ext A (A ++ [Ob.cells 0 (insC x av lv)]):=Ext.app _ _
 obtain ⟨a0,i0,l0⟩:=Sb_at (q3.ext e1) q4 (k:=0) (by omega)
 have i0:xIndexAddr 1 lv (.s (.int .i64 0))=some a0:=i0
 have z0:(x.ls.getD 0 ⟨#[]⟩).size≤200:=hx.ls _ (by rw [List.getD_eq_getElem?_getD,List.getElem?_eq_getElem (by omega)];exact List.getElem_mem _)
 obtain ⟨a1,i1,l1⟩:=Sb_at (q3.ext e1) q4 (k:=1) (by omega)
 have i1:xIndexAddr 1 lv (.s (.int .i64 1))=some a1:=i1
 have z1:(x.ls.getD 1 ⟨#[]⟩).size≤200:=hx.ls _ (by rw [List.getD_eq_getElem?_getD,List.getElem?_eq_getElem (by omega)];exact List.getElem_mem _)
 have hsv:=strs_new (A ++ [Ob.cells 0 (insC x av lv)]) [bBr,x.ls.getD 0 ⟨#[]⟩,x.ls.getD 1 ⟨#[]⟩]
 have hj:=joinOkM (xs:=[bBr,x.ls.getD 0 ⟨#[]⟩,x.ls.getD 1 ⟨#[]⟩]) (sep:=bSp) (by simp) (three_le (M:=10000) (by first | decide | omega) (by first | decide | omega) (by first | decide | omega)) (by omega) (by decide)
 have hw:=words_fun h.L h.W base hsv hj.1
 refine ⟨_,callW_fnA (c:=s_f66) (k:=1) hT rfl (by decide) s_f66_first ?_,e1.trans (Ext.app _ [Ob.cells 0 ([bBr,x.ls.getD 0 ⟨#[]⟩,x.ls.getD 1 ⟨#[]⟩].map Sb)])⟩
 rw [hl1] at hw
 simp only [insC,List.map_cons,List.map_nil,List.length_cons,List.length_nil,bBr] at hw hgg hl1 l0 l1
 simp only [insC,s_f66,a_f66,aa,reduceIte,reduceCtorEq,Nat.reduceEqDiff,Nat.reduceLT,Nat.reduceLeDiff,Nat.reduceBEq,Nat.reduceAdd,Nat.reduceMul,op_appR,hav,hlv,Bool.and_self,hl1,hgg,hw,i0,l0,i1,l1]
 rfl
theorem f14_fun (h:WorT CT) (hT:CT k_f67=some (.code s_f67)) (base:Nat) {A:Heap} {av lv:V} {x:InsD} (hr:RdIns A (insC x av lv) x) (hx:SmI x) (hn:x.ls.length=1):
 ∃ H',callW CT (.fn k_f67 [] []) [.agg (insC x av lv)] base A=some (Sb (wordsT [bGoto,x.ls.getD 0 ⟨#[]⟩]),H')∧Ext A H':=by
 obtain ⟨av',lv',he,q1,q2,q3,q4,_⟩:=hr
 cases he
 have hav:=q1.one
 have hlv:=q3.one
 have ha:=hx.a;have hb:=hx.b;have hf:=hx.f;have hd:=hx.d
 have hl1:=len_snoc A (Ob.cells 0 (insC x av lv))
 have hgg:=getC_new A 0 (insC x av lv)
 have e1:Ext A (A ++ [Ob.cells 0 (insC x av lv)]):=Ext.app _ _
 obtain ⟨a0,i0,l0⟩:=Sb_at (q3.ext e1) q4 (k:=0) (by omega)
 have i0:xIndexAddr 1 lv (.s (.int .i64 0))=some a0:=i0
 have z0:(x.ls.getD 0 ⟨#[]⟩).size≤200:=hx.ls _ (by rw [List.getD_eq_getElem?_getD,List.getElem?_eq_getElem (by omega)];exact List.getElem_mem _)
 have hsv:=strs_new (A ++ [Ob.cells 0 (insC x av lv)]) [bGoto,x.ls.getD 0 ⟨#[]⟩]
 have hj:=joinOkM (xs:=[bGoto,x.ls.getD 0 ⟨#[]⟩]) (sep:=bSp) (by simp) (two_le (M:=10000) (by first | decide | omega) (by first | decide | omega)) (by omega) (by decide)
 have hw:=words_fun h.L h.W base hsv hj.1
 refine ⟨_,callW_fnA (c:=s_f67) (k:=1) hT rfl (by decide) s_f67_first ?_,e1.trans (Ext.app _ [Ob.cells 0 ([bGoto,x.ls.getD 0 ⟨#[]⟩].map Sb)])⟩
 rw [hl1] at hw
 simp only [insC,List.map_cons,List.map_nil,List.length_cons,List.length_nil,bGoto] at hw hgg hl1 l0
 simp only [insC,s_f67,a_f67,aa,reduceIte,reduceCtorEq,Nat.reduceEqDiff,Nat.reduceLT,Nat.reduceLeDiff,Nat.reduceBEq,Nat.reduceAdd,Nat.reduceMul,op_appR,hav,hlv,Bool.and_self,hl1,hgg,hw,i0,l0]
 rfl
theorem f4_fun (hT:CT k_f56=some (.code s_f56)) (base:Nat) {A:Heap} {av lv:V} {x:InsD} (hr:RdIns A (insC x av lv) x):
 ∃ H',callW CT (.fn k_f56 [] []) [.agg (insC x av lv)] base A=some (Sb bNull,H')∧Ext A H':=by
 obtain ⟨av',lv',he,q1,q2,q3,q4,_⟩:=hr
 cases he
 have hav:=q1.one
 have hlv:=q3.one
 refine ⟨_,callW_fnA (c:=s_f56) (k:=1) hT rfl (by decide) s_f56_first ?_,Ext.app A [Ob.cells 0 (insC x av lv)]⟩
 simp only [insC,s_f56,a_f56,aa,reduceIte,reduceCtorEq,Nat.reduceEqDiff,Nat.reduceLT,Nat.reduceLeDiff,Nat.reduceBEq,Nat.reduceAdd,Nat.reduceMul,op_appR,hav,hlv,Bool.and_self]
 rfl
theorem f1_fun (h:WorT CT) (hT:CT k_f52=some (.code s_f52)) (base:Nat) {A:Heap} {av lv:V} {x:InsD} (hav:av.one=true) (hlv:lv.one=true) (h0:0≤x.k) (h1:x.k < 100):
 callW CT (.fn k_f52 [] []) [.agg (insC x av lv)] base A=some (Sb (itB x.k),A ++ [.cells 0 (insC x av lv)]):=by
 have hgg:=getC_new A 0 (insC x av lv)
 have hi:=itoa_fun h.L base (H:=A ++ [.cells 0 (insC x av lv)]) h0 h1
 refine callW_fnA (c:=s_f52) (k:=1) hT rfl (by decide) s_f52_first ?_
 simp only [insC] at hgg hi
 simp only [insC,s_f52,a_f52,aa,reduceIte,reduceCtorEq,Nat.reduceEqDiff,Nat.reduceLT,Nat.reduceLeDiff,Nat.reduceBEq,Nat.reduceAdd,Nat.reduceMul,op_appR,hav,hlv,Bool.and_self,hgg,hi]
 rfl
theorem f2_fun (h:WorT CT) (hT:CT k_f54=some (.code s_f54)) (base:Nat) {A:Heap} {av lv:V} {x:InsD} (hr:RdIns A (insC x av lv) x) (hx:SmI x) (h0:0≤x.k) (h1:x.k < 100) {n:Nat} (hn:getC A n 0=some [.fn k_f52 [] []]) (hN:CT k_f52=some (.code s_f52)):
 ∃ H',callW CT (.fn k_f54 [] [.ref n 0 0]) [.agg (insC x av lv)] base A=some (Sb (wordsT [bAlloca,itB x.k]),H')∧Ext A H':=by
 obtain ⟨av',lv',he,q1,q2,q3,q4,_⟩:=hr
 cases he
 have hav:=q1.one
 have hlv:=q3.one
 have ha:=hx.a;have hb:=hx.b;have hf:=hx.f;have hd:=hx.d
 have hl1:=len_snoc A (Ob.cells 0 (insC x av lv))
 have hgg:=getC_new A 0 (insC x av lv)
 have e1:Ext A (A ++ [Ob.cells 0 (insC x av lv)]):=Ext.app _ _
 have hi:=f1_fun h hN base (A:=A ++ [Ob.cells 0 (insC x av lv)]) hav hlv h0 h1
 have hz:=itB_size h0 h1
 have hn1:=getC_load (getC_ext hn e1)
 have hl2:=len_snoc (A ++ [Ob.cells 0 (insC x av lv)]) (Ob.cells 0 (insC x av lv))
 rw [hl1] at hl2
 have hsv:=strs_new (A ++ [Ob.cells 0 (insC x av lv)] ++ [Ob.cells 0 (insC x av lv)]) [bAlloca,itB x.k]
 have hj:=joinOkM (xs:=[bAlloca,itB x.k]) (sep:=bSp) (by simp) (two_le (M:=10000) (by first | decide | omega) (by first | decide | omega)) (by omega) (by decide)
 have hw:=words_fun h.L h.W base hsv hj.1
 refine ⟨_,callW_fnA (c:=s_f54) (k:=2) hT rfl (by decide) s_f54_first ?_,(e1.trans (Ext.app _ [Ob.cells 0 (insC x av lv)])).trans (Ext.app _ [Ob.cells 0 ([bAlloca,itB x.k].map Sb)])⟩
 rw [hl2] at hw
 simp only [insC,List.map_cons,List.map_nil,List.length_cons,List.length_nil,bAlloca] at hw hgg hl1 hi hn1 hl2
 simp only [insC,s_f54,a_f54,aa,reduceIte,reduceCtorEq,Nat.reduceEqDiff,Nat.reduceLT,Nat.reduceLeDiff,Nat.reduceBEq,Nat.reduceAdd,Nat.reduceMul,op_appR,hav,hlv,Bool.and_self,hl1,hgg,hw,hi,hn1,hl2]
 rfl
theorem f3_fun (h:WorT CT) (hT:CT k_f55=some (.code s_f55)) (base:Nat) {A:Heap} {av lv:V} {x:InsD} (hr:RdIns A (insC x av lv) x) (hx:SmI x) (h0:0≤x.k) (h1:x.k < 100) {n:Nat} (hn:getC A n 0=some [.fn k_f52 [] []]) (hN:CT k_f52=some (.code s_f52)):
 ∃ H',callW CT (.fn k_f55 [] [.ref n 0 0]) [.agg (insC x av lv)] base A=some (Sb (wordsT [bMalloc,itB x.k]),H')∧Ext A H':=by
 obtain ⟨av',lv',he,q1,q2,q3,q4,_⟩:=hr
 cases he
 have hav:=q1.one
 have hlv:=q3.one
 have ha:=hx.a;have hb:=hx.b;have hf:=hx.f;have hd:=hx.d
 have hl1:=len_snoc A (Ob.cells 0 (insC x av lv))
 have hgg:=getC_new A 0 (insC x av lv)
 have e1:Ext A (A ++ [Ob.cells 0 (insC x av lv)]):=Ext.app _ _
 have hi:=f1_fun h hN base (A:=A ++ [Ob.cells 0 (insC x av lv)]) hav hlv h0 h1
 have hz:=itB_size h0 h1
 have hn1:=getC_load (getC_ext hn e1)
 have hl2:=len_snoc (A ++ [Ob.cells 0 (insC x av lv)]) (Ob.cells 0 (insC x av lv))
 rw [hl1] at hl2
 have hsv:=strs_new (A ++ [Ob.cells 0 (insC x av lv)] ++ [Ob.cells 0 (insC x av lv)]) [bMalloc,itB x.k]
 have hj:=joinOkM (xs:=[bMalloc,itB x.k]) (sep:=bSp) (by simp) (two_le (M:=10000) (by first | decide | omega) (by first | decide | omega)) (by omega) (by decide)
 have hw:=words_fun h.L h.W base hsv hj.1
 refine ⟨_,callW_fnA (c:=s_f55) (k:=2) hT rfl (by decide) s_f55_first ?_,(e1.trans (Ext.app _ [Ob.cells 0 (insC x av lv)])).trans (Ext.app _ [Ob.cells 0 ([bMalloc,itB x.k].map Sb)])⟩
 rw [hl2] at hw
 simp only [insC,List.map_cons,List.map_nil,List.length_cons,List.length_nil,bMalloc] at hw hgg hl1 hi hn1 hl2
 simp only [insC,s_f55,a_f55,aa,reduceIte,reduceCtorEq,Nat.reduceEqDiff,Nat.reduceLT,Nat.reduceLeDiff,Nat.reduceBEq,Nat.reduceAdd,Nat.reduceMul,op_appR,hav,hlv,Bool.and_self,hl1,hgg,hw,hi,hn1,hl2]
 rfl
theorem f8_fun (h:WorT CT) (hT:CT k_f61=some (.code s_f61)) (base:Nat) {A:Heap} {av lv:V} {x:InsD} (hr:RdIns A (insC x av lv) x) (hx:SmI x) (h0:0≤x.k) (h1:x.k < 100) {n:Nat} (hn:getC A n 0=some [.fn k_f52 [] []]) (hN:CT k_f52=some (.code s_f52)):
 ∃ H',callW CT (.fn k_f61 [] [.ref n 0 0]) [.agg (insC x av lv)] base A=some (Sb (wordsT [bField,x.a,itB x.k]),H')∧Ext A H':=by
 obtain ⟨av',lv',he,q1,q2,q3,q4,_⟩:=hr
 cases he
 have hav:=q1.one
 have hlv:=q3.one
 have ha:=hx.a;have hb:=hx.b;have hf:=hx.f;have hd:=hx.d
 have hl1:=len_snoc A (Ob.cells 0 (insC x av lv))
 have hgg:=getC_new A 0 (insC x av lv)
 have e1:Ext A (A ++ [Ob.cells 0 (insC x av lv)]):=Ext.app _ _
 have hi:=f1_fun h hN (A ++ [Ob.cells 0 (insC x av lv)]).length (A:=A ++ [Ob.cells 0 (insC x av lv)]) hav hlv h0 h1
 have hz:=itB_size h0 h1
 have hn1:=getC_load (getC_ext hn e1)
 have hl2:=len_snoc (A ++ [Ob.cells 0 (insC x av lv)]) (Ob.cells 0 (insC x av lv))
 rw [hl1] at hl2 hi
 have hsv:=strs_new (A ++ [Ob.cells 0 (insC x av lv)] ++ [Ob.cells 0 (insC x av lv)]) [bField,x.a,itB x.k]
 have hj:=joinOkM (xs:=[bField,x.a,itB x.k]) (sep:=bSp) (by simp) (three_le (M:=10000) (by first | decide | omega) (by first | decide | omega) (by first | decide | omega)) (by omega) (by decide)
 have hw:=words_fun h.L h.W base hsv hj.1
 refine ⟨_,callW_fnA (c:=s_f61) (k:=2) hT rfl (by decide) s_f61_first ?_,(e1.trans (Ext.app _ [Ob.cells 0 (insC x av lv)])).trans (Ext.app _ [Ob.cells 0 ([bField,x.a,itB x.k].map Sb)])⟩
 rw [hl2] at hw
 simp only [insC,List.map_cons,List.map_nil,List.length_cons,List.length_nil,bField] at hw hgg hl1 hi hn1 hl2
 simp only [insC,s_f61,a_f61,aa,reduceIte,reduceCtorEq,Nat.reduceEqDiff,Nat.reduceLT,Nat.reduceLeDiff,Nat.reduceBEq,Nat.reduceAdd,Nat.reduceMul,op_appR,hav,hlv,Bool.and_self,hl1,hgg,hw,hi,hn1,hl2]
 rfl
def retT (x:InsD):ByteArray:=⟨(Lib.trimSuffix (wordsT [bRet,x.a]).data.toList [32]).toArray⟩
theorem trim_fun (h:WorT CT) (base:Nat) {H:Heap} {s:ByteArray} (hs:s.size≤4611686018427387904):callW CT (.fn k_f69 [] []) [.s (.string s),.s (.string ⟨#[32]⟩)] base H=some (.s (.string ⟨(Lib.trimSuffix s.data.toList [32]).toArray⟩),H):=by
 refine callW_eq ?_
 simp only [evCall,h.T,trimG,List.nil_append,List.append_nil]
 exact if_pos hs
theorem f15_fun (h:WorT CT) (hT:CT k_f68=some (.code s_f68)) (base:Nat) {A:Heap} {av lv:V} {x:InsD} (hr:RdIns A (insC x av lv) x) (hx:SmI x):
 ∃ H',callW CT (.fn k_f68 [] []) [.agg (insC x av lv)] base A=some (Sb (retT x),H')∧Ext A H':=by
 obtain ⟨av',lv',he,q1,q2,q3,q4,_⟩:=hr
 cases he
 have hav:=q1.one
 have hlv:=q3.one
 have ha:=hx.a;have hb:=hx.b;have hf:=hx.f;have hd:=hx.d
 have hl1:=len_snoc A (Ob.cells 0 (insC x av lv))
 have hgg:=getC_new A 0 (insC x av lv)
 have e1:Ext A (A ++ [Ob.cells 0 (insC x av lv)]):=Ext.app _ _
 have hsv:=strs_new (A ++ [Ob.cells 0 (insC x av lv)]) [bRet,x.a]
 have hj:=joinOkM (xs:=[bRet,x.a]) (sep:=bSp) (by simp) (two_le (M:=10000) (by first | decide | omega) (by first | decide | omega)) (by omega) (by decide)
 have hw:=words_fun h.L h.W base hsv hj.1
 have ht:=trim_fun h base (H:=A ++ [Ob.cells 0 (insC x av lv)] ++ [Ob.cells 0 ([bRet,x.a].map Sb)]) (s:=wordsT [bRet,x.a]) (by have:=hj.2;simp only [List.length_cons,List.length_nil] at this;exact Nat.le_trans this (by decide))
 refine ⟨_,callW_fnA (c:=s_f68) (k:=1) hT rfl (by decide) s_f68_first ?_,e1.trans (Ext.app _ [Ob.cells 0 ([bRet,x.a].map Sb)])⟩
 rw [hl1] at hw
 simp only [insC,List.map_cons,List.map_nil,List.length_cons,List.length_nil,bRet] at hw hgg hl1 ht
 simp only [insC,s_f68,a_f68,aa,reduceIte,reduceCtorEq,Nat.reduceEqDiff,Nat.reduceLT,Nat.reduceLeDiff,Nat.reduceBEq,Nat.reduceAdd,Nat.reduceMul,op_appR,hav,hlv,Bool.and_self,hl1,hgg,hw,ht]
 rfl
end
end Go.Proofs.YtngfpadeebpoeaaGreatDoor
set_option maxRecDepth 100000
namespace Go.Proofs.YtngfpadeebpoeaaGreatDoor
open Go.AM
def bCol:ByteArray:=⟨#[58,32]⟩
def b0:ByteArray:=⟨#[]⟩
def pairT (l s:ByteArray):ByteArray:=(l ++ bCol) ++ s
def prL (x:InsD) (i:Nat):List ByteArray:=(List.range i).map fun j=>pairT (x.ls.getD j ⟨#[]⟩) (x.xs.getD j ⟨#[]⟩)
def pairsT (x:InsD):ByteArray:=(⟨#[91]⟩ ++ joinB (prL x x.ls.length) bCm) ++ ⟨#[93]⟩
theorem prL_succ (x:InsD) (i:Nat):prL x (i+1)=prL x i ++ [pairT (x.ls.getD i ⟨#[]⟩) (x.xs.getD i ⟨#[]⟩)]:=by
 simp only [prL,List.range_succ,List.map_append,List.map_cons,List.map_nil]
theorem prL_len (x:InsD) (i:Nat):(prL x i).length=i:=by simp [prL]
theorem getD_le {M:Nat} {l:List ByteArray} (h:∀ s∈l,s.size≤M) (i:Nat):(l.getD i ⟨#[]⟩).size≤M:=by
 rw [List.getD_eq_getElem?_getD]
 cases e:l[i]? with
 | none=>exact Nat.zero_le _
 | some s=>exact h s (List.mem_of_getElem? e)
theorem pairT_le {M:Nat} {l s:ByteArray} (h1:l.size≤M) (h2:s.size≤M):(pairT l s).size≤2 * M+2:=by
 have n1:bCol.size=2:=rfl
 unfold pairT
 rw [size_cat,size_cat]
 omega
section
variable {CT:Nat→Option CFun}
theorem pairs_fun (h:WorT CT) (hT:CT k_f60=some (.code s_f60)) (base:Nat) {A:Heap} (hb:base≤A.length) {av lv:V} {x:InsD} (hr:RdIns A (insC x av lv) x) (hx:SmI x) (hn:x.xs.length=x.ls.length):
 ∃ H',callW CT (.fn k_f60 [] []) [.agg (insC x av lv)] base A=some (Sb (pairsT x),H')∧Ext A H':=by
 obtain ⟨av',lv',he,q1,q2,q3,q4,_⟩:=hr
 cases he
 have hav:=q1.one
 have hlv:=q3.one
 obtain ⟨A1,hA1⟩:∃ A1,A ++ [Ob.cells 0 (insC x av lv)]=A1:=⟨_,rfl⟩
 have e1:Ext A A1:=hA1 ▸ Ext.app _ _
 have hl1:A1.length=A.length+1:=by rw [← hA1,len_snoc]
 have hgg:getC A1 A.length 0=some (insC x av lv):=hA1 ▸ getC_new A 0 _
 have hll:=Sb_len (q3.ext e1)
 have nl:=hx.nl
 obtain ⟨⟨v,C⟩,e2,e3⟩:=it_rel (S:=V × Heap) x.ls.length (fun i s=>Acc A1 s.2 s.1 ((prL x i).map Sb)) (fun i s=>itW (evC (callW CT) itW base s_f60_l0) [] (A.length+1) (frOf 30 [(1,.ref A.length 0 0),(3,s.1),(7,lv),(8,Iz x.ls.length),(9,Iz i)]) s.2) (by
  rintro i ⟨v,C⟩ hi hacc
  have eC:=e1.trans hacc.1
  obtain ⟨a0,i0,l0⟩:=Sb_at (q3.ext eC) q4 hi
  obtain ⟨a1,i1,l1⟩:=Sb_at (q1.ext eC) q2 (k:=i) (by omega)
  have hgC:=getC_ext hgg hacc.1
  have z0:=getD_le hx.ls i
  have z1:=getD_le hx.xs i
  have n1:bCol.size=2:=rfl
  have c1:(x.ls.getD i ⟨#[]⟩).size+bCol.size≤4611686018427387904:=by omega
  have c2:(x.ls.getD i ⟨#[]⟩ ++ bCol).size+(x.xs.getD i ⟨#[]⟩).size≤4611686018427387904:=by rw [size_cat];omega
  obtain ⟨v',D,hap,hacc'⟩:=hacc.append (base:=base) (bytes:=16) (by omega) (x:=Sb (pairT (x.ls.getD i ⟨#[]⟩) (x.xs.getD i ⟨#[]⟩))) rfl (by rw [List.length_map,prL_len];omega)
  have hlt:decide ((i:Int) < (x.ls.length:Int))=true:=by simpa using hi
  refine ⟨(v',trim (A.length+1) (frOf 30 [(1,.ref A.length 0 0),(3,v'),(7,lv),(8,Iz x.ls.length),(9,Iz ((i+1:Nat):Int))]) D),?_,?_⟩
  ·rw [itW_step]
   simp only [insC,pairT,bCol] at hgC hap c1 c2
   simp only [insC,Iz,s_f60_l0_ev,a_f60,s_f60_l0_b,aa,reduceIte,reduceCtorEq,Nat.reduceEqDiff,Nat.reduceLT,Nat.reduceLeDiff,Nat.reduceBEq,Nat.reduceAdd,Nat.reduceMul,op_appR,hgC,i0,l0,i1,l1,catOk c1,catOk c2,if_false,hap,hlt,cond_true,w64 (show i < 2 ^ 62 by omega)]
  ·rw [prL_succ,List.map_append]
   refine Acc.trim hacc' (by omega) ?_
   simp [frOf,putV]
   exact ⟨3,by omega,rfl⟩) 0 (nilS,A1) (Nat.zero_le _) (Acc.start A1)
 have e3:Acc A1 C v ((prL x x.ls.length).map Sb):=e3
 obtain ⟨C2,hC2⟩:∃ C2,trim (A.length+1) (frOf 30 [(1,.ref A.length 0 0),(3,v),(7,lv),(8,.s (.int .i64 x.ls.length)),(9,.s (.int .i64 x.ls.length)),(10,.s (.bool false))]) C=C2:=⟨_,rfl⟩
 have e3:Acc A1 C2 v ((prL x x.ls.length).map Sb):=by
  rw [← hC2]
  refine Acc.trim e3 (by omega) ?_
  simp [frOf,putV]
  exact ⟨3,by omega,rfl⟩
 have hj:=joinOkM (xs:=prL x x.ls.length) (sep:=bCm) (by rw [prL_len];omega) (M:=402) (fun s hs=>by
  obtain ⟨j,_,rfl⟩:=List.mem_map.1 hs
  exact pairT_le (getD_le hx.ls j) (getD_le hx.xs j)) (by omega) (by decide)
 have hjn:=join_fun h.L base (strs_rd e3.rd e3.wide) hj.1
 have nz:x.ls.length * (402+2)≤20 * 404:=Nat.mul_le_mul_right _ nl
 have hjs:=hj.2
 rw [prL_len] at hjs
 have n1:(⟨#[91]⟩:ByteArray).size=1:=rfl
 have n2:(⟨#[93]⟩:ByteArray).size=1:=rfl
 have c1:(⟨#[91]⟩:ByteArray).size+(joinB (prL x x.ls.length) bCm).size≤4611686018427387904:=by omega
 have c2:((⟨#[91]⟩:ByteArray) ++ joinB (prL x x.ls.length) bCm).size+(⟨#[93]⟩:ByteArray).size≤4611686018427387904:=by rw [size_cat];omega
 have hge:decide ((x.ls.length:Int) < (x.ls.length:Int))=false:=by simp
 refine ⟨C2,callW_fnA (c:=s_f60) (k:=1) hT rfl (by decide) s_f60_first ?_,e1.trans e3.1⟩
 simp only [insC,Iz,bCm,nilS] at hgg hjn c1 c2 e2 hA1
 rw [show (((0:Nat):Int))=0 from rfl] at e2
 simp only [insC,Iz,s_f60,a_f60,s_f60_l0_b,aa,reduceIte,reduceCtorEq,Nat.reduceEqDiff,Nat.reduceLT,Nat.reduceLeDiff,Nat.reduceBEq,Nat.reduceAdd,Nat.reduceMul,op_appR,hav,hlv,Bool.and_self,hA1,hl1,hgg,hll,e2]
 rw [itW_step]
 simp only [insC,Iz,s_f60_l0_ev,s_f60,a_f60,s_f60_l0_b,aa,reduceIte,reduceCtorEq,Nat.reduceEqDiff,Nat.reduceLT,Nat.reduceLeDiff,Nat.reduceBEq,Nat.reduceAdd,Nat.reduceMul,op_appR,hge,cond_false,hC2,hjn,catOk c1,catOk c2,if_false]
 rfl
theorem pairsT_size {x:InsD} (hx:SmI x):(pairsT x).size≤9000:=by
 have nl:=hx.nl
 have hj:=joinOkM (xs:=prL x x.ls.length) (sep:=bCm) (by rw [prL_len];omega) (M:=402) (fun s hs=>by
  obtain ⟨j,_,rfl⟩:=List.mem_map.1 hs
  exact pairT_le (getD_le hx.ls j) (getD_le hx.xs j)) (by omega) (by decide)
 have nz:x.ls.length * (402+2)≤20 * 404:=Nat.mul_le_mul_right _ nl
 have hjs:=hj.2
 rw [prL_len] at hjs
 have n1:(⟨#[91]⟩:ByteArray).size=1:=rfl
 have n2:(⟨#[93]⟩:ByteArray).size=1:=rfl
 unfold pairsT
 rw [size_cat,size_cat]
 omega
theorem f7_fun (h:WorT CT) (hP:CT k_f60=some (.code s_f60)) (hT:CT k_f59=some (.code s_f59)) (base:Nat) {A:Heap} (hb:base≤A.length) {av lv:V} {x:InsD} (hr:RdIns A (insC x av lv) x) (hx:SmI x) (hn:x.xs.length=x.ls.length):
 ∃ H',callW CT (.fn k_f59 [] []) [.agg (insC x av lv)] base A=some (Sb (wordsT [bPhi,pairsT x]),H')∧Ext A H':=by
 obtain ⟨A1,hA1⟩:∃ A1,A ++ [Ob.cells 0 (insC x av lv)]=A1:=⟨_,rfl⟩
 have e1:Ext A A1:=hA1 ▸ Ext.app _ _
 have hl1:A1.length=A.length+1:=by rw [← hA1,len_snoc]
 have hgg:getC A1 A.length 0=some (insC x av lv):=hA1 ▸ getC_new A 0 _
 obtain ⟨D,hp,e2⟩:=pairs_fun h hP base (by omega) (hr.ext e1) hx hn
 obtain ⟨av',lv',he,q1,q2,q3,q4,_⟩:=hr
 cases he
 have hav:=q1.one
 have hlv:=q3.one
 have hz:=pairsT_size hx
 have hsv:=strs_new D [bPhi,pairsT x]
 have hj:=joinOkM (xs:=[bPhi,pairsT x]) (sep:=bSp) (by simp) (two_le (M:=10000) (by decide) (by omega)) (by omega) (by decide)
 have hw:=words_fun h.L h.W base hsv hj.1
 refine ⟨_,callW_fnA (c:=s_f59) (k:=1) hT rfl (by decide) s_f59_first ?_,(e1.trans e2).trans (Ext.app _ [Ob.cells 0 ([bPhi,pairsT x].map Sb)])⟩
 simp only [insC,List.map_cons,List.map_nil,List.length_cons,List.length_nil,bPhi] at hw hgg hp hA1
 simp only [insC,s_f59,a_f59,aa,reduceIte,reduceCtorEq,Nat.reduceEqDiff,Nat.reduceLT,Nat.reduceLeDiff,Nat.reduceBEq,Nat.reduceAdd,Nat.reduceMul,op_appR,hav,hlv,Bool.and_self,hA1,hl1,hgg,hp,hw]
 rfl
end
end Go.Proofs.YtngfpadeebpoeaaGreatDoor
set_option maxRecDepth 100000
namespace Go.Proofs.YtngfpadeebpoeaaGreatDoor
open Go.AM
def foT (n:Nat):List (Int × V):=[(1,.fn 54 [] [.ref n 0 0]),(2,.fn 55 [] [.ref n 0 0]),(3,.fn 56 [] []),(4,.fn 57 [] []),(5,.fn 58 [] []),(6,.fn 59 [] []),(7,.fn 61 [] [.ref n 0 0]),(8,.fn 62 [] []),(9,.fn 63 [] []),(10,.fn 64 [] []),(11,.fn 65 [] []),(12,.fn 66 [] []),(13,.fn 67 [] []),(14,.fn 68 [] [])]
section
variable {CT:Nat→Option CFun}
theorem forms_fun (hT:CT k_f17=some (.code s_f17)) (base:Nat) {A:Heap} (hb:base≤A.length):
 callW CT (.fn k_f17 [] []) [] base A=some (.mp (A.length+1),A ++ [.cells 0 [.fn 52 [] []]] ++ [.map (esI .u8 (foT A.length))]):=by
 obtain ⟨n,hn⟩:∃ n,A.length=n:=⟨_,rfl⟩
 obtain ⟨A1,hA1⟩:∃ A1,A ++ [Ob.cells 0 [.fn 52 [] []]]=A1:=⟨_,rfl⟩
 have l1:A1.length=n+1:=by rw [← hA1,len_snoc,hn]
 obtain ⟨A2,hA2⟩:∃ A2,A1 ++ [Ob.map (esI .u8 (foT n))]=A2:=⟨_,rfl⟩
 have hb1:base≤A1.length:=by omega
 have e0:(Ob.map []:Ob)=.map (esI .u8 []):=rfl
 have hs:(A ++ [Ob.cells 0 [.s .nilFunc]]).set n (Ob.cells 0 [.fn 52 [] []])=A1:=by rw [← hn,set_snoc,hA1]
 have hg:getC (A ++ [Ob.cells 0 [.s .nilFunc]]) n 0=some [.s .nilFunc]:=by rw [← hn];exact getC_new A 0 _
 have hbn:base≤n:=by omega
 have hbn1:base≤n+1:=by omega
 have u1:=upd_I hb1 .u8 ((foT n).take 0) 1 (.fn 54 [] [.ref n 0 0]) (by rfl)
 have u2:=upd_I hb1 .u8 ((foT n).take 1) 2 (.fn 55 [] [.ref n 0 0]) (by rfl)
 have u3:=upd_I hb1 .u8 ((foT n).take 2) 3 (.fn 56 [] []) (by rfl)
 have u4:=upd_I hb1 .u8 ((foT n).take 3) 4 (.fn 57 [] []) (by rfl)
 have u5:=upd_I hb1 .u8 ((foT n).take 4) 5 (.fn 58 [] []) (by rfl)
 have u6:=upd_I hb1 .u8 ((foT n).take 5) 6 (.fn 59 [] []) (by rfl)
 have u7:=upd_I hb1 .u8 ((foT n).take 6) 7 (.fn 61 [] [.ref n 0 0]) (by rfl)
 have u8:=upd_I hb1 .u8 ((foT n).take 7) 8 (.fn 62 [] []) (by rfl)
 have u9:=upd_I hb1 .u8 ((foT n).take 8) 9 (.fn 63 [] []) (by rfl)
 have u10:=upd_I hb1 .u8 ((foT n).take 9) 10 (.fn 64 [] []) (by rfl)
 have u11:=upd_I hb1 .u8 ((foT n).take 10) 11 (.fn 65 [] []) (by rfl)
 have u12:=upd_I hb1 .u8 ((foT n).take 11) 12 (.fn 66 [] []) (by rfl)
 have u13:=upd_I hb1 .u8 ((foT n).take 12) 13 (.fn 67 [] []) (by rfl)
 have u14:=upd_I hb1 .u8 ((foT n).take 13) 14 (.fn 68 [] []) (by rfl)
 rw [show (foT n).take 13 ++ [(14,.fn 68 [] [])]=foT n from rfl,hA2] at u14
 simp only [foT,List.take_succ_cons,List.take_zero,List.cons_append,List.nil_append,l1] at u1
 simp only [foT,List.take_succ_cons,List.take_zero,List.cons_append,List.nil_append,l1] at u2
 simp only [foT,List.take_succ_cons,List.take_zero,List.cons_append,List.nil_append,l1] at u3
 simp only [foT,List.take_succ_cons,List.take_zero,List.cons_append,List.nil_append,l1] at u4
 simp only [foT,List.take_succ_cons,List.take_zero,List.cons_append,List.nil_append,l1] at u5
 simp only [foT,List.take_succ_cons,List.take_zero,List.cons_append,List.nil_append,l1] at u6
 simp only [foT,List.take_succ_cons,List.take_zero,List.cons_append,List.nil_append,l1] at u7
 simp only [foT,List.take_succ_cons,List.take_zero,List.cons_append,List.nil_append,l1] at u8
 simp only [foT,List.take_succ_cons,List.take_zero,List.cons_append,List.nil_append,l1] at u9
 simp only [foT,List.take_succ_cons,List.take_zero,List.cons_append,List.nil_append,l1] at u10
 simp only [foT,List.take_succ_cons,List.take_zero,List.cons_append,List.nil_append,l1] at u11
 simp only [foT,List.take_succ_cons,List.take_zero,List.cons_append,List.nil_append,l1] at u12
 simp only [foT,List.take_succ_cons,List.take_zero,List.cons_append,List.nil_append,l1] at u13
 simp only [foT,List.take_succ_cons,List.take_zero,l1] at u14
 have hcf:(V.fn 52 [] []).cells=[V.fn 52 [] []]:=rfl
 have hof:[V.fn 52 [] []].all V.one=true:=rfl
 have hdf:List.drop 1 [V.s .nilFunc]=[]:=rfl
 rw [hn,hA1,hA2]
 refine callW_fn (c:=s_f17) hT (by simp [s_f17]) ?_
 simp only [s_f17,a_f17,aa,reduceIte,reduceCtorEq,Nat.reduceEqDiff,Nat.reduceLT,Nat.reduceLeDiff,Nat.reduceBEq,Nat.reduceAdd,Nat.reduceMul,op_appR,op_mapNew,op_mapUpd,xsub_mkFn,hn,hg,hs,hbn,hbn1,l1,e0,hcf,hof,hdf,List.length_singleton,List.append_nil,and_self,if_true,hA1,u1,u2,u3,u4,u5,u6,u7,u8,u9,u10,u11,u12,u13,u14]
end
end Go.Proofs.YtngfpadeebpoeaaGreatDoor
set_option maxRecDepth 100000
namespace Go.Proofs.YtngfpadeebpoeaaGreatDoor
open Go.AM
abbrev frF (m:Nat):List V:=frOf 18 [(3,.ref m 0 0),(4,.ref (m+1) 0 0),(5,.ref (m+2) 0 0),(9,.fn k_f168 [] [.ref (m+3) 0 0])]
def lpR (m:Nat):Ob:=.loop .ready none (frF m) [10,11] s_names_walk_find_a0 s_f102_b0
def lpB (m:Nat):Ob:=.loop .busy none (frF m) [10,11] s_names_walk_find_a0 s_f102_b0
def lpD (m:Nat):Ob:=.loop .done (pendOf .ret) (frF m) [10,11] s_names_walk_find_a0 s_f102_b0
def fC (B:Heap) (f:V) (p:List V) (q:Bool) (w:Nat) (lp:Ob):Heap:=B ++ [.cells 0 [f]] ++ [.cells 0 p] ++ [.cells 0 [.s (.bool q)]] ++ [.cells 0 [.ref w 0 0]] ++ [lp]
theorem fC_len (B:Heap) (f:V) (p:List V) (q:Bool) (w:Nat) (lp:Ob):(fC B f p q w lp).length=B.length+5:=by simp [fC]
theorem fC_ext (B:Heap) (f:V) (p:List V) (q:Bool) (w:Nat) (lp:Ob) (G:Heap):Ext B (fC B f p q w lp ++ G):=⟨[.cells 0 [f]] ++ [.cells 0 p] ++ [.cells 0 [.s (.bool q)]] ++ [.cells 0 [.ref w 0 0]] ++ [lp] ++ G,by simp [fC]⟩
theorem fC_f (B:Heap) (f:V) (p:List V) (q:Bool) (w:Nat) (lp:Ob) (G:Heap):getC (fC B f p q w lp ++ G) B.length 0=some [f]:=by simp [fC,getC]
theorem fC_p (B:Heap) (f:V) (p:List V) (q:Bool) (w:Nat) (lp:Ob) (G:Heap):getC (fC B f p q w lp ++ G) (B.length+1) 0=some p:=by simp [fC,getC]
theorem fC_q (B:Heap) (f:V) (p:List V) (q:Bool) (w:Nat) (lp:Ob) (G:Heap):getC (fC B f p q w lp ++ G) (B.length+2) 0=some [.s (.bool q)]:=by simp [fC,getC]
theorem fC_w (B:Heap) (f:V) (p:List V) (q:Bool) (w:Nat) (lp:Ob) (G:Heap):getC (fC B f p q w lp ++ G) (B.length+3) 0=some [.ref w 0 0]:=by simp [fC,getC]
theorem fC_lp (B:Heap) (f:V) (p:List V) (q:Bool) (w:Nat) (lp:Ob) (G:Heap):(fC B f p q w lp ++ G)[B.length+4]?=some lp:=by simp [fC]
theorem fC_sp (B:Heap) (f:V) (p p':List V) (q:Bool) (w:Nat) (lp:Ob) (G:Heap):(fC B f p q w lp ++ G).set (B.length+1) (.cells 0 p')=fC B f p' q w lp ++ G:=by simp [fC]
theorem fC_sq (B:Heap) (f:V) (p:List V) (q q':Bool) (w:Nat) (lp:Ob) (G:Heap):(fC B f p q w lp ++ G).set (B.length+2) (.cells 0 [.s (.bool q')])=fC B f p q' w lp ++ G:=by simp [fC]
theorem fC_sl (B:Heap) (f:V) (p:List V) (q:Bool) (w:Nat) (lp lp':Ob) (G:Heap):(fC B f p q w lp ++ G).set (B.length+4) lp'=fC B f p q w lp' ++ G:=by simp [fC]
theorem fC_app (B:Heap) (f:V) (p:List V) (q:Bool) (w:Nat) (lp:Ob) (G:Heap):fC B f p q w lp ++ G=B ++ ([.cells 0 [f]] ++ [.cells 0 p] ++ [.cells 0 [.s (.bool q)]] ++ [.cells 0 [.ref w 0 0]] ++ [lp] ++ G):=by simp [fC]
def gC (B:Heap) (f:V) (p:List V) (q:Bool) (w:Nat):Heap:=B ++ [.cells 0 [f]] ++ [.cells 0 p] ++ [.cells 0 [.s (.bool q)]] ++ [.cells 0 [.ref w 0 0]]
theorem gC_len (B:Heap) (f:V) (p:List V) (q:Bool) (w:Nat):(gC B f p q w).length=B.length+4:=by simp [gC]
theorem fC_cut (B:Heap) (f:V) (p:List V) (q:Bool) (w:Nat) (lp lp':Ob) (G:Heap):(fC B f p q w lp ++ G).set (B.length+4) lp'=gC B f p q w ++ (lp' :: G):=by simp [fC,gC]
theorem gC_p (B:Heap) (f:V) (p:List V) (q:Bool) (w:Nat) (G:Heap):getC (gC B f p q w ++ G) (B.length+1) 0=some p:=by simp [gC,getC]
theorem gC_q (B:Heap) (f:V) (p:List V) (q:Bool) (w:Nat) (G:Heap):getC (gC B f p q w ++ G) (B.length+2) 0=some [.s (.bool q)]:=by simp [gC,getC]
theorem gC_sp (B:Heap) (f:V) (p p':List V) (q:Bool) (w:Nat) (G:Heap):(gC B f p q w ++ G).set (B.length+1) (.cells 0 p')=gC B f p' q w ++ G:=by simp [gC]
theorem gC_sq (B:Heap) (f:V) (p:List V) (q q':Bool) (w:Nat) (G:Heap):(gC B f p q w ++ G).set (B.length+2) (.cells 0 [.s (.bool q')])=gC B f p q' w ++ G:=by simp [gC]
theorem gC_app (B:Heap) (f:V) (p:List V) (q:Bool) (w:Nat) (G:Heap):∃ G',gC B f p q w ++ G=B ++ G':=⟨[.cells 0 [f]] ++ [.cells 0 p] ++ [.cells 0 [.s (.bool q)]] ++ [.cells 0 [.ref w 0 0]] ++ G,by simp [gC]⟩
section
variable {CT:Nat→Option CFun}
def kF (B:Nat→Heap) (m:Nat) (f:V) (w n:Nat):Heap:=fC (B n) f [Iz 0,Iz 0,Iz 0] false w (lpR m)
def kD (B:Nat→Heap) (m:Nat) (f:V) (w n i b k:Nat):Heap:=fC (B (n+1)) f [Iz i,Iz b,Iz k] true w (lpD m)
def Pred (CT:Nat→Option CFun) (base:Nat) (f:V) (B:Nat→Heap) (n i b k:Nat) (r:List V) (g:Bool):Prop:=∀ G,∃ G',callW CT f [.agg [Iz i,Iz b,Iz k],.agg r] base (B n ++ G)=some (bl g,B (n+1) ++ G ++ G')
theorem find_yld (base m:Nat) {B:Nat→Heap} (hB:∀ n,(B n).length=m) (hb:base≤m) {f:V} (hf:f.one=true) {w n i b k:Nat} {A:Heap} {r:List V} {x:InsD} (hr:RdIns A r x) {g:Bool} (hp:Pred CT base f B n i b k r g):
 Yld CT base (.yld (m+4)) (kF B m f w) (kD B m f w) n i b k r g:=by
 intro G
 obtain ⟨av,lv,rfl,q1,q2,q3,q4,_⟩:=id hr
 have hav:=q1.one
 have hlv:=q3.one
 obtain ⟨C,hC⟩:∃ C,kF B m f w n ++ G=C:=⟨_,rfl⟩
 obtain ⟨c,hcc⟩:∃ c,m+(5+G.length)=c:=⟨_,rfl⟩
 have hCl:C.length=c:=by rw [← hcc];rw [← hC,List.length_append,kF,fC_len,hB];omega
 obtain ⟨G1,hG1⟩:∃ G1,G ++ [Ob.cells 0 [Iz i,Iz b,Iz k]] ++ [Ob.cells 0 (insC x av lv)]=G1:=⟨_,rfl⟩
 have eH1:C ++ [Ob.cells 0 [Iz i,Iz b,Iz k]] ++ [Ob.cells 0 (insC x av lv)]=kF B m f w n ++ G1:=by rw [← hC,← hG1];simp
 have hm:=hB n
 have h0:=fC_lp (B n) f [Iz 0,Iz 0,Iz 0] false w (lpR m) G
 have h1:=fC_lp (B n) f [Iz 0,Iz 0,Iz 0] false w (lpR m) G1
 have e2:=fC_sl (B n) f [Iz 0,Iz 0,Iz 0] false w (lpR m) (lpB m) G1
 have lf:=fC_f (B n) f [Iz 0,Iz 0,Iz 0] false w (lpB m) G1
 rw [hm] at h0 h1 e2 lf
 have g6:getC (fC (B n) f [Iz 0,Iz 0,Iz 0] false w (lpB m) ++ G1) c 0=some [Iz i,Iz b,Iz k]:=by
  rw [← hG1,← List.append_assoc,← List.append_assoc]
  refine getC_ext ?_ (Ext.app _ _)
  have:=getC_new (fC (B n) f [Iz 0,Iz 0,Iz 0] false w (lpB m) ++ G) 0 [Iz i,Iz b,Iz k]
  rwa [List.length_append,fC_len,hm,Nat.add_assoc,hcc] at this
 have g7:getC (fC (B n) f [Iz 0,Iz 0,Iz 0] false w (lpB m) ++ G1) (c+1) 0=some (insC x av lv):=by
  rw [← hG1,← List.append_assoc,← List.append_assoc]
  have:=getC_new (fC (B n) f [Iz 0,Iz 0,Iz 0] false w (lpB m) ++ G ++ [Ob.cells 0 [Iz i,Iz b,Iz k]]) 0 (insC x av lv)
  rwa [len_snoc,show (fC (B n) f [Iz 0,Iz 0,Iz 0] false w (lpB m) ++ G).length=c by rw [← hcc,List.length_append,fC_len,hm];omega] at this
 obtain ⟨G2,hp⟩:=hp ([.cells 0 [f]] ++ [.cells 0 [Iz 0,Iz 0,Iz 0]] ++ [.cells 0 [.s (.bool false)]] ++ [.cells 0 [.ref w 0 0]] ++ [lpB m] ++ G1)
 rw [← fC_app] at hp
 have eR:B (n+1) ++ ([.cells 0 [f]] ++ [.cells 0 [Iz 0,Iz 0,Iz 0]] ++ [.cells 0 [.s (.bool false)]] ++ [.cells 0 [.ref w 0 0]] ++ [lpB m] ++ G1) ++ G2=fC (B (n+1)) f [Iz 0,Iz 0,Iz 0] false w (lpB m) ++ (G1 ++ G2):=by simp [fC]
 rw [eR] at hp
 have hm1:=hB (n+1)
 refine ⟨G1 ++ G2,?_⟩
 rw [hC]
 rw [show (if g=true then some (bl false,kD B m f w n i b k ++ (G1 ++ G2)) else some (bl true,kF B m f w (n+1) ++ (G1 ++ G2)))=some (if g=true then (bl false,kD B m f w n i b k ++ (G1 ++ G2)) else (bl true,kF B m f w (n+1) ++ (G1 ++ G2))) by cases g <;> rfl]
 have hH:C[m+4]?=some (lpR m):=by rw [← hC];exact h0
 refine callW_yld2 (id:=m+4) (by omega) hH (fr:=frOf 18 [(3,.ref m 0 0),(4,.ref (m+1) 0 0),(5,.ref (m+2) 0 0),(9,.fn k_f168 [] [.ref (m+3) 0 0]),(10,.agg [Iz i,Iz b,Iz k]),(11,.agg (insC x av lv))]) (fr1:=frOf 18 [(3,.ref m 0 0),(4,.ref (m+1) 0 0),(5,.ref (m+2) 0 0),(6,.ref c 0 0),(7,.ref (c+1) 0 0)]) (H1:=C ++ [Ob.cells 0 [Iz i,Iz b,Iz k]] ++ [Ob.cells 0 (insC x av lv)]) ?_ ?_ (by rw [eH1];exact h1) ?_
 ·simp only [frF,aa,reduceIte,reduceCtorEq,Nat.reduceEqDiff,Nat.reduceLT,Nat.reduceLeDiff,Nat.reduceBEq,Nat.reduceAdd,Nat.reduceMul,op_appR]
 ·have h6:base≤c:=by omega
  have h7:base≤c+1:=by omega
  have hgg:∀ e,getC (C ++ [Ob.cells 0 e]) c 0=some e:=fun e=>by have:=getC_new C 0 e;rwa [hCl] at this
  have hss:∀ e d,(C ++ [e]).set c d=C ++ [d]:=fun e d=>by have:=set_snoc C e d;rwa [hCl] at this
  have hl2:∀ d,(C ++ [d]).length=c+1:=fun d=>by rw [len_snoc,hCl]
  have hgg2:∀ a e,getC (C ++ [a] ++ [Ob.cells 0 e]) (c+1) 0=some e:=fun a e=>by have:=getC_new (C ++ [a]) 0 e;rwa [hl2] at this
  have hss2:∀ a e d,(C ++ [a] ++ [e]).set (c+1) d=C ++ [a] ++ [d]:=fun a e d=>by have:=set_snoc (C ++ [a]) e d;rwa [hl2] at this
  simp only [insC,Iz,s_names_walk_find_a0,a_f102,aa,reduceIte,reduceCtorEq,Nat.reduceEqDiff,Nat.reduceLT,Nat.reduceLeDiff,Nat.reduceBEq,Nat.reduceAdd,Nat.reduceMul,op_appR,hCl,h6,h7,hgg,hss,hl2,hgg2,hss2,hav,hlv,Bool.and_self]
 ·rw [eH1]
  have e2':(kF B m f w n ++ G1).set (m+4) (Ob.loop .busy none (frF m) [10,11] s_names_walk_find_a0 s_f102_b0)=fC (B n) f [Iz 0,Iz 0,Iz 0] false w (lpB m) ++ G1:=e2
  rw [e2']
  obtain ⟨D,hD⟩:∃ D,fC (B n) f [Iz 0,Iz 0,Iz 0] false w (lpB m) ++ G1=D:=⟨_,rfl⟩
  rw [hD] at lf g6 g7 hp ⊢
  have lfx:xLoad D false 1 (.ref m 0 0)=some f:=getC_load lf
  cases g with
  | false=>
    have hend:evC (callW CT) itW base s_f102_b0 (frOf 18 [(3,.ref m 0 0),(4,.ref (m+1) 0 0),(5,.ref (m+2) 0 0),(6,.ref c 0 0),(7,.ref (c+1) 0 0)]) D=some (.nrm,frOf 18 [(4,.ref (m+1) 0 0),(5,.ref (m+2) 0 0),(6,.ref c 0 0),(15,bl false)],fC (B (n+1)) f [Iz 0,Iz 0,Iz 0] false w (lpB m) ++ (G1 ++ G2)):=by
     simp only [insC,Iz,bl] at g6 g7 hp lfx
     simp only [insC,Iz,bl,s_f102_b0,a_f102,aa,reduceIte,reduceCtorEq,Nat.reduceEqDiff,Nat.reduceLT,Nat.reduceLeDiff,Nat.reduceBEq,Nat.reduceAdd,Nat.reduceMul,op_appR,g6,g7,lfx,hp]
    have hl:=fC_lp (B (n+1)) f [Iz 0,Iz 0,Iz 0] false w (lpB m) (G1 ++ G2)
    have e3:=fC_sl (B (n+1)) f [Iz 0,Iz 0,Iz 0] false w (lpB m) (lpR m) (G1 ++ G2)
    rw [hm1] at hl e3
    rw [hend,yldE_some hl]
    exact congrArg some (Prod.ext rfl e3)
  | true=>
    have hend:evC (callW CT) itW base s_f102_b0 (frOf 18 [(3,.ref m 0 0),(4,.ref (m+1) 0 0),(5,.ref (m+2) 0 0),(6,.ref c 0 0),(7,.ref (c+1) 0 0)]) D=some (.ret,frOf 18 [],fC (B (n+1)) f [Iz i,Iz b,Iz k] true w (lpB m) ++ (G1 ++ G2)):=by
     have hb1:base≤m+1:=by omega
     have hb2:base≤m+2:=by omega
     have p1:=fC_p (B (n+1)) f [Iz 0,Iz 0,Iz 0] false w (lpB m) (G1 ++ G2)
     have p2:=fC_sp (B (n+1)) f [Iz 0,Iz 0,Iz 0] [Iz i,Iz b,Iz k] false w (lpB m) (G1 ++ G2)
     have p3:=fC_q (B (n+1)) f [Iz i,Iz b,Iz k] false w (lpB m) (G1 ++ G2)
     have p4:=fC_sq (B (n+1)) f [Iz i,Iz b,Iz k] false true w (lpB m) (G1 ++ G2)
     have g6':getC (fC (B (n+1)) f [Iz 0,Iz 0,Iz 0] false w (lpB m) ++ (G1 ++ G2)) c 0=some [Iz i,Iz b,Iz k]:=by
      have:=getC_new (fC (B (n+1)) f [Iz 0,Iz 0,Iz 0] false w (lpB m) ++ G) 0 [Iz i,Iz b,Iz k]
      rw [List.length_append,fC_len,hm1,Nat.add_assoc,hcc] at this
      exact getC_ext this ⟨[Ob.cells 0 (insC x av lv)] ++ G2,by rw [← hG1];simp⟩
     rw [hm1] at p1 p2 p3 p4
     simp only [insC,Iz,bl] at g6 g7 hp lfx p1 p2 p3 p4 g6'
     simp only [insC,Iz,bl,s_f102_b0,a_f102,aa,reduceIte,reduceCtorEq,Nat.reduceEqDiff,Nat.reduceLT,Nat.reduceLeDiff,Nat.reduceBEq,Nat.reduceAdd,Nat.reduceMul,op_appR,g6,g7,lfx,hp,g6',p1,p2,p3,p4,hb1,hb2]
    have hl:=fC_lp (B (n+1)) f [Iz i,Iz b,Iz k] true w (lpB m) (G1 ++ G2)
    have e3:=fC_sl (B (n+1)) f [Iz i,Iz b,Iz k] true w (lpB m) (lpD m) (G1 ++ G2)
    rw [hm1] at hl e3
    rw [hend,yldE_some hl]
    exact congrArg some (Prod.ext rfl e3)
structure FindT (CT:Nat→Option CFun):Prop where
 find:CT k_f102=some (.code s_f102)
 code:CT k_f140=some (.code s_f140)
 code1:CT k_f168=some (.code s_f168)
theorem code_fun (hT:FindT CT) (base:Nat) (H:Heap) (w:Nat):callW CT (.fn k_f140 [] []) [.ref w 0 0] base H=some (.fn k_f168 [] [.ref H.length 0 0],H ++ [.cells 0 [.ref w 0 0]]):=by
 refine callW_fnA (c:=s_f140) (k:=1) hT.code rfl (by decide) s_f140_first ?_
 simp only [s_f140,a_f140,aa,reduceIte,reduceCtorEq,Nat.reduceEqDiff,Nat.reduceLT,Nat.reduceLeDiff,Nat.reduceBEq,Nat.reduceAdd,Nat.reduceMul,op_appR,xsub_mkFn]
theorem find_fun (hT:FindT CT) (base:Nat) {A:Heap} (hb:base≤A.length) {w sm:Nat} {fv:V} {fs:List FunD} (hc:NC A w sm fv fs) {f:V} (hf:f.one=true) {B:Nat→Heap} {m:Nat} (hB:∀ n,(B n).length=m) (hE:∀ n,Ext A (B n)) {Gf:Nat→Nat→Nat→Nat→InsD→Bool}
 (hp:∀ i f1,fs[i]?=some f1→∀ b x,f1.blocks[b]?=some x→∀ k z r,x.code[k]?=some z→RdIns A r z→Pred CT base f B (cF (fs.take i)+cI (f1.blocks.take b)+k) i b k r (Gf (cF (fs.take i)+cI (f1.blocks.take b)+k) i b k z)):
 ∃ n G,callW CT (.fn k_f102 [] []) [.ref w 0 0,f] base (B 0)=some (resP (gSrch Gf fs),B n ++ G):=by
 have hbm:base≤m:=by have:=(hE 0).le;rw [hB] at this;omega
 have hm:=hB 0
 have hK:∀ n,(kF B m f w n).length=m+5:=fun n=>by rw [kF,fC_len,hB]
 have hKD:∀ n i b k,(kD B m f w n i b k).length=m+5:=fun n i b k=>by rw [kD,fC_len,hB]
 have hEK:∀ n,Ext A (kF B m f w n):=fun n=>(hE n).trans (by have:=fC_ext (B n) f [Iz 0,Iz 0,Iz 0] false w (lpR m) [];rwa [List.append_nil] at this)
 have hw:getC (kF B m f w 0) (m+3) 0=some [.ref w 0 0]:=by
  have:=fC_w (B 0) f [Iz 0,Iz 0,Iz 0] false w (lpR m) []
  rwa [List.append_nil,hm] at this
 have hfc:=cells_of_one hf
 have hcd:=code_fun hT base
 have hb1:base≤m+1:=by omega
 have hb2:base≤m+2:=by omega
 have e0:B 0 ++ [.cells 0 [f]] ++ [.cells 0 [Iz 0,Iz 0,Iz 0]] ++ [.cells 0 [.s (.bool false)]] ++ [.cells 0 [.ref w 0 0]] ++ [lpR m]=kF B m f w 0:=rfl
 rcases code1_fun (CT:=CT) hT.code1 base hK hKD hEK (show base≤m+5 by omega) hc hw (y:=.yld (m+4)) (Gf:=Gf) (fun i f1 hi b x hx k z r hz hr=>find_yld base m hB hbm hf hr (hp i f1 hi b x hx k z r hz hr)) with ⟨z1,G,z2⟩ | ⟨⟨i,b,k⟩,z1,n,G,z2⟩
 ·obtain ⟨G1,t1⟩:=trim_app2 (C:=gC (B (cF fs)) f [Iz 0,Iz 0,Iz 0] false w) (m:=m+4) (by rw [gC_len,hB];omega) (frF m) (.dead :: G)
  have hmn:=hB (cF fs)
  have hl:=fC_lp (B (cF fs)) f [Iz 0,Iz 0,Iz 0] false w (lpR m) G
  have hd:=fC_cut (B (cF fs)) f [Iz 0,Iz 0,Iz 0] false w (lpR m) .dead G
  have p1:=gC_p (B (cF fs)) f [Iz 0,Iz 0,Iz 0] false w G1
  have p2:=gC_sp (B (cF fs)) f [Iz 0,Iz 0,Iz 0] [Iz 0,Iz 0,Iz 0] false w G1
  have p3:=gC_q (B (cF fs)) f [Iz 0,Iz 0,Iz 0] false w G1
  have p4:=gC_sq (B (cF fs)) f [Iz 0,Iz 0,Iz 0] false false w G1
  rw [hmn] at hl hd p1 p2 p3 p4
  rw [← hd] at t1
  have hrn:=fun fr v=>rngC_nrm (L:=m+4) (fr:=fr) (v:=v) hl
  obtain ⟨G2,hG2⟩:=gC_app (B (cF fs)) f [Iz 0,Iz 0,Iz 0] false w G1
  refine ⟨cF fs,G2,callW_fnA (c:=s_f102) (k:=2) hT.find rfl (by decide) s_f102_first ?_⟩
  rw [z1,← hG2]
  simp only [kF,fC,lpR] at z2 hrn t1 hl
  simp only [Iz,bl] at z2 hrn t1 p1 p2 p3 p4
  simp only [Iz,s_f102,a_f102,aa,reduceIte,reduceCtorEq,Nat.reduceEqDiff,Nat.reduceLT,Nat.reduceLeDiff,Nat.reduceBEq,Nat.reduceAdd,Nat.reduceMul,op_appR,hm,hfc,hf,hcd,len_snoc,z2,hrn,t1,p1,p2,p3,p4,hb1,hb2]
  have xR:loadV (gC (B (cF fs)) f [Iz 0,Iz 0,Iz 0] false w ++ G1) true 3 (.ref (m+1) 0 0)=some (.agg [Iz 0,Iz 0,Iz 0]):=by
   show xLoad _ true 3 _=_
   rw [xo_ref,p1];rfl
  have xQ:loadV (gC (B (cF fs)) f [Iz 0,Iz 0,Iz 0] false w ++ G1) false 1 (.ref (m+2) 0 0)=some (bl false):=by
   show xLoad _ false 1 _=_
   exact getC_load p3
  simp only [Iz,bl] at xR xQ
  rw [xR,xQ]
  rfl
 ·obtain ⟨G1,t1⟩:=trim_app2 (C:=gC (B (n+1)) f [Iz i,Iz b,Iz k] true w) (m:=m+4) (by rw [gC_len,hB];omega) (frF m) (.dead :: G)
  have hmn:=hB (n+1)
  have hl:=fC_lp (B (n+1)) f [Iz i,Iz b,Iz k] true w (lpD m) G
  have hd:=fC_cut (B (n+1)) f [Iz i,Iz b,Iz k] true w (lpD m) .dead G
  have p1:=gC_p (B (n+1)) f [Iz i,Iz b,Iz k] true w G1
  have p3:=gC_q (B (n+1)) f [Iz i,Iz b,Iz k] true w G1
  rw [hmn] at hl hd p1 p3
  rw [← hd] at t1
  have hrn:=fun fr v=>rngC_done (L:=m+4) (fr:=fr) (v:=v) (e:=.ret) hl
  obtain ⟨G2,hG2⟩:=gC_app (B (n+1)) f [Iz i,Iz b,Iz k] true w G1
  refine ⟨n+1,G2,callW_fnA (c:=s_f102) (k:=2) hT.find rfl (by decide) s_f102_first ?_⟩
  rw [z1,← hG2]
  simp only [kF,kD,fC,lpR,lpD] at z2 hrn t1 hl
  simp only [Iz,bl] at z2 hrn t1 p1 p3
  simp only [Iz,s_f102,a_f102,aa,reduceIte,reduceCtorEq,Nat.reduceEqDiff,Nat.reduceLT,Nat.reduceLeDiff,Nat.reduceBEq,Nat.reduceAdd,Nat.reduceMul,op_appR,hm,hfc,hf,hcd,len_snoc,z2,hrn,t1,hb1,hb2]
  have xR:loadV (gC (B (n+1)) f [Iz i,Iz b,Iz k] true w ++ G1) true 3 (.ref (m+1) 0 0)=some (.agg [Iz i,Iz b,Iz k]):=by
   show xLoad _ true 3 _=_
   rw [xo_ref,p1];rfl
  have xQ:loadV (gC (B (n+1)) f [Iz i,Iz b,Iz k] true w ++ G1) false 1 (.ref (m+2) 0 0)=some (bl true):=by
   show xLoad _ false 1 _=_
   exact getC_load p3
  simp only [Iz,bl] at xR xQ
  rw [xR,xQ]
  rfl
end
end Go.Proofs.YtngfpadeebpoeaaGreatDoor
set_option maxRecDepth 100000
namespace Go.Proofs.YtngfpadeebpoeaaGreatDoor
open Go.AM
def eqB (a b:ByteArray):Bool:=a.data.toList == b.data.toList
section
variable {CT:Nat→Option CFun}
theorem find_pure (hT:FindT CT) (base:Nat) {A:Heap} (hb:base≤A.length) {w sm:Nat} {fv:V} {fs:List FunD} (hc:NC A w sm fv fs) {f:V} (hf:f.one=true) {g:Nat→Nat→Nat→InsD→Bool}
 (hp:∀ (i:Nat) (f1:FunD),fs[i]?=some f1→∀ (b:Nat) (x:BlkD),f1.blocks[b]?=some x→∀ (k:Nat) (z:InsD) (r:List V),x.code[k]?=some z→RdIns A r z→∀ D,Ext A D→∃ D',callW CT f [.agg [Iz i,Iz b,Iz k],.agg r] base D=some (bl (g i b k z),D')∧Ext D D'):
 ∃ H',callW CT (.fn k_f102 [] []) [.ref w 0 0,f] base A=some (resP (gSrch (fun _=>g) fs),H')∧Ext A H':=by
 obtain ⟨n,G,h1⟩:=find_fun hT base hb hc hf (B:=fun _=>A) (m:=A.length) (fun _=>rfl) (fun _=>Ext.refl A) (Gf:=fun _=>g) (fun i f1 hi b x hx k z r hz hr G=>by
  obtain ⟨D',d1,G',rfl⟩:=hp i f1 hi b x hx k z r hz hr (A ++ G) ⟨G,rfl⟩
  exact ⟨G',d1⟩)
 exact ⟨A ++ G,h1,G,rfl⟩
end
end Go.Proofs.YtngfpadeebpoeaaGreatDoor
set_option maxRecDepth 100000
namespace Go.Proofs.YtngfpadeebpoeaaGreatDoor
open Go.AM
section
variable {CT:Nat→Option CFun}
end
end Go.Proofs.YtngfpadeebpoeaaGreatDoor
set_option maxRecDepth 100000
namespace Go.Proofs.YtngfpadeebpoeaaGreatDoor
open Go.AM
def bi1 (x:InsD):Bool:=!(lookI shT x.op).isSome || !(shp x.op).d && !x.d.data.toList == [] || !(shp x.op).a && !x.a.data.toList == [] || !(shp x.op).b && !x.b.data.toList == [] || !(shp x.op).k && x.k != 0 || !(shp x.op).f && !x.f.data.toList == [] || !(shp x.op).xs && decide ((x.xs.length:Int) > 0) || !(shp x.op).ls && decide ((x.ls.length:Int) > 0)
def bi2 (x:InsD):Bool:=(shp x.op).d && x.d.data.toList == [] && !(x.op == 10 || x.op == 11) || (shp x.op).a && x.a.data.toList == [] && x.op != 14 || (shp x.op).b && x.b.data.toList == [] || (shp x.op).f && x.f.data.toList == []
def bi3 (x:InsD):Bool:=bif x.op == 1 || x.op == 2 then decide (x.k < 1) || decide (x.k > 64) else bif x.op == 7 then decide (x.k < 0) || decide (x.k ≥ 64) else bif x.op == 6 then (x.xs.length:Int) == 0 || (x.xs.length:Int) != (x.ls.length:Int) else bif x.op == 12 then (x.ls.length:Int) != 2 else bif x.op == 13 then (x.ls.length:Int) != 1 else false
def biG (x:InsD):Bool:=bi1 x || (bi2 x || bi3 x)
section
variable {CT:Nat→Option CFun}
theorem badInstr1_fun (hCl:CT k_f100=some (.code s_f100)) (hT:CT k_f104=some (.code s_f104)) (base:Nat) {A:Heap} (hb:base≤A.length) {w w1 sm:Nat} {fv:V} {fs:List FunD} (hc:NC A w sm fv fs) (hw:getC A w1 0=some [.ref w 0 0]) {i b k:Nat} {r:List V} {x:InsD} (hr:RdIns A r x) (D:Heap) (hD:Ext A D):
 ∃ D',callW CT (.fn k_f104 [] [.ref w1 0 0]) [.agg [Iz i,Iz b,Iz k],.agg r] base D=some (bl (biG x),D')∧Ext D D':=by
 obtain ⟨av,lv,rfl,q1,q2,q3,q4,_⟩:=hr
 have hav:=q1.one
 have hlv:=q3.one
 have hbD:base≤D.length:=by have:=hD.le;omega
 obtain ⟨D1,hD1⟩:∃ D1,D ++ [Ob.cells 0 [Iz i,Iz b,Iz k]] ++ [Ob.cells 0 (insC x av lv)]=D1:=⟨_,rfl⟩
 have e1:Ext D D1:=hD1 ▸ (Ext.app _ _).trans (Ext.app _ _)
 have hw1:=getC_load (getC_ext hw (hD.trans e1))
 have hgg:getC D1 (D.length+1) 0=some (insC x av lv):=by
  have:=getC_new (D ++ [Ob.cells 0 [Iz i,Iz b,Iz k]]) 0 (insC x av lv)
  rwa [len_snoc,hD1] at this
 have hgp:getC D1 D.length 0=some [Iz i,Iz b,Iz k]:=hD1 ▸ getC_ext (getC_new D 0 [Iz i,Iz b,Iz k]) (Ext.app _ _)
 have hl1:=len_snoc D (Ob.cells 0 [Iz i,Iz b,Iz k])
 have hxl:=Sb_len (q1.ext (hD.trans e1))
 have hll:=Sb_len (q3.ext (hD.trans e1))
 have hW:=(hc.ext (hD.trans e1)).load (Ext.refl _)
 have hws:=(getC_ext hc.gw (hD.trans e1))
 have hmp:xLoad D1 false 1 (.ref w 0 1)=some (.mp sm):=by rw [xo_ref,hws];rfl
 have hmg:=get_I .u8 (Ext.at' (hD.trans e1) hc.sh) (.agg (ShD.c ⟨false,false,false,false,false,false,false⟩)) true x.op
 rw [if_pos rfl,shT_get] at hmg
 have hl2:D1.length=D.length+2:=by rw [← hD1,len_snoc,len_snoc]
 have hbD1:base≤D.length+2:=by omega
 have hgg2:=getC_ext hgg (Ext.app D1 [Ob.cells 0 (shp x.op).c])
 have hgs:=getC_new D1 0 (shp x.op).c
 have hss:∀ c d,(D1 ++ [c]).set D1.length d=D1 ++ [d]:=fun c d=>set_snoc D1 c d
 have hgz:∀ c,getC (D1 ++ [Ob.cells 0 c]) D1.length 0=some c:=fun c=>getC_new D1 0 c
 rw [hl2] at hgs hss hgz
 have e2:Ext D (D1 ++ [Ob.cells 0 (shp x.op).c]):=e1.trans (Ext.app _ _)
 have hxl2:=Sb_len (q1.ext (hD.trans e2))
 have hll2:=Sb_len (q3.ext (hD.trans e2))
 have hcal:=fun E=>calls_fun hCl base E x.op
 refine ⟨D1 ++ [Ob.cells 0 (shp x.op).c],callW_fnA (c:=s_f104) (k:=3) hT rfl (by decide) s_f104_first ?_,e2⟩
 simp only [insC,Iz,bl,ShD.c] at hgg hgg2 hgs hD1 hl1 hmg hcal hgz hss hxl2 hll2
 unfold biG
 cases hd:((shp x.op).d && x.d.data.toList == []) with
 | true=>
   simp only [insC,Iz,ShD.c,s_f104,a_f104,aa,reduceIte,reduceCtorEq,Nat.reduceEqDiff,Nat.reduceLT,Nat.reduceLeDiff,Nat.reduceBEq,Nat.reduceAdd,Nat.reduceMul,op_appR,hav,hlv,Bool.and_self,hl1,hD1,hl2,hgg,hgg2,hgs,hw1,hmp,hmg,hbD1,hss,hgz,hcal,hxl2,hll2,hd]
   cases e1:bi1 x with
   | true=>
     unfold bi1 at e1
     simp only [e1,cond_true,Bool.true_or]
   | false=>
     unfold bi1 at e1
     simp only [e1,cond_false,Bool.false_or]
     cases e2:bi2 x with
     | true=>
       unfold bi2 at e2
       rw [hd] at e2
       simp only [Bool.false_and,Bool.false_or,Bool.true_and] at e2
       simp only [e2,cond_true,cond_false,Bool.true_or,Bool.false_and,Bool.false_or,Bool.true_and]
     | false=>
       unfold bi2 at e2
       rw [hd] at e2
       simp only [Bool.false_and,Bool.false_or,Bool.true_and] at e2
       simp only [e2,cond_true,cond_false,Bool.false_or,Bool.false_and,Bool.true_and]
       unfold bi3
       cases o1:(x.op == 1) <;> cases o2:(x.op == 2) <;> cases o7:(x.op == 7) <;> cases o6:(x.op == 6) <;> cases o12:(x.op == 12) <;> cases o13:(x.op == 13) <;> simp only [cond_true,cond_false,Bool.true_or,Bool.false_or,Bool.or_true,Bool.or_false]
 | false=>
   simp only [insC,Iz,ShD.c,s_f104,a_f104,aa,reduceIte,reduceCtorEq,Nat.reduceEqDiff,Nat.reduceLT,Nat.reduceLeDiff,Nat.reduceBEq,Nat.reduceAdd,Nat.reduceMul,op_appR,hav,hlv,Bool.and_self,hl1,hD1,hl2,hgg,hgg2,hgs,hw1,hmp,hmg,hbD1,hss,hgz,hcal,hxl2,hll2,hd]
   cases e1:bi1 x with
   | true=>
     unfold bi1 at e1
     simp only [e1,cond_true,Bool.true_or]
   | false=>
     unfold bi1 at e1
     simp only [e1,cond_false,Bool.false_or]
     cases e2:bi2 x with
     | true=>
       unfold bi2 at e2
       rw [hd] at e2
       simp only [Bool.false_and,Bool.false_or,Bool.true_and] at e2
       simp only [e2,cond_true,cond_false,Bool.true_or,Bool.false_and,Bool.false_or,Bool.true_and]
     | false=>
       unfold bi2 at e2
       rw [hd] at e2
       simp only [Bool.false_and,Bool.false_or,Bool.true_and] at e2
       simp only [e2,cond_true,cond_false,Bool.false_or,Bool.false_and,Bool.true_and]
       unfold bi3
       cases o1:(x.op == 1) <;> cases o2:(x.op == 2) <;> cases o7:(x.op == 7) <;> cases o6:(x.op == 6) <;> cases o12:(x.op == 12) <;> cases o13:(x.op == 13) <;> simp only [cond_true,cond_false,Bool.true_or,Bool.false_or,Bool.or_true,Bool.or_false]
end
end Go.Proofs.YtngfpadeebpoeaaGreatDoor
set_option maxRecDepth 100000
namespace Go.Proofs.YtngfpadeebpoeaaGreatDoor
open Go.AM
structure FormOk (x:InsD):Prop where
 op:x.op=1∨x.op=2∨x.op=3∨x.op=4∨x.op=5∨x.op=6∨x.op=7∨x.op=8∨x.op=9∨x.op=10∨x.op=11∨x.op=12∨x.op=13∨x.op=14
 k:x.op=1∨x.op=2∨x.op=7→0≤x.k∧x.k < 100
 phi:x.op=6→x.xs.length=x.ls.length
 br:x.op=12→x.ls.length=2
 go:x.op=13→x.ls.length=1
theorem op_cases {r:Int} (h:(lookI shT r).isSome=true):r=1∨r=2∨r=3∨r=4∨r=5∨r=6∨r=7∨r=8∨r=9∨r=10∨r=11∨r=12∨r=13∨r=14:=by
 refine Decidable.byContradiction fun hn=>?_
 simp only [not_or] at hn
 obtain ⟨e1,e2,e3,e4,e5,e6,e7,e8,e9,e10,e11,e12,e13,e14⟩:=hn
 simp only [lookI,shT,List.findIdx?_cons,List.findIdx?_nil,e1,e2,e3,e4,e5,e6,e7,e8,e9,e10,e11,e12,e13,e14,decide_false,Bool.false_eq_true,if_false,Option.map_none,Option.isSome_none] at h
theorem formOk_of {x:InsD} (h:biG x=false):FormOk x:=by
 unfold biG at h
 rw [Bool.or_eq_false_iff,Bool.or_eq_false_iff] at h
 obtain ⟨h1,_,h3⟩:=h
 have hop:(lookI shT x.op).isSome=true:=by
  cases e:(lookI shT x.op).isSome with
  | true=>rfl
  | false=>simp [bi1,e] at h1
 refine ⟨op_cases hop,fun hk=>?_,fun hk=>?_,fun hk=>?_,fun hk=>?_⟩
 ·rcases hk with e | e | e <;> simp [bi3,e] at h3 <;> omega
 ·simp [bi3,hk] at h3
  omega
 ·simp [bi3,hk] at h3
  omega
 ·simp [bi3,hk] at h3
  omega
def formT (x:InsD):ByteArray:=
 if x.op=1 then wordsT [bAlloca,itB x.k] else
 if x.op=2 then wordsT [bMalloc,itB x.k] else
 if x.op=3 then bNull else
 if x.op=4 then wordsT [bAddr,x.f] else
 if x.op=5 then wordsT [bCopy,x.a] else
 if x.op=6 then wordsT [bPhi,pairsT x] else
 if x.op=7 then wordsT [bField,x.a,itB x.k] else
 if x.op=8 then wordsT [bLoad,x.a] else
 if x.op=9 then wordsT [bStore,x.a ++ bComma,x.b] else
 if x.op=10 then wordsT [bCall,x.f ++ argsT x.xs] else
 if x.op=11 then wordsT [bICall,x.a ++ argsT x.xs] else
 if x.op=12 then wordsT [bBr,x.ls.getD 0 ⟨#[]⟩,x.ls.getD 1 ⟨#[]⟩] else
 if x.op=13 then wordsT [bGoto,x.ls.getD 0 ⟨#[]⟩] else
 if x.op=14 then retT x else
 ⟨#[]⟩
structure ForT (CT:Nat→Option CFun):Prop where
 W:WorT CT
 P:CT k_f60=some (.code s_f60)
 f1:CT k_f52=some (.code s_f52)
 f2:CT k_f54=some (.code s_f54)
 f3:CT k_f55=some (.code s_f55)
 f4:CT k_f56=some (.code s_f56)
 f5:CT k_f57=some (.code s_f57)
 f6:CT k_f58=some (.code s_f58)
 f7:CT k_f59=some (.code s_f59)
 f8:CT k_f61=some (.code s_f61)
 f9:CT k_f62=some (.code s_f62)
 f10:CT k_f63=some (.code s_f63)
 f11:CT k_f64=some (.code s_f64)
 f12:CT k_f65=some (.code s_f65)
 f13:CT k_f66=some (.code s_f66)
 f14:CT k_f67=some (.code s_f67)
 f15:CT k_f68=some (.code s_f68)
section
variable {CT:Nat→Option CFun}
theorem form_fun (h:ForT CT) (base:Nat) {A:Heap} (hb:base≤A.length) {av lv:V} {x:InsD} (hr:RdIns A (insC x av lv) x) (hx:SmI x) (hf:FormOk x) {n:Nat} (hn:getC A n 0=some [.fn 52 [] []]):
 ∃ f H',lookI (foT n) x.op=some f∧callW CT f [.agg (insC x av lv)] base A=some (Sb (formT x),H')∧Ext A H':=by
 rcases hf.op with e | e | e | e | e | e | e | e | e | e | e | e | e | e
 ·have hk:=hf.k (by omega)
  obtain ⟨H',h1,h2⟩:=f2_fun h.W h.f2 base hr hx hk.1 hk.2 hn h.f1
  refine ⟨_,H',by rw [e];rfl,?_,h2⟩
  rw [show formT x=wordsT [bAlloca,itB x.k] by simp [formT,e]]
  exact h1
 ·have hk:=hf.k (by omega)
  obtain ⟨H',h1,h2⟩:=f3_fun h.W h.f3 base hr hx hk.1 hk.2 hn h.f1
  refine ⟨_,H',by rw [e];rfl,?_,h2⟩
  rw [show formT x=wordsT [bMalloc,itB x.k] by simp [formT,e]]
  exact h1
 ·obtain ⟨H',h1,h2⟩:=f4_fun h.f4 base hr
  refine ⟨_,H',by rw [e];rfl,?_,h2⟩
  rw [show formT x=bNull by simp [formT,e]]
  exact h1
 ·obtain ⟨H',h1,h2⟩:=f5_fun h.W h.f5 base hr hx
  refine ⟨_,H',by rw [e];rfl,?_,h2⟩
  rw [show formT x=wordsT [bAddr,x.f] by simp [formT,e]]
  exact h1
 ·obtain ⟨H',h1,h2⟩:=f6_fun h.W h.f6 base hr hx
  refine ⟨_,H',by rw [e];rfl,?_,h2⟩
  rw [show formT x=wordsT [bCopy,x.a] by simp [formT,e]]
  exact h1
 ·obtain ⟨H',h1,h2⟩:=f7_fun h.W h.P h.f7 base hb hr hx (hf.phi e)
  refine ⟨_,H',by rw [e];rfl,?_,h2⟩
  rw [show formT x=wordsT [bPhi,pairsT x] by simp [formT,e]]
  exact h1
 ·have hk:=hf.k (by omega)
  obtain ⟨H',h1,h2⟩:=f8_fun h.W h.f8 base hr hx hk.1 hk.2 hn h.f1
  refine ⟨_,H',by rw [e];rfl,?_,h2⟩
  rw [show formT x=wordsT [bField,x.a,itB x.k] by simp [formT,e]]
  exact h1
 ·obtain ⟨H',h1,h2⟩:=f9_fun h.W h.f9 base hr hx
  refine ⟨_,H',by rw [e];rfl,?_,h2⟩
  rw [show formT x=wordsT [bLoad,x.a] by simp [formT,e]]
  exact h1
 ·obtain ⟨H',h1,h2⟩:=f10_fun h.W h.f10 base hr hx
  refine ⟨_,H',by rw [e];rfl,?_,h2⟩
  rw [show formT x=wordsT [bStore,x.a ++ bComma,x.b] by simp [formT,e]]
  exact h1
 ·obtain ⟨H',h1,h2⟩:=f11_fun h.W h.f11 base hr hx
  refine ⟨_,H',by rw [e];rfl,?_,h2⟩
  rw [show formT x=wordsT [bCall,x.f ++ argsT x.xs] by simp [formT,e]]
  exact h1
 ·obtain ⟨H',h1,h2⟩:=f12_fun h.W h.f12 base hr hx
  refine ⟨_,H',by rw [e];rfl,?_,h2⟩
  rw [show formT x=wordsT [bICall,x.a ++ argsT x.xs] by simp [formT,e]]
  exact h1
 ·obtain ⟨H',h1,h2⟩:=f13_fun h.W h.f13 base hr hx (hf.br e)
  refine ⟨_,H',by rw [e];rfl,?_,h2⟩
  rw [show formT x=wordsT [bBr,x.ls.getD 0 ⟨#[]⟩,x.ls.getD 1 ⟨#[]⟩] by simp [formT,e]]
  exact h1
 ·obtain ⟨H',h1,h2⟩:=f14_fun h.W h.f14 base hr hx (hf.go e)
  refine ⟨_,H',by rw [e];rfl,?_,h2⟩
  rw [show formT x=wordsT [bGoto,x.ls.getD 0 ⟨#[]⟩] by simp [formT,e]]
  exact h1
 ·obtain ⟨H',h1,h2⟩:=f15_fun h.W h.f15 base hr hx
  refine ⟨_,H',by rw [e];rfl,?_,h2⟩
  rw [show formT x=retT x by simp [formT,e]]
  exact h1
end
end Go.Proofs.YtngfpadeebpoeaaGreatDoor
set_option maxRecDepth 100000
namespace Go.Proofs.YtngfpadeebpoeaaGreatDoor
open Go.AM
theorem Bld.ext {m b:Nat} {H H':Heap} {txt:List UInt8} (h:Bld m H b txt) (k:Ext H H'):Bld m H' b txt:=by
 obtain ⟨h1,⟨h2,h3⟩ | ⟨id,g,h2,h3,h4⟩⟩:=h
 ·exact ⟨h1,.inl ⟨h2,getC_ext h3 k⟩⟩
 ·exact ⟨h1,.inr ⟨id,g,getC_ext h2 k,by rw [k.get (List.getElem?_eq_some_iff.1 h3).1];exact h3,h4⟩⟩
theorem Wr.ext {m b:Nat} {A H H':Heap} (h:Wr m b H H') (hA:A.length=m) (k:Ext A H):Ext A H':=by
 refine ⟨H'.drop A.length,?_⟩
 apply List.ext_getElem?
 intro i
 by_cases hi:i < A.length
 ·rw [List.getElem?_append_left hi,h.2.1 i (by omega),k.get hi]
 ·rw [List.getElem?_append_right (by omega),List.getElem?_drop]
  congr 1
  omega
theorem Bld.trim {m b:Nat} {H:Heap} {txt:List UInt8} (h:Bld m H b txt) {L:Nat} (hb:b < L) (fr:List V):Bld m (trim L fr H) b txt:=by
 unfold AM.trim
 split
 ·rename_i hc
  rw [Bool.and_eq_true] at hc
  have hc2:=List.all_eq_true.1 hc.2
  have gt:∀ {c:List V},getC H b 0=some c→getC (H.take L) b 0=some c:=by
   intro c hg
   unfold getC at hg ⊢
   rw [List.getElem?_take_of_lt hb]
   exact hg
  obtain ⟨h1,⟨h2,h3⟩ | ⟨id,g,h2,h3,h4⟩⟩:=h
  ·exact ⟨h1,.inl ⟨h2,gt h3⟩⟩
  ·refine ⟨h1,.inr ⟨id,g,gt h2,?_,h4⟩⟩
   have hm:Ob.cells 0 [V.ref b 0 0,.sl id g 0 txt.length 1]∈H.take L:=List.mem_of_getElem? (getC_some (gt h2))
   have hu:=hc2 _ hm
   simp only [Ob.under,List.all_cons,List.all_nil,Bool.and_true,Bool.and_eq_true,idsUnder,decide_eq_true_eq] at hu
   rw [List.getElem?_take_of_lt hu.2]
   exact h3
 ·exact h
def lineX (x:InsD):ByteArray:=if x.d.size=0 then formT x else wordsT [x.d,⟨#[61]⟩,formT x]
def lnI (x:InsD):ByteArray:=lineT [⟨#[32,32]⟩,lineX x]
theorem words2_le {M:Nat} {a b:ByteArray} (ha:a.size≤M) (hb:b.size≤M) (hM:M≤1048576):(wordsT [a,b]).size≤2 * (M+2):=(joinOkM (xs:=[a,b]) (sep:=bSp) (by simp) (two_le ha hb) hM (by decide)).2
theorem words3_le {M:Nat} {a b c:ByteArray} (ha:a.size≤M) (hb:b.size≤M) (hc:c.size≤M) (hM:M≤1048576):(wordsT [a,b,c]).size≤3 * (M+2):=(joinOkM (xs:=[a,b,c]) (sep:=bSp) (by simp) (three_le ha hb hc) hM (by decide)).2
theorem trim_len (s p:List UInt8):(Lib.trimSuffix s p).length≤s.length:=by
 unfold Lib.trimSuffix
 split
 ·rw [List.length_take];omega
 ·exact Nat.le_refl _
theorem formT_size {x:InsD} (hx:SmI x) (hf:FormOk x):(formT x).size≤30006:=by
 have ha:=hx.a;have hb:=hx.b;have hff:=hx.f;have hd:=hx.d
 have hz:=(argsT_size hx.nx hx.xs).2
 have hp:=pairsT_size hx
 have n1:bComma.size=1:=rfl
 have c1:(x.a ++ bComma).size≤10000:=by rw [size_cat];omega
 have c2:(x.f ++ argsT x.xs).size≤10000:=by rw [size_cat];omega
 have c3:(x.a ++ argsT x.xs).size≤10000:=by rw [size_cat];omega
 have d0:=getD_le hx.ls 0
 have d1:=getD_le hx.ls 1
 have L:∀ a b:ByteArray,a.size≤10000→b.size≤10000→(wordsT [a,b]).size≤30006:=fun a b h1 h2=>Nat.le_trans (words2_le h1 h2 (by omega)) (by omega)
 have L3:∀ a b c:ByteArray,a.size≤10000→b.size≤10000→c.size≤10000→(wordsT [a,b,c]).size≤30006:=fun a b c h1 h2 h3=>Nat.le_trans (words3_le h1 h2 h3 (by omega)) (by omega)
 rcases hf.op with e | e | e | e | e | e | e | e | e | e | e | e | e | e
 ·have hk:=hf.k (by omega)
  have:=itB_size hk.1 hk.2
  rw [show formT x=wordsT [bAlloca,itB x.k] by simp [formT,e]]
  exact L _ _ (by decide) (by omega)
 ·have hk:=hf.k (by omega)
  have:=itB_size hk.1 hk.2
  rw [show formT x=wordsT [bMalloc,itB x.k] by simp [formT,e]]
  exact L _ _ (by decide) (by omega)
 ·rw [show formT x=bNull by simp [formT,e]]
  decide
 ·rw [show formT x=wordsT [bAddr,x.f] by simp [formT,e]]
  exact L _ _ (by decide) (by omega)
 ·rw [show formT x=wordsT [bCopy,x.a] by simp [formT,e]]
  exact L _ _ (by decide) (by omega)
 ·rw [show formT x=wordsT [bPhi,pairsT x] by simp [formT,e]]
  exact L _ _ (by decide) (by omega)
 ·have hk:=hf.k (by omega)
  have:=itB_size hk.1 hk.2
  rw [show formT x=wordsT [bField,x.a,itB x.k] by simp [formT,e]]
  exact L3 _ _ _ (by decide) (by omega) (by omega)
 ·rw [show formT x=wordsT [bLoad,x.a] by simp [formT,e]]
  exact L _ _ (by decide) (by omega)
 ·rw [show formT x=wordsT [bStore,x.a ++ bComma,x.b] by simp [formT,e]]
  exact L3 _ _ _ (by decide) c1 (by omega)
 ·rw [show formT x=wordsT [bCall,x.f ++ argsT x.xs] by simp [formT,e]]
  exact L _ _ (by decide) c2
 ·rw [show formT x=wordsT [bICall,x.a ++ argsT x.xs] by simp [formT,e]]
  exact L _ _ (by decide) c3
 ·rw [show formT x=wordsT [bBr,x.ls.getD 0 ⟨#[]⟩,x.ls.getD 1 ⟨#[]⟩] by simp [formT,e]]
  exact L3 _ _ _ (by decide) (by omega) (by omega)
 ·rw [show formT x=wordsT [bGoto,x.ls.getD 0 ⟨#[]⟩] by simp [formT,e]]
  exact L _ _ (by decide) (by omega)
 ·rw [show formT x=retT x by simp [formT,e]]
  have h1:=L bRet x.a (by decide) (by omega)
  exact Nat.le_trans (trim_len _ _) h1
theorem lineX_size {x:InsD} (hx:SmI x) (hf:FormOk x):(lineX x).size≤90024:=by
 have h1:=formT_size hx hf
 have hd:=hx.d
 unfold lineX
 split
 ·omega
 ·exact words3_le (M:=30006) (by omega) (by decide) h1 (by omega)
end Go.Proofs.YtngfpadeebpoeaaGreatDoor
set_option maxRecDepth 100000
namespace Go.Proofs.YtngfpadeebpoeaaGreatDoor
open Go.AM
structure PrT (CT:Nat→Option CFun):Prop where
 F:ForT CT
 W:CT k_f19=some (.code s_f19)
 L:CT k_f18=some (.code s_f18)
def codeT (l:List InsD):List UInt8:=l.flatMap fun x=>(lnI x).data.toList
theorem codeT_succ {l:List InsD} {i:Nat} {x:InsD} (h:l[i]?=some x):codeT (l.take (i+1))=codeT (l.take i) ++ (lnI x).data.toList:=by
 rw [List.take_add_one,h]
 simp [codeT]
section
variable {CT:Nat→Option CFun}
theorem code_step (h:PrT CT) (base:Nat) {A0:Heap} (hb:base≤A0.length) {n fm:Nat} (hn:getC A0 n 0=some [.fn 52 [] []]) (hm:A0[fm]?=some (.map (esI .u8 (foT n)))) {cv:V} {code:List InsD} (hc:RdL 8 RdIns A0 cv code) {L:Nat} (hL:A0.length < L) {v35 v53:V} {n36 n37 n54 n55:Int} {k:Nat} {x:InsD} (hk:code[k]?=some x) (hx:SmI x) (hf:FormOk x) {txt:List UInt8} {C:Heap} (hE:Ext A0 C) (hB:Bld A0.length C A0.length txt) (hl:txt.length+(lnI x).size≤2 ^ 47) (hk2:k < 2 ^ 62):
 ∃ C',itW (evC (callW CT) itW base s_f10_l1) [] L (frOf 98 [(8,.mp fm),(9,.ref A0.length 0 0),(10,.fn 18 [] [.ref A0.length 0 0]),(35,v35),(36,Iz n36),(37,Iz n37),(53,v53),(54,Iz n54),(55,Iz n55),(65,cv),(66,Iz code.length),(67,Iz k)]) C=itW (evC (callW CT) itW base s_f10_l1) [] L (frOf 98 [(8,.mp fm),(9,.ref A0.length 0 0),(10,.fn 18 [] [.ref A0.length 0 0]),(35,v35),(36,Iz n36),(37,Iz n37),(53,v53),(54,Iz n54),(55,Iz n55),(65,cv),(66,Iz code.length),(67,Iz ((k+1:Nat):Int))]) C'∧Ext A0 C'∧Bld A0.length C' A0.length (txt ++ (lnI x).data.toList):=by
 have hkl:=(List.getElem?_eq_some_iff.1 hk).1
 obtain ⟨a,r,i0,hr,l0,_⟩:=hc.at2 hk
 obtain ⟨av,lv,rfl,q1,q2,q3,q4,q5⟩:=hr
 have hav:=q1.one
 have hlv:=q3.one
 have hl0:=l0 C hE
 obtain ⟨C1,hC1⟩:∃ C1,C ++ [Ob.cells 0 (insC x av lv)]=C1:=⟨_,rfl⟩
 have e1:Ext C C1:=hC1 ▸ Ext.app _ _
 have E1:=hE.trans e1
 have hgg:getC C1 C.length 0=some (insC x av lv):=hC1 ▸ getC_new C 0 _
 obtain ⟨f,C2,hlk,hcf,e2⟩:=form_fun h.F base (A:=C1) (by have:=E1.le;omega) (RdIns.ext ⟨av,lv,rfl,q1,q2,q3,q4,q5⟩ E1) hx hf (getC_ext hn E1)
 have hmg:=get_I .u8 (Ext.at' E1 hm) (.s .nilFunc) false x.op
 rw [if_neg Bool.false_ne_true,hlk,Option.getD_some] at hmg
 have hss:∀ c d,(C ++ [c]).set C.length d=C ++ [d]:=fun c d=>set_snoc C c d
 have hgz:∀ c,getC (C ++ [Ob.cells 0 c]) C.length 0=some c:=fun c=>getC_new C 0 c
 have hlt:decide ((k:Int) < (code.length:Int))=true:=by simpa using hkl
 have hgg2:=getC_ext hgg e2
 have zf:=formT_size hx hf
 have zx:=lineX_size hx hf
 have hd200:=hx.d
 have hbC:∀ H',Ext C H'→base≤H'.length:=fun H' e=>by have:=(hE.trans e).le;omega
 have hbC0:base≤C.length:=hbC C (Ext.refl C)
 have hln:∀ t:ByteArray,t=lineX x→∀ D,Ext C2 D→∃ C',callW CT (.fn k_f18 [] [.ref A0.length 0 0]) [.sl D.length 0 0 2 1] base (D ++ [.cells 0 [Sb ⟨#[32,32]⟩,Sb t]])=some (.tup [],C')∧Bld A0.length C' A0.length (txt ++ (lnI x).data.toList)∧Ext A0 C':=by
  rintro t rfl D eD
  have eB:Ext C (D ++ [.cells 0 [Sb ⟨#[32,32]⟩,Sb (lineX x)]]):=(e1.trans e2).trans (eD.trans (Ext.app _ _))
  have hj:=joinOkM (xs:=[⟨#[32,32]⟩,lineX x]) (sep:=⟨#[]⟩) (by simp) (two_le (M:=90024) (by decide) zx) (by omega) (by decide)
  obtain ⟨C',w1,w2,w3⟩:=line_fun h.F.W.L h.W h.L hb (hB.ext eB) (strs_new D [⟨#[32,32]⟩,lineX x]) hj.1 hl
  exact ⟨C',w1,w2,w3.ext rfl (hE.trans eB)⟩
 cases hd:(x.d.data.toList == []) with
 | true=>
   have hd0:x.d.size=0:=by
    have:x.d.data.toList=[]:=by simpa using hd
    have h2:x.d.data.toList.length=0:=by rw [this];rfl
    exact h2
   obtain ⟨C',w1,w2,w3⟩:=hln (formT x) (by unfold lineX;rw [if_pos hd0]) C2 (Ext.refl _)
   refine ⟨trim L (frOf 98 [(8,.mp fm),(9,.ref A0.length 0 0),(10,.fn 18 [] [.ref A0.length 0 0]),(35,v35),(36,Iz n36),(37,Iz n37),(53,v53),(54,Iz n54),(55,Iz n55),(65,cv),(66,Iz code.length),(67,Iz ((k+1:Nat):Int))]) C',?_,w3.trim (by omega) _,w2.trim hL _⟩
   rw [itW_step]
   simp only [insC,Iz] at hgg hgg2 hcf hmg hss hgz w1 hl0 hC1 i0
   simp only [insC,Iz,s_f10_l1_ev,a_f10,s_f10_l0_b,s_f10_l1_b,s_f10_l2_b,s_f10_l3_b,aa,reduceIte,reduceCtorEq,Nat.reduceEqDiff,Nat.reduceLT,Nat.reduceLeDiff,Nat.reduceBEq,Nat.reduceAdd,Nat.reduceMul,op_appR,hlt,cond_true,hbC0,if_true,i0,hl0,hav,hlv,Bool.and_self,hss,hgz,hC1,hgg,hmg,hcf,hgg2,hd,Bool.not_true,cond_false,w1,w64 hk2]
   try rfl
 | false=>
   have hd0:x.d.size≠0:=by
    intro e
    have:x.d.data.toList=[]:=List.eq_nil_of_length_eq_zero e
    rw [this] at hd
    cases hd
   have hj3:=joinOkM (xs:=[x.d,⟨#[61]⟩,formT x]) (sep:=bSp) (by simp) (three_le (M:=30006) (by omega) (by decide) zf) (by omega) (by decide)
   have hw3:=words_fun h.F.W.L h.F.W.W base (strs_new C2 [x.d,⟨#[61]⟩,formT x]) hj3.1
   have l3:=len_snoc C2 (Ob.cells 0 ([x.d,⟨#[61]⟩,formT x].map Sb))
   have hgg3:=getC_ext hgg2 (Ext.app C2 [Ob.cells 0 ([x.d,⟨#[61]⟩,formT x].map Sb)])
   obtain ⟨C',w1,w2,w3⟩:=hln (wordsT [x.d,⟨#[61]⟩,formT x]) (by unfold lineX;rw [if_neg hd0]) (C2 ++ [Ob.cells 0 ([x.d,⟨#[61]⟩,formT x].map Sb)]) (Ext.app _ _)
   refine ⟨trim L (frOf 98 [(8,.mp fm),(9,.ref A0.length 0 0),(10,.fn 18 [] [.ref A0.length 0 0]),(35,v35),(36,Iz n36),(37,Iz n37),(53,v53),(54,Iz n54),(55,Iz n55),(65,cv),(66,Iz code.length),(67,Iz ((k+1:Nat):Int))]) C',?_,w3.trim (by omega) _,w2.trim hL _⟩
   rw [itW_step]
   rw [l3] at w1
   simp only [insC,Iz,List.map_cons,List.map_nil,List.length_cons,List.length_nil] at hgg hgg2 hgg3 hcf hmg hss hgz w1 hl0 hC1 i0 hw3 l3
   simp only [insC,Iz,s_f10_l1_ev,a_f10,s_f10_l0_b,s_f10_l1_b,s_f10_l2_b,s_f10_l3_b,aa,reduceIte,reduceCtorEq,Nat.reduceEqDiff,Nat.reduceLT,Nat.reduceLeDiff,Nat.reduceBEq,Nat.reduceAdd,Nat.reduceMul,op_appR,hlt,cond_true,hbC0,if_true,i0,hl0,hav,hlv,Bool.and_self,hss,hgz,hC1,hgg,hmg,hcf,hgg2,hd,Bool.not_false,hw3,hgg3,l3,w1,w64 hk2]
   try rfl
theorem codeT_le {l:List InsD} (i:Nat):(codeT (l.take i)).length≤(codeT l).length:=by
 have:codeT l=codeT (l.take i) ++ codeT (l.drop i):=by
  unfold codeT
  rw [← List.flatMap_append,List.take_append_drop]
 rw [this,List.length_append]
 omega
theorem code_loop (h:PrT CT) (base:Nat) {A0:Heap} (hb:base≤A0.length) {n fm:Nat} (hn:getC A0 n 0=some [.fn 52 [] []]) (hm:A0[fm]?=some (.map (esI .u8 (foT n)))) {cv:V} {code:List InsD} (hc:RdL 8 RdIns A0 cv code) (hs:∀ x∈code,SmI x∧FormOk x) (hcl:code.length < 2 ^ 62) {L:Nat} (hL:A0.length < L) {v35 v53:V} {n36 n37 n54 n55:Int} {txt:List UInt8} {C:Heap} (hE:Ext A0 C) (hB:Bld A0.length C A0.length txt) (hl:txt.length+(codeT code).length≤2 ^ 47):
 ∃ C',itW (evC (callW CT) itW base s_f10_l1) [] L (frOf 98 [(8,.mp fm),(9,.ref A0.length 0 0),(10,.fn 18 [] [.ref A0.length 0 0]),(35,v35),(36,Iz n36),(37,Iz n37),(53,v53),(54,Iz n54),(55,Iz n55),(65,cv),(66,Iz code.length),(67,Iz ((0:Nat):Int))]) C=itW (evC (callW CT) itW base s_f10_l1) [] L (frOf 98 [(8,.mp fm),(9,.ref A0.length 0 0),(10,.fn 18 [] [.ref A0.length 0 0]),(35,v35),(36,Iz n36),(37,Iz n37),(53,v53),(54,Iz n54),(55,Iz n55),(65,cv),(66,Iz code.length),(67,Iz code.length)]) C'∧Ext A0 C'∧Bld A0.length C' A0.length (txt ++ codeT code):=by
 obtain ⟨C',e1,e2,e3⟩:=it_rel code.length (fun k C=>Ext A0 C∧Bld A0.length C A0.length (txt ++ codeT (code.take k))) (fun k C=>itW (evC (callW CT) itW base s_f10_l1) [] L (frOf 98 [(8,.mp fm),(9,.ref A0.length 0 0),(10,.fn 18 [] [.ref A0.length 0 0]),(35,v35),(36,Iz n36),(37,Iz n37),(53,v53),(54,Iz n54),(55,Iz n55),(65,cv),(66,Iz code.length),(67,Iz (k:Int))]) C) (by
  rintro k C hk ⟨hE,hB⟩
  have hx:=List.getElem?_eq_getElem hk
  have hsx:=hs _ (List.getElem_mem hk)
  have hle:(codeT (code.take (k+1))).length≤(codeT code).length:=codeT_le _
  rw [codeT_succ hx,List.length_append] at hle
  have hz:(lnI code[k]).data.toList.length=(lnI code[k]).size:=rfl
  obtain ⟨C',q1,q2,q3⟩:=code_step h base hb hn hm hc hL (v35:=v35) (v53:=v53) (n36:=n36) (n37:=n37) (n54:=n54) (n55:=n55) hx hsx.1 hsx.2 hE hB (by rw [List.length_append];omega) (by omega)
  exact ⟨C',q1,q2,by rw [codeT_succ hx,← List.append_assoc];exact q3⟩) 0 C (Nat.zero_le _) ⟨hE,by simpa [codeT] using hB⟩
 rw [List.take_length] at e3
 exact ⟨C',e1,e2,e3⟩
end
end Go.Proofs.YtngfpadeebpoeaaGreatDoor
set_option maxRecDepth 100000
namespace Go.Proofs.YtngfpadeebpoeaaGreatDoor
open Go.AM
def lnB (b:BlkD):ByteArray:=lineT [b.label,⟨#[58]⟩]
def blkT (b:BlkD):List UInt8:=(lnB b).data.toList ++ codeT b.code
theorem Bld.lt {m b:Nat} {H:Heap} {txt:List UInt8} (h:Bld m H b txt):b < H.length:=by
 obtain ⟨_,⟨_,h3⟩ | ⟨id,g,h2,_⟩⟩:=h
 ·exact getC_lt h3
 ·exact getC_lt h2
structure SmB (b:BlkD):Prop where
 l:b.label.size≤200
 x:∀ x∈b.code,SmI x∧FormOk x
 n:b.code.length < 2 ^ 62
section
variable {CT:Nat→Option CFun}
theorem blk_step (h:PrT CT) (base:Nat) {A0:Heap} (hb:base≤A0.length) {n fm:Nat} (hn:getC A0 n 0=some [.fn 52 [] []]) (hm:A0[fm]?=some (.map (esI .u8 (foT n)))) {bv:V} {bs:List BlkD} (hc:RdL 2 RdBlk A0 bv bs) {L:Nat} (hL:A0.length < L) {v35:V} {n36 n37:Int} {k:Nat} {x:BlkD} (hk:bs[k]?=some x) (hx:SmB x) {txt:List UInt8} {C:Heap} (hE:Ext A0 C) (hB:Bld A0.length C A0.length txt) (hl:txt.length+(blkT x).length≤2 ^ 47) (hk2:k < 2 ^ 62):
 ∃ C',itW (evC (callW CT) itW base s_f10_l2) [] L (frOf 98 [(8,.mp fm),(9,.ref A0.length 0 0),(10,.fn 18 [] [.ref A0.length 0 0]),(35,v35),(36,Iz n36),(37,Iz n37),(53,bv),(54,Iz bs.length),(55,Iz k)]) C=itW (evC (callW CT) itW base s_f10_l2) [] L (frOf 98 [(8,.mp fm),(9,.ref A0.length 0 0),(10,.fn 18 [] [.ref A0.length 0 0]),(35,v35),(36,Iz n36),(37,Iz n37),(53,bv),(54,Iz bs.length),(55,Iz ((k+1:Nat):Int))]) C'∧Ext A0 C'∧Bld A0.length C' A0.length (txt ++ blkT x):=by
 have hkl:=(List.getElem?_eq_some_iff.1 hk).1
 obtain ⟨a,r,i0,hr,l0,_⟩:=hc.at2 hk
 obtain ⟨cv,rfl,hcode⟩:=hr
 have hcv:=hcode.one
 have hl0:=l0 C hE
 obtain ⟨C1,hC1⟩:∃ C1,C ++ [Ob.cells 0 [Sb x.label,cv]]=C1:=⟨_,rfl⟩
 have e1:Ext C C1:=hC1 ▸ Ext.app _ _
 have E1:=hE.trans e1
 have hgg:getC C1 C.length 0=some [Sb x.label,cv]:=hC1 ▸ getC_new C 0 _
 have hl1:C1.length=C.length+1:=by rw [← hC1,len_snoc]
 have hss:∀ c d,(C ++ [c]).set C.length d=C ++ [d]:=fun c d=>set_snoc C c d
 have hgz:∀ c,getC (C ++ [Ob.cells 0 c]) C.length 0=some c:=fun c=>getC_new C 0 c
 have hlt:decide ((k:Int) < (bs.length:Int))=true:=by simpa using hkl
 have hbC0:base≤C.length:=by have:=hE.le;omega
 have hla:=hx.l
 have hz1:(blkT x).length=(lnB x).size+(codeT x.code).length:=by unfold blkT;rw [List.length_append];rfl
 have hj:=joinOkM (xs:=[x.label,⟨#[58]⟩]) (sep:=⟨#[]⟩) (by simp) (two_le (M:=200) hla (by decide)) (by omega) (by decide)
 have eB:Ext C (C1 ++ [.cells 0 [Sb x.label,Sb ⟨#[58]⟩]]):=e1.trans (Ext.app _ _)
 obtain ⟨C2,w1,w2,w3⟩:=line_fun h.F.W.L h.W h.L hb (hB.ext eB) (strs_new C1 [x.label,⟨#[58]⟩]) hj.1 (by have:(lineT [x.label,⟨#[58]⟩]).size=(lnB x).size:=rfl;omega)
 have E2:=w3.ext rfl (hE.trans eB)
 have hggL:=getC_app hgg (G:=[Ob.cells 0 [Sb x.label,Sb ⟨#[58]⟩]])
 have hgg2:getC C2 C.length 0=some [Sb x.label,cv]:=by
  have hgo:=getC_some hggL
  have:C2[C.length]?=some (.cells 0 [Sb x.label,cv]):=by
   rw [w3.2.2 C.length (by have:=hB.lt;omega) (by have:=eB.le;have:=(List.getElem?_eq_some_iff.1 hgo).1;exact this) (fun g l e=>by rw [hgo] at e;cases e)]
   exact hgo
  unfold getC
  rw [this]
  rfl
 obtain ⟨C3,g1,g2,g3⟩:=code_loop h base hb hn hm hcode hx.x hx.n (L:=C2.length) w2.lt (v35:=v35) (v53:=bv) (n36:=n36) (n37:=n37) (n54:=bs.length) (n55:=k) E2 w2 (by rw [List.length_append];have:(lineT [x.label,⟨#[58]⟩]).data.toList.length=(lnB x).size:=rfl;omega)
 have hll:=RdL.len (RdL.ext (P:=RdIns) RdIns.ext hcode E2)
 have hge:decide ((x.code.length:Int) < (x.code.length:Int))=false:=by simp
 refine ⟨trim L (frOf 98 [(8,.mp fm),(9,.ref A0.length 0 0),(10,.fn 18 [] [.ref A0.length 0 0]),(35,v35),(36,Iz n36),(37,Iz n37),(53,bv),(54,Iz bs.length),(55,Iz ((k+1:Nat):Int))]) (trim C2.length (frOf 98 [(8,.mp fm),(9,.ref A0.length 0 0),(10,.fn 18 [] [.ref A0.length 0 0]),(35,v35),(36,Iz n36),(37,Iz n37),(53,bv),(54,Iz bs.length),(55,Iz k),(65,cv),(66,Iz x.code.length),(67,Iz x.code.length),(68,.s (.bool false))]) C3),?_,?_,?_⟩
 ·rw [itW_step]
  simp only [Iz,List.map_cons,List.map_nil,List.length_cons,List.length_nil] at hgg hgg2 hss hgz w1 hl0 hC1 i0 hll g1 hl1
  rw [hl1] at w1
  rw [show (((0:Nat):Int))=0 from rfl] at g1
  simp only [Iz,s_f10_l2_ev,a_f10,s_f10_l0_b,s_f10_l1_b,s_f10_l2_b,s_f10_l3_b,aa,reduceIte,reduceCtorEq,Nat.reduceEqDiff,Nat.reduceLT,Nat.reduceLeDiff,Nat.reduceBEq,Nat.reduceAdd,Nat.reduceMul,op_appR,hlt,cond_true,hbC0,if_true,i0,hl0,hcv,Bool.and_self,hss,hgz,hC1,hgg,hl1,w1,hgg2,hll,g1]
  rw [itW_step]
  simp only [Iz,s_f10_l1_ev,s_f10_l2_ev,a_f10,s_f10_l0_b,s_f10_l1_b,s_f10_l2_b,s_f10_l3_b,aa,reduceIte,reduceCtorEq,Nat.reduceEqDiff,Nat.reduceLT,Nat.reduceLeDiff,Nat.reduceBEq,Nat.reduceAdd,Nat.reduceMul,op_appR,hge,cond_false,w64 hk2]
 ·exact (g2.trim (by have:=w2.lt;omega) _).trim (by omega) _
 ·have:txt ++ blkT x=txt ++ (lnB x).data.toList ++ codeT x.code:=by unfold blkT;rw [List.append_assoc]
  rw [this]
  exact (g3.trim w2.lt _).trim hL _
def blksT (l:List BlkD):List UInt8:=l.flatMap blkT
theorem blksT_succ {l:List BlkD} {i:Nat} {x:BlkD} (h:l[i]?=some x):blksT (l.take (i+1))=blksT (l.take i) ++ blkT x:=by
 rw [List.take_add_one,h]
 simp [blksT]
theorem blksT_le {l:List BlkD} (i:Nat):(blksT (l.take i)).length≤(blksT l).length:=by
 have:blksT l=blksT (l.take i) ++ blksT (l.drop i):=by
  unfold blksT
  rw [← List.flatMap_append,List.take_append_drop]
 rw [this,List.length_append]
 omega
theorem blk_loop (h:PrT CT) (base:Nat) {A0:Heap} (hb:base≤A0.length) {n fm:Nat} (hn:getC A0 n 0=some [.fn 52 [] []]) (hm:A0[fm]?=some (.map (esI .u8 (foT n)))) {bv:V} {bs:List BlkD} (hc:RdL 2 RdBlk A0 bv bs) (hs:∀ x∈bs,SmB x) (hcl:bs.length < 2 ^ 62) {L:Nat} (hL:A0.length < L) {v35:V} {n36 n37:Int} {txt:List UInt8} {C:Heap} (hE:Ext A0 C) (hB:Bld A0.length C A0.length txt) (hl:txt.length+(blksT bs).length≤2 ^ 47):
 ∃ C',itW (evC (callW CT) itW base s_f10_l2) [] L (frOf 98 [(8,.mp fm),(9,.ref A0.length 0 0),(10,.fn 18 [] [.ref A0.length 0 0]),(35,v35),(36,Iz n36),(37,Iz n37),(53,bv),(54,Iz bs.length),(55,Iz ((0:Nat):Int))]) C=itW (evC (callW CT) itW base s_f10_l2) [] L (frOf 98 [(8,.mp fm),(9,.ref A0.length 0 0),(10,.fn 18 [] [.ref A0.length 0 0]),(35,v35),(36,Iz n36),(37,Iz n37),(53,bv),(54,Iz bs.length),(55,Iz bs.length)]) C'∧Ext A0 C'∧Bld A0.length C' A0.length (txt ++ blksT bs):=by
 obtain ⟨C',e1,e2,e3⟩:=it_rel bs.length (fun k C=>Ext A0 C∧Bld A0.length C A0.length (txt ++ blksT (bs.take k))) (fun k C=>itW (evC (callW CT) itW base s_f10_l2) [] L (frOf 98 [(8,.mp fm),(9,.ref A0.length 0 0),(10,.fn 18 [] [.ref A0.length 0 0]),(35,v35),(36,Iz n36),(37,Iz n37),(53,bv),(54,Iz bs.length),(55,Iz (k:Int))]) C) (by
  rintro k C hk ⟨hE,hB⟩
  have hx:=List.getElem?_eq_getElem hk
  have hsx:=hs _ (List.getElem_mem hk)
  have hle:(blksT (bs.take (k+1))).length≤(blksT bs).length:=blksT_le _
  rw [blksT_succ hx,List.length_append] at hle
  obtain ⟨C',q1,q2,q3⟩:=blk_step h base hb hn hm hc hL (v35:=v35) (n36:=n36) (n37:=n37) hx hsx hE hB (by rw [List.length_append];omega) (by omega)
  exact ⟨C',q1,q2,by rw [blksT_succ hx,← List.append_assoc];exact q3⟩) 0 C (Nat.zero_le _) ⟨hE,by simpa [blksT] using hB⟩
 rw [List.take_length] at e3
 exact ⟨C',e1,e2,e3⟩
end
end Go.Proofs.YtngfpadeebpoeaaGreatDoor
set_option maxRecDepth 100000
namespace Go.Proofs.YtngfpadeebpoeaaGreatDoor
open Go.AM
def bFunc:ByteArray:=⟨#[102,117,110,99]⟩
def headT (f:FunD):ByteArray:=wordsT [bFunc,f.name ++ argsT f.ps,⟨#[123]⟩]
def lnF (f:FunD):ByteArray:=lineT [headT f]
def lnE:ByteArray:=lineT [⟨#[125]⟩]
def funT (f:FunD):List UInt8:=(lnF f).data.toList ++ blksT f.blocks ++ lnE.data.toList
structure SmF (f:FunD):Prop where
 n:f.name.size≤200
 np:f.ps.length≤20
 ps:∀ s∈f.ps,s.size≤200
 b:∀ b∈f.blocks,SmB b
 nb:f.blocks.length < 2 ^ 62
theorem head_size {f:FunD} (h:SmF f):(f.name ++ argsT f.ps).size≤10000∧(headT f).size≤30006:=by
 have hz:=(argsT_size h.np h.ps).2
 have hn:=h.n
 have c1:(f.name ++ argsT f.ps).size≤10000:=by rw [size_cat];omega
 exact ⟨c1,words3_le (M:=10000) (by decide) c1 (by decide) (by omega)⟩
theorem one_le {M:Nat} {a:ByteArray} (ha:a.size≤M):∀ x∈[a],x.size≤M:=by
 intro x hx
 simp only [List.mem_cons,List.not_mem_nil,or_false] at hx
 subst hx;exact ha
section
variable {CT:Nat→Option CFun}
theorem fun_step (h:PrT CT) (base:Nat) {A0:Heap} (hb:base≤A0.length) {n fm:Nat} (hn:getC A0 n 0=some [.fn 52 [] []]) (hm:A0[fm]?=some (.map (esI .u8 (foT n)))) {fv:V} {fs:List FunD} (hc:RdProg A0 fv fs) {L:Nat} (hL:A0.length < L) {k:Nat} {x:FunD} (hk:fs[k]?=some x) (hx:SmF x) {txt:List UInt8} {C:Heap} (hE:Ext A0 C) (hB:Bld A0.length C A0.length txt) (hl:txt.length+(funT x).length≤2 ^ 47) (hk2:k < 2 ^ 62):
 ∃ C',itW (evC (callW CT) itW base s_f10_l3) [] L (frOf 98 [(8,.mp fm),(9,.ref A0.length 0 0),(10,.fn 18 [] [.ref A0.length 0 0]),(35,fv),(36,Iz fs.length),(37,Iz k)]) C=itW (evC (callW CT) itW base s_f10_l3) [] L (frOf 98 [(8,.mp fm),(9,.ref A0.length 0 0),(10,.fn 18 [] [.ref A0.length 0 0]),(35,fv),(36,Iz fs.length),(37,Iz ((k+1:Nat):Int))]) C'∧Ext A0 C'∧Bld A0.length C' A0.length (txt ++ funT x):=by
 have hkl:=(List.getElem?_eq_some_iff.1 hk).1
 obtain ⟨a,r,i0,hr,l0,_⟩:=hc.at2 hk
 obtain ⟨pv,bv,rfl,hp,hpw,_,hblk⟩:=hr
 have hpv:=hp.one
 have hbv:=hblk.one
 have hl0:=l0 C hE
 obtain ⟨C1,hC1⟩:∃ C1,C ++ [Ob.cells 0 [Sb x.name,pv,bv]]=C1:=⟨_,rfl⟩
 have e1:Ext C C1:=hC1 ▸ Ext.app _ _
 have E1:=hE.trans e1
 have hgg:getC C1 C.length 0=some [Sb x.name,pv,bv]:=hC1 ▸ getC_new C 0 _
 have hl1:C1.length=C.length+1:=by rw [← hC1,len_snoc]
 have hss:∀ c d,(C ++ [c]).set C.length d=C ++ [d]:=fun c d=>set_snoc C c d
 have hgz:∀ c,getC (C ++ [Ob.cells 0 c]) C.length 0=some c:=fun c=>getC_new C 0 c
 have hlt:decide ((k:Int) < (fs.length:Int))=true:=by simpa using hkl
 have hbC0:base≤C.length:=by have:=hE.le;omega
 have hla:=hx.n
 obtain ⟨hz,hzh⟩:=head_size hx
 have hja:=argsT_size hx.np hx.ps
 have hA:=args_fun h.F.W.L h.F.W.A C1.length (strs_rd (hp.ext E1) hpw) hja.1
 rw [hl1] at hA
 have c1:x.name.size+(argsT x.ps).size≤4611686018427387904:=by have:=hja.2;omega
 obtain ⟨C2,hC2⟩:∃ C2,C1 ++ [Ob.cells 0 [Sb bFunc,Sb (x.name ++ argsT x.ps),Sb ⟨#[123]⟩]]=C2:=⟨_,rfl⟩
 have e2:Ext C1 C2:=hC2 ▸ Ext.app _ _
 have hl2:C2.length=C.length+2:=by rw [← hC2,len_snoc,hl1]
 have hj3:=joinOkM (xs:=[bFunc,x.name ++ argsT x.ps,⟨#[123]⟩]) (sep:=bSp) (by simp) (three_le (M:=10000) (by decide) hz (by decide)) (by omega) (by decide)
 have hw3:=words_fun h.F.W.L h.F.W.W base (strs_new C1 [bFunc,x.name ++ argsT x.ps,⟨#[123]⟩]) hj3.1
 have hj1:=joinOkM (xs:=[headT x]) (sep:=⟨#[]⟩) (by simp) (one_le (M:=30006) hzh) (by omega) (by decide)
 have eB:Ext C (C2 ++ [.cells 0 ([headT x].map Sb)]):=(e1.trans e2).trans (Ext.app _ _)
 have hfl:(funT x).length=(lnF x).size+(blksT x.blocks).length+lnE.size:=by unfold funT;rw [List.length_append,List.length_append];rfl
 obtain ⟨C4,w1,w2,w3⟩:=line_fun h.F.W.L h.W h.L hb (hB.ext eB) (strs_new C2 [headT x]) hj1.1 (by have:(lineT [headT x]).size=(lnF x).size:=rfl;omega)
 have E4:=w3.ext rfl (hE.trans eB)
 have hgg4:getC C4 C.length 0=some [Sb x.name,pv,bv]:=by
  have hgo:=getC_some (getC_ext hgg (e2.trans (Ext.app C2 [Ob.cells 0 ([headT x].map Sb)])))
  have:C4[C.length]?=some (.cells 0 [Sb x.name,pv,bv]):=by
   rw [w3.2.2 C.length (by have:=hB.lt;omega) (List.getElem?_eq_some_iff.1 hgo).1 (fun g l e=>by rw [hgo] at e;cases e)]
   exact hgo
  unfold getC
  rw [this]
  rfl
 obtain ⟨C5,g1,g2,g3⟩:=blk_loop h base hb hn hm hblk hx.b hx.nb (L:=C4.length) w2.lt (v35:=fv) (n36:=fs.length) (n37:=k) E4 w2 (by rw [List.length_append];have:(lineT [headT x]).data.toList.length=(lnF x).size:=rfl;omega)
 have hll:=RdL.len (RdL.ext (P:=RdBlk) RdBlk.ext hblk E4)
 have hge:decide ((x.blocks.length:Int) < (x.blocks.length:Int))=false:=by simp
 obtain ⟨C6,hC6⟩:∃ C6,trim C4.length (frOf 98 [(8,.mp fm),(9,.ref A0.length 0 0),(10,.fn 18 [] [.ref A0.length 0 0]),(35,fv),(36,Iz fs.length),(37,Iz k),(53,bv),(54,Iz x.blocks.length),(55,Iz x.blocks.length),(56,.s (.bool false))]) C5=C6:=⟨_,rfl⟩
 have E6:Ext A0 C6:=hC6 ▸ g2.trim (by have:=w2.lt;omega) _
 have B6:Bld A0.length C6 A0.length _:=hC6 ▸ g3.trim w2.lt _
 have hjE:=joinOkM (xs:=[⟨#[125]⟩]) (sep:=⟨#[]⟩) (by simp) (one_le (M:=200) (by decide)) (by omega) (by decide)
 obtain ⟨C7,y1,y2,y3⟩:=line_fun h.F.W.L h.W h.L hb (B6.ext (Ext.app C6 [.cells 0 ([⟨#[125]⟩].map Sb)])) (strs_new C6 [⟨#[125]⟩]) hjE.1 (by
  rw [List.length_append,List.length_append]
  have e1:(lineT [headT x]).data.toList.length=(lnF x).size:=rfl
  have e2:(lineT [⟨#[125]⟩]).size=lnE.size:=rfl
  omega)
 have E7:=y3.ext rfl (E6.trans (Ext.app _ _))
 refine ⟨trim L (frOf 98 [(8,.mp fm),(9,.ref A0.length 0 0),(10,.fn 18 [] [.ref A0.length 0 0]),(35,fv),(36,Iz fs.length),(37,Iz ((k+1:Nat):Int))]) C7,?_,E7.trim (by omega) _,?_⟩
 ·rw [itW_step]
  simp only [Iz,List.map_cons,List.map_nil,List.length_cons,List.length_nil,bFunc,headT] at hgg hgg4 hss hgz w1 hl0 hC1 hC2 hC6 i0 hll g1 hl1 hl2 hw3 hA y1
  rw [hl2] at w1
  rw [hl1,hC2] at hw3
  rw [show (((0:Nat):Int))=0 from rfl] at g1
  simp only [Iz,s_f10_l3_ev,a_f10,s_f10_l0_b,s_f10_l1_b,s_f10_l2_b,s_f10_l3_b,aa,reduceIte,reduceCtorEq,Nat.reduceEqDiff,Nat.reduceLT,Nat.reduceLeDiff,Nat.reduceBEq,Nat.reduceAdd,Nat.reduceMul,op_appR,hlt,cond_true,hbC0,if_true,i0,hl0,hpv,hbv,Bool.and_self,hss,hgz,hC1,hgg,hl1,hA,catOk c1,if_false,hC2,hw3,hl2,w1,hgg4,hll,g1]
  rw [itW_step]
  simp only [Iz,s_f10_l2_ev,s_f10_l3_ev,a_f10,s_f10_l0_b,s_f10_l1_b,s_f10_l2_b,s_f10_l3_b,aa,reduceIte,reduceCtorEq,Nat.reduceEqDiff,Nat.reduceLT,Nat.reduceLeDiff,Nat.reduceBEq,Nat.reduceAdd,Nat.reduceMul,op_appR,hge,cond_false,hC6,y1,w64 hk2]
  try rfl
 ·have:txt ++ funT x=txt ++ (lnF x).data.toList ++ blksT x.blocks ++ lnE.data.toList:=by unfold funT;simp only [List.append_assoc]
  rw [this]
  exact y2.trim hL _
def progT (l:List FunD):List UInt8:=l.flatMap funT
theorem progT_succ {l:List FunD} {i:Nat} {x:FunD} (h:l[i]?=some x):progT (l.take (i+1))=progT (l.take i) ++ funT x:=by
 rw [List.take_add_one,h]
 simp [progT]
theorem progT_le {l:List FunD} (i:Nat):(progT (l.take i)).length≤(progT l).length:=by
 have:progT l=progT (l.take i) ++ progT (l.drop i):=by
  unfold progT
  rw [← List.flatMap_append,List.take_append_drop]
 rw [this,List.length_append]
 omega
theorem fun_loop (h:PrT CT) (base:Nat) {A0:Heap} (hb:base≤A0.length) {n fm:Nat} (hn:getC A0 n 0=some [.fn 52 [] []]) (hm:A0[fm]?=some (.map (esI .u8 (foT n)))) {fv:V} {fs:List FunD} (hc:RdProg A0 fv fs) (hs:∀ x∈fs,SmF x) (hcl:fs.length < 2 ^ 62) {L:Nat} (hL:A0.length < L) {txt:List UInt8} {C:Heap} (hE:Ext A0 C) (hB:Bld A0.length C A0.length txt) (hl:txt.length+(progT fs).length≤2 ^ 47):
 ∃ C',itW (evC (callW CT) itW base s_f10_l3) [] L (frOf 98 [(8,.mp fm),(9,.ref A0.length 0 0),(10,.fn 18 [] [.ref A0.length 0 0]),(35,fv),(36,Iz fs.length),(37,Iz ((0:Nat):Int))]) C=itW (evC (callW CT) itW base s_f10_l3) [] L (frOf 98 [(8,.mp fm),(9,.ref A0.length 0 0),(10,.fn 18 [] [.ref A0.length 0 0]),(35,fv),(36,Iz fs.length),(37,Iz fs.length)]) C'∧Ext A0 C'∧Bld A0.length C' A0.length (txt ++ progT fs):=by
 obtain ⟨C',e1,e2,e3⟩:=it_rel fs.length (fun k C=>Ext A0 C∧Bld A0.length C A0.length (txt ++ progT (fs.take k))) (fun k C=>itW (evC (callW CT) itW base s_f10_l3) [] L (frOf 98 [(8,.mp fm),(9,.ref A0.length 0 0),(10,.fn 18 [] [.ref A0.length 0 0]),(35,fv),(36,Iz fs.length),(37,Iz (k:Int))]) C) (by
  rintro k C hk ⟨hE,hB⟩
  have hx:=List.getElem?_eq_getElem hk
  have hsx:=hs _ (List.getElem_mem hk)
  have hle:(progT (fs.take (k+1))).length≤(progT fs).length:=progT_le _
  rw [progT_succ hx,List.length_append] at hle
  obtain ⟨C',q1,q2,q3⟩:=fun_step h base hb hn hm hc hL hx hsx hE hB (by rw [List.length_append];omega) (by omega)
  exact ⟨C',q1,q2,by rw [progT_succ hx,← List.append_assoc];exact q3⟩) 0 C (Nat.zero_le _) ⟨hE,by simpa [progT] using hB⟩
 rw [List.take_length] at e3
 exact ⟨C',e1,e2,e3⟩
end
end Go.Proofs.YtngfpadeebpoeaaGreatDoor
set_option maxRecDepth 100000
namespace Go.Proofs.YtngfpadeebpoeaaGreatDoor
open Go.AM
structure BadT (CT:Nat→Option CFun):Prop where
 is':CT k_f92=some (.code s_f92)
 bad1:CT k_f136=some (.code s_f136)
 bad:CT k_f95=some (.code s_f95)
 con:CT k_f93=some (.code s_f93)
 idx:CT k_f135=some (.code s_f135)
def bnA (s:ShD) (x:InsD):Bool:=(((s.d && badS false x.d) || (s.f && badS false x.f)) || (s.a && badS true x.a)) || (s.b && badS true x.b)
section
variable {CT:Nat→Option CFun}
theorem badOne (hT:BadT CT) (base:Nat) (D:Heap) (op:Bool) (s:ByteArray):∃ E,callW CT (.fn k_f95 [] []) [.s (.bool op),.sl D.length 0 0 1 1] base (D ++ [Ob.cells 0 [Sb s]])=some (bl (badS op s),E)∧Ext D E:=by
 have hr:Rd (D ++ [Ob.cells 0 [Sb s]]) (.sl D.length 0 0 1 1) ([s].map Sb):=Rd.sl (getC_new D 0 [Sb s]) (off:=0) (n:=1) (by simp)
 obtain ⟨E,h1,h2⟩:=bad_fun hT.is' hT.bad1 hT.bad hT.con hT.idx base (D ++ [Ob.cells 0 [Sb s]]) op hr trivial (by simp)
 refine ⟨E,?_,(Ext.app _ _).trans h2⟩
 rw [h1]
 simp [bl]
set_option maxHeartbeats 8000000 in
theorem bn_r15 (hT:BadT CT) (base:Nat) {D0:Heap} (hb:base≤D0.length) {p q:Nat} {x:InsD} {av lv:V} {s:ShD} (h9_0:getC D0 p 0=some (insC x av lv)) (h10_0:getC D0 q 0=some s.c) {v0 v2 v4 v6 v8 v16 v17 v18 v35 v36 v37 v50 v51 v52:V}:
 ∃ D',evC (callW CT) itW base (.region R37_15 [] [64,65,66,67,68,69,70,71,72,73,74,75,76,77,78,79,80,81,82,83,84,85,86,87,88,89,90,91,92,93,94,95,96,97,98,99,100,101]) (frOf 140 [(0,v0),(2,v2),(4,v4),(6,v6),(8,v8),(9,.ref p 0 0),(10,.ref q 0 0),(16,v16),(17,v17),(18,v18),(35,v35),(36,v36),(37,v37),(50,v50),(51,v51),(52,v52)]) D0=some (.nrm,frOf 140 [(0,v0),(2,v2),(4,v4),(6,v6),(8,v8),(9,.ref p 0 0),(10,.ref q 0 0),(11,bl (bnA s x)),(16,v16),(17,v17),(18,v18),(35,v35),(36,v36),(37,v37),(50,v50),(51,v51),(52,v52)],D')∧Ext D0 D':=by
 have e_0:Ext D0 D0:=Ext.refl _
 simp only [insC,ShD.c] at h9_0 h10_0
 cases s_d:s.d with
 | false=>
   cases s_f:s.f with
   | false=>
     cases s_a:s.a with
     | false=>
       cases s_b:s.b with
       | false=>
         refine ⟨D0,?_,e_0⟩
         simp only [bnA,Iz,Sb,a_f37,s_f37_l0_b,s_f37_l1_b,s_f37_l2_b,aa,reduceIte,reduceCtorEq,Nat.reduceEqDiff,Nat.reduceLT,Nat.reduceLeDiff,Nat.reduceBEq,Nat.reduceAdd,Nat.reduceMul,op_appR,h9_0,h10_0,s_d,s_f,s_a,s_b]
       | true=>
         obtain ⟨D1,c_1,x_1⟩:=badOne hT base D0 true x.b
         have e_1:=e_0.trans x_1
         have h9_1:=getC_ext h9_0 x_1
         have h10_1:=getC_ext h10_0 x_1
         simp only [bl,Sb] at c_1
         cases b_b:badS true x.b with
         | true=>
           rw [b_b] at c_1
           refine ⟨D1,?_,e_1⟩
           simp only [bnA,Iz,Sb,a_f37,s_f37_l0_b,s_f37_l1_b,s_f37_l2_b,aa,reduceIte,reduceCtorEq,Nat.reduceEqDiff,Nat.reduceLT,Nat.reduceLeDiff,Nat.reduceBEq,Nat.reduceAdd,Nat.reduceMul,op_appR,h9_0,h10_0,s_d,s_f,s_a,s_b,b_b,c_1,h9_1,h10_1]
         | false=>
           rw [b_b] at c_1
           refine ⟨D1,?_,e_1⟩
           simp only [bnA,Iz,Sb,a_f37,s_f37_l0_b,s_f37_l1_b,s_f37_l2_b,aa,reduceIte,reduceCtorEq,Nat.reduceEqDiff,Nat.reduceLT,Nat.reduceLeDiff,Nat.reduceBEq,Nat.reduceAdd,Nat.reduceMul,op_appR,h9_0,h10_0,s_d,s_f,s_a,s_b,b_b,c_1,h9_1,h10_1]
     | true=>
       obtain ⟨D1,c_1,x_1⟩:=badOne hT base D0 true x.a
       have e_1:=e_0.trans x_1
       have h9_1:=getC_ext h9_0 x_1
       have h10_1:=getC_ext h10_0 x_1
       simp only [bl,Sb] at c_1
       cases b_a:badS true x.a with
       | true=>
         rw [b_a] at c_1
         refine ⟨D1,?_,e_1⟩
         simp only [bnA,Iz,Sb,a_f37,s_f37_l0_b,s_f37_l1_b,s_f37_l2_b,aa,reduceIte,reduceCtorEq,Nat.reduceEqDiff,Nat.reduceLT,Nat.reduceLeDiff,Nat.reduceBEq,Nat.reduceAdd,Nat.reduceMul,op_appR,h9_0,h10_0,s_d,s_f,s_a,b_a,c_1,h9_1,h10_1]
       | false=>
         rw [b_a] at c_1
         cases s_b:s.b with
         | false=>
           refine ⟨D1,?_,e_1⟩
           simp only [bnA,Iz,Sb,a_f37,s_f37_l0_b,s_f37_l1_b,s_f37_l2_b,aa,reduceIte,reduceCtorEq,Nat.reduceEqDiff,Nat.reduceLT,Nat.reduceLeDiff,Nat.reduceBEq,Nat.reduceAdd,Nat.reduceMul,op_appR,h9_0,h10_0,s_d,s_f,s_a,b_a,c_1,h9_1,h10_1,s_b]
         | true=>
           obtain ⟨D2,c_2,x_2⟩:=badOne hT base D1 true x.b
           have e_2:=e_1.trans x_2
           have h9_2:=getC_ext h9_1 x_2
           have h10_2:=getC_ext h10_1 x_2
           simp only [bl,Sb] at c_2
           cases b_b:badS true x.b with
           | true=>
             rw [b_b] at c_2
             refine ⟨D2,?_,e_2⟩
             simp only [bnA,Iz,Sb,a_f37,s_f37_l0_b,s_f37_l1_b,s_f37_l2_b,aa,reduceIte,reduceCtorEq,Nat.reduceEqDiff,Nat.reduceLT,Nat.reduceLeDiff,Nat.reduceBEq,Nat.reduceAdd,Nat.reduceMul,op_appR,h9_0,h10_0,s_d,s_f,s_a,b_a,c_1,h9_1,h10_1,s_b,b_b,c_2,h9_2,h10_2]
           | false=>
             rw [b_b] at c_2
             refine ⟨D2,?_,e_2⟩
             simp only [bnA,Iz,Sb,a_f37,s_f37_l0_b,s_f37_l1_b,s_f37_l2_b,aa,reduceIte,reduceCtorEq,Nat.reduceEqDiff,Nat.reduceLT,Nat.reduceLeDiff,Nat.reduceBEq,Nat.reduceAdd,Nat.reduceMul,op_appR,h9_0,h10_0,s_d,s_f,s_a,b_a,c_1,h9_1,h10_1,s_b,b_b,c_2,h9_2,h10_2]
   | true=>
     obtain ⟨D1,c_1,x_1⟩:=badOne hT base D0 false x.f
     have e_1:=e_0.trans x_1
     have h9_1:=getC_ext h9_0 x_1
     have h10_1:=getC_ext h10_0 x_1
     simp only [bl,Sb] at c_1
     cases b_f:badS false x.f with
     | true=>
       rw [b_f] at c_1
       refine ⟨D1,?_,e_1⟩
       simp only [bnA,Iz,Sb,a_f37,s_f37_l0_b,s_f37_l1_b,s_f37_l2_b,aa,reduceIte,reduceCtorEq,Nat.reduceEqDiff,Nat.reduceLT,Nat.reduceLeDiff,Nat.reduceBEq,Nat.reduceAdd,Nat.reduceMul,op_appR,h9_0,h10_0,s_d,s_f,b_f,c_1,h9_1,h10_1]
     | false=>
       rw [b_f] at c_1
       cases s_a:s.a with
       | false=>
         cases s_b:s.b with
         | false=>
           refine ⟨D1,?_,e_1⟩
           simp only [bnA,Iz,Sb,a_f37,s_f37_l0_b,s_f37_l1_b,s_f37_l2_b,aa,reduceIte,reduceCtorEq,Nat.reduceEqDiff,Nat.reduceLT,Nat.reduceLeDiff,Nat.reduceBEq,Nat.reduceAdd,Nat.reduceMul,op_appR,h9_0,h10_0,s_d,s_f,b_f,c_1,h9_1,h10_1,s_a,s_b]
         | true=>
           obtain ⟨D2,c_2,x_2⟩:=badOne hT base D1 true x.b
           have e_2:=e_1.trans x_2
           have h9_2:=getC_ext h9_1 x_2
           have h10_2:=getC_ext h10_1 x_2
           simp only [bl,Sb] at c_2
           cases b_b:badS true x.b with
           | true=>
             rw [b_b] at c_2
             refine ⟨D2,?_,e_2⟩
             simp only [bnA,Iz,Sb,a_f37,s_f37_l0_b,s_f37_l1_b,s_f37_l2_b,aa,reduceIte,reduceCtorEq,Nat.reduceEqDiff,Nat.reduceLT,Nat.reduceLeDiff,Nat.reduceBEq,Nat.reduceAdd,Nat.reduceMul,op_appR,h9_0,h10_0,s_d,s_f,b_f,c_1,h9_1,h10_1,s_a,s_b,b_b,c_2,h9_2,h10_2]
           | false=>
             rw [b_b] at c_2
             refine ⟨D2,?_,e_2⟩
             simp only [bnA,Iz,Sb,a_f37,s_f37_l0_b,s_f37_l1_b,s_f37_l2_b,aa,reduceIte,reduceCtorEq,Nat.reduceEqDiff,Nat.reduceLT,Nat.reduceLeDiff,Nat.reduceBEq,Nat.reduceAdd,Nat.reduceMul,op_appR,h9_0,h10_0,s_d,s_f,b_f,c_1,h9_1,h10_1,s_a,s_b,b_b,c_2,h9_2,h10_2]
       | true=>
         obtain ⟨D2,c_2,x_2⟩:=badOne hT base D1 true x.a
         have e_2:=e_1.trans x_2
         have h9_2:=getC_ext h9_1 x_2
         have h10_2:=getC_ext h10_1 x_2
         simp only [bl,Sb] at c_2
         cases b_a:badS true x.a with
         | true=>
           rw [b_a] at c_2
           refine ⟨D2,?_,e_2⟩
           simp only [bnA,Iz,Sb,a_f37,s_f37_l0_b,s_f37_l1_b,s_f37_l2_b,aa,reduceIte,reduceCtorEq,Nat.reduceEqDiff,Nat.reduceLT,Nat.reduceLeDiff,Nat.reduceBEq,Nat.reduceAdd,Nat.reduceMul,op_appR,h9_0,h10_0,s_d,s_f,b_f,c_1,h9_1,h10_1,s_a,b_a,c_2,h9_2,h10_2]
         | false=>
           rw [b_a] at c_2
           cases s_b:s.b with
           | false=>
             refine ⟨D2,?_,e_2⟩
             simp only [bnA,Iz,Sb,a_f37,s_f37_l0_b,s_f37_l1_b,s_f37_l2_b,aa,reduceIte,reduceCtorEq,Nat.reduceEqDiff,Nat.reduceLT,Nat.reduceLeDiff,Nat.reduceBEq,Nat.reduceAdd,Nat.reduceMul,op_appR,h9_0,h10_0,s_d,s_f,b_f,c_1,h9_1,h10_1,s_a,b_a,c_2,h9_2,h10_2,s_b]
           | true=>
             obtain ⟨D3,c_3,x_3⟩:=badOne hT base D2 true x.b
             have e_3:=e_2.trans x_3
             have h9_3:=getC_ext h9_2 x_3
             have h10_3:=getC_ext h10_2 x_3
             simp only [bl,Sb] at c_3
             cases b_b:badS true x.b with
             | true=>
               rw [b_b] at c_3
               refine ⟨D3,?_,e_3⟩
               simp only [bnA,Iz,Sb,a_f37,s_f37_l0_b,s_f37_l1_b,s_f37_l2_b,aa,reduceIte,reduceCtorEq,Nat.reduceEqDiff,Nat.reduceLT,Nat.reduceLeDiff,Nat.reduceBEq,Nat.reduceAdd,Nat.reduceMul,op_appR,h9_0,h10_0,s_d,s_f,b_f,c_1,h9_1,h10_1,s_a,b_a,c_2,h9_2,h10_2,s_b,b_b,c_3,h9_3,h10_3]
             | false=>
               rw [b_b] at c_3
               refine ⟨D3,?_,e_3⟩
               simp only [bnA,Iz,Sb,a_f37,s_f37_l0_b,s_f37_l1_b,s_f37_l2_b,aa,reduceIte,reduceCtorEq,Nat.reduceEqDiff,Nat.reduceLT,Nat.reduceLeDiff,Nat.reduceBEq,Nat.reduceAdd,Nat.reduceMul,op_appR,h9_0,h10_0,s_d,s_f,b_f,c_1,h9_1,h10_1,s_a,b_a,c_2,h9_2,h10_2,s_b,b_b,c_3,h9_3,h10_3]
 | true=>
   obtain ⟨D1,c_1,x_1⟩:=badOne hT base D0 false x.d
   have e_1:=e_0.trans x_1
   have h9_1:=getC_ext h9_0 x_1
   have h10_1:=getC_ext h10_0 x_1
   simp only [bl,Sb] at c_1
   cases b_d:badS false x.d with
   | true=>
     rw [b_d] at c_1
     refine ⟨D1,?_,e_1⟩
     simp only [bnA,Iz,Sb,a_f37,s_f37_l0_b,s_f37_l1_b,s_f37_l2_b,aa,reduceIte,reduceCtorEq,Nat.reduceEqDiff,Nat.reduceLT,Nat.reduceLeDiff,Nat.reduceBEq,Nat.reduceAdd,Nat.reduceMul,op_appR,h9_0,h10_0,s_d,b_d,c_1,h9_1,h10_1]
   | false=>
     rw [b_d] at c_1
     cases s_f:s.f with
     | false=>
       cases s_a:s.a with
       | false=>
         cases s_b:s.b with
         | false=>
           refine ⟨D1,?_,e_1⟩
           simp only [bnA,Iz,Sb,a_f37,s_f37_l0_b,s_f37_l1_b,s_f37_l2_b,aa,reduceIte,reduceCtorEq,Nat.reduceEqDiff,Nat.reduceLT,Nat.reduceLeDiff,Nat.reduceBEq,Nat.reduceAdd,Nat.reduceMul,op_appR,h9_0,h10_0,s_d,b_d,c_1,h9_1,h10_1,s_f,s_a,s_b]
         | true=>
           obtain ⟨D2,c_2,x_2⟩:=badOne hT base D1 true x.b
           have e_2:=e_1.trans x_2
           have h9_2:=getC_ext h9_1 x_2
           have h10_2:=getC_ext h10_1 x_2
           simp only [bl,Sb] at c_2
           cases b_b:badS true x.b with
           | true=>
             rw [b_b] at c_2
             refine ⟨D2,?_,e_2⟩
             simp only [bnA,Iz,Sb,a_f37,s_f37_l0_b,s_f37_l1_b,s_f37_l2_b,aa,reduceIte,reduceCtorEq,Nat.reduceEqDiff,Nat.reduceLT,Nat.reduceLeDiff,Nat.reduceBEq,Nat.reduceAdd,Nat.reduceMul,op_appR,h9_0,h10_0,s_d,b_d,c_1,h9_1,h10_1,s_f,s_a,s_b,b_b,c_2,h9_2,h10_2]
           | false=>
             rw [b_b] at c_2
             refine ⟨D2,?_,e_2⟩
             simp only [bnA,Iz,Sb,a_f37,s_f37_l0_b,s_f37_l1_b,s_f37_l2_b,aa,reduceIte,reduceCtorEq,Nat.reduceEqDiff,Nat.reduceLT,Nat.reduceLeDiff,Nat.reduceBEq,Nat.reduceAdd,Nat.reduceMul,op_appR,h9_0,h10_0,s_d,b_d,c_1,h9_1,h10_1,s_f,s_a,s_b,b_b,c_2,h9_2,h10_2]
       | true=>
         obtain ⟨D2,c_2,x_2⟩:=badOne hT base D1 true x.a
         have e_2:=e_1.trans x_2
         have h9_2:=getC_ext h9_1 x_2
         have h10_2:=getC_ext h10_1 x_2
         simp only [bl,Sb] at c_2
         cases b_a:badS true x.a with
         | true=>
           rw [b_a] at c_2
           refine ⟨D2,?_,e_2⟩
           simp only [bnA,Iz,Sb,a_f37,s_f37_l0_b,s_f37_l1_b,s_f37_l2_b,aa,reduceIte,reduceCtorEq,Nat.reduceEqDiff,Nat.reduceLT,Nat.reduceLeDiff,Nat.reduceBEq,Nat.reduceAdd,Nat.reduceMul,op_appR,h9_0,h10_0,s_d,b_d,c_1,h9_1,h10_1,s_f,s_a,b_a,c_2,h9_2,h10_2]
         | false=>
           rw [b_a] at c_2
           cases s_b:s.b with
           | false=>
             refine ⟨D2,?_,e_2⟩
             simp only [bnA,Iz,Sb,a_f37,s_f37_l0_b,s_f37_l1_b,s_f37_l2_b,aa,reduceIte,reduceCtorEq,Nat.reduceEqDiff,Nat.reduceLT,Nat.reduceLeDiff,Nat.reduceBEq,Nat.reduceAdd,Nat.reduceMul,op_appR,h9_0,h10_0,s_d,b_d,c_1,h9_1,h10_1,s_f,s_a,b_a,c_2,h9_2,h10_2,s_b]
           | true=>
             obtain ⟨D3,c_3,x_3⟩:=badOne hT base D2 true x.b
             have e_3:=e_2.trans x_3
             have h9_3:=getC_ext h9_2 x_3
             have h10_3:=getC_ext h10_2 x_3
             simp only [bl,Sb] at c_3
             cases b_b:badS true x.b with
             | true=>
               rw [b_b] at c_3
               refine ⟨D3,?_,e_3⟩
               simp only [bnA,Iz,Sb,a_f37,s_f37_l0_b,s_f37_l1_b,s_f37_l2_b,aa,reduceIte,reduceCtorEq,Nat.reduceEqDiff,Nat.reduceLT,Nat.reduceLeDiff,Nat.reduceBEq,Nat.reduceAdd,Nat.reduceMul,op_appR,h9_0,h10_0,s_d,b_d,c_1,h9_1,h10_1,s_f,s_a,b_a,c_2,h9_2,h10_2,s_b,b_b,c_3,h9_3,h10_3]
             | false=>
               rw [b_b] at c_3
               refine ⟨D3,?_,e_3⟩
               simp only [bnA,Iz,Sb,a_f37,s_f37_l0_b,s_f37_l1_b,s_f37_l2_b,aa,reduceIte,reduceCtorEq,Nat.reduceEqDiff,Nat.reduceLT,Nat.reduceLeDiff,Nat.reduceBEq,Nat.reduceAdd,Nat.reduceMul,op_appR,h9_0,h10_0,s_d,b_d,c_1,h9_1,h10_1,s_f,s_a,b_a,c_2,h9_2,h10_2,s_b,b_b,c_3,h9_3,h10_3]
     | true=>
       obtain ⟨D2,c_2,x_2⟩:=badOne hT base D1 false x.f
       have e_2:=e_1.trans x_2
       have h9_2:=getC_ext h9_1 x_2
       have h10_2:=getC_ext h10_1 x_2
       simp only [bl,Sb] at c_2
       cases b_f:badS false x.f with
       | true=>
         rw [b_f] at c_2
         refine ⟨D2,?_,e_2⟩
         simp only [bnA,Iz,Sb,a_f37,s_f37_l0_b,s_f37_l1_b,s_f37_l2_b,aa,reduceIte,reduceCtorEq,Nat.reduceEqDiff,Nat.reduceLT,Nat.reduceLeDiff,Nat.reduceBEq,Nat.reduceAdd,Nat.reduceMul,op_appR,h9_0,h10_0,s_d,b_d,c_1,h9_1,h10_1,s_f,b_f,c_2,h9_2,h10_2]
       | false=>
         rw [b_f] at c_2
         cases s_a:s.a with
         | false=>
           cases s_b:s.b with
           | false=>
             refine ⟨D2,?_,e_2⟩
             simp only [bnA,Iz,Sb,a_f37,s_f37_l0_b,s_f37_l1_b,s_f37_l2_b,aa,reduceIte,reduceCtorEq,Nat.reduceEqDiff,Nat.reduceLT,Nat.reduceLeDiff,Nat.reduceBEq,Nat.reduceAdd,Nat.reduceMul,op_appR,h9_0,h10_0,s_d,b_d,c_1,h9_1,h10_1,s_f,b_f,c_2,h9_2,h10_2,s_a,s_b]
           | true=>
             obtain ⟨D3,c_3,x_3⟩:=badOne hT base D2 true x.b
             have e_3:=e_2.trans x_3
             have h9_3:=getC_ext h9_2 x_3
             have h10_3:=getC_ext h10_2 x_3
             simp only [bl,Sb] at c_3
             cases b_b:badS true x.b with
             | true=>
               rw [b_b] at c_3
               refine ⟨D3,?_,e_3⟩
               simp only [bnA,Iz,Sb,a_f37,s_f37_l0_b,s_f37_l1_b,s_f37_l2_b,aa,reduceIte,reduceCtorEq,Nat.reduceEqDiff,Nat.reduceLT,Nat.reduceLeDiff,Nat.reduceBEq,Nat.reduceAdd,Nat.reduceMul,op_appR,h9_0,h10_0,s_d,b_d,c_1,h9_1,h10_1,s_f,b_f,c_2,h9_2,h10_2,s_a,s_b,b_b,c_3,h9_3,h10_3]
             | false=>
               rw [b_b] at c_3
               refine ⟨D3,?_,e_3⟩
               simp only [bnA,Iz,Sb,a_f37,s_f37_l0_b,s_f37_l1_b,s_f37_l2_b,aa,reduceIte,reduceCtorEq,Nat.reduceEqDiff,Nat.reduceLT,Nat.reduceLeDiff,Nat.reduceBEq,Nat.reduceAdd,Nat.reduceMul,op_appR,h9_0,h10_0,s_d,b_d,c_1,h9_1,h10_1,s_f,b_f,c_2,h9_2,h10_2,s_a,s_b,b_b,c_3,h9_3,h10_3]
         | true=>
           obtain ⟨D3,c_3,x_3⟩:=badOne hT base D2 true x.a
           have e_3:=e_2.trans x_3
           have h9_3:=getC_ext h9_2 x_3
           have h10_3:=getC_ext h10_2 x_3
           simp only [bl,Sb] at c_3
           cases b_a:badS true x.a with
           | true=>
             rw [b_a] at c_3
             refine ⟨D3,?_,e_3⟩
             simp only [bnA,Iz,Sb,a_f37,s_f37_l0_b,s_f37_l1_b,s_f37_l2_b,aa,reduceIte,reduceCtorEq,Nat.reduceEqDiff,Nat.reduceLT,Nat.reduceLeDiff,Nat.reduceBEq,Nat.reduceAdd,Nat.reduceMul,op_appR,h9_0,h10_0,s_d,b_d,c_1,h9_1,h10_1,s_f,b_f,c_2,h9_2,h10_2,s_a,b_a,c_3,h9_3,h10_3]
           | false=>
             rw [b_a] at c_3
             cases s_b:s.b with
             | false=>
               refine ⟨D3,?_,e_3⟩
               simp only [bnA,Iz,Sb,a_f37,s_f37_l0_b,s_f37_l1_b,s_f37_l2_b,aa,reduceIte,reduceCtorEq,Nat.reduceEqDiff,Nat.reduceLT,Nat.reduceLeDiff,Nat.reduceBEq,Nat.reduceAdd,Nat.reduceMul,op_appR,h9_0,h10_0,s_d,b_d,c_1,h9_1,h10_1,s_f,b_f,c_2,h9_2,h10_2,s_a,b_a,c_3,h9_3,h10_3,s_b]
             | true=>
               obtain ⟨D4,c_4,x_4⟩:=badOne hT base D3 true x.b
               have e_4:=e_3.trans x_4
               have h9_4:=getC_ext h9_3 x_4
               have h10_4:=getC_ext h10_3 x_4
               simp only [bl,Sb] at c_4
               cases b_b:badS true x.b with
               | true=>
                 rw [b_b] at c_4
                 refine ⟨D4,?_,e_4⟩
                 simp only [bnA,Iz,Sb,a_f37,s_f37_l0_b,s_f37_l1_b,s_f37_l2_b,aa,reduceIte,reduceCtorEq,Nat.reduceEqDiff,Nat.reduceLT,Nat.reduceLeDiff,Nat.reduceBEq,Nat.reduceAdd,Nat.reduceMul,op_appR,h9_0,h10_0,s_d,b_d,c_1,h9_1,h10_1,s_f,b_f,c_2,h9_2,h10_2,s_a,b_a,c_3,h9_3,h10_3,s_b,b_b,c_4,h9_4,h10_4]
               | false=>
                 rw [b_b] at c_4
                 refine ⟨D4,?_,e_4⟩
                 simp only [bnA,Iz,Sb,a_f37,s_f37_l0_b,s_f37_l1_b,s_f37_l2_b,aa,reduceIte,reduceCtorEq,Nat.reduceEqDiff,Nat.reduceLT,Nat.reduceLeDiff,Nat.reduceBEq,Nat.reduceAdd,Nat.reduceMul,op_appR,h9_0,h10_0,s_d,b_d,c_1,h9_1,h10_1,s_f,b_f,c_2,h9_2,h10_2,s_a,b_a,c_3,h9_3,h10_3,s_b,b_b,c_4,h9_4,h10_4]
end
end Go.Proofs.YtngfpadeebpoeaaGreatDoor
set_option maxRecDepth 100000
namespace Go.Proofs.YtngfpadeebpoeaaGreatDoor
open Go.AM
structure ConT (CT:Nat→Option CFun):Prop where
 con:CT k_f96=some (.code s_f96)
 idx:CT k_f137=some (.code s_f137)
def hasE (l:List ByteArray):Bool:=l.any fun y=>(⟨#[]⟩:ByteArray).data.toList == y.data.toList
def bnB (v:Bool) (s:ShD) (x:InsD):Bool:=(v || (s.xs && (x.xs.any (badS true) || hasE x.xs))) || (s.ls && (x.ls.any (badS false) || hasE x.ls))
section
variable {CT:Nat→Option CFun}
theorem taleR_nob (fr:List V) (H:Heap) (os:List (Nat × E)) (kill:List Nat):taleR fr H os kill false=none:=rfl
theorem segL_nob (H:Heap) (o:Option St):segL H none o=o:=rfl
theorem segC_nob (call:CallF) (it:IterF) (base:Nat) (b:List AOper) (kill:List Nat) (H:Heap) (o:Option St):segC call it base b kill H none o=o:=rfl
theorem reqB_nob (b r:Bool):reqB (some und) b r=false:=rfl
theorem bn_r16a (base:Nat) (H:Heap) {v0 v2 v4 v6 v8 v9 v10 v16 v17 v18 v35 v36 v37 v50 v51 v52:V}:origRow (callW CT) itW base R37_16t11 [9,10,102,103,104,105,106,107,108,109,110,111,112,113,114,115,116,117,118,119,120,121,122,123,124,125,126,127,128,129,130] (frOf 140 [(0,v0),(2,v2),(4,v4),(6,v6),(8,v8),(9,v9),(10,v10),(16,v16),(17,v17),(18,v18),(35,v35),(36,v36),(37,v37),(50,v50),(51,v51),(52,v52),(103,V.s (Value.bool true)),(106,und),(110,und),(113,und)]) H=some (.nrm,frOf 140 [(0,v0),(2,v2),(4,v4),(6,v6),(8,v8),(11,V.s (Value.bool true)),(16,v16),(17,v17),(18,v18),(35,v35),(36,v36),(37,v37),(50,v50),(51,v51),(52,v52)],H):=by
 simp only [origRow,R37_16t11,R37_16t12,R37_16t13,R37_16t14,R37_16t15,R37_16t16,R37_16t17,R37_16t18,R37_16t19,R37_16t20,R37_16t21,R37_16t22,R37_16p11,R37_16p12,R37_16p13,R37_16p14,R37_16p15,R37_16p16,R37_16p17,R37_16p18,R37_16p19,R37_16p20,R37_16p21,List.cons_append,List.nil_append,aa,reduceIte,reduceCtorEq,Nat.reduceEqDiff,Nat.reduceLT,Nat.reduceLeDiff,Nat.reduceBEq,Nat.reduceAdd,Nat.reduceMul,op_appR,evC_ops,evOps_nil,evOps_cons,evOps_guard,opK_bool,wantV_bool,wantV_und,put_some,evOp_pick,pickR,op_move,op_un,ev_t,ev_c,resK_some]
theorem bn_r16b (base:Nat) (H:Heap) {v0 v2 v4 v6 v8 v16 v17 v18 v35 v36 v37 v50 v51 v52:V}:origRow (callW CT) itW base R37_16t22 [9,10,102,103,104,105,106,107,108,109,110,111,112,113,114,115,116,117,118,119,120,121,122,123,124,125,126,127,128,129,130] (frOf 140 [(0,v0),(2,v2),(4,v4),(6,v6),(8,v8),(16,v16),(17,v17),(18,v18),(35,v35),(36,v36),(37,v37),(50,v50),(51,v51),(52,v52),(117,V.s (Value.bool true)),(120,und),(124,und),(127,und)]) H=some (.nrm,frOf 140 [(0,v0),(2,v2),(4,v4),(6,v6),(8,v8),(11,V.s (Value.bool true)),(16,v16),(17,v17),(18,v18),(35,v35),(36,v36),(37,v37),(50,v50),(51,v51),(52,v52)],H):=by
 simp only [origRow,R37_16t22,List.cons_append,List.nil_append,aa,reduceIte,reduceCtorEq,Nat.reduceEqDiff,Nat.reduceLT,Nat.reduceLeDiff,Nat.reduceBEq,Nat.reduceAdd,Nat.reduceMul,op_appR,evC_ops,evOps_nil,evOps_cons,evOps_guard,opK_bool,wantV_bool,wantV_und,put_some,evOp_pick,pickR,op_move,op_un,ev_t,ev_c,resK_some]
set_option maxHeartbeats 8000000 in
theorem bn_r16 (hT:BadT CT) (hN:ConT CT) (base:Nat) {D0:Heap} (hb:base≤D0.length) {p q:Nat} {x:InsD} {av lv:V} {s:ShD} {v:Bool} (h9_0:getC D0 p 0=some (insC x av lv)) (h10_0:getC D0 q 0=some s.c) (hxs:Rd D0 av (x.xs.map Sb)) (hwx:Wide1 av) (hls:Rd D0 lv (x.ls.map Sb)) (hwl:Wide1 lv) (hnx:x.xs.length < 2 ^ 20) (hnl:x.ls.length < 2 ^ 20) {v0 v2 v4 v6 v8 v16 v17 v18 v35 v36 v37 v50 v51 v52:V}:
 ∃ D',evC (callW CT) itW base (.region R37_16 [] [9,10,102,103,104,105,106,107,108,109,110,111,112,113,114,115,116,117,118,119,120,121,122,123,124,125,126,127,128,129,130]) (frOf 140 [(0,v0),(2,v2),(4,v4),(6,v6),(8,v8),(9,.ref p 0 0),(10,.ref q 0 0),(11,bl v),(16,v16),(17,v17),(18,v18),(35,v35),(36,v36),(37,v37),(50,v50),(51,v51),(52,v52)]) D0=some (.nrm,frOf 140 [(0,v0),(2,v2),(4,v4),(6,v6),(8,v8),(11,bl (bnB v s x)),(16,v16),(17,v17),(18,v18),(35,v35),(36,v36),(37,v37),(50,v50),(51,v51),(52,v52)],D')∧Ext D0 D':=by
 have e_0:Ext D0 D0:=Ext.refl _
 simp only [insC,ShD.c] at h9_0 h10_0
 cases v with
 | true=>
   refine ⟨D0,?_,e_0⟩
   simp only [bnB,Iz,Sb,a_f37,s_f37_l0_b,s_f37_l1_b,s_f37_l2_b,aa,reduceIte,reduceCtorEq,Nat.reduceEqDiff,Nat.reduceLT,Nat.reduceLeDiff,Nat.reduceBEq,Nat.reduceAdd,Nat.reduceMul,op_appR,bn_r16a,bn_r16b,reqB_nob,taleR_nob,segL_nob,segC_nob,h9_0,h10_0]
 | false=>
   cases s_xs:s.xs with
   | false=>
     cases s_ls:s.ls with
     | false=>
       refine ⟨D0,?_,e_0⟩
       simp only [bnB,Iz,Sb,a_f37,s_f37_l0_b,s_f37_l1_b,s_f37_l2_b,aa,reduceIte,reduceCtorEq,Nat.reduceEqDiff,Nat.reduceLT,Nat.reduceLeDiff,Nat.reduceBEq,Nat.reduceAdd,Nat.reduceMul,op_appR,bn_r16a,bn_r16b,reqB_nob,taleR_nob,segL_nob,segC_nob,h9_0,h10_0,s_xs,s_ls]
     | true=>
       obtain ⟨D1,c_1,x_1⟩:=bad_fun hT.is' hT.bad1 hT.bad hT.con hT.idx base D0 false (hls.ext e_0) hwl (l:=x.ls) (by omega)
       have e_1:=e_0.trans x_1
       have h9_1:=getC_ext h9_0 x_1
       have h10_1:=getC_ext h10_0 x_1
       have k_1:=containsS_fun hN.con hN.idx base D1 (⟨#[]⟩:ByteArray) (hls.ext e_1) hwl (l:=x.ls) (by omega)
       have f_1:callW CT (.fn k_f96 [] []) [lv,.s (.string ⟨#[]⟩)] base D1=some (.s (.bool (hasE x.ls)),D1):=k_1
       cases b_ls:x.ls.any (badS false) with
       | true=>
         rw [b_ls] at c_1
         refine ⟨D1,?_,e_1⟩
         simp only [bnB,Iz,Sb,a_f37,s_f37_l0_b,s_f37_l1_b,s_f37_l2_b,aa,reduceIte,reduceCtorEq,Nat.reduceEqDiff,Nat.reduceLT,Nat.reduceLeDiff,Nat.reduceBEq,Nat.reduceAdd,Nat.reduceMul,op_appR,bn_r16a,bn_r16b,reqB_nob,taleR_nob,segL_nob,segC_nob,h9_0,h10_0,s_xs,s_ls,b_ls,c_1,h9_1,h10_1]
       | false=>
         rw [b_ls] at c_1
         cases g_ls:hasE x.ls with
         | true=>
           rw [g_ls] at f_1
           refine ⟨D1,?_,e_1⟩
           simp only [bnB,Iz,Sb,a_f37,s_f37_l0_b,s_f37_l1_b,s_f37_l2_b,aa,reduceIte,reduceCtorEq,Nat.reduceEqDiff,Nat.reduceLT,Nat.reduceLeDiff,Nat.reduceBEq,Nat.reduceAdd,Nat.reduceMul,op_appR,bn_r16a,bn_r16b,reqB_nob,taleR_nob,segL_nob,segC_nob,h9_0,h10_0,s_xs,s_ls,b_ls,c_1,h9_1,h10_1,g_ls,f_1]
         | false=>
           rw [g_ls] at f_1
           refine ⟨D1,?_,e_1⟩
           simp only [bnB,Iz,Sb,a_f37,s_f37_l0_b,s_f37_l1_b,s_f37_l2_b,aa,reduceIte,reduceCtorEq,Nat.reduceEqDiff,Nat.reduceLT,Nat.reduceLeDiff,Nat.reduceBEq,Nat.reduceAdd,Nat.reduceMul,op_appR,bn_r16a,bn_r16b,reqB_nob,taleR_nob,segL_nob,segC_nob,h9_0,h10_0,s_xs,s_ls,b_ls,c_1,h9_1,h10_1,g_ls,f_1]
   | true=>
     obtain ⟨D1,c_1,x_1⟩:=bad_fun hT.is' hT.bad1 hT.bad hT.con hT.idx base D0 true (hxs.ext e_0) hwx (l:=x.xs) (by omega)
     have e_1:=e_0.trans x_1
     have h9_1:=getC_ext h9_0 x_1
     have h10_1:=getC_ext h10_0 x_1
     have k_1:=containsS_fun hN.con hN.idx base D1 (⟨#[]⟩:ByteArray) (hxs.ext e_1) hwx (l:=x.xs) (by omega)
     have f_1:callW CT (.fn k_f96 [] []) [av,.s (.string ⟨#[]⟩)] base D1=some (.s (.bool (hasE x.xs)),D1):=k_1
     cases b_xs:x.xs.any (badS true) with
     | true=>
       rw [b_xs] at c_1
       refine ⟨D1,?_,e_1⟩
       simp only [bnB,Iz,Sb,a_f37,s_f37_l0_b,s_f37_l1_b,s_f37_l2_b,aa,reduceIte,reduceCtorEq,Nat.reduceEqDiff,Nat.reduceLT,Nat.reduceLeDiff,Nat.reduceBEq,Nat.reduceAdd,Nat.reduceMul,op_appR,bn_r16a,bn_r16b,reqB_nob,taleR_nob,segL_nob,segC_nob,h9_0,h10_0,s_xs,b_xs,c_1,h9_1,h10_1]
     | false=>
       rw [b_xs] at c_1
       cases g_xs:hasE x.xs with
       | true=>
         rw [g_xs] at f_1
         refine ⟨D1,?_,e_1⟩
         simp only [bnB,Iz,Sb,a_f37,s_f37_l0_b,s_f37_l1_b,s_f37_l2_b,aa,reduceIte,reduceCtorEq,Nat.reduceEqDiff,Nat.reduceLT,Nat.reduceLeDiff,Nat.reduceBEq,Nat.reduceAdd,Nat.reduceMul,op_appR,bn_r16a,bn_r16b,reqB_nob,taleR_nob,segL_nob,segC_nob,h9_0,h10_0,s_xs,b_xs,c_1,h9_1,h10_1,g_xs,f_1]
       | false=>
         rw [g_xs] at f_1
         cases s_ls:s.ls with
         | false=>
           refine ⟨D1,?_,e_1⟩
           simp only [bnB,Iz,Sb,a_f37,s_f37_l0_b,s_f37_l1_b,s_f37_l2_b,aa,reduceIte,reduceCtorEq,Nat.reduceEqDiff,Nat.reduceLT,Nat.reduceLeDiff,Nat.reduceBEq,Nat.reduceAdd,Nat.reduceMul,op_appR,bn_r16a,bn_r16b,reqB_nob,taleR_nob,segL_nob,segC_nob,h9_0,h10_0,s_xs,b_xs,c_1,h9_1,h10_1,g_xs,f_1,s_ls]
         | true=>
           obtain ⟨D2,c_2,x_2⟩:=bad_fun hT.is' hT.bad1 hT.bad hT.con hT.idx base D1 false (hls.ext e_1) hwl (l:=x.ls) (by omega)
           have e_2:=e_1.trans x_2
           have h9_2:=getC_ext h9_1 x_2
           have h10_2:=getC_ext h10_1 x_2
           have k_2:=containsS_fun hN.con hN.idx base D2 (⟨#[]⟩:ByteArray) (hls.ext e_2) hwl (l:=x.ls) (by omega)
           have f_2:callW CT (.fn k_f96 [] []) [lv,.s (.string ⟨#[]⟩)] base D2=some (.s (.bool (hasE x.ls)),D2):=k_2
           cases b_ls:x.ls.any (badS false) with
           | true=>
             rw [b_ls] at c_2
             refine ⟨D2,?_,e_2⟩
             simp only [bnB,Iz,Sb,a_f37,s_f37_l0_b,s_f37_l1_b,s_f37_l2_b,aa,reduceIte,reduceCtorEq,Nat.reduceEqDiff,Nat.reduceLT,Nat.reduceLeDiff,Nat.reduceBEq,Nat.reduceAdd,Nat.reduceMul,op_appR,bn_r16a,bn_r16b,reqB_nob,taleR_nob,segL_nob,segC_nob,h9_0,h10_0,s_xs,b_xs,c_1,h9_1,h10_1,g_xs,f_1,s_ls,b_ls,c_2,h9_2,h10_2]
           | false=>
             rw [b_ls] at c_2
             cases g_ls:hasE x.ls with
             | true=>
               rw [g_ls] at f_2
               refine ⟨D2,?_,e_2⟩
               simp only [bnB,Iz,Sb,a_f37,s_f37_l0_b,s_f37_l1_b,s_f37_l2_b,aa,reduceIte,reduceCtorEq,Nat.reduceEqDiff,Nat.reduceLT,Nat.reduceLeDiff,Nat.reduceBEq,Nat.reduceAdd,Nat.reduceMul,op_appR,bn_r16a,bn_r16b,reqB_nob,taleR_nob,segL_nob,segC_nob,h9_0,h10_0,s_xs,b_xs,c_1,h9_1,h10_1,g_xs,f_1,s_ls,b_ls,c_2,h9_2,h10_2,g_ls,f_2]
             | false=>
               rw [g_ls] at f_2
               refine ⟨D2,?_,e_2⟩
               simp only [bnB,Iz,Sb,a_f37,s_f37_l0_b,s_f37_l1_b,s_f37_l2_b,aa,reduceIte,reduceCtorEq,Nat.reduceEqDiff,Nat.reduceLT,Nat.reduceLeDiff,Nat.reduceBEq,Nat.reduceAdd,Nat.reduceMul,op_appR,bn_r16a,bn_r16b,reqB_nob,taleR_nob,segL_nob,segC_nob,h9_0,h10_0,s_xs,b_xs,c_1,h9_1,h10_1,g_xs,f_1,s_ls,b_ls,c_2,h9_2,h10_2,g_ls,f_2]
end
end Go.Proofs.YtngfpadeebpoeaaGreatDoor
set_option maxRecDepth 100000
namespace Go.Proofs.YtngfpadeebpoeaaGreatDoor
open Go.AM
def bnI (i b:Nat) (k:Nat) (x:InsD):Option Pt:=if bnB (bnA (shp x.op) x) (shp x.op) x=true then some (i,b,k) else none
def bnBk (i:Nat) (b:Nat) (bl:BlkD):Option Pt:=if (!isName bl.label)=true then some (i,b,0) else srch (bnI i b) bl.code 0
def bnF (i:Nat) (f:FunD):Option Pt:=if (!isName f.name || f.ps.any fun s=>!isName s)=true then some (i,0,0) else srch (bnBk i) f.blocks 0
section
variable {CT:Nat→Option CFun}
theorem bn_l0 (hT:BadT CT) (hN:ConT CT) (base:Nat) {A A1:Heap} {w sm:Nat} {fv0:V} {fs0:List FunD} (hc:NC A w sm fv0 fs0) (h1:Ext A A1) (hb:base≤A.length) (hg:getC A1 A.length 0=some [Iz 0,Iz 0,Iz 0]) {v16 v35 cv:V} {i b:Nat} {n17 n18 n36 n37:Int} {l:List InsD} (hv:RdL 8 RdIns A cv l) (hn:l.length < 2 ^ 20) (hxs:∀ x∈l,x.xs.length < 2 ^ 20) (hls:∀ x∈l,x.ls.length < 2 ^ 20) {L:Nat} (hL:A1.length≤L) (hA1:A.length < A1.length):
 ∀ C,Ext A1 C→(srch (bnI i b) l 0=none∧∃ C',itW (evC (callW CT) itW base s_f37_l0) [] L (frOf 140 [(0,.ref w 0 0),(2,.ref A.length 0 0),(4,Iz i),(6,Iz b),(16,v16),(17,Iz n17),(18,Iz n18),(35,v35),(36,Iz n36),(37,Iz n37),(50,cv),(51,Iz l.length),(52,Iz 0)]) C=some (.ext 4,frOf 140 [(0,.ref w 0 0),(2,.ref A.length 0 0),(4,Iz i),(6,Iz b),(16,v16),(17,Iz n17),(18,Iz n18),(35,v35),(36,Iz n36),(37,Iz n37),(50,cv),(51,Iz l.length),(52,Iz l.length),(53,bl false)],C')∧Ext A1 C')∨∃ t,srch (bnI i b) l 0=some t∧Found A 140 A.length t (itW (evC (callW CT) itW base s_f37_l0) [] L (frOf 140 [(0,.ref w 0 0),(2,.ref A.length 0 0),(4,Iz i),(6,Iz b),(16,v16),(17,Iz n17),(18,Iz n18),(35,v35),(36,Iz n36),(37,Iz n37),(50,cv),(51,Iz l.length),(52,Iz 0)]) C):=by
 intro C0 hC0
 rcases it_srch l ins0 (bnI i b) (fun _ C=>Ext A1 C) (fun k C=>itW (evC (callW CT) itW base s_f37_l0) [] L (frOf 140 [(0,.ref w 0 0),(2,.ref A.length 0 0),(4,Iz i),(6,Iz b),(16,v16),(17,Iz n17),(18,Iz n18),(35,v35),(36,Iz n36),(37,Iz n37),(50,cv),(51,Iz l.length),(52,Iz k)]) C) (Found A 140 A.length) (by
  intro k C hk hE
  have hlt':((k:Int) < (l.length:Int)):=by omega
  have hwk:=w64 (n:=k) (by omega)
  have hle:=hE.le
  have hkx:=some_getD hk ins0
  obtain ⟨x,hxe⟩:∃ x,l.getD k ins0=x:=⟨_,rfl⟩
  rw [hxe] at hkx ⊢
  have hmem:=List.mem_of_getElem? hkx
  obtain ⟨a,r,a1,hr,a2,_⟩:=hv.at2 hkx
  have hEA:=h1.trans hE
  have ld:=a2 C hEA
  have hbC:base≤C.length:=by omega
  have hgg:∀ c,getC (C ++ [Ob.cells 0 c]) C.length 0=some c:=fun c=>getC_new C 0 c
  have hss:∀ c d,(C ++ [c]).set C.length d=C ++ [d]:=fun c d=>set_snoc C c d
  have eC:∀ c,Ext C (C ++ [Ob.cells 0 c]):=fun c=>Ext.app _ _
  have g2:∀ D,Ext A1 D→getC D A.length 0=some [Iz 0,Iz 0,Iz 0]:=fun D h=>getC_ext hg h
  obtain ⟨av,lv,rfl,q1,q2,q3,q4,_⟩:=hr
  have hav:=q1.one
  have hlv:=q3.one
  obtain ⟨C1,hC1⟩:∃ C1,C ++ [Ob.cells 0 (insC x av lv)]=C1:=⟨_,rfl⟩
  have e1:Ext C C1:=hC1 ▸ eC _
  have hl1:C1.length=C.length+1:=by rw [← hC1,len_snoc]
  have hmp:xLoad C1 false 1 (.ref w 0 1)=some (.mp sm):=by rw [xo_ref,getC_ext hc.gw (hEA.trans e1)];rfl
  have hmg:=get_I .u8 (Ext.at' (hEA.trans e1) hc.sh) (.agg (ShD.c ⟨false,false,false,false,false,false,false⟩)) false x.op
  rw [if_neg Bool.false_ne_true,shT_get] at hmg
  have hg1:getC C1 C.length 0=some (insC x av lv):=hC1 ▸ hgg _
  obtain ⟨C2,hC2⟩:∃ C2,C1 ++ [Ob.cells 0 (shp x.op).c]=C2:=⟨_,rfl⟩
  have e2:Ext C1 C2:=hC2 ▸ Ext.app _ _
  have hl2:C2.length=C.length+2:=by rw [← hC2,len_snoc,hl1]
  have hs1:∀ c d,(C1 ++ [c]).set C1.length d=C1 ++ [d]:=fun c d=>set_snoc C1 c d
  have hz1:∀ c,getC (C1 ++ [Ob.cells 0 c]) C1.length 0=some c:=fun c=>getC_new C1 0 c
  rw [hl1] at hs1 hz1
  have hb1:base≤C.length+1:=by omega
  have h9:=getC_ext hg1 e2
  have h10:getC C2 (C.length+1) 0=some (shp x.op).c:=by rw [← hC2];exact hz1 _
  obtain ⟨D1,r15,d1⟩:=bn_r15 hT base (D0:=C2) (by omega) (p:=C.length) (q:=C.length+1) (x:=x) (av:=av) (lv:=lv) (s:=shp x.op) h9 h10 (v0:=.ref w 0 0) (v2:=.ref A.length 0 0) (v4:=Iz i) (v6:=Iz b) (v8:=Iz k) (v16:=v16) (v17:=Iz n17) (v18:=Iz n18) (v35:=v35) (v36:=Iz n36) (v37:=Iz n37) (v50:=cv) (v51:=Iz l.length) (v52:=Iz k)
  have eX:=hEA.trans (e1.trans (e2.trans d1))
  obtain ⟨D2,r16,d2⟩:=bn_r16 hT hN base (D0:=D1) (by have:=eX.le;omega) (p:=C.length) (q:=C.length+1) (x:=x) (av:=av) (lv:=lv) (s:=shp x.op) (v:=bnA (shp x.op) x) (getC_ext h9 d1) (getC_ext h10 d1) (q1.ext eX) q2 (q3.ext eX) q4 (hxs x hmem) (hls x hmem) (v0:=.ref w 0 0) (v2:=.ref A.length 0 0) (v4:=Iz i) (v6:=Iz b) (v8:=Iz k) (v16:=v16) (v17:=Iz n17) (v18:=Iz n18) (v35:=v35) (v36:=Iz n36) (v37:=Iz n37) (v50:=cv) (v51:=Iz l.length) (v52:=Iz k)
  have eY:Ext A1 D2:=hE.trans (e1.trans (e2.trans (d1.trans d2)))
  unfold bnI
  have hgc:=g2 D2 eY
  simp only [insC] at ld hC1 hg1
  simp only [Iz,bl,ShD.c] at hmg hC2 r15 r16 hgc
  cases hq:bnB (bnA (shp x.op) x) (shp x.op) x with
  | false=>
    rw [hq] at r16
    refine .inl ⟨if_neg Bool.false_ne_true,trim L (frOf 140 [(0,.ref w 0 0),(2,.ref A.length 0 0),(4,Iz i),(6,Iz b),(16,v16),(17,Iz n17),(18,Iz n18),(35,v35),(36,Iz n36),(37,Iz n37),(50,cv),(51,Iz l.length),(52,Iz (k+1:Nat))]) D2,?_,eY.trim (by omega) _⟩
    rw [itW_step]
    simp only [Iz,bl,A37_0p0_0,A37_0p0_2,A37_0p0_3,X37_0,T37_0t1,X37_0t1,A37_0_0,A37_0_2,A37_0_3,T37_1,T37_2,T37_3p0,X37_3,X37_3t1,T37_3p2,X37_3t2,X37_3t3,T37_4p0,X37_4,X37_4t1,T37_4p2,X37_4t2,X37_4t3,X37_4t4,X37_4t5,T37_4t6,X37_4t6,T37_5p0,X37_5,X37_5t1,T37_5t2,X37_5t2,T37_6,T37_7,T37_8p0,X37_8,X37_8t1,T37_8p2,X37_8t2,X37_8t3,T37_9p0,X37_9,X37_9t1,T37_9t2,X37_9t2,T37_10p0,X37_10,X37_10t1,T37_10t2,X37_10t2,T37_11,T37_12,T37_13p0,X37_13,X37_13t1,T37_13p2,X37_13t2,X37_13t3,T37_14p0,X37_14,X37_14t1,X37_14t2,T37_17,T37_18p0,X37_18,X37_18t1,T37_18t2,X37_18t2,T37_19,s_f37_l0_b,s_f37_l0_ev,T37_20,s_f37_l1_b,s_f37_l1_ev,T37_21,s_f37_l2_b,s_f37_l2_ev,T37_22p0,X37_22,X37_22t1,T37_22t2,X37_22t2,aa,reduceIte,reduceCtorEq,Nat.reduceEqDiff,Nat.reduceLT,Nat.reduceLeDiff,Nat.reduceBEq,Nat.reduceAdd,Nat.reduceMul,op_appR,ShD.c,hlt',a1,ld,hbC,hb1,hgg,hss,hs1,hz1,hav,hlv,Bool.and_self,hC1,hl1,hmp,hmg,hC2,hg1,r15,r16,hwk]
  | true=>
    rw [hq] at r16
    refine .inr ⟨(i,b,k),if_pos rfl,trim L (frOf 140 [(2,.ref A.length 0 0),(3,bl true)]) (D2.set A.length (.cells 0 [Iz i,Iz b,Iz k])),?_,?_,?_⟩
    ·rw [itW_step]
     simp only [Iz,bl,A37_0p0_0,A37_0p0_2,A37_0p0_3,X37_0,T37_0t1,X37_0t1,A37_0_0,A37_0_2,A37_0_3,T37_1,T37_2,T37_3p0,X37_3,X37_3t1,T37_3p2,X37_3t2,X37_3t3,T37_4p0,X37_4,X37_4t1,T37_4p2,X37_4t2,X37_4t3,X37_4t4,X37_4t5,T37_4t6,X37_4t6,T37_5p0,X37_5,X37_5t1,T37_5t2,X37_5t2,T37_6,T37_7,T37_8p0,X37_8,X37_8t1,T37_8p2,X37_8t2,X37_8t3,T37_9p0,X37_9,X37_9t1,T37_9t2,X37_9t2,T37_10p0,X37_10,X37_10t1,T37_10t2,X37_10t2,T37_11,T37_12,T37_13p0,X37_13,X37_13t1,T37_13p2,X37_13t2,X37_13t3,T37_14p0,X37_14,X37_14t1,X37_14t2,T37_17,T37_18p0,X37_18,X37_18t1,T37_18t2,X37_18t2,T37_19,s_f37_l0_b,s_f37_l0_ev,T37_20,s_f37_l1_b,s_f37_l1_ev,T37_21,s_f37_l2_b,s_f37_l2_ev,T37_22p0,X37_22,X37_22t1,T37_22t2,X37_22t2,aa,reduceIte,reduceCtorEq,Nat.reduceEqDiff,Nat.reduceLT,Nat.reduceLeDiff,Nat.reduceBEq,Nat.reduceAdd,Nat.reduceMul,op_appR,ShD.c,hlt',a1,ld,hbC,hb1,hgg,hss,hs1,hz1,hav,hlv,Bool.and_self,hC1,hl1,hmp,hmg,hC2,hg1,r15,r16,hgc,hb]
    ·exact ((h1.trans eY).set (Nat.le_refl _) _).trim (by omega) _
    ·exact trim_get (getC_put (g2 _ eY)) (by omega)) C0 hC0 with ⟨e1,C,e2,e3⟩ | e
 ·refine .inl ⟨e1,trim L (frOf 140 [(0,.ref w 0 0),(2,.ref A.length 0 0),(4,Iz i),(6,Iz b),(16,v16),(17,Iz n17),(18,Iz n18),(35,v35),(36,Iz n36),(37,Iz n37),(50,cv),(51,Iz l.length),(52,Iz l.length),(53,bl false)]) C,?_,e3.trim (by omega) _⟩
  rw [cast0] at e2
  refine e2.trans ?_
  rw [itW_step]
  simp only [Iz,bl,a_f37,s_f37_l0_b,s_f37_l1_b,s_f37_l2_b,aa,reduceIte,reduceCtorEq,Nat.reduceEqDiff,Nat.reduceLT,Nat.reduceLeDiff,Nat.reduceBEq,Nat.reduceAdd,Nat.reduceMul,op_appR,Int.lt_irrefl]
 ·rw [cast0] at e
  exact .inr e
theorem bn_l1 (hT:BadT CT) (hN:ConT CT) (base:Nat) {A A1:Heap} {w sm:Nat} {fv0:V} {fs0:List FunD} (hc:NC A w sm fv0 fs0) (h1:Ext A A1) (hb:base≤A.length) (hg:getC A1 A.length 0=some [Iz 0,Iz 0,Iz 0]) {v16 bv:V} {i:Nat} {n17 n18:Int} {l:List BlkD} (hv:RdL 2 RdBlk A bv l) (hn:l.length < 2 ^ 20) (hnc:∀ b∈l,b.code.length < 2 ^ 20) (hxs:∀ b∈l,∀ x∈b.code,x.xs.length < 2 ^ 20) (hls:∀ b∈l,∀ x∈b.code,x.ls.length < 2 ^ 20) {L:Nat} (hL:A1.length≤L) (hA1:A.length < A1.length):
 ∀ C,Ext A1 C→(srch (bnBk i) l 0=none∧∃ C',itW (evC (callW CT) itW base s_f37_l1) [] L (frOf 140 [(0,.ref w 0 0),(2,.ref A.length 0 0),(4,Iz i),(16,v16),(17,Iz n17),(18,Iz n18),(35,bv),(36,Iz l.length),(37,Iz 0)]) C=some (.ext 2,frOf 140 [(0,.ref w 0 0),(2,.ref A.length 0 0),(4,Iz i),(16,v16),(17,Iz n17),(18,Iz n18),(35,bv),(36,Iz l.length),(37,Iz l.length),(38,bl false)],C')∧Ext A1 C')∨∃ t,srch (bnBk i) l 0=some t∧Found A 140 A.length t (itW (evC (callW CT) itW base s_f37_l1) [] L (frOf 140 [(0,.ref w 0 0),(2,.ref A.length 0 0),(4,Iz i),(16,v16),(17,Iz n17),(18,Iz n18),(35,bv),(36,Iz l.length),(37,Iz 0)]) C):=by
 intro C0 hC0
 rcases it_srch l blk0 (bnBk i) (fun _ C=>Ext A1 C) (fun k C=>itW (evC (callW CT) itW base s_f37_l1) [] L (frOf 140 [(0,.ref w 0 0),(2,.ref A.length 0 0),(4,Iz i),(16,v16),(17,Iz n17),(18,Iz n18),(35,bv),(36,Iz l.length),(37,Iz k)]) C) (Found A 140 A.length) (by
  intro k C hk hE
  have hlt':((k:Int) < (l.length:Int)):=by omega
  have hwk:=w64 (n:=k) (by omega)
  have hle:=hE.le
  have hkx:=some_getD hk blk0
  obtain ⟨x,hxe⟩:∃ x,l.getD k blk0=x:=⟨_,rfl⟩
  rw [hxe] at hkx ⊢
  have hmem:=List.mem_of_getElem? hkx
  obtain ⟨a,r,a1,hr,a2,_⟩:=hv.at2 hkx
  have hEA:=h1.trans hE
  have ld:=a2 C hEA
  have hbC:base≤C.length:=by omega
  have hgg:∀ c,getC (C ++ [Ob.cells 0 c]) C.length 0=some c:=fun c=>getC_new C 0 c
  have hss:∀ c d,(C ++ [c]).set C.length d=C ++ [d]:=fun c d=>set_snoc C c d
  have eC:∀ c,Ext C (C ++ [Ob.cells 0 c]):=fun c=>Ext.app _ _
  have g2:∀ D,Ext A1 D→getC D A.length 0=some [Iz 0,Iz 0,Iz 0]:=fun D h=>getC_ext hg h
  obtain ⟨cv,rfl,hcv⟩:=hr
  have hcl:=(rdI_ext hcv (hEA.trans (eC [Sb x.label,cv]))).len
  have hco:=hcv.one
  have hl2:(C ++ [Ob.cells 0 [Sb x.label,cv]]).length=C.length+1:=by simp
  have hcal:=fun D=>is_fun CT hT.is' x.label base D
  unfold bnBk
  cases hq:isName x.label with
  | false=>
    rw [hq] at hcal
    refine .inr ⟨(i,k,0),if_pos rfl,trim L (frOf 140 [(2,.ref A.length 0 0),(3,bl true)]) ((C ++ [Ob.cells 0 [Sb x.label,cv]]).set A.length (.cells 0 [Iz i,Iz k,Iz 0])),?_,?_,?_⟩
    ·have hgc:=g2 (C ++ [Ob.cells 0 [Sb x.label,cv]]) (hE.trans (eC _))
     rw [itW_step]
     simp only [Iz,bl] at hgc hcal
     simp only [Iz,bl,a_f37,s_f37_l0_b,s_f37_l1_b,s_f37_l2_b,aa,reduceIte,reduceCtorEq,Nat.reduceEqDiff,Nat.reduceLT,Nat.reduceLeDiff,Nat.reduceBEq,Nat.reduceAdd,Nat.reduceMul,op_appR,hlt',a1,ld,hbC,hgg,hss,hco,Bool.and_self,hcl,hcal,hgc,hb]
    ·exact ((hEA.trans (eC _)).set (Nat.le_refl _) _).trim (by omega) _
    ·exact trim_get (getC_put (g2 _ (hE.trans (eC _)))) (by omega)
  | true=>
    rw [hq] at hcal
    simp only [bl] at hcal
    rw [if_neg (show ¬ (!true)=true by decide)]
    have hin:=bn_l0 (CT:=CT) hT hN base hc h1 hb hg (v16:=v16) (v35:=bv) (i:=i) (b:=k) (n17:=n17) (n18:=n18) (n36:=l.length) (n37:=k) hcv (hnc x hmem) (hxs x hmem) (hls x hmem) (L:=(C ++ [Ob.cells 0 [Sb x.label,cv]]).length) (by rw [len_snoc];omega) hA1 (C ++ [Ob.cells 0 [Sb x.label,cv]]) (hE.trans (eC _))
    rw [hl2] at hin
    rcases hin with ⟨z1,C2,z2,z3⟩ | ⟨t,z1,D,z2,z3,z4⟩
    ·refine .inl ⟨z1,trim L (frOf 140 [(0,.ref w 0 0),(2,.ref A.length 0 0),(4,Iz i),(16,v16),(17,Iz n17),(18,Iz n18),(35,bv),(36,Iz l.length),(37,Iz (k+1:Nat))]) C2,?_,z3.trim (by omega) _⟩
     rw [itW_step]
     simp only [Iz,bl] at z2
     simp only [Iz,bl,a_f37,s_f37_l0_b,s_f37_l1_b,s_f37_l2_b,aa,reduceIte,reduceCtorEq,Nat.reduceEqDiff,Nat.reduceLT,Nat.reduceLeDiff,Nat.reduceBEq,Nat.reduceAdd,Nat.reduceMul,op_appR,hlt',a1,ld,hbC,hgg,hss,hco,Bool.and_self,hcl,hcal,hl2,z2,hwk]
    ·refine .inr ⟨t,z1,trim L (frOf 140 [(2,.ref A.length 0 0),(3,bl true)]) D,?_,z3.trim (by omega) _,trim_get z4 (by omega)⟩
     rw [itW_step]
     simp only [Iz,bl] at z2
     simp only [Iz,bl,a_f37,s_f37_l0_b,s_f37_l1_b,s_f37_l2_b,aa,reduceIte,reduceCtorEq,Nat.reduceEqDiff,Nat.reduceLT,Nat.reduceLeDiff,Nat.reduceBEq,Nat.reduceAdd,Nat.reduceMul,op_appR,hlt',a1,ld,hbC,hgg,hss,hco,Bool.and_self,hcl,hcal,hl2,z2]) C0 hC0 with ⟨e1,C,e2,e3⟩ | e
 ·refine .inl ⟨e1,trim L (frOf 140 [(0,.ref w 0 0),(2,.ref A.length 0 0),(4,Iz i),(16,v16),(17,Iz n17),(18,Iz n18),(35,bv),(36,Iz l.length),(37,Iz l.length),(38,bl false)]) C,?_,e3.trim (by omega) _⟩
  rw [cast0] at e2
  refine e2.trans ?_
  rw [itW_step]
  simp only [Iz,bl,a_f37,s_f37_l0_b,s_f37_l1_b,s_f37_l2_b,aa,reduceIte,reduceCtorEq,Nat.reduceEqDiff,Nat.reduceLT,Nat.reduceLeDiff,Nat.reduceBEq,Nat.reduceAdd,Nat.reduceMul,op_appR,Int.lt_irrefl]
 ·rw [cast0] at e
  exact .inr e
theorem bn_l2 (hT:BadT CT) (hN:ConT CT) (base:Nat) {A A1:Heap} {w sm:Nat} {fv0:V} {fs0:List FunD} (hc:NC A w sm fv0 fs0) (h1:Ext A A1) (hb:base≤A.length) (hg:getC A1 A.length 0=some [Iz 0,Iz 0,Iz 0]) {fv:V} {l:List FunD} (hv:RdL 3 RdFun A fv l) (hn:l.length < 2 ^ 20) (h1':CT k_f94=some (.code s_f94)) (hps:∀ f∈l,f.ps.length < 2 ^ 20) (hnb:∀ f∈l,f.blocks.length < 2 ^ 20) (hnc:∀ f∈l,∀ b∈f.blocks,b.code.length < 2 ^ 20) (hxs:∀ f∈l,∀ b∈f.blocks,∀ x∈b.code,x.xs.length < 2 ^ 20) (hls:∀ f∈l,∀ b∈f.blocks,∀ x∈b.code,x.ls.length < 2 ^ 20) {L:Nat} (hL:A1.length≤L) (hA1:A.length < A1.length):
 ∀ C,Ext A1 C→(srch (bnF) l 0=none∧∃ C',itW (evC (callW CT) itW base s_f37_l2) [] L (frOf 140 [(0,.ref w 0 0),(2,.ref A.length 0 0),(16,fv),(17,Iz l.length),(18,Iz 0)]) C=some (.ext 0,frOf 140 [(0,.ref w 0 0),(2,.ref A.length 0 0),(16,fv),(17,Iz l.length),(18,Iz l.length),(19,bl false)],C')∧Ext A1 C')∨∃ t,srch (bnF) l 0=some t∧Found A 140 A.length t (itW (evC (callW CT) itW base s_f37_l2) [] L (frOf 140 [(0,.ref w 0 0),(2,.ref A.length 0 0),(16,fv),(17,Iz l.length),(18,Iz 0)]) C):=by
 intro C0 hC0
 rcases it_srch l fun0 (bnF) (fun _ C=>Ext A1 C) (fun k C=>itW (evC (callW CT) itW base s_f37_l2) [] L (frOf 140 [(0,.ref w 0 0),(2,.ref A.length 0 0),(16,fv),(17,Iz l.length),(18,Iz k)]) C) (Found A 140 A.length) (by
  intro k C hk hE
  have hlt':((k:Int) < (l.length:Int)):=by omega
  have hwk:=w64 (n:=k) (by omega)
  have hle:=hE.le
  have hkx:=some_getD hk fun0
  obtain ⟨x,hxe⟩:∃ x,l.getD k fun0=x:=⟨_,rfl⟩
  rw [hxe] at hkx ⊢
  have hmem:=List.mem_of_getElem? hkx
  obtain ⟨a,r,a1,hr,a2,_⟩:=hv.at2 hkx
  have hEA:=h1.trans hE
  have ld:=a2 C hEA
  have hbC:base≤C.length:=by omega
  have hgg:∀ c,getC (C ++ [Ob.cells 0 c]) C.length 0=some c:=fun c=>getC_new C 0 c
  have hss:∀ c d,(C ++ [c]).set C.length d=C ++ [d]:=fun c d=>set_snoc C c d
  have eC:∀ c,Ext C (C ++ [Ob.cells 0 c]):=fun c=>Ext.app _ _
  have g2:∀ D,Ext A1 D→getC D A.length 0=some [Iz 0,Iz 0,Iz 0]:=fun D h=>getC_ext hg h
  obtain ⟨pv,bv,rfl,p1,p2,p3,hbv⟩:=hr
  have hpo:=p1.one
  have hbo:=hbv.one
  have hl2:(C ++ [Ob.cells 0 [Sb x.name,pv,bv]]).length=C.length+1:=by simp
  have hcal:=fun D=>is_fun CT hT.is' x.name base D
  unfold bnF
  cases hq:isName x.name with
  | false=>
    rw [hq] at hcal
    refine .inr ⟨(k,0,0),if_pos rfl,trim L (frOf 140 [(2,.ref A.length 0 0),(3,bl true)]) ((C ++ [Ob.cells 0 [Sb x.name,pv,bv]]).set A.length (.cells 0 [Iz k,Iz 0,Iz 0])),?_,?_,?_⟩
    ·have hgc:=g2 (C ++ [Ob.cells 0 [Sb x.name,pv,bv]]) (hE.trans (eC _))
     rw [itW_step]
     simp only [Iz,bl] at hgc hcal
     simp only [Iz,bl,a_f37,s_f37_l0_b,s_f37_l1_b,s_f37_l2_b,aa,reduceIte,reduceCtorEq,Nat.reduceEqDiff,Nat.reduceLT,Nat.reduceLeDiff,Nat.reduceBEq,Nat.reduceAdd,Nat.reduceMul,op_appR,hlt',a1,ld,hbC,hgg,hss,hpo,hbo,Bool.and_self,hcal,hgc,hb]
    ·exact ((hEA.trans (eC _)).set (Nat.le_refl _) _).trim (by omega) _
    ·exact trim_get (getC_put (g2 _ (hE.trans (eC _)))) (by omega)
  | true=>
    rw [hq] at hcal
    obtain ⟨C3,hcon,e3⟩:=conS_fun hT.con hT.idx base (C ++ [Ob.cells 0 [Sb x.name,pv,bv]]) (f:=.fn k_f94 [] []) (p:=fun s=>!isName s) (p1.ext (hEA.trans (eC _))) p2 (fun s _ D _=>⟨D,badName1_fun hT.is' h1' base D s,Ext.refl D⟩) (by have:=hps x hmem;omega)
    have hl3:=e3.le
    rw [hl2] at hl3
    have hgg3:=getC_ext (hgg [Sb x.name,pv,bv]) e3
    have hE3:=hE.trans ((eC _).trans e3)
    cases hq2:x.ps.any (fun s=>!isName s) with
    | true=>
      rw [hq2] at hcon
      refine .inr ⟨(k,0,0),if_pos rfl,trim L (frOf 140 [(2,.ref A.length 0 0),(3,bl true)]) (C3.set A.length (.cells 0 [Iz k,Iz 0,Iz 0])),?_,?_,?_⟩
      ·have hgc:=g2 C3 hE3
       rw [itW_step]
       simp only [Iz,bl] at hgc hcal hcon
       simp only [Iz,bl,a_f37,s_f37_l0_b,s_f37_l1_b,s_f37_l2_b,aa,reduceIte,reduceCtorEq,Nat.reduceEqDiff,Nat.reduceLT,Nat.reduceLeDiff,Nat.reduceBEq,Nat.reduceAdd,Nat.reduceMul,op_appR,hlt',a1,ld,hbC,hgg,hss,hpo,hbo,Bool.and_self,hcal,hcon,hgc,hb]
      ·exact ((h1.trans hE3).set (Nat.le_refl _) _).trim (by omega) _
      ·exact trim_get (getC_put (g2 _ hE3)) (by omega)
    | false=>
      rw [hq2] at hcon
      rw [if_neg (show ¬ (!true || false)=true by decide)]
      have hbl:=(rdB_ext hbv (h1.trans hE3)).len
      have hin:=bn_l1 (CT:=CT) hT hN base hc h1 hb hg (v16:=fv) (i:=k) (n17:=l.length) (n18:=k) hbv (hnb x hmem) (hnc x hmem) (hxs x hmem) (hls x hmem) (L:=C3.length) (by have:=hE3.le;omega) hA1 C3 hE3
      simp only [Iz,bl] at hcal hcon
      rcases hin with ⟨z1,C2,z2,z3⟩ | ⟨t,z1,D,z2,z3,z4⟩
      ·refine .inl ⟨z1,trim L (frOf 140 [(0,.ref w 0 0),(2,.ref A.length 0 0),(16,fv),(17,Iz l.length),(18,Iz (k+1:Nat))]) C2,?_,z3.trim (by omega) _⟩
       rw [itW_step]
       simp only [Iz,bl] at z2
       simp only [Iz,bl,a_f37,s_f37_l0_b,s_f37_l1_b,s_f37_l2_b,aa,reduceIte,reduceCtorEq,Nat.reduceEqDiff,Nat.reduceLT,Nat.reduceLeDiff,Nat.reduceBEq,Nat.reduceAdd,Nat.reduceMul,op_appR,hlt',a1,ld,hbC,hgg,hss,hpo,hbo,Bool.and_self,hcal,hcon,hgg3,hbl,z2,hwk]
      ·refine .inr ⟨t,z1,trim L (frOf 140 [(2,.ref A.length 0 0),(3,bl true)]) D,?_,z3.trim (by omega) _,trim_get z4 (by omega)⟩
       rw [itW_step]
       simp only [Iz,bl] at z2
       simp only [Iz,bl,a_f37,s_f37_l0_b,s_f37_l1_b,s_f37_l2_b,aa,reduceIte,reduceCtorEq,Nat.reduceEqDiff,Nat.reduceLT,Nat.reduceLeDiff,Nat.reduceBEq,Nat.reduceAdd,Nat.reduceMul,op_appR,hlt',a1,ld,hbC,hgg,hss,hpo,hbo,Bool.and_self,hcal,hcon,hgg3,hbl,z2]) C0 hC0 with ⟨e1,C,e2,e3⟩ | e
 ·refine .inl ⟨e1,trim L (frOf 140 [(0,.ref w 0 0),(2,.ref A.length 0 0),(16,fv),(17,Iz l.length),(18,Iz l.length),(19,bl false)]) C,?_,e3.trim (by omega) _⟩
  rw [cast0] at e2
  refine e2.trans ?_
  rw [itW_step]
  simp only [Iz,bl,a_f37,s_f37_l0_b,s_f37_l1_b,s_f37_l2_b,aa,reduceIte,reduceCtorEq,Nat.reduceEqDiff,Nat.reduceLT,Nat.reduceLeDiff,Nat.reduceBEq,Nat.reduceAdd,Nat.reduceMul,op_appR,Int.lt_irrefl]
 ·rw [cast0] at e
  exact .inr e
theorem badName_fun (hT:CT k_f37=some (.code s_f37)) (h1':CT k_f94=some (.code s_f94)) (hB:BadT CT) (hN:ConT CT) (base:Nat) {A:Heap} (hb:base≤A.length) {w sm:Nat} {fv:V} {fs:List FunD} (hc:NC A w sm fv fs):
 ∃ H',callW CT (.fn k_f37 [] []) [.ref w 0 0] base A=some (resP (srch bnF fs 0),H')∧Ext A H':=by
 have e1:Ext A (A ++ [Ob.cells 0 [Iz 0,Iz 0,Iz 0]]):=Ext.app _ _
 have x1:=hc.load e1
 have hl:=(hc.rd.ext e1).len
 have g1:getC (A ++ [Ob.cells 0 [Iz 0,Iz 0,Iz 0]]) A.length 0=some [Iz 0,Iz 0,Iz 0]:=getC_new A 0 _
 have hl1:(A ++ [Ob.cells 0 [Iz 0,Iz 0,Iz 0]]).length=A.length+1:=by simp
 rcases bn_l2 (CT:=CT) hB hN base hc e1 hb g1 hc.rd hc.sml.n h1' hc.sml.ps hc.sml.nb hc.sml.nc hc.sml.xs hc.sml.ls (L:=A.length+1) (by omega) (by omega) (A ++ [Ob.cells 0 [Iz 0,Iz 0,Iz 0]]) (Ext.refl _) with ⟨q1,C,q2,q3⟩ | ⟨⟨i,b,k⟩,q1,D,q2,q3,q4⟩
 ·have g2:=getC_ext g1 q3
  have g3:=getC_put (c':=[Iz 0,Iz 0,Iz 0]) g2
  refine ⟨C.set A.length (.cells 0 [Iz 0,Iz 0,Iz 0]),callW_fnA (c:=s_f37) (k:=1) hT rfl (by decide) s_f37_first ?_,(e1.trans q3).set (Nat.le_refl _) _⟩
  rw [q1]
  have xR:loadV (C.set A.length (.cells 0 [Iz 0,Iz 0,Iz 0])) true 3 (.ref A.length 0 0)=some (.agg [Iz 0,Iz 0,Iz 0]):=by
   show xLoad _ true 3 _=_
   rw [xo_ref,g3];rfl
  simp only [Iz,bl] at x1 hl hl1 q2 g2 xR
  simp only [Iz,s_f37,a_f37,s_f37_l0_b,s_f37_l1_b,s_f37_l2_b,aa,reduceIte,reduceCtorEq,Nat.reduceEqDiff,Nat.reduceLT,Nat.reduceLeDiff,Nat.reduceBEq,Nat.reduceAdd,Nat.reduceMul,op_appR,x1,hl,hl1,q2,g2,hb]
  rw [xR]
  rfl
 ·refine ⟨D,callW_fnA (c:=s_f37) (k:=1) hT rfl (by decide) s_f37_first ?_,q3⟩
  rw [q1]
  have xR:loadV D true 3 (.ref A.length 0 0)=some (.agg [Iz i,Iz b,Iz k]):=by
   show xLoad _ true 3 _=_
   rw [xo_ref,q4];rfl
  simp only [Iz,bl] at x1 hl hl1 q2 xR
  simp only [Iz,s_f37,a_f37,s_f37_l0_b,s_f37_l1_b,s_f37_l2_b,aa,reduceIte,reduceCtorEq,Nat.reduceEqDiff,Nat.reduceLT,Nat.reduceLeDiff,Nat.reduceBEq,Nat.reduceAdd,Nat.reduceMul,op_appR,x1,hl,hl1,q2]
  rw [xR]
  rfl
end
end Go.Proofs.YtngfpadeebpoeaaGreatDoor
set_option maxRecDepth 100000
namespace Go.Proofs.YtngfpadeebpoeaaGreatDoor
open Go.AM
section
variable {CT:Nat→Option CFun}
theorem badInstr_fun (hF:FindT CT) (hCl:CT k_f100=some (.code s_f100)) (hT1:CT k_f104=some (.code s_f104)) (hT:CT k_f44=some (.code s_f44)) (base:Nat) {A:Heap} (hb:base≤A.length) {w sm:Nat} {fv:V} {fs:List FunD} (hc:NC A w sm fv fs):
 ∃ H',callW CT (.fn k_f44 [] []) [.ref w 0 0] base A=some (resP (gSrch (fun _=>fun _ _ _ x=>biG x) fs),H')∧Ext A H':=by
 have e1:Ext A (A ++ [Ob.cells 0 [.ref w 0 0]]):=Ext.app _ _
 have e2:Ext (A ++ [Ob.cells 0 [.ref w 0 0]]) (A ++ [Ob.cells 0 [.ref w 0 0]] ++ [Ob.cells 0 [Iz 0,Iz 0,Iz 0]]):=Ext.app _ _
 have hw:getC (A ++ [Ob.cells 0 [.ref w 0 0]] ++ [Ob.cells 0 [Iz 0,Iz 0,Iz 0]]) A.length 0=some [.ref w 0 0]:=getC_ext (getC_new A 0 _) e2
 have hl:=len_snoc A (Ob.cells 0 [.ref w 0 0])
 have hb1:base≤A.length+1:=by omega
 have hb2:base≤(A ++ [Ob.cells 0 [.ref w 0 0]] ++ [Ob.cells 0 [Iz 0,Iz 0,Iz 0]]).length:=by rw [len_snoc,len_snoc];omega
 obtain ⟨H1,h1,h2⟩:=find_pure hF base hb2 (hc.ext (e1.trans e2)) (f:=.fn k_f104 [] [.ref A.length 0 0]) rfl (g:=fun _ _ _ x=>biG x) (fun i f1 hi b x hx k z r hz hr D hD=>badInstr1_fun hCl hT1 base hb2 (hc.ext (e1.trans e2)) hw hr D hD)
 have g2:getC H1 (A.length+1) 0=some [Iz 0,Iz 0,Iz 0]:=by
  have:=getC_new (A ++ [Ob.cells 0 [.ref w 0 0]]) 0 [Iz 0,Iz 0,Iz 0]
  rw [len_snoc] at this
  exact getC_ext this h2
 have hwx:=getC_load hw
 cases ho:gSrch (fun _=>fun _ _ _ x=>biG x) fs with
 | none=>
   rw [ho] at h1
   have g3:=getC_put (c':=[Iz 0,Iz 0,Iz 0]) g2
   refine ⟨H1.set (A.length+1) (.cells 0 [Iz 0,Iz 0,Iz 0]),callW_fnA (c:=s_f44) (k:=1) hT rfl (by decide) s_f44_first ?_,((e1.trans e2).trans h2).set (Nat.le_succ _) _⟩
   have xR:loadV (H1.set (A.length+1) (.cells 0 [Iz 0,Iz 0,Iz 0])) true 3 (.ref (A.length+1) 0 0)=some (.agg [Iz 0,Iz 0,Iz 0]):=by
    show xLoad _ true 3 _=_
    rw [xo_ref,g3];rfl
   simp only [resP,Iz,bl] at h1 g2 xR
   simp only [Iz,s_f44,a_f44,aa,reduceIte,reduceCtorEq,Nat.reduceEqDiff,Nat.reduceLT,Nat.reduceLeDiff,Nat.reduceBEq,Nat.reduceAdd,Nat.reduceMul,op_appR,xsub_mkFn,hl,hwx,h1,g2,hb1]
   rw [xR]
   rfl
 | some t=>
   obtain ⟨i,b,k⟩:=t
   rw [ho] at h1
   have g3:=getC_put (c':=[Iz i,Iz b,Iz k]) g2
   refine ⟨H1.set (A.length+1) (.cells 0 [Iz i,Iz b,Iz k]),callW_fnA (c:=s_f44) (k:=1) hT rfl (by decide) s_f44_first ?_,((e1.trans e2).trans h2).set (Nat.le_succ _) _⟩
   have xR:loadV (H1.set (A.length+1) (.cells 0 [Iz i,Iz b,Iz k])) true 3 (.ref (A.length+1) 0 0)=some (.agg [Iz i,Iz b,Iz k]):=by
    show xLoad _ true 3 _=_
    rw [xo_ref,g3];rfl
   simp only [resP,Iz,bl] at h1 g2 xR
   simp only [Iz,s_f44,a_f44,aa,reduceIte,reduceCtorEq,Nat.reduceEqDiff,Nat.reduceLT,Nat.reduceLeDiff,Nat.reduceBEq,Nat.reduceAdd,Nat.reduceMul,op_appR,xsub_mkFn,hl,hwx,h1,g2,hb1]
   rw [xR]
   rfl
end
end Go.Proofs.YtngfpadeebpoeaaGreatDoor
set_option maxRecDepth 100000
namespace Go.Proofs.YtngfpadeebpoeaaGreatDoor
open Go.AM
theorem callW_fst {CP:Nat→Option CFun} {k:Nat} {a:V} {args:List V} {base:Nat} {H:Heap} {r:V × Heap} (h:callW CP (.fn k [] []) (a :: args) base H=some r):callW CP (.fn k [a] []) args base H=some r:=by
 obtain ⟨n,hn⟩:=callW_ex h
 refine callW_of (n:=n) ?_
 rw [← hn]
 cases n <;> rfl
structure RulT (CT:Nat→Option CFun):Prop where
 F:FindT CT
 B:BadT CT
 N:ConT CT
 badName:CT k_f37=some (.code s_f37)
 badInstr:CT k_f44=some (.code s_f44)
 badInstr_1:CT k_f104=some (.code s_f104)
 badName_1:CT k_f94=some (.code s_f94)
 calls:CT k_f100=some (.code s_f100)
 shapes:CT k_f35=some (.code s_f35)
def firstN (fs:List FunD):Nat→Option Pt
 | 2=>srch bnF fs 0
 | 9=>gSrch (fun _=>fun _ _ _ x=>biG x) fs
 | _=>none
def fnT (w:Nat):List (Int × V):=[(1,.fn 36 [.ref w 0 0] []),(2,.fn 37 [.ref w 0 0] []),(3,.fn 38 [.ref w 0 0] []),(4,.fn 39 [.ref w 0 0] []),(5,.fn 40 [.ref w 0 0] []),(6,.fn 41 [.ref w 0 0] []),(7,.fn 42 [.ref w 0 0] []),(8,.fn 43 [.ref w 0 0] []),(9,.fn 44 [.ref w 0 0] []),(10,.fn 45 [.ref w 0 0] []),(11,.fn 46 [.ref w 0 0] []),(12,.fn 47 [.ref w 0 0] []),(13,.fn 48 [.ref w 0 0] []),(14,.fn 49 [.ref w 0 0] []),(15,.fn 50 [.ref w 0 0] []),(16,.fn 51 [.ref w 0 0] [])]
section
variable {CT:Nat→Option CFun}
theorem rule_fun (h:RulT CT) (base:Nat) {A:Heap} (hb:base≤A.length) {w sm:Nat} {fv:V} {fs:List FunD} (hc:NC A w sm fv fs) {r:Nat} (hr:r=2∨r=9):
 ∃ k H',lookI (fnT w) r=some (.fn k [.ref w 0 0] [])∧callW CT (.fn k [.ref w 0 0] []) [] base A=some (resP (firstN fs r),H')∧Ext A H':=by
 rcases hr with rfl | rfl
 ·obtain ⟨H',e1,e2⟩:=badName_fun h.badName h.badName_1 h.B h.N base hb hc
  exact ⟨_,H',rfl,callW_fst e1,e2⟩
 ·obtain ⟨H',e1,e2⟩:=badInstr_fun h.F h.calls h.badInstr_1 h.badInstr base hb hc
  exact ⟨_,H',rfl,callW_fst e1,e2⟩
theorem first_fun (h:RulT CT) (hT:CT k_f16=some (.code s_f16)) (base:Nat) {A:Heap} (hb:base≤A.length) {fv:V} {fs:List FunD} (hr:RdProg A fv fs) (hs:Small fs) {r:Nat} (hr2:r=2∨r=9):
 ∃ H',callW CT (.fn k_f16 [] []) [.agg [fv],.s (.int .u8 r)] base A=some (resP (firstN fs r),H')∧Ext A H':=by
 have hfo:=hr.one
 obtain ⟨A1,hA1⟩:∃ A1,A ++ [Ob.cells 0 [fv]]=A1:=⟨_,rfl⟩
 have l1:A1.length=A.length+1:=by rw [← hA1,len_snoc]
 obtain ⟨A2,hA2⟩:∃ A2,A1 ++ [Ob.cells 0 [Iz 0,Iz 0,Iz 0]]=A2:=⟨_,rfl⟩
 have l2:A2.length=A.length+2:=by rw [← hA2,len_snoc,l1]
 obtain ⟨A3,hA3⟩:∃ A3,A2 ++ [Ob.map (esI .u8 shT)]=A3:=⟨_,rfl⟩
 have l3:A3.length=A.length+3:=by rw [← hA3,len_snoc,l2]
 obtain ⟨A4,hA4⟩:∃ A4,A3 ++ [Ob.cells 0 [fv,.mp (A.length+2)]]=A4:=⟨_,rfl⟩
 have l4:A4.length=A.length+4:=by rw [← hA4,len_snoc,l3]
 have e1:Ext A A1:=hA1 ▸ Ext.app _ _
 have e2:Ext A1 A2:=hA2 ▸ Ext.app _ _
 have e3:Ext A2 A3:=hA3 ▸ Ext.app _ _
 have e4:Ext A3 A4:=hA4 ▸ Ext.app _ _
 obtain ⟨w,hw⟩:∃ w,A.length+3=w:=⟨_,rfl⟩
 obtain ⟨A5,hA5⟩:∃ A5,A4 ++ [Ob.map (esI .u8 (fnT w))]=A5:=⟨_,rfl⟩
 have l5:A5.length=A.length+5:=by rw [← hA5,len_snoc,l4]
 have e5:Ext A4 A5:=hA5 ▸ Ext.app _ _
 have x1:getC A1 A.length 0=some [fv]:=hA1 ▸ getC_new A 0 _
 have x2:getC A2 (A.length+1) 0=some [Iz 0,Iz 0,Iz 0]:=by rw [← l1,← hA2];exact getC_new A1 0 _
 have x2p:=getC_load (getC_ext x1 e2)
 have ld1:xLoad A2 true 1 (.ref A.length 0 0)=some (.agg [fv]):=by rw [xo_ref,getC_ext x1 e2];rfl
 have hsh:=shapes_fun h.shapes A2.length A2 (Nat.le_refl _)
 rw [hA3,l2] at hsh
 have hc:NC A5 w (A.length+2) fv fs:=by
  refine ⟨?_,hr.ext (e1.trans (e2.trans (e3.trans (e4.trans e5)))),hs,?_⟩
  ·rw [← hw,← l3]
   exact getC_ext (by rw [← hA4];exact getC_new A3 0 _) e5
  ·refine Ext.at' (e4.trans e5) ?_
   rw [← hA3,← l2]
   simp
 have hA5':A5[A.length+4]?=some (.map (esI .u8 (fnT w))):=by rw [← hA5,← l4];simp
 have hmg:=get_I .u8 hA5' (.s .nilFunc) false (r:Int)
 rw [if_neg Bool.false_ne_true] at hmg
 have hb4:base≤A4.length:=by omega
 have e0:(Ob.map []:Ob)=.map (esI .u8 []):=rfl
 have u1:=upd_I hb4 .u8 ((fnT w).take 0) 1 (.fn 36 [.ref w 0 0] []) (by rfl)
 have u2:=upd_I hb4 .u8 ((fnT w).take 1) 2 (.fn 37 [.ref w 0 0] []) (by rfl)
 have u3:=upd_I hb4 .u8 ((fnT w).take 2) 3 (.fn 38 [.ref w 0 0] []) (by rfl)
 have u4:=upd_I hb4 .u8 ((fnT w).take 3) 4 (.fn 39 [.ref w 0 0] []) (by rfl)
 have u5:=upd_I hb4 .u8 ((fnT w).take 4) 5 (.fn 40 [.ref w 0 0] []) (by rfl)
 have u6:=upd_I hb4 .u8 ((fnT w).take 5) 6 (.fn 41 [.ref w 0 0] []) (by rfl)
 have u7:=upd_I hb4 .u8 ((fnT w).take 6) 7 (.fn 42 [.ref w 0 0] []) (by rfl)
 have u8:=upd_I hb4 .u8 ((fnT w).take 7) 8 (.fn 43 [.ref w 0 0] []) (by rfl)
 have u9:=upd_I hb4 .u8 ((fnT w).take 8) 9 (.fn 44 [.ref w 0 0] []) (by rfl)
 have u10:=upd_I hb4 .u8 ((fnT w).take 9) 10 (.fn 45 [.ref w 0 0] []) (by rfl)
 have u11:=upd_I hb4 .u8 ((fnT w).take 10) 11 (.fn 46 [.ref w 0 0] []) (by rfl)
 have u12:=upd_I hb4 .u8 ((fnT w).take 11) 12 (.fn 47 [.ref w 0 0] []) (by rfl)
 have u13:=upd_I hb4 .u8 ((fnT w).take 12) 13 (.fn 48 [.ref w 0 0] []) (by rfl)
 have u14:=upd_I hb4 .u8 ((fnT w).take 13) 14 (.fn 49 [.ref w 0 0] []) (by rfl)
 have u15:=upd_I hb4 .u8 ((fnT w).take 14) 15 (.fn 50 [.ref w 0 0] []) (by rfl)
 have u16:=upd_I hb4 .u8 ((fnT w).take 15) 16 (.fn 51 [.ref w 0 0] []) (by rfl)
 rw [show (fnT w).take 15 ++ [(16,.fn 51 [.ref w 0 0] [])]=fnT w from rfl,hA5] at u16
 simp only [fnT,List.take_succ_cons,List.take_zero,List.cons_append,List.nil_append,l4] at u1
 simp only [fnT,List.take_succ_cons,List.take_zero,List.cons_append,List.nil_append,l4] at u2
 simp only [fnT,List.take_succ_cons,List.take_zero,List.cons_append,List.nil_append,l4] at u3
 simp only [fnT,List.take_succ_cons,List.take_zero,List.cons_append,List.nil_append,l4] at u4
 simp only [fnT,List.take_succ_cons,List.take_zero,List.cons_append,List.nil_append,l4] at u5
 simp only [fnT,List.take_succ_cons,List.take_zero,List.cons_append,List.nil_append,l4] at u6
 simp only [fnT,List.take_succ_cons,List.take_zero,List.cons_append,List.nil_append,l4] at u7
 simp only [fnT,List.take_succ_cons,List.take_zero,List.cons_append,List.nil_append,l4] at u8
 simp only [fnT,List.take_succ_cons,List.take_zero,List.cons_append,List.nil_append,l4] at u9
 simp only [fnT,List.take_succ_cons,List.take_zero,List.cons_append,List.nil_append,l4] at u10
 simp only [fnT,List.take_succ_cons,List.take_zero,List.cons_append,List.nil_append,l4] at u11
 simp only [fnT,List.take_succ_cons,List.take_zero,List.cons_append,List.nil_append,l4] at u12
 simp only [fnT,List.take_succ_cons,List.take_zero,List.cons_append,List.nil_append,l4] at u13
 simp only [fnT,List.take_succ_cons,List.take_zero,List.cons_append,List.nil_append,l4] at u14
 simp only [fnT,List.take_succ_cons,List.take_zero,List.cons_append,List.nil_append,l4] at u15
 simp only [fnT,List.take_succ_cons,List.take_zero,l4] at u16
 have x5:=getC_ext x2 (e3.trans (e4.trans e5))
 have hb1:base≤A.length+1:=by omega
 have hb4':base≤A.length+4:=by omega
 have ee:Ext A A5:=e1.trans (e2.trans (e3.trans (e4.trans e5)))
 have ea:Ext A A1:=e1
 simp only [Iz] at hA2 x5
 ·obtain ⟨k,H1,k1,k2,k3⟩:=rule_fun h base (A:=A5) (by omega) hc hr2
  rw [k1,Option.getD_some] at hmg
  have g2:=getC_ext x5 k3
  cases ho:firstN fs r with
  | none=>
    rw [ho] at k2
    have g3:=getC_put (c':=[Iz 0,Iz 0,Iz 0]) g2
    have xR:loadV (H1.set (A.length+1) (.cells 0 [Iz 0,Iz 0,Iz 0])) true 3 (.ref (A.length+1) 0 0)=some (.agg [Iz 0,Iz 0,Iz 0]):=by
     show xLoad _ true 3 _=_
     rw [xo_ref,g3];rfl
    refine ⟨H1.set (A.length+1) (.cells 0 [Iz 0,Iz 0,Iz 0]),callW_fnA (c:=s_f16) (k:=2) hT rfl (by decide) s_f16_first ?_,(ee.trans k3).set (Nat.le_succ _) _⟩
    simp only [resP,Iz,bl] at k2 g2 xR
    simp only [Iz,s_f16,a_f16,aa,reduceIte,reduceCtorEq,Nat.reduceEqDiff,Nat.reduceLT,Nat.reduceLeDiff,Nat.reduceBEq,Nat.reduceAdd,Nat.reduceMul,op_appR,op_mapNew,op_mapUpd,xsub_mkFn,hfo,Bool.and_self,hA1,l1,hA2,l2,ld1,hsh,l3,hA4,l4,hw,hb4',hb4,e0,u1,u2,u3,u4,u5,u6,u7,u8,u9,u10,u11,u12,u13,u14,u15,u16,hmg,k2,g2,hb1]
    rw [xR]
    rfl
  | some t=>
    obtain ⟨i,b,q⟩:=t
    rw [ho] at k2
    have g3:=getC_put (c':=[Iz i,Iz b,Iz q]) g2
    have xR:loadV (H1.set (A.length+1) (.cells 0 [Iz i,Iz b,Iz q])) true 3 (.ref (A.length+1) 0 0)=some (.agg [Iz i,Iz b,Iz q]):=by
     show xLoad _ true 3 _=_
     rw [xo_ref,g3];rfl
    refine ⟨H1.set (A.length+1) (.cells 0 [Iz i,Iz b,Iz q]),callW_fnA (c:=s_f16) (k:=2) hT rfl (by decide) s_f16_first ?_,(ee.trans k3).set (Nat.le_succ _) _⟩
    simp only [resP,Iz,bl] at k2 g2 xR
    simp only [Iz,s_f16,a_f16,aa,reduceIte,reduceCtorEq,Nat.reduceEqDiff,Nat.reduceLT,Nat.reduceLeDiff,Nat.reduceBEq,Nat.reduceAdd,Nat.reduceMul,op_appR,op_mapNew,op_mapUpd,xsub_mkFn,hfo,Bool.and_self,hA1,l1,hA2,l2,ld1,hsh,l3,hA4,l4,hw,hb4',hb4,e0,u1,u2,u3,u4,u5,u6,u7,u8,u9,u10,u11,u12,u13,u14,u15,u16,hmg,k2,g2,hb1]
    rw [xR]
    rfl
end
end Go.Proofs.YtngfpadeebpoeaaGreatDoor
set_option maxRecDepth 100000
namespace Go.Proofs.YtngfpadeebpoeaaGreatDoor
open Go.AM
section
variable {CT:Nat→Option CFun}
theorem len_fun (hT:CT k_f23=some (.code s_f23)) (base:Nat) {m b:Nat} {H:Heap} {txt:List UInt8} (hB:Bld m H b txt):callW CT (.fn k_f23 [] []) [.ref b 0 0] base H=some (Iz txt.length,H):=by
 refine callW_fn (c:=s_f23) hT (by simp [s_f23]) ?_
 obtain ⟨_,⟨rfl,hg⟩ | ⟨id,g,hg,_⟩⟩:=hB
 ·simp only [s_f23,a_f23,aa,reduceIte,reduceCtorEq,Nat.reduceEqDiff,Nat.reduceLT,Nat.reduceLeDiff,Nat.reduceBEq,Nat.reduceAdd,Nat.reduceMul,op_appR,hg]
 ·simp only [s_f23,a_f23,aa,reduceIte,reduceCtorEq,Nat.reduceEqDiff,Nat.reduceLT,Nat.reduceLeDiff,Nat.reduceBEq,Nat.reduceAdd,Nat.reduceMul,op_appR,hg]
  try rfl
theorem bst_fun (h:LibT CT) {base m b:Nat} (hb:base≤m) {H:Heap} {txt:List UInt8} (hB:Bld m H b txt) (hl:txt.length≤140737488355328):∃ H',callW CT (.fn k_f24 [] []) [.ref b 0 0] base H=some (.s (.string ⟨txt.toArray⟩),H')∧H.length≤H'.length∧∀ i,i < m→H'[i]?=H[i]?:=by
 obtain ⟨hm,⟨rfl,hg⟩ | ⟨id,g,hg,hH,hid,hne⟩⟩:=hB
 ·refine ⟨H,callW_eq ?_,Nat.le_refl _,fun _ _=>rfl⟩
  simp only [evCall,h.bst,bstG,List.nil_append,List.append_nil,hg]
 ·by_cases h0:txt.length=0
  ·have ht:txt=[]:=List.eq_nil_of_length_eq_zero h0
   exact absurd ht hne
  ·refine ⟨H.set id .dead,callW_eq ?_,by simp,fun i hi=>by rw [List.getElem?_set_ne (by omega)]⟩
   simp only [evCall,h.bst,bstG,List.nil_append,List.append_nil,hg,hH]
   rw [if_pos ⟨by omega,h0,hl⟩]
   simp only [and_self,if_true]
end
end Go.Proofs.YtngfpadeebpoeaaGreatDoor
set_option maxRecDepth 100000
namespace Go.Proofs.YtngfpadeebpoeaaGreatDoor
open Go.AM
section
variable {CT:Nat→Option CFun}
theorem rule_none (h:RulT CT) (hT:CT k_f16=some (.code s_f16)) (base:Nat) {A2:Heap} (hb:base≤A2.length) {p q:Nat} {fv:V} {fs:List FunD} (hr:RdProg A2 fv fs) (hs:Small fs) (hp:getC A2 p 0=some [fv]) (hq:getC A2 q 0=some [.s (.int .u8 2),.s (.int .u8 9)]) {i r:Nat} (hi:i=0∧r=2∨i=1∧r=9) (ho:firstN fs r=none) {C:Heap} (hE:Ext A2 C):
 ∃ C',itW (evC (callW CT) itW base s_f10_l0) [] A2.length (frOf 98 [(1,.ref p 0 0),(18,.sl q 0 0 2 1),(19,Iz 2),(20,Iz i)]) C=itW (evC (callW CT) itW base s_f10_l0) [] A2.length (frOf 98 [(1,.ref p 0 0),(18,.sl q 0 0 2 1),(19,Iz 2),(20,Iz ((i+1:Nat):Int))]) C'∧Ext A2 C':=by
 have hr2:r=2∨r=9:=by omega
 obtain ⟨D,h1,h2⟩:=first_fun h hT base (A:=C) (by have:=hE.le;omega) (hr.ext hE) hs hr2
 rw [ho] at h1
 have hpl:xLoad C true 1 (.ref p 0 0)=some (.agg [fv]):=by rw [xo_ref,getC_ext hp hE];rfl
 have hqc:=getC_ext hq hE
 have hss:∀ c d,(D ++ [c]).set D.length d=D ++ [d]:=fun c d=>set_snoc D c d
 have hgz:∀ c,getC (D ++ [Ob.cells 0 c]) D.length 0=some c:=fun c=>getC_new D 0 c
 have hbD:base≤D.length:=by have:=(hE.trans h2).le;omega
 refine ⟨trim A2.length (frOf 98 [(1,.ref p 0 0),(18,.sl q 0 0 2 1),(19,Iz 2),(20,Iz ((i+1:Nat):Int))]) (D ++ [Ob.cells 0 [Iz 0,Iz 0,Iz 0]]),?_,((hE.trans h2).trans (Ext.app _ _)).trim (Nat.le_refl _) _⟩
 have d0:decide ((0:Int) < 2)=true:=rfl
 have d1:decide ((1:Int) < 2)=true:=rfl
 have u0:((0:Int) < ((2:Nat):Int))=True:=eq_true (by decide)
 have u1:((1:Int) < ((2:Nat):Int))=True:=eq_true (by decide)
 have i0:xIndexAddr 1 (.sl q 0 0 2 1) (.s (.int .i64 ((0:Nat):Int)))=some (.ref q 0 0):=rfl
 have i1:xIndexAddr 1 (.sl q 0 0 2 1) (.s (.int .i64 ((1:Nat):Int)))=some (.ref q 0 1):=rfl
 have l0:xLoad C false 1 (.ref q 0 0)=some (.s (.int .u8 2)):=by rw [xo_ref,hqc];rfl
 have l1:xLoad C false 1 (.ref q 0 1)=some (.s (.int .u8 9)):=by rw [xo_ref,hqc];rfl
 rw [itW_step]
 rcases hi with ⟨rfl,rfl⟩ | ⟨rfl,rfl⟩
 ·simp only [resP,Iz,bl] at h1 hss hgz
  rw [show ((2:Nat):Int)=2 from rfl] at h1
  simp only [Iz,s_f10_l0_ev,a_f10,s_f10_l0_b,s_f10_l1_b,s_f10_l2_b,s_f10_l3_b,aa,reduceIte,reduceCtorEq,Nat.reduceEqDiff,Nat.reduceLT,Nat.reduceLeDiff,Nat.reduceBEq,Nat.reduceAdd,Nat.reduceMul,op_appR,hpl,d0,u0,i0,l0,h1,hss,hgz,hbD,if_true,cond_true,cond_false,w64 (show 0 < 2 ^ 62 by decide)]
  try rfl
 ·simp only [resP,Iz,bl] at h1 hss hgz
  rw [show ((9:Nat):Int)=9 from rfl] at h1
  simp only [Iz,s_f10_l0_ev,a_f10,s_f10_l0_b,s_f10_l1_b,s_f10_l2_b,s_f10_l3_b,aa,reduceIte,reduceCtorEq,Nat.reduceEqDiff,Nat.reduceLT,Nat.reduceLeDiff,Nat.reduceBEq,Nat.reduceAdd,Nat.reduceMul,op_appR,hpl,d1,u1,i1,l1,h1,hss,hgz,hbD,if_true,cond_true,cond_false,w64 (show 1 < 2 ^ 62 by decide)]
  try rfl
theorem rule_some (h:RulT CT) (hT:CT k_f16=some (.code s_f16)) (base:Nat) {A2:Heap} (hb:base≤A2.length) {p q:Nat} {fv:V} {fs:List FunD} (hr:RdProg A2 fv fs) (hs:Small fs) (hp:getC A2 p 0=some [fv]) (hq:getC A2 q 0=some [.s (.int .u8 2),.s (.int .u8 9)]) {i r:Nat} (hi:i=0∧r=2∨i=1∧r=9) {t:Pt} (ho:firstN fs r=some t) {C:Heap} (hE:Ext A2 C):
 ∃ C',itW (evC (callW CT) itW base s_f10_l0) [] A2.length (frOf 98 [(1,.ref p 0 0),(18,.sl q 0 0 2 1),(19,Iz 2),(20,Iz i)]) C=some (.ret,frOf 98 [(2,Sb ⟨#[]⟩),(3,Iz 5)],C')∧Ext A2 C':=by
 have hr2:r=2∨r=9:=by omega
 obtain ⟨D,h1,h2⟩:=first_fun h hT base (A:=C) (by have:=hE.le;omega) (hr.ext hE) hs hr2
 rw [ho] at h1
 have hpl:xLoad C true 1 (.ref p 0 0)=some (.agg [fv]):=by rw [xo_ref,getC_ext hp hE];rfl
 have hqc:=getC_ext hq hE
 have hss:∀ c d,(D ++ [c]).set D.length d=D ++ [d]:=fun c d=>set_snoc D c d
 have hgz:∀ c,getC (D ++ [Ob.cells 0 c]) D.length 0=some c:=fun c=>getC_new D 0 c
 have hbD:base≤D.length:=by have:=(hE.trans h2).le;omega
 obtain ⟨x1,x2,x3⟩:=t
 refine ⟨trim A2.length (frOf 98 [(2,Sb ⟨#[]⟩),(3,Iz 5)]) (D ++ [Ob.cells 0 [Iz x1,Iz x2,Iz x3]]),?_,((hE.trans h2).trans (Ext.app _ _)).trim (Nat.le_refl _) _⟩
 have d0:decide ((0:Int) < 2)=true:=rfl
 have d1:decide ((1:Int) < 2)=true:=rfl
 have u0:((0:Int) < ((2:Nat):Int))=True:=eq_true (by decide)
 have u1:((1:Int) < ((2:Nat):Int))=True:=eq_true (by decide)
 have i0:xIndexAddr 1 (.sl q 0 0 2 1) (.s (.int .i64 ((0:Nat):Int)))=some (.ref q 0 0):=rfl
 have i1:xIndexAddr 1 (.sl q 0 0 2 1) (.s (.int .i64 ((1:Nat):Int)))=some (.ref q 0 1):=rfl
 have l0:xLoad C false 1 (.ref q 0 0)=some (.s (.int .u8 2)):=by rw [xo_ref,hqc];rfl
 have l1:xLoad C false 1 (.ref q 0 1)=some (.s (.int .u8 9)):=by rw [xo_ref,hqc];rfl
 rw [itW_step]
 rcases hi with ⟨rfl,rfl⟩ | ⟨rfl,rfl⟩
 ·simp only [resP,Iz,bl] at h1 hss hgz
  rw [show ((2:Nat):Int)=2 from rfl] at h1
  simp only [Iz,s_f10_l0_ev,a_f10,s_f10_l0_b,s_f10_l1_b,s_f10_l2_b,s_f10_l3_b,aa,reduceIte,reduceCtorEq,Nat.reduceEqDiff,Nat.reduceLT,Nat.reduceLeDiff,Nat.reduceBEq,Nat.reduceAdd,Nat.reduceMul,op_appR,hpl,d0,u0,i0,l0,h1,hss,hgz,hbD,if_true,cond_true,cond_false,w64 (show 0 < 2 ^ 62 by decide)]
  try rfl
 ·simp only [resP,Iz,bl] at h1 hss hgz
  rw [show ((9:Nat):Int)=9 from rfl] at h1
  simp only [Iz,s_f10_l0_ev,a_f10,s_f10_l0_b,s_f10_l1_b,s_f10_l2_b,s_f10_l3_b,aa,reduceIte,reduceCtorEq,Nat.reduceEqDiff,Nat.reduceLT,Nat.reduceLeDiff,Nat.reduceBEq,Nat.reduceAdd,Nat.reduceMul,op_appR,hpl,d1,u1,i1,l1,h1,hss,hgz,hbD,if_true,cond_true,cond_false,w64 (show 1 < 2 ^ 62 by decide)]
  try rfl
end
end Go.Proofs.YtngfpadeebpoeaaGreatDoor
set_option maxRecDepth 100000
namespace Go.Proofs.YtngfpadeebpoeaaGreatDoor
open Go.AM
structure PriT (CT:Nat→Option CFun):Prop where
 P:PrT CT
 R:RulT CT
 first:CT k_f16=some (.code s_f16)
 forms:CT k_f17=some (.code s_f17)
 len:CT k_f23=some (.code s_f23)
 print:CT k_f10=some (.code s_f10)
section
variable {CT:Nat→Option CFun}
theorem print_bad (h:PriT CT) (base:Nat) {A:Heap} (hb:base≤A.length) {fv:V} {fs:List FunD} (hr:RdProg A fv fs) (hs:Small fs) (hbad:(firstN fs 2).isSome=true∨(firstN fs 9).isSome=true):
 ∃ H',callW CT (.fn k_f10 [] []) [.agg [fv]] base A=some (.tup [Sb ⟨#[]⟩,Iz 5],H')∧Ext A H':=by
 have hfo:=hr.one
 obtain ⟨A1,hA1⟩:∃ A1,A ++ [Ob.cells 0 [fv]]=A1:=⟨_,rfl⟩
 obtain ⟨A2,hA2⟩:∃ A2,A1 ++ [Ob.cells 0 [V.s (.int .u8 2),.s (.int .u8 9)]]=A2:=⟨_,rfl⟩
 have l1:A1.length=A.length+1:=by rw [← hA1,len_snoc]
 have l2:A2.length=A.length+2:=by rw [← hA2,len_snoc,l1]
 have e1:Ext A A1:=hA1 ▸ Ext.app _ _
 have e2:Ext A1 A2:=hA2 ▸ Ext.app _ _
 have x1:getC A2 A.length 0=some [fv]:=getC_ext (hA1 ▸ getC_new A 0 _) e2
 have x2:getC A2 (A.length+1) 0=some [V.s (.int .u8 2),.s (.int .u8 9)]:=by rw [← l1,← hA2];exact getC_new A1 0 _
 have hrun:∃ C',itW (evC (callW CT) itW base s_f10_l0) [] A2.length (frOf 98 [(1,.ref A.length 0 0),(18,.sl (A.length+1) 0 0 2 1),(19,Iz 2),(20,Iz ((0:Nat):Int))]) A2=some (.ret,frOf 98 [(2,Sb ⟨#[]⟩),(3,Iz 5)],C')∧Ext A2 C':=by
  cases h2:firstN fs 2 with
  | some t=>exact rule_some h.R h.first base (by omega) (hr.ext (e1.trans e2)) hs x1 x2 (.inl ⟨rfl,rfl⟩) h2 (Ext.refl _)
  | none=>
    obtain ⟨C,q1,q2⟩:=rule_none h.R h.first base (by omega) (hr.ext (e1.trans e2)) hs x1 x2 (.inl ⟨rfl,rfl⟩) h2 (Ext.refl _)
    cases h9:firstN fs 9 with
    | none=>rw [h2,h9] at hbad;simp at hbad
    | some t=>
      rw [q1]
      exact rule_some h.R h.first base (by omega) (hr.ext (e1.trans e2)) hs x1 x2 (.inr ⟨rfl,rfl⟩) h9 q2
 obtain ⟨C',q1,q2⟩:=hrun
 refine ⟨C',callW_fnA (c:=s_f10) (k:=1) h.print rfl (by decide) s_f10_first ?_,(e1.trans e2).trans q2⟩
 rw [l2,show ((0:Nat):Int)=0 from rfl] at q1
 simp only [Iz] at q1
 simp only [Iz,s_f10,a_f10,s_f10_l0_b,s_f10_l1_b,s_f10_l2_b,s_f10_l3_b,aa,reduceIte,reduceCtorEq,Nat.reduceEqDiff,Nat.reduceLT,Nat.reduceLeDiff,Nat.reduceBEq,Nat.reduceAdd,Nat.reduceMul,op_appR,hfo,Bool.and_self,hA1,l1,hA2,l2,show ((2:Nat):Int)=2 from rfl,q1]
 try rfl
theorem ext_keep {A H H':Heap} (hl:H.length≤H'.length) (hk:∀ i,i < A.length→H'[i]?=H[i]?) (k:Ext A H):Ext A H':=by
 refine ⟨H'.drop A.length,?_⟩
 apply List.ext_getElem?
 intro i
 by_cases hi:i < A.length
 ·rw [List.getElem?_append_left hi,hk i hi,k.get hi]
 ·rw [List.getElem?_append_right (by omega),List.getElem?_drop]
  congr 1
  omega
theorem print_ok (h:PriT CT) (base:Nat) {A:Heap} (hb:base≤A.length) {fv:V} {fs:List FunD} (hr:RdProg A fv fs) (hs:Small fs) (h2:firstN fs 2=none) (h9:firstN fs 9=none) (hsm:∀ f∈fs,SmF f) (hl:(progT fs).length≤140737488355328):
 ∃ H',callW CT (.fn k_f10 [] []) [.agg [fv]] base A=some (if 1048576 < (progT fs).length then .tup [Sb ⟨#[]⟩,Iz 2] else .tup [Sb ⟨(progT fs).toArray⟩,Iz 0],H')∧Ext A H':=by
 have hfo:=hr.one
 have hns:=hs.n
 obtain ⟨A1,hA1⟩:∃ A1,A ++ [Ob.cells 0 [fv]]=A1:=⟨_,rfl⟩
 obtain ⟨A2,hA2⟩:∃ A2,A1 ++ [Ob.cells 0 [V.s (.int .u8 2),.s (.int .u8 9)]]=A2:=⟨_,rfl⟩
 have l1:A1.length=A.length+1:=by rw [← hA1,len_snoc]
 have l2:A2.length=A.length+2:=by rw [← hA2,len_snoc,l1]
 have e1:Ext A A1:=hA1 ▸ Ext.app _ _
 have e2:Ext A1 A2:=hA2 ▸ Ext.app _ _
 have x1:getC A2 A.length 0=some [fv]:=getC_ext (hA1 ▸ getC_new A 0 _) e2
 have x2:getC A2 (A.length+1) 0=some [V.s (.int .u8 2),.s (.int .u8 9)]:=by rw [← l1,← hA2];exact getC_new A1 0 _
 have hr2:=hr.ext (e1.trans e2)
 obtain ⟨Ca,q1,q2⟩:=rule_none h.R h.first base (by omega) hr2 hs x1 x2 (.inl ⟨rfl,rfl⟩) h2 (Ext.refl _)
 obtain ⟨Cb,q3,q4⟩:=rule_none h.R h.first base (by omega) hr2 hs x1 x2 (.inr ⟨rfl,rfl⟩) h9 q2
 have q5:=q1.trans q3
 rw [l2,show ((0:Nat):Int)=0 from rfl,show ((1+1:Nat):Int)=2 from rfl] at q5
 obtain ⟨C0,hC0⟩:∃ C0,trim (A.length+2) (frOf 98 [(1,.ref A.length 0 0),(18,.sl (A.length+1) 0 0 2 1),(19,.s (.int .i64 2)),(20,.s (.int .i64 2)),(21,.s (.bool false))]) Cb=C0:=⟨_,rfl⟩
 have E0:Ext A2 C0:=hC0 ▸ q4.trim (by omega) _
 have hbC0:base≤C0.length:=by have:=E0.le;omega
 have hfm:=forms_fun h.forms base hbC0
 obtain ⟨A0,hA0⟩:∃ A0,C0 ++ [Ob.cells 0 [V.fn 52 [] []]] ++ [Ob.map (esI .u8 (foT C0.length))]=A0:=⟨_,rfl⟩
 have l0:A0.length=C0.length+2:=by rw [← hA0,len_snoc,len_snoc]
 have EA:Ext C0 A0:=hA0 ▸ (Ext.app C0 [Ob.cells 0 [V.fn 52 [] []]]).trans (Ext.app _ _)
 rw [hA0] at hfm
 have hn:getC A0 C0.length 0=some [.fn 52 [] []]:=hA0 ▸ getC_ext (getC_new C0 0 _) (Ext.app _ _)
 have hm:A0[C0.length+1]?=some (.map (esI .u8 (foT C0.length))):=by
  rw [← hA0,← len_snoc C0 (Ob.cells 0 [V.fn 52 [] []])]
  simp
 have hrA:=hr2.ext (E0.trans EA)
 obtain ⟨B0,hB0⟩:∃ B0,A0 ++ [Ob.cells 0 [V.unk,.s (.slice none 0 0)]]=B0:=⟨_,rfl⟩
 have EB:Ext A0 B0:=hB0 ▸ Ext.app _ _
 have lB:B0.length=A0.length+1:=by rw [← hB0,len_snoc]
 have hbA:base≤A0.length:=by omega
 obtain ⟨D,g1,g2,g3⟩:=fun_loop h.P base hbA hn hm hrA hsm (by omega) (L:=A0.length+1) (by omega) (txt:=[]) EB (⟨Nat.le_refl _,.inl ⟨rfl,hB0 ▸ getC_new A0 0 _⟩⟩) (by simp only [List.length_nil];omega)
 rw [show ((0:Nat):Int)=0 from rfl] at g1
 rw [List.nil_append] at g3
 obtain ⟨D1,hD1⟩:∃ D1,trim (A0.length+1) (frOf 98 [(8,.mp (C0.length+1)),(9,.ref A0.length 0 0),(10,.fn 18 [] [.ref A0.length 0 0]),(35,fv),(36,.s (.int .i64 fs.length)),(37,.s (.int .i64 fs.length)),(38,.s (.bool false))]) D=D1:=⟨_,rfl⟩
 have ED:Ext A0 D1:=hD1 ▸ g2.trim (by omega) _
 have BD:Bld A0.length D1 A0.length (progT fs):=hD1 ▸ g3.trim (by omega) _
 have hln:=len_fun h.len base BD
 obtain ⟨D2,hst,s1,s2⟩:=bst_fun h.P.F.W.L hbA BD hl
 have ET:Ext A A0:=(e1.trans e2).trans (E0.trans EA)
 have ES:Ext A D2:=ext_keep s1 (fun i hi=>s2 i (by have:=ET.le;omega)) (ET.trans ED)
 have x1C:=getC_load (getC_ext x1 (E0.trans (EA.trans EB)))
 have hll:=RdL.len (RdL.ext (P:=RdFun) RdFun.ext hrA EB)
 have hge:decide ((fs.length:Int) < (fs.length:Int))=false:=by simp
 have d2:decide ((2:Int) < 2)=false:=rfl
 have hz0:(∃ H',callW CT (.fn k_f10 [] []) [.agg [fv]] base A=some (if 1048576 < (progT fs).length then .tup [Sb ⟨#[]⟩,Iz 2] else .tup [Sb ⟨(progT fs).toArray⟩,Iz 0],H')∧Ext A H'):=by
  by_cases hbig:1048576 < (progT fs).length
  ·have hd:decide (((progT fs).length:Int) > 1048576)=true:=by rw [decide_eq_true_eq];omega
   refine ⟨D1,callW_fnA (c:=s_f10) (k:=1) h.print rfl (by decide) s_f10_first ?_,ET.trans ED⟩
   rw [if_pos hbig]
   simp only [Iz,nilS] at q5 g1 hll hln hD1 hB0 hC0
   simp only [Iz,s_f10,a_f10,s_f10_l0_b,s_f10_l1_b,s_f10_l2_b,s_f10_l3_b,aa,reduceIte,reduceCtorEq,Nat.reduceEqDiff,Nat.reduceLT,Nat.reduceLeDiff,Nat.reduceBEq,Nat.reduceAdd,Nat.reduceMul,op_appR,hfo,Bool.and_self,hA1,l1,hA2,l2,show ((2:Nat):Int)=2 from rfl,q5]
   rw [itW_step]
   simp only [Iz,s_f10_l0_ev,s_f10,a_f10,s_f10_l0_b,s_f10_l1_b,s_f10_l2_b,s_f10_l3_b,aa,reduceIte,reduceCtorEq,Nat.reduceEqDiff,Nat.reduceLT,Nat.reduceLeDiff,Nat.reduceBEq,Nat.reduceAdd,Nat.reduceMul,op_appR,d2,cond_false,hC0,hfm,xsub_mkFn,hB0,x1C,hll,lB,g1]
   rw [itW_step]
   simp only [Iz,s_f10_l3_ev,s_f10,a_f10,s_f10_l0_b,s_f10_l1_b,s_f10_l2_b,s_f10_l3_b,aa,reduceIte,reduceCtorEq,Nat.reduceEqDiff,Nat.reduceLT,Nat.reduceLeDiff,Nat.reduceBEq,Nat.reduceAdd,Nat.reduceMul,op_appR,hge,cond_false,cond_true,hD1,hln,hd,hst]
   try rfl
  ·have hd:decide (((progT fs).length:Int) > 1048576)=false:=by rw [decide_eq_false_iff_not];omega
   refine ⟨D2,callW_fnA (c:=s_f10) (k:=1) h.print rfl (by decide) s_f10_first ?_,ES⟩
   rw [if_neg hbig]
   simp only [Iz,nilS] at q5 g1 hll hln hD1 hB0 hC0
   simp only [Iz,s_f10,a_f10,s_f10_l0_b,s_f10_l1_b,s_f10_l2_b,s_f10_l3_b,aa,reduceIte,reduceCtorEq,Nat.reduceEqDiff,Nat.reduceLT,Nat.reduceLeDiff,Nat.reduceBEq,Nat.reduceAdd,Nat.reduceMul,op_appR,hfo,Bool.and_self,hA1,l1,hA2,l2,show ((2:Nat):Int)=2 from rfl,q5]
   rw [itW_step]
   simp only [Iz,s_f10_l0_ev,s_f10,a_f10,s_f10_l0_b,s_f10_l1_b,s_f10_l2_b,s_f10_l3_b,aa,reduceIte,reduceCtorEq,Nat.reduceEqDiff,Nat.reduceLT,Nat.reduceLeDiff,Nat.reduceBEq,Nat.reduceAdd,Nat.reduceMul,op_appR,d2,cond_false,hC0,hfm,xsub_mkFn,hB0,x1C,hll,lB,g1]
   rw [itW_step]
   simp only [Iz,s_f10_l3_ev,s_f10,a_f10,s_f10_l0_b,s_f10_l1_b,s_f10_l2_b,s_f10_l3_b,aa,reduceIte,reduceCtorEq,Nat.reduceEqDiff,Nat.reduceLT,Nat.reduceLeDiff,Nat.reduceBEq,Nat.reduceAdd,Nat.reduceMul,op_appR,hge,cond_false,cond_true,hD1,hln,hd,hst]
   try rfl
 exact hz0
end
end Go.Proofs.YtngfpadeebpoeaaGreatDoor
set_option maxRecDepth 100000
namespace Go.Proofs.YtngfpadeebpoeaaGreatDoor
open Go.AM
def Wd (l:List UInt8):Prop:=l≠[]∧∀ c∈l,33≤c.toNat∧c.toNat≤126
inductive GL:List UInt8→Prop
 | w {l:List UInt8} (h:Wd l):GL l
 | cat {a b:List UInt8} (ha:GL a) (hb:GL b):GL (a ++ b)
 | sp {a b:List UInt8} (ha:GL a) (hb:GL b):GL (a ++ 32 :: b)
structure GoodL (l:List UInt8):Prop where
 ne:l≠[]
 hd:l[0]?≠some 32
 la:l[l.length - 1]?≠some 32
 rng:∀ c∈l,32≤c.toNat∧c.toNat≤126
 dd:∀ j:Nat,l[j]?=some 32→l[j+1]?≠some 32
theorem not32 {c:UInt8} (h:33≤c.toNat):c≠32:=by
 intro e
 subst e
 exact absurd h (by decide)
theorem GL.goodL {l:List UInt8} (h:GL l):GoodL l:=by
 induction h with
 | w h=>
   rename_i l
   have hn:∀ j:Nat,l[j]?≠some 32:=fun j e=>not32 (h.2 _ (List.mem_of_getElem? e)).1 rfl
   exact ⟨h.1,hn _,hn _,fun c hc=>⟨by have:=(h.2 c hc).1;omega,(h.2 c hc).2⟩,fun j e=>absurd e (hn j)⟩
 | cat ha hb iha ihb=>
   rename_i a b
   have la:0 < a.length:=List.length_pos_iff.2 iha.ne
   have lb:0 < b.length:=List.length_pos_iff.2 ihb.ne
   refine ⟨by simp [iha.ne],by rw [List.getElem?_append_left la];exact iha.hd,?_,?_,?_⟩
   ·rw [List.length_append,List.getElem?_append_right (by omega),show a.length+b.length - 1 - a.length=b.length - 1 by omega]
    exact ihb.la
   ·intro c hc
    rcases List.mem_append.1 hc with h | h
    ·exact iha.rng c h
    ·exact ihb.rng c h
   ·intro j h1 h2
    by_cases c1:j+1 < a.length
    ·rw [List.getElem?_append_left (by omega)] at h1 h2
     exact iha.dd j h1 h2
    ·by_cases c2:j < a.length
     ·rw [List.getElem?_append_left c2] at h1
      obtain rfl:j=a.length - 1:=by omega
      exact iha.la h1
     ·rw [List.getElem?_append_right (by omega)] at h1 h2
      rw [show j+1 - a.length=j - a.length+1 by omega] at h2
      exact ihb.dd _ h1 h2
 | sp ha hb iha ihb=>
   rename_i a b
   have la:0 < a.length:=List.length_pos_iff.2 iha.ne
   have lb:0 < b.length:=List.length_pos_iff.2 ihb.ne
   refine ⟨by simp,by rw [List.getElem?_append_left la];exact iha.hd,?_,?_,?_⟩
   ·rw [List.length_append,List.length_cons,List.getElem?_append_right (by omega),show a.length+(b.length+1) - 1 - a.length=(b.length - 1)+1 by omega,List.getElem?_cons_succ]
    exact ihb.la
   ·intro c hc
    rcases List.mem_append.1 hc with h | h
    ·exact iha.rng c h
    ·rcases List.mem_cons.1 h with rfl | h
     ·decide
     ·exact ihb.rng c h
   ·intro j h1 h2
    by_cases c1:j+1 < a.length
    ·rw [List.getElem?_append_left (by omega)] at h1 h2
     exact iha.dd j h1 h2
    ·by_cases c2:j < a.length
     ·rw [List.getElem?_append_left c2] at h1
      obtain rfl:j=a.length - 1:=by omega
      exact iha.la h1
     ·rw [List.getElem?_append_right (by omega)] at h1 h2
      rw [show j+1 - a.length=(j - a.length)+1 by omega,List.getElem?_cons_succ] at h2
      by_cases c3:j=a.length
      ·subst c3
       rw [Nat.sub_self] at h2
       exact ihb.hd h2
      ·obtain ⟨k,hk⟩:∃ k,j - a.length=k+1:=⟨j - a.length - 1,by omega⟩
       rw [hk,List.getElem?_cons_succ] at h1
       rw [hk] at h2
       exact ihb.dd _ h1 h2
structure OkL (l:List UInt8):Prop where
 ne:l≠[]
 la:l[l.length - 1]?≠some 32
 rng:∀ c∈l,32≤c.toNat∧c.toNat≤126
 dd:∀ j:Nat,1≤j→l[j]?=some 32→l[j+1]?≠some 32
theorem cat_toList (a b:ByteArray):(a ++ b).data.toList=a.data.toList ++ b.data.toList:=by
 rw [ByteArray.data_append,Array.toList_append]
def GB (b:ByteArray):Prop:=GL b.data.toList
theorem GB.cat {a b:ByteArray} (ha:GB a) (hb:GB b):GB (a ++ b):=by
 unfold GB
 rw [cat_toList]
 exact .cat ha hb
theorem inter_two {α:Type} (s a b:List α) (l:List (List α)):s.intercalate (a :: b :: l)=a ++ (s ++ s.intercalate (b :: l)):=by
 simp [List.intercalate,List.intersperse]
theorem inter_one {α:Type} (s a:List α):s.intercalate [a]=a:=by
 simp [List.intercalate,List.intersperse]
theorem GL.words:∀ (xs:List (List UInt8)),xs≠[]→(∀ x∈xs,GL x)→GL ([32].intercalate xs):=by
 intro xs
 induction xs with
 | nil=>intro h;exact absurd rfl h
 | cons a xs ih=>
   intro _ h
   cases xs with
   | nil=>rw [inter_one];exact h a List.mem_cons_self
   | cons b xs=>
     rw [inter_two]
     exact .sp (h a List.mem_cons_self) (ih (by simp) fun x hx=>h x (List.mem_cons_of_mem _ hx))
theorem GL.commas:∀ (xs:List (List UInt8)),xs≠[]→(∀ x∈xs,GL x)→GL ([44,32].intercalate xs):=by
 intro xs
 induction xs with
 | nil=>intro h;exact absurd rfl h
 | cons a xs ih=>
   intro _ h
   cases xs with
   | nil=>rw [inter_one];exact h a List.mem_cons_self
   | cons b xs=>
     rw [inter_two,show a ++ ([44,32] ++ [44,32].intercalate (b :: xs))=(a ++ [44]) ++ 32 :: [44,32].intercalate (b :: xs) by simp]
     exact .sp (.cat (h a List.mem_cons_self) (.w (by unfold Wd;decide))) (ih (by simp) fun x hx=>h x (List.mem_cons_of_mem _ hx))
theorem GB.words {xs:List ByteArray} (hn:xs≠[]) (h:∀ x∈xs,GB x):GB (wordsT xs):=by
 unfold GB wordsT joinB Lib.join bSp
 rw [List.toList_toArray]
 refine GL.words _ (by simpa using hn) fun x hx=>?_
 obtain ⟨b,hb,rfl⟩:=List.mem_map.1 hx
 exact h b hb
theorem GB.commas {xs:List ByteArray} (hn:xs≠[]) (h:∀ x∈xs,GB x):GB (joinB xs bCm):=by
 unfold GB joinB Lib.join bCm
 rw [List.toList_toArray]
 refine GL.commas _ (by simpa using hn) fun x hx=>?_
 obtain ⟨b,hb,rfl⟩:=List.mem_map.1 hx
 exact h b hb
theorem join_nil (s:ByteArray):joinB [] s=⟨#[]⟩:=by simp [joinB,Lib.join,List.intercalate,List.intersperse]
theorem GB.args {xs:List ByteArray} (h:∀ x∈xs,GB x):GB (argsT xs):=by
 unfold argsT
 by_cases hn:xs=[]
 ·subst hn
  rw [join_nil]
  exact .w (by unfold Wd;decide)
 ·exact .cat (.cat (.w (by unfold Wd;decide)) (.commas hn h)) (.w (by unfold Wd;decide))
theorem GB.w {b:ByteArray} (h:Wd b.data.toList):GB b:=GL.w h
theorem badAt_rng {i:Nat} {c:UInt8} (h:badAt i c=false):33≤c.toNat∧c.toNat≤126:=by
 unfold badAt letter at h
 by_cases h1:c.toNat=46
 ·omega
 ·by_cases h2:48≤c.toNat∧c.toNat≤57
  ·omega
  ·by_cases h3:(c.toNat ≥ 97∧c.toNat≤122)∨(c.toNat ≥ 65∧c.toNat≤90)∨c.toNat=95
   ·omega
   ·exfalso
    have e1:(decide ((c.toNat:Int) ≥ 97) && decide ((c.toNat:Int)≤122))=false:=by
     rw [← Bool.decide_and,decide_eq_false_iff_not];omega
    have e2:(decide ((c.toNat:Int) ≥ 65) && decide ((c.toNat:Int)≤90))=false:=by
     rw [← Bool.decide_and,decide_eq_false_iff_not];omega
    have e3:((c.toNat:Int) == 95)=false:=by
     rw [beq_eq_false_iff_ne];omega
    have e4:(decide ((c.toNat:Int) < 48) || decide ((c.toNat:Int) > 57))=true:=by
     rw [← Bool.decide_or,decide_eq_true_iff];omega
    have e5:((c.toNat:Int) != 46)=true:=by
     rw [bne_iff_ne];omega
    rw [e1,e2,e3,e4,e5] at h
    simp at h
theorem okFrom_rng:∀ {l:List UInt8} {i:Nat},okFrom i l=true→∀ c∈l,33≤c.toNat∧c.toNat≤126:=by
 intro l
 induction l with
 | nil=>intro i _ c hc;cases hc
 | cons a l ih=>
   intro i h c hc
   rw [okFrom,Bool.and_eq_true,Bool.not_eq_true'] at h
   rcases List.mem_cons.1 hc with rfl | hc
   ·exact badAt_rng h.1
   ·exact ih h.2 c hc
theorem isName_wd {b:ByteArray} (h:isName b=true):Wd b.data.toList:=by
 unfold isName at h
 rw [Bool.and_eq_true,Bool.not_eq_true',Bool.or_eq_false_iff,Bool.or_eq_false_iff] at h
 exact ⟨by have:=h.1.1.1;simpa using this,okFrom_rng h.2⟩
theorem badS_wd {op:Bool} {b:ByteArray} (h:badS op b=false) (hn:b.data.toList≠[]):Wd b.data.toList:=by
 unfold badS emptyB at h
 have h0:(b.data.toList == [])=false:=by simpa using hn
 rw [h0] at h
 cases hi:isName b with
 | true=>exact isName_wd hi
 | false=>
   rw [hi] at h
   have:nullB b=true:=by
    cases op <;> simp at h
    exact h
   unfold nullB at this
   rw [beq_iff_eq] at this
   rw [this]
   unfold Wd;decide
theorem digit_rng:∀ n:Nat,n < 10→Wd (Lib.decDigits n)∧True:=by
 intro n hn
 rw [Lib.decDigits]
 split
 ·rename_i h
  refine ⟨⟨by simp,?_⟩,trivial⟩
  intro c hc
  simp at hc
  subst hc
  have:n=0∨n=1∨n=2∨n=3∨n=4∨n=5∨n=6∨n=7∨n=8∨n=9:=by omega
  rcases this with rfl | rfl | rfl | rfl | rfl | rfl | rfl | rfl | rfl | rfl <;> decide
 ·omega
theorem num_wd:∀ n:Nat,n < 100→Wd (Lib.decDigits n):=by
 intro n hn
 by_cases h:n < 10
 ·exact (digit_rng n h).1
 ·rw [Lib.decDigits]
  rw [dif_neg h]
  have h1:=(digit_rng (n / 10) (by omega)).1
  refine ⟨by simp,fun c hc=>?_⟩
  rcases List.mem_append.1 hc with hc | hc
  ·exact h1.2 c hc
  ·have h2:=(digit_rng (n % 10) (by omega)).1
   rw [Lib.decDigits,dif_pos (by omega)] at h2
   exact h2.2 c hc
end Go.Proofs.YtngfpadeebpoeaaGreatDoor
