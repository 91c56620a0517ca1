/- Texts of the proof: Am18, Am19, Am20, Am21, Am22, Am23, AmS, AmT, AmF, AmG, AmL, AmQ0, AmQ, AmW, AmD, AmD2, ShoX0, AmD3, AmV, AmR, AmB, BitsP, AmM, AmN, AmO, AmY, AmZ. -/
import Derived.Test.YtngfpadeebpoeaaGreatDoorP0
import Derived.Test.YtngfpadeebpoeaaGreatDoorP1
import Derived.RangeFuncNested
import Derived.Laws.Sem
import Derived.Shelf.Abstract
import Derived.ProofKit
import Derived.ReadAgain
import Derived.Laws.BitsLemmas
import Derived.Shelf.Sort.Plain
import Derived.Shelf.SlIterI.Nil
import Derived.Shelf.SlMaps.Clone
import Derived.Shelf.Spec.TrailingZeros
import Derived.Lib.Join
import Derived.Lib.ItoaNum
import Derived.Shelf.Strings.Builder1
import Derived.Shelf.Strings.OnBuilder
import Derived.Shelf.Strings.Prefix
import Derived.Shelf.Strconv.Itoa3
import Derived.Lib.Strings
import Derived.OpenShut
import Derived.ChangeArms
import Derived.FnData
import Derived.DataReads
import Derived.ChangeOld
set_option linter.all false
namespace Go.AM
open Go.RowKit
section
variable {call:CallF} {base:Nat}
def Floor (base:Nat) (H H':Heap):Prop:=H.length≤H'.length∧∀ id,id < base→id < H.length→H'[id]?=H[id]?
theorem Floor.refl (base:Nat) (H:Heap):Floor base H H:=⟨Nat.le_refl _,fun _ _ _=>rfl⟩
theorem Floor.trans {A B C:Heap} (h:Floor base A B) (k:Floor base B C):Floor base A C:=
 ⟨Nat.le_trans h.1 k.1,fun id h1 h2=>(k.2 id h1 (Nat.lt_of_lt_of_le h2 h.1)).trans (h.2 id h1 h2)⟩
theorem trim_keep {m:Nat} {fr:List V} {H:Heap} (hm:m≤H.length):m≤(trim m fr H).length∧∀ id,id < m→(trim m fr H)[id]?=H[id]?:=by
 unfold trim
 split
 ·refine ⟨by simp;omega,fun id h=>by rw [List.getElem?_take_of_lt h]⟩
 ·exact ⟨hm,fun _ _=>rfl⟩
theorem evOps_floor (hfl:∀ v args base H r H',call v args base H=some (r,H')→H.length≤H'.length∧∀ id,id < base→id < H.length→H'[id]?=H[id]?):∀ (l:List AOper) {fr fr':List V} {H H':Heap},evOps call base l fr H=some (fr',H')→Floor base H H':=by
 intro l
 induction l with
 | nil=>intro fr fr' H H' h;cases h;exact .refl _ _
 | cons o l ih=>
   intro fr fr' H H' h
   simp only [evOps] at h
   split at h
   ·cases h
   ·exact ih h
   ·split at h
    ·rename_i v H1 hop;exact Floor.trans (evOp_floor hfl hop) (ih h)
    ·cases h
theorem iterN_floor {b:List V→Heap→Option St} (hb:∀ fr H e fr' H',b fr H=some (e,fr',H')→Floor base H H') (kill:List Nat) (m:Nat):∀ (k:Nat) {fr:List V} {H:Heap} {e:Ex} {fr':List V} {H':Heap},m≤H.length→
 iterN b kill m k fr H=some (e,fr',H')→m≤H'.length∧∀ id,id < base→id < m→H'[id]?=H[id]?:=by
 intro k
 induction k with
 | zero=>intro fr H e fr' H' _ h;simp [iterN] at h
 | succ k ih=>
   intro fr H e fr' H' hm h
   simp only [iterN] at h
   split at h
   ·rename_i fr1 H1 h1
    have f:=hb _ _ _ _ _ h1
    obtain ⟨t1,t2⟩:=trim_keep (fr:=killS kill fr1) (Nat.le_trans hm f.1)
    obtain ⟨r1,r2⟩:=ih t1 h
    exact ⟨r1,fun id h1 h2=>(r2 id h1 h2).trans ((t2 id h2).trans (f.2 id h1 (Nat.lt_of_lt_of_le h2 hm)))⟩
   ·rename_i e1 fr1 H1 _ h1
    cases h
    have f:=hb _ _ _ _ _ h1
    obtain ⟨t1,t2⟩:=trim_keep (fr:=killS kill fr1) (Nat.le_trans hm f.1)
    exact ⟨t1,fun id h1 h2=>(t2 id h2).trans (f.2 id h1 (Nat.lt_of_lt_of_le h2 hm))⟩
   ·cases h
theorem evC_floor (hfl:∀ v args base H r H',call v args base H=some (r,H')→H.length≤H'.length∧∀ id,id < base→id < H.length→H'[id]?=H[id]?) (nn:Nat) (c:ACode):∀ {fr:List V} {H:Heap} {e:Ex} {fr':List V} {H':Heap},evC call (fun b k m=>iterN b k m nn) base c fr H=some (e,fr',H')→Floor base H H':=by
 induction c with
 | skip=>intro fr H e fr' H' h;simp only [evC] at h;cases h;exact .refl _ _
 | region ops chk kill=>
   intro fr H e fr' H' h
   simp only [evC] at h
   split at h
   ·rename_i fr1 H1 h1
    split at h
    ·cases h;exact evOps_floor hfl ops h1
    ·cases h
   ·cases h
 | regionE ops kill outs=>
   intro fr H e fr' H' h
   simp only [evC] at h
   split at h
   ·cases h;exact .refl _ _
   ·cases h
 | seq a b iha ihb=>
   intro fr H e fr' H' h
   simp only [evC] at h
   split at h
   ·rename_i fr1 H1 h1;exact (iha h1).trans (ihb h)
   ·exact iha h
 | cond c a b iha ihb=>
   intro fr H e fr' H' h
   simp only [evC] at h
   split at h
   ·exact iha h
   ·exact ihb h
   ·cases h
 | block id c ih=>
   intro fr H e fr' H' h
   simp only [evC] at h
   split at h
   ·rename_i id' fr1 H1 h1;cases h;exact ih h1
   ·exact ih h
 | loop kill c ih=>
   intro fr H e fr' H' h
   simp only [evC] at h
   obtain ⟨h1,h2⟩:=iterN_floor (fun fr H e fr' H' h=>ih h) kill H.length nn (Nat.le_refl _) h
   exact ⟨h1,fun id a b=>h2 id a b⟩
 | rangeFunc f ps a b _ _=>
   intro fr H e fr' H' h
   have fin:∀ (H2:Heap) (v:V) (x:V),call x [.yld H.length] base (H ++ [.loop .ready none fr ps a b])=some (v,H2)→Floor base H (trim H.length fr (H2.set H.length .dead)):=by
    intro H2 v x hc
    obtain ⟨f1,f2⟩:=hfl _ _ _ _ _ _ hc
    simp only [List.length_append,List.length_cons,List.length_nil] at f1 f2
    obtain ⟨t1,t2⟩:=trim_keep (m:=H.length) (fr:=fr) (H:=H2.set H.length .dead) (by simp;omega)
    refine ⟨t1,fun id h1 h2=>(t2 id h2).trans ?_⟩
    rw [List.getElem?_set_ne (by omega),f2 id h1 (by omega),List.getElem?_append_left h2]
   simp only [evC] at h
   split at h
   ·split at h
    ·rename_i v H2 hc
     split at h
     ·cases h;exact fin _ _ _ hc
     ·cases h;exact fin _ _ _ hc
     ·cases h
    ·cases h
   ·cases h
 | exit id=>intro fr H e fr' H' h;simp only [evC] at h;cases h;exact .refl _ _
 | ret=>intro fr H e fr' H' h;simp only [evC] at h;cases h;exact .refl _ _
end
section
variable {μ μ':Mu} {Mt Mt':Nat→Prop} {w w':World} {H H':Heap} {P:Program} {pure':PX} {call:CallF}
theorem CRes.of_reg {CC:CX} {ds:List Deferred} {fr':List V} {a':Act} (kill:List Nat) (h:RegQ CC μ Mt w H ds fr' H' a' w'):CRes CC μ Mt w H ds (killS kill fr') H' a' w':=by
 obtain ⟨μ',Mt',h1,h2,h3⟩:=h
 exact ⟨μ',Mt',h1,h2.kill kill,by rw [h3];exact Marks.refl _ _ _ _⟩
theorem CRes.refl {CC:CX} (h:HR CC μ Mt w H) {a:Act} {fr:List V} (hf:FR μ Mt w fr a.tmps):CRes CC μ Mt w H a.defers fr H a w:=⟨μ,Mt,Post.refl h,hf,Marks.refl _ _ _ _⟩
theorem enter_sim (h:HR (CR P pure') μ Mt w H) {a:Act} {fr:List V} (hf:FR μ Mt w fr a.tmps) {ro:Option Nat} (hro:∀ l,ro=some l→∃ r,w.heap[l]?=some (.loop r)) (fn:FuncId) (ps:Array Tmp) {x y:Code} {ax ay:ACode}
 (hx:CodeR P pure' x ax) (hy:CodeR P pure' y ay):
 ∃ l mark w1 μ1 Mt1,(Instr.enterLoop fn a.tmps ps x y ro).run P w=.ok (l,mark) w1∧Post (CR P pure') μ Mt w H μ1 Mt1 w1 (H ++ [.loop .ready none fr ps.toList ax ay])∧μ1 H.length 0=some (l,0)∧Marks w.heap.size μ1 w1 (mark ++ a.defers) a.defers:=by
 have mk:∀ {w1:World} {Mt1:Nat→Prop} (D:Nat),HR (CR P pure') μ Mt1 w1 H→VRs μ Mt1 w1 fr a.tmps.toList→ObR (CR P pure') μ Mt1 w1 (.loop .ready none fr ps.toList ax ay) 0 (.loop { state:=.ready,pending:=none,fn,tmps:=a.tmps,params:=ps,assign:=x,body:=y,defers:=D }):=
  fun D _ hv=>⟨rfl,rfl,rfl,hv,rfl,hx,hy⟩
 cases ro with
 | none=>
   have p1:Post (CR P pure') μ Mt w H μ Mt (w.alloc (.deferred (some []))) H:=post_ghost h _ rfl rfl rfl rfl
   have p2:=post_push p1.hr (.loop { state:=.ready,pending:=none,fn,tmps:=a.tmps,params:=ps,assign:=x,body:=y,defers:=w.heap.size }) (.loop .ready none fr ps.toList ax ay) (mk _ p1.hr (p1.vrs h hf)) (w':=(w.alloc (.deferred (some []))).alloc (.loop { state:=.ready,pending:=none,fn,tmps:=a.tmps,params:=ps,assign:=x,body:=y,defers:=w.heap.size })) rfl rfl rfl rfl
   refine ⟨_,_,_,_,_,run_enterLoop_outer fn a.tmps ps x y,p1.trans p2,?_,?_⟩
   ·have:(w.alloc (.deferred (some []))).heap.size=w.heap.size+1:=World.size_alloc ..
    rw [this];exact updM_same _ _ _ _
   ·refine ⟨[w.heap.size],rfl,by simp,fun D hD=>?_⟩
    simp at hD
    subst hD
    have hs:(w.alloc (.deferred (some []))).heap.size=w.heap.size+1:=World.size_alloc ..
    have h1:(w.alloc (.deferred (some []))).heap[w.heap.size]?=some (.deferred (some [])):=World.alloc_heap_new ..
    refine ⟨Nat.le_refl _,(heap_push (w:=w.alloc (.deferred (some []))) rfl (by rw [hs];omega)).trans h1,fun id g b e=>?_⟩
    by_cases hc:id=H.length∧g=0
    ·obtain ⟨rfl,rfl⟩:=hc
     rw [updM_same] at e
     have:=(Prod.mk.inj (Option.some.inj e)).1
     rw [hs] at this
     omega
    ·rw [updM_other hc] at e
     have:=(h.isMut _ _ _ _ e).2
     omega
 | some l0=>
   obtain ⟨r0,hr0⟩:=hro l0 rfl
   have p2:=post_push h (.loop { state:=.ready,pending:=none,fn,tmps:=a.tmps,params:=ps,assign:=x,body:=y,defers:=r0.defers }) (.loop .ready none fr ps.toList ax ay) (mk _ h hf) (w':=w.alloc (.loop { state:=.ready,pending:=none,fn,tmps:=a.tmps,params:=ps,assign:=x,body:=y,defers:=r0.defers })) rfl rfl rfl rfl
   exact ⟨_,_,_,_,_,run_enterLoop_inner hr0 fn a.tmps ps x y,p2,updM_same _ _ _ _,Marks.refl _ _ _ _⟩
theorem leave_sim {μ0:Mu} {Mt0:Nat→Prop} {w0:World} {H0:Heap} {CC:CX} (h0:HR CC μ0 Mt0 w0 H0) (hp:Post CC μ0 Mt0 w0 H0 μ Mt w H) {l:Nat} (hm:μ H0.length 0=some (l,0)) {st:LoopState} {pend:Option Ex} {t:List V} {ps:List Nat} {ax ay:ACode}
 (hH:H[H0.length]?=some (.loop st pend t ps ax ay)) (hst:st≠.busy) {fr:List V} {a:Act} (hf:FR μ Mt w fr a.tmps) {ds:List Deferred} (hmk:Marks w0.heap.size μ w a.defers ds):
 ∃ r w',(Instr.endLoop l).run P w=.ok r w'∧compStOk st pend r∧CRes CC μ0 Mt0 w0 H0 ds fr (trim H0.length fr (H.set H0.length .dead)) a w':=by
 obtain ⟨o,ho,hr⟩:=hp.hr.objs _ _ 0 _ _ hH rfl hm
 cases o <;> first | exact hr.elim | skip
 rename_i r
 obtain ⟨_,h1,h2,h3,h4,h5,h6⟩:=hr
 subst h1
 have hrun:=run_endLoop (P:=P) ho hst
 have p1:Post CC μ Mt w H (updM μ H0.length 0 (l,0)) Mt (w.putObj l (.loop { r with state:=.exhausted })) (H.set H0.length .dead):=
  post_set hp.hr 0 0 hH rfl hm ho (fun _ _ _ e=>by cases e) (fun _ _=>⟨_,rfl⟩) (.inl ⟨rfl,rfl⟩) (fun j hj=>hj.elim) (fun _ _ e=>by cases e) rfl rfl rfl rfl trivial (fun hc=>hc.elim)
 have hpp:=hp.trans p1
 have hidl:H0.length < H.length:=(List.getElem?_eq_some_iff.1 hH).1
 obtain ⟨μ2,p2,f2,s2,_⟩:=trim_post hpp h0.dom (Nat.le_refl _) (by simp;omega) (hf.post hp.hr p1)
 refine ⟨_,_,hrun,h2,μ2,Mt,p2,f2,?_⟩
 exact (hmk.trans p1 hp.tr.size (Marks.refl _ _ _ _)).sub s2
theorem row_any (hs:SimCall P (CR P pure') call) {base:Nat} {ops:Array Oper} {l:List AOper} {chk:List (Nat × Nat)} (hr:RegR P pure' ops l) (hd:okOrd (Region.before ops).toList chk l=true∧backB ops=true) {ro:Option Nat} {n:Nat} {fr:List V} {H:Heap} {fr1:List V} {H':Heap}
 (h1:evOps call base l fr H=some (fr1,H')) (hchk:chk.all (lateOk call base l fr H fr1)=true) {μ:Mu} {Mt:Nat→Prop} {w:World} {a:Act} {Q:Exit→Act→World→Prop} (h:HR (CR P pure') μ Mt w H) (hf:FR μ Mt w fr a.tmps)
 (hQ:∀ a' w',RegQ (CR P pure') μ Mt w H a.defers fr1 H' a' w'→Q .normal a' w'):wpAnyIn (Fw ro) n P .any ops Q ops.size (Array.replicate ops.size false) a { w with drawn:=w.drawn+1 }:=by
 obtain ⟨ho,hb⟩:=hd
 obtain ⟨F,G,val,a1,a2,a3,a4,a5⟩:=evOps_trace _ _ _ _ _ h1
 by_cases hoA:okOrder (Region.before ops).toList chk l=true
 case neg=>
  have hoA:okOrder (Region.before ops).toList chk l=false:=by simpa using hoA
  simp only [okOrd,hoA,Bool.false_or,Bool.and_eq_true] at ho
  have R:RowA P pure' call base ops l fr _ H H' F G val:=⟨hr,ho.2,hb,a1,a2,a3,a4,a5,hs.floor⟩
  have p1:Post (CR P pure') μ Mt w H μ Mt { w with drawn:=w.drawn+1 } H:=post_drew h rfl rfl rfl rfl
  have hrep:∀ k,(Array.replicate ops.size false).getD k false=false:=by
   intro k
   by_cases hk:k < ops.size <;> simp [hk]
  have hno:(fun k=>(Array.replicate ops.size false).getD k false)=fun _=>false:=funext hrep
  have hSF:(SF (dstOf l) val fr l.length fun k=>(Array.replicate ops.size false).getD k false)=fr:=by
   refine getD_ext SF_length fun s hs=>?_
   rw [SF_length] at hs
   rw [SF_getD,if_pos hs,lw_reads (i:=0) l.length fun k _ _=>?_]
   ·simp [lw]
   ·rw [hrep k];simp
  have hrn:=(R.lens (Nat.zero_le l.length) (Nat.le_refl _))
  have hA0:∀ id,id < H.length→(R.A 0)[id]?=H[id]?:=fun id hid=>by
   have:=R.A_lt (j:=0) (id:=id) (by rw [a2];exact hid)
   rw [a2] at this;exact this
  have h0v:∀ s,VW H.length (fr.getD s .unk):=fun s=>(hf.getD s).vw h.dom
  have p2:Post (CR P pure') μ Mt w H μ Mt { w with drawn:=w.drawn+1 } (R.A 0):=by
   have hl:H.length≤(R.A 0).length:=by rw [R.A_len (Nat.zero_le _)];rw [a2] at hrn;exact hrn
   have q:=p1.hr
   refine ⟨hl,⟨fun id g p e=>Nat.lt_of_lt_of_le (q.dom _ _ _ e) hl,q.isMut,fun id ob g B b hH hc e=>q.objs id ob g B b ((hA0 id (q.dom _ _ _ e)).symm.trans hH) hc e,q.inj,fun id g g' c p e hH=>q.gens id g g' c p e ((hA0 id (q.dom _ _ _ e)).symm.trans hH),fun id g p ob e hH=>(q.wf id g p ob e ((hA0 id (q.dom _ _ _ e)).symm.trans hH)).mono hl,q.fix,q.zero⟩,p1.ext,p1.mt,p1.tr,p1.old,p1.news⟩
  have I0:InvA R (CR P pure') μ Mt w (fun k=>(Array.replicate ops.size false).getD k false) 0 μ Mt { w with drawn:=w.drawn+1 }:=by
   rw [hno]
   refine ⟨Nat.zero_le _,p2,fun k _ _=>⟨fun h=>(by cases h),fun h=>absurd h (Nat.not_lt_zero _)⟩,fun id g q e hid=>?_,fun k _ hS=>(by cases hS),fun m _ hS=>(by cases hS),fun _ m _ hS=>(by cases hS),fun id g q ob e hob j hj _ hid=>?_⟩
   ·have:=h.dom _ _ _ e;omega
   ·have hd:=h.dom _ _ _ e
    have hj0:=R.lens (Nat.zero_le j) hj
    rw [a2] at hj0
    rw [hA0 id hd] at hob
    exact (h.wf id g q ob e hob).mono hj0
  refine reg_anyA R hs h0v (fun id g q ob e hH=>h.wf id g q ob e hH) ops.size _ a _ μ Mt 0 (by simp [hr.1]) ?_ ?_ I0 (by rw [hSF];exact hf.post h p1) rfl (fun a' w' hq=>hQ a' w' hq)
  ·unfold unlisted
   refine Nat.le_trans List.countP_le_length ?_
   simp [hr.1]
  ·intro j hj
   exact absurd ((hrep j).symm.trans hj) (by simp)
 have ho:=hoA
 have R:Row P pure' call base ops l chk fr _ H H' F G val:=⟨hr,ho,hb,a1,a2,a3,a4,a5,hchk,hs.floor⟩
 have p1:Post (CR P pure') μ Mt w H μ Mt { w with drawn:=w.drawn+1 } H:=post_drew h rfl rfl rfl rfl
 have hrep:∀ k,(Array.replicate ops.size false).getD k false=false:=by
  intro k
  by_cases hk:k < ops.size <;> simp [hk]
 refine reg_any R hs h ops.size _ a _ μ Mt 0 (by simp [hr.1]) ?_ ?_ (Nat.zero_le _) (fun k hk=>by omega) (fun k _ _ _=>hrep k) (by rw [a2];exact p1) ?_ rfl (fun a' w' hq=>hQ a' w' hq)
 ·unfold unlisted
  refine Nat.le_trans List.countP_le_length ?_
  simp [hr.1]
 ·intro j hj
  exact absurd ((hrep j).symm.trans hj) (by simp)
 ·have:(SF (dstOf l) val fr l.length fun k=>(Array.replicate ops.size false).getD k false)=fr:=by
   refine getD_ext SF_length fun s hs=>?_
   rw [SF_length] at hs
   rw [SF_getD,if_pos hs,lw_reads (i:=0) l.length fun k _ _=>?_]
   ·simp [lw]
   ·rw [hrep k];simp
  rw [this]
  exact hf.post h p1
theorem evC_sim (hs:SimCall P (CR P pure') call) (hmix:P.follows .mixedOrders=true) (nn base:Nat) {c:Code} {ac:ACode} (hc:CodeR P pure' c ac):
 ∀ (ro:Option Nat) (n:Nat),SimC P (CR P pure') ro n c (evC call (fun b k m=>iterN b k m nn) base ac):=by
 have rowsAny:∀ (ops:Array Oper) (l:List AOper) (chk:List (Nat × Nat)) (kill:List Nat),RegR P pure' ops l→(okOrd (Region.before ops).toList chk l=true∧backB ops=true)→
  ∀ (ro:Option Nat) (n:Nat) (fr:List V) (H:Heap) (e:Ex) (fr':List V) (H':Heap),evC call (fun b k m=>iterN b k m nn) base (.region l chk kill) fr H=some (e,fr',H')→
    ∀ (μ:Mu) (Mt:Nat→Prop) (w:World) (a:Act) (Q:Exit→Act→World→Prop),HR (CR P pure') μ Mt w H→FR μ Mt w fr a.tmps→
      (∀ a' w',CRes (CR P pure') μ Mt w H a.defers fr' H' a' w'→Q (exOf e) a' w')→wpAnyIn (Fw ro) n P .any ops Q ops.size (Array.replicate ops.size false) a { w with drawn:=w.drawn+1 }:=by
  intro ops l chk kill hr hd
  intro ro n fr H e fr' H' hev μ Mt w a Q h hf hQ
  simp only [evC] at hev
  split at hev
  ·rename_i fr1 H1 h1
   split at hev
   ·rename_i hchk
    cases hev
    exact row_any hs hr hd h1 hchk h hf fun a' w' hq=>hQ a' w' (CRes.of_reg kill hq)
   ·cases hev
  ·cases hev
 have rows:∀ (id:Nat) (ops:Array Oper) (draw:Bool) (l:List AOper) (chk:List (Nat × Nat)) (kill:List Nat),RegR P pure' ops l→(draw=true→okOrd (Region.before ops).toList chk l=true∧backB ops=true)→
  ∀ (ro:Option Nat) (n:Nat),SimC P (CR P pure') ro n (.region id ops draw) (evC call (fun b k m=>iterN b k m nn) base (.region l chk kill)):=by
  intro id ops draw l chk kill hr hd
  intro ro n fr H e fr' H' hev μ Mt w a Q h hf hro hQ
  cases draw with
  | true=>exact wpIn_region_any hmix (rowsAny ops l chk kill hr (hd rfl) ro n fr H e fr' H' hev μ Mt w a Q h hf hQ)
  | false=>
    simp only [evC] at hev
    split at hev
    ·rename_i fr1 H1 h1
     split at hev
     ·rename_i hchk
      cases hev
      refine wpIn_region ?_
      have:=reg_text (Q:=Q) (ro:=ro) (n:=n) hs hr ops.size 0 fr H a w μ Mt (by omega) h hf (by simpa using h1) (fun a' w' hq=>hQ a' w' (CRes.of_reg kill hq))
      simpa using this
     ·cases hev
    ·cases hev
 induction hc with
 | skip=>
   intro ro n fr H e fr' H' hev μ Mt w a Q h hf hro hQ
   simp only [evC] at hev;cases hev
   exact wpIn_skip (hQ a w (CRes.refl h hf))
 | label l=>
   intro ro n fr H e fr' H' hev μ Mt w a Q h hf hro hQ
   simp only [evC] at hev;cases hev
   exact wpIn_label (hQ a w (CRes.refl h hf))
 | exit id=>
   intro ro n fr H e fr' H' hev μ Mt w a Q h hf hro hQ
   simp only [evC] at hev;cases hev
   exact wpIn_exit (hQ a w (CRes.refl h hf))
 | ret=>
   intro ro n fr H e fr' H' hev μ Mt w a Q h hf hro hQ
   simp only [evC] at hev;cases hev
   exact wpIn_ret (hQ a w (CRes.refl h hf))
 | region id ops draw l chk kill hr hd=>exact rows id ops draw l chk kill hr hd
 | regionE id ops draw l kill outs hr hd=>
   intro ro n fr H e fr' H' hev
   simp only [evC] at hev
   split at hev
   ·rename_i f2 h2
    cases hev
    obtain ⟨f1,h1,rfl⟩:=evTale_ev (call:=call) (base:=base) h2
    exact rows id ops draw l [] kill hr hd ro n fr _ .nrm _ _ (by simp only [evC,h1];rfl)
   ·cases hev
 | regionP id ops π l chk kill hp hr hd=>
   intro ro n fr H e fr' H' hev μ Mt w a Q h hf hro hQ
   exact wpIn_region_any hmix (wpAny_perm0 hp (rowsAny _ l chk kill hr hd ro n fr H e fr' H' hev μ Mt w a Q h hf hQ))
 | regionPE id ops π l kill outs hp hr hd=>
   intro ro n fr H e fr' H' hev μ Mt w a Q h hf hro hQ
   simp only [evC] at hev
   split at hev
   ·rename_i f2 h2
    cases hev
    obtain ⟨f1,h1,rfl⟩:=evTale_ev (call:=call) (base:=base) h2
    exact wpIn_region_any hmix (wpAny_perm0 hp (rowsAny _ l [] kill hr hd ro n fr _ .nrm _ _ (by simp only [evC,h1];rfl) μ Mt w a Q h hf hQ))
   ·cases hev
 | seq x y ax ay _ _ ihx ihy=>
   intro ro n fr H e fr' H' hev μ Mt w a Q h hf hro hQ
   simp only [evC] at hev
   refine wpIn_seq ?_
   split at hev
   ·rename_i fr1 H1 h1
    refine ihx ro n _ _ _ _ _ h1 μ Mt w a _ h hf hro ?_
    rintro a1 w1 ⟨μ1,Mt1,p1,f1,m1⟩
    refine ihy ro n _ _ _ _ _ hev μ1 Mt1 w1 a1 Q p1.hr f1 (fun l hl=>?_) (fun a2 w2 h2=>hQ a2 w2 (CRes.trans p1 m1 h2))
    obtain ⟨r,hr⟩:=hro l hl
    exact p1.tr.loops l r hr
   ·rename_i hne
    refine ihx ro n _ _ _ _ _ hev μ Mt w a _ h hf hro ?_
    intro a1 w1 h1
    have:=hQ a1 w1 h1
    cases e with
    | nrm=>exact (hne _ _ hev).elim
    | ext id=>exact this
    | ret=>exact this
 | cond c o x y ax ay hco _ _ ihx ihy=>
   intro ro n fr H e fr' H' hev μ Mt w a Q h hf hro hQ
   simp only [evC] at hev
   have hv:=opd_vr hf hco
   split at hev
   ·rename_i he
    rw [he] at hv
    exact wpIn_cond_true (vr_s hv) (ihx ro n _ _ _ _ _ hev μ Mt w a Q h hf hro hQ)
   ·rename_i he
    rw [he] at hv
    exact wpIn_cond_false (vr_s hv) (ihy ro n _ _ _ _ _ hev μ Mt w a Q h hf hro hQ)
   ·cases hev
 | block id c x _ ih=>
   intro ro n fr H e fr' H' hev μ Mt w a Q h hf hro hQ
   simp only [evC] at hev
   refine wpIn_block ?_
   split at hev
   ·rename_i id' fr1 H1 h1
    cases hev
    refine ih ro n _ _ _ _ _ h1 μ Mt w a _ h hf hro ?_
    intro a1 w1 hr
    have:=hQ a1 w1 hr
    show (if id'=id then Q .normal a1 w1 else Q (.exit id') a1 w1)
    split
    ·rename_i hid;rw [if_pos hid] at this;exact this
    ·rename_i hid;rw [if_neg hid] at this;exact this
   ·rename_i hne
    refine ih ro n _ _ _ _ _ hev μ Mt w a _ h hf hro ?_
    intro a1 w1 hr
    have:=hQ a1 w1 hr
    cases e with
    | nrm=>exact this
    | ext id'=>exact (hne _ _ _ hev).elim
    | ret=>exact this
 | loop c kill x _ ih=>
   intro ro n fr H e fr' H' hev μ Mt w a Q h hf hro hQ
   simp only [evC] at hev
   refine wpIn_loop_rounds nn ?_
   exact loop_sim (ih ro n) kill H.length nn _ H e fr' H' hev μ Mt w a Q μ Mt w H a.defers h (Nat.le_refl _) (Nat.le_refl _) (Post.refl h) (Marks.refl _ _ _ _) (hf.kill kill) hro hQ
 | rangeFunc f o ps x y ax ay hco hx hy _ _=>
   intro ro n fr H e fr' H' hev μ Mt w a Q h hf hro hQ
   simp only [evC] at hev
   have hv:=opd_vr hf hco
   split at hev
   case h_2=>cases hev
   rename_i k u z he
   rw [he] at hv
   refine wpIn_rangeFunc ?_
   intro fn _
   obtain ⟨l,mark,w1,μ1,Mt1,hen,p1,hm1,mk1⟩:=enter_sim h hf hro fn ps hx hy
   have hv1:=p1.vr h hv
   split at hev
   case h_2=>cases hev
   rename_i rv H2 hcl
   generalize hfc:a.eval f=fc at hv1
   cases hv1 with
   | fn _ _ _ fst' cap' h1 h2 h3 h4=>
     obtain ⟨hent,hcall⟩:=hs.fn k u z _ base _ rv H2 hcl
     have hvs:VRs μ1 Mt1 w1 (u ++ [.yld H.length] ++ z) (fst' ++ #[Value.func (.yield l) #[] #[]] ++ cap').toList:=by
      have hu:VRs μ1 Mt1 w1 u fst'.toList:=⟨by simpa using h1,fun i p q hp hq=>h3 i p q hp (by simpa using hq)⟩
      have hz:VRs μ1 Mt1 w1 z cap'.toList:=⟨by simpa using h2,fun i p q hp hq=>h4 i p q hp (by simpa using hq)⟩
      have hy:VRs μ1 Mt1 w1 [.yld H.length] [Value.func (.yield l) #[] #[]]:=⟨rfl,fun i p q hp hq=>by
       cases i with
       | zero=>simp at hp hq;subst hp;subst hq;exact .yld _ _ hm1
       | succ i=>simp at hp⟩
      simpa using (hu.append hy).append hz
     have hcc:=hcall μ1 Mt1 w1 _ p1.hr hvs (n - 1)
     simp only [Array.toArray_toList] at hcc
     refine ⟨l,mark,w1,⟨.fn (.func k) cap',fst' ++ #[Value.func (.yield l) #[] #[]]⟩,w1,k,fst' ++ #[Value.func (.yield l) #[] #[]] ++ cap',w1,hen,?_,fun _ _=>trivial,?_,fun h=>by simp [Fw] at h,?_⟩
     ·have e1:a.eval (.const (.func (.yield l) #[] #[]))=Value.func (.yield l) #[] #[]:=rfl
      simp only [resolve,rangeCall,hfc,Deferred.ofValue,Sem.run_pure,List.map_toArray,List.map_cons,List.map_nil,e1]
     ·simp only [invoke,hent]
     ·refine CallsIn.mono hcc ?_
      rintro e3 w3 ⟨c3,μ3,Mt3,rfl,_,p3⟩
      have hm3:=p3.ext _ _ _ hm1
      have pp:=p1.trans p3
      have mk3:Marks w.heap.size μ3 w3 (mark ++ a.defers) a.defers:=mk1.trans p3 p1.tr.size (Marks.refl _ _ _ _)
      have hf3:FR μ3 Mt3 w3 fr a.tmps:=hf.post h pp
      split at hev
      ·rename_i hH
       cases hev
       obtain ⟨r,w4,hrun,hok,hres⟩:=leave_sim (P:=P) (a:={ a with defers:=mark ++ a.defers }) h pp hm3 hH (by simp) hf3 mk3
       refine ⟨r,w4,hrun,?_⟩
       cases r with
       | none=>exact hQ _ _ hres
       | some c=>simp [compStOk] at hok
      ·rename_i e' hH
       cases hev
       obtain ⟨r,w4,hrun,hok,hres⟩:=leave_sim (P:=P) (a:={ a with defers:=mark ++ a.defers }) h pp hm3 hH (by simp) hf3 mk3
       refine ⟨r,w4,hrun,?_⟩
       cases e with
       | nrm=>exact hok.elim
       | ext id=>
         have hok:r=some (.exit id):=hok
         subst hok
         exact wpIn_exit (hQ _ _ hres)
       | ret=>
         have hok:r=some .ret:=hok
         subst hok
         exact wpIn_ret (hQ _ _ hres)
      ·cases hev
end
end Go.AM
namespace Go.AM
open Go.RowKit
section
variable {CC:CX} {μ μ':Mu} {Mt Mt':Nat→Prop} {w w':World} {H H':Heap} {P:Program} {pure':PX} {call:CallF}
theorem PR.monoC (hM:∀ B,B < w.heap.size→Mt' B→Mt B)
 (hk:∀ (B:Nat) (arr:Array Value) (e:TypeId) (fr:Nat × Nat),w.heap[B]?=some (.cells arr e fr)→w'.heap[B]?=w.heap[B]?) {v:V} {c:Value} (h:PR Mt w v c):PR Mt' w' v c:=by
 induction h with
 | s v=>exact .s v
 | agg cs vs hl _ ih=>exact .agg cs vs hl ih
 | tup cs vs hl _ ih=>exact .tup cs vs hl ih
 | pref cs B o arr e fr hB hMB hs _ ih=>exact .pref cs B o arr e fr ((hk B _ _ _ hB).trans hB) (fun h=>hMB (hM B (lt_of_some hB) h)) hs ih
 | psl es sz B o cap arr e fr hB hMB hc hz hs _ ih=>exact .psl es sz B o cap arr e fr ((hk B _ _ _ hB).trans hB) (fun h=>hMB (hM B (lt_of_some hB) h)) hc hz hs ih
 | psl0 sz cap a=>exact .psl0 sz cap a
 | esl a=>exact .esl a
 | fn f fst cap fst' cap' hf hc _ _ ih1 ih2=>exact .fn f fst cap fst' cap' hf hc ih1 ih2
theorem VR.monoC (hM:∀ B,B < w.heap.size→Mt' B→Mt B)
 (hk:∀ (B:Nat) (arr:Array Value) (e:TypeId) (fr:Nat × Nat),w.heap[B]?=some (.cells arr e fr)→w'.heap[B]?=w.heap[B]?) {v:V} {c:Value} (h:VR μ Mt w v c):VR μ Mt' w' v c:=by
 induction h with
 | s v=>exact .s v
 | unk v=>exact .unk v
 | agg cs vs hl _ ih=>exact .agg cs vs hl ih
 | tup cs vs hl _ ih=>exact .tup cs vs hl ih
 | ref id g off B b hm=>exact .ref id g off B b hm
 | pref cs B o arr e fr hB hMB hs h=>exact .pref cs B o arr e fr ((hk B _ _ _ hB).trans hB) (fun h=>hMB (hM B (lt_of_some hB) h)) hs (fun i a b ha hb=>(h i a b ha hb).monoC hM hk)
 | sl id g off len sz B b cap arr e hm hB hc hs=>exact .sl id g off len sz B b cap arr e hm ((hk B _ _ _ hB).trans hB) hc hs
 | sl0 id g off sz B b a hm=>exact .sl0 id g off sz B b a hm
 | psl es sz B o cap arr e fr hB hMB hc hz hs h=>exact .psl es sz B o cap arr e fr ((hk B _ _ _ hB).trans hB) (fun h=>hMB (hM B (lt_of_some hB) h)) hc hz hs (fun i el j a b he ha hb=>(h i el j a b he ha hb).monoC hM hk)
 | psl0 sz cap a=>exact .psl0 sz cap a
 | esl a=>exact .esl a
 | mp id B hm=>exact .mp id B hm
 | fn f fst cap fst' cap' hf hc _ _ ih1 ih2=>exact .fn f fst cap fst' cap' hf hc ih1 ih2
 | yld id B hm=>exact .yld id B hm
theorem ObR.monoC (hM:∀ B,B < w.heap.size→Mt' B→Mt B)
 (hk:∀ (B:Nat) (arr:Array Value) (e:TypeId) (fr:Nat × Nat),w.heap[B]?=some (.cells arr e fr)→w'.heap[B]?=w.heap[B]?) {ob:Ob} {b:Nat} {o:Obj} (h:ObR CC μ Mt w ob b o):ObR CC μ Mt' w' ob b o:=by
 cases ob with
 | cells g c=>cases o <;> first | exact h.elim | exact ⟨h.1,h.2.1,fun i a v ha hv=>(h.2.2.1 i a v ha hv).monoC hM hk,h.2.2.2⟩
 | map es=>cases o <;> first | exact h.elim | exact ⟨h.1,h.2.1,fun i k v e he hv=>⟨(h.2.2 i k v e he hv).1,(h.2.2 i k v e he hv).2.monoC hM hk⟩⟩
 | loop st pend tmps params assign body=>
   cases o <;> first | exact h.elim | skip
   obtain ⟨h0,h1,h2,h3,h4,h5,h6⟩:=h
   exact ⟨h0,h1,h2,⟨h3.1,fun i a b ha hb=>(h3.2 i a b ha hb).monoC hM hk⟩,h4,h5,h6⟩
 | dead=>cases o <;> exact h.elim
 | bytes g l=>cases o <;> first | exact h.elim | exact h
theorem post_drop {μ0:Mu} {Mt0:Nat→Prop} {w0:World} {H0:Heap} (hp:Post CC μ0 Mt0 w0 H0 μ Mt w H) {D:Nat} {x y:Option (List Deferred)} (hD:w0.heap.size≤D) (hd:w.heap[D]?=some (.deferred x)) (hn:∀ id g b,μ id g≠some (D,b)):
 Post CC μ0 Mt0 w0 H0 μ Mt (w.putObj D (.deferred y)) H∧∀ {v:V} {c:Value},VR μ Mt w v c→VR μ Mt (w.putObj D (.deferred y)) v c:=by
 have hk:∀ (B:Nat) (arr:Array Value) (e:TypeId) (fr:Nat × Nat),w.heap[B]?=some (.cells arr e fr)→(w.putObj D (.deferred y)).heap[B]?=w.heap[B]?:=by
  intro B arr e fr hB
  refine World.putObj_heap_other (fun e=>?_)
  subst e;rw [hd] at hB;cases hB
 have hsz:(w.putObj D (.deferred y)).heap.size=w.heap.size:=World.putObj_size
 have hne:∀ K,K < w0.heap.size→(w.putObj D (.deferred y)).heap[K]?=w.heap[K]?:=fun K hK=>World.putObj_heap_other (by omega)
 refine ⟨⟨hp.len,⟨hp.hr.dom,fun id g B b e=>by rw [hsz];exact hp.hr.isMut id g B b e,fun id ob g B b hH hc e=>?_,hp.hr.inj,hp.hr.gens,hp.hr.wf,fun B o e=>⟨(hk B _ _ _ (hp.hr.fix B o e).1).trans (hp.hr.fix B o e).1,(hp.hr.fix B o e).2⟩,hp.hr.zero⟩,hp.ext,hp.mt,
  ⟨by rw [hsz];exact hp.tr.size,fun B arr e fr hB=>?_,fun B l hB=>?_,fun B hB hu=>(hne B hB).trans (hp.tr.keep B hB hu),fun B arr e hB=>?_,hp.tr.os,hp.tr.tape,hp.tr.output⟩,hp.old,hp.news⟩,fun h=>h.monoC (fun _ _ h=>h) hk⟩
 ·obtain ⟨o,ho,hr⟩:=hp.hr.objs id ob g B b hH hc e
  refine ⟨o,(World.putObj_heap_other (fun eq=>?_)).trans ho,hr.monoC (fun _ _ h=>h) hk⟩
  subst eq
  exact hn id g b e
 ·obtain ⟨arr',fr',h1,h2⟩:=hp.tr.shape B arr e fr hB
  exact ⟨arr',fr',(hne B (lt_of_some hB)).trans h1,h2⟩
 ·obtain ⟨l',h1⟩:=hp.tr.loops B l hB
  exact ⟨l',(hne B (lt_of_some hB)).trans h1⟩
 ·by_cases hBD:B=D
  ·subst hBD
   rw [World.putObj_heap_same (lt_of_some hd)] at hB
   cases hB
  ·rw [World.putObj_heap_other hBD] at hB
   exact hp.tr.back B arr e hB
theorem leaves_marks {μ0:Mu} {Mt0:Nat→Prop} {w0:World} {H0:Heap} {fn:Func} {tmps:Array Value} {fr:List V} {R:Ending→World→Prop} {n:Nat}
 (hfin:∀ w',Post CC μ0 Mt0 w0 H0 μ Mt w' H→FR μ Mt w' fr tmps→∃ v,(results fn tmps).run P w'=.ok v w'∧R (.returned v) w'):
 ∀ (L:List Nat) (w:World),Post CC μ0 Mt0 w0 H0 μ Mt w H→FR μ Mt w fr tmps→L.Nodup→(∀ D∈L,w0.heap.size≤D∧w.heap[D]?=some (.deferred (some []))∧∀ id g b,μ id g≠some (D,b))→
   LeavesInM Fence.wide n P fn tmps R (L.map markOf) .returning w:=by
 intro L
 induction L with
 | nil=>intro w hp hf _ _;exact hfin w hp hf
 | cons D L ih=>
   intro w hp hf hnd hL
   obtain ⟨h1,h2,h3⟩:=hL D List.mem_cons_self
   refine ⟨by simp,.inl ⟨D,_,rfl,run_takeDeferred h2,?_⟩⟩
   obtain ⟨p1,hv⟩:=post_drop (y:=none) hp h1 h2 h3
   refine ih _ p1 ⟨hf.1,fun i a b ha hb=>hv (hf.2 i a b ha hb)⟩ (List.nodup_cons.1 hnd).2 (fun E hE=>?_)
   obtain ⟨k1,k2,k3⟩:=hL E (List.mem_cons_of_mem _ hE)
   have hne:E≠D:=fun e=>by subst e;exact (List.nodup_cons.1 hnd).1 hE
   exact ⟨k1,(World.putObj_heap_other hne).trans k2,k3⟩
theorem results_list (h:HR CC μ Mt w H) {fr:List V} {tmps:Array Value} (hf:FR μ Mt w fr tmps):∀ (rs:List ResultVar) (ars:List ARes) (vs:List V),rs.mapM (compRes P)=some ars→ars.mapM (resV fr H)=some vs→
 ∃ cs:List Value,(rs.mapM (fun | .tmp t=>pure (tmps.getD t Go.undef) | .cell a t=>do loadVar t (← asAddr (tmps.getD a Go.undef)):ResultVar→Sem Value)).run P w=.ok cs w∧VRs μ Mt w vs cs:=by
 intro rs
 induction rs with
 | nil=>
   intro ars vs h1 h2
   simp at h1;subst h1
   simp at h2;subst h2
   exact ⟨[],by simp [Sem.run_pure],rfl,fun i a b ha=>by simp at ha⟩
 | cons r rs ih=>
   intro ars vs h1 h2
   simp only [List.mapM_cons,Option.pure_def,Option.bind_eq_bind,Option.bind_eq_some_iff] at h1
   obtain ⟨a,ha,as',has,e⟩:=h1
   cases e
   simp only [List.mapM_cons,Option.pure_def,Option.bind_eq_bind,Option.bind_eq_some_iff] at h2
   obtain ⟨v,hv,vs',hvs,e⟩:=h2
   cases e
   obtain ⟨cs,hcs,hr⟩:=ih as' vs' has hvs
   have one:∃ c,((fun | .tmp t=>pure (tmps.getD t Go.undef) | .cell a t=>do loadVar t (← asAddr (tmps.getD a Go.undef)):ResultVar→Sem Value) r).run P w=.ok c w∧VR μ Mt w v c:=by
    cases r with
    | tmp t=>
      simp only [compRes] at ha
      cases ha
      simp only [resV] at hv
      cases hv
      exact ⟨_,rfl,hf.getD t⟩
    | cell t ty=>
      simp only [compRes,Option.map_eq_some_iff] at ha
      obtain ⟨⟨agg,k⟩,hs,e⟩:=ha
      cases e
      simp only [resV] at hv
      obtain ⟨c,h1,h2⟩:=loadV_sim (P:=P) hs h (hf.getD t) hv
      refine ⟨c,?_,h2⟩
      have hx:=hf.getD t
      unfold loadV at hv
      split at hv
      ·rename_i hfv
       rw [hfv] at hx
       obtain ⟨B,b,hm,hpt⟩:=vr_ref hx
       show Sem.run P (do loadVar ty (← asAddr (tmps.getD t Go.undef))) w=_
       rw [hpt] at h1 ⊢
       simpa [Instr.loadAt,Instr.sureAddr,asAddr,Sem.run_bind,Sem.run_pure] using h1
      ·rename_i hfv
       rw [hfv] at hx
       obtain ⟨a',hpt,_⟩:=pref_place hx
       show Sem.run P (do loadVar ty (← asAddr (tmps.getD t Go.undef))) w=_
       rw [hpt] at h1 ⊢
       simpa [Instr.loadAt,Instr.sureAddr,asAddr,Sem.run_bind,Sem.run_pure] using h1
      ·cases hv
   obtain ⟨c,hc,hvr⟩:=one
   refine ⟨c :: cs,?_,by simpa using VRs.append (a:=[v]) (c:=[c]) ⟨rfl,fun i p q hp hq=>by
    cases i with
    | zero=>simp at hp hq;subst hp;subst hq;exact hvr
    | succ i=>simp at hp⟩ hr⟩
   rw [List.mapM_cons]
   simp only [Sem.run_bind]
   rw [hc]
   simp only [Result.andThen_ok,hcs,Sem.run_pure]
theorem results_sim (h:HR CC μ Mt w H) {fr:List V} {tmps:Array Value} (hf:FR μ Mt w fr tmps) {fn:Func} {ars:List ARes} (hc:fn.results.toList.mapM (compRes P)=some ars) {r:V} (hr:resultV ars fr H=some r):
 ∃ v,(results fn tmps).run P w=.ok v w∧VR μ Mt w r v:=by
 unfold resultV at hr
 have main:∀ vs,ars.mapM (resV fr H)=some vs→∃ cs:List Value,(results fn tmps).run P w=.ok (if h:cs.toArray.size=1 then cs.toArray[0] else .tuple cs.toArray) w∧VRs μ Mt w vs cs:=by
  intro vs hvs
  obtain ⟨cs,h1,h2⟩:=results_list (P:=P) h hf fn.results.toList ars vs hc hvs
  refine ⟨cs,?_,h2⟩
  unfold results
  rw [Array.mapM_eq_mapM_toList]
  simp only [Sem.run_bind,map_eq_pure_bind,bind_assoc,pure_bind]
  erw [h1]
  simp only [Result.andThen_ok,Sem.run_pure]
 split at hr
 ·rename_i v hvs
  cases hr
  obtain ⟨cs,h1,h2⟩:=main _ hvs
  have hl:cs.length=1:=by have:=h2.1;simp at this;exact this.symm
  match cs,hl with
  | [c],_=>exact ⟨c,by simpa using h1,h2.2 0 r c rfl rfl⟩
 ·rename_i vs hne hvs
  cases hr
  obtain ⟨cs,h1,h2⟩:=main _ hvs
  have hl:cs.toArray.size≠1:=by
   intro hl
   have h3:=h2.1
   simp at hl
   rw [hl] at h3
   match vs,h3 with
   | [v],_=>exact hne v rfl
  rw [dif_neg hl] at h1
  exact ⟨_,h1,.tup vs cs.toArray (by simpa using h2.1) (fun i a b ha hb=>h2.2 i a b ha (by simpa using hb))⟩
 ·cases hr
end
end Go.AM
namespace Go.AM
open Go.RowKit
section
variable {μ μ':Mu} {Mt Mt':Nat→Prop} {w w':World} {H H':Heap} {P:Program} {pure':PX} {call:CallF}
def FunOk (P:Program) (pure':PX) (k:Nat):CFun→Prop
 | .code c => ∃ fn body, P.funcs[k]? = some fn ∧ fn.body = some body ∧ (fn.name == "runtime.NumGoroutine") = false ∧ CodeR P pure' body c.body ∧ fn.ntmps = c.ntmps ∧ fn.results.toList.mapM (compRes P) = some c.results
 | .prim g=>(∀ xs w,(callFunc k xs).run P w=.ok (.enter k xs) w)∧∀ vs base H r H',g vs base H=some (r,H')→Floor base H H'∧
    ∀ μ Mt w cs,HR (CR P pure') μ Mt w H→VRs μ Mt w vs cs→∀ n,CallsIn Fence.wide n P k cs.toArray w (RetP (CR P pure') μ Mt w H r H')
theorem setPs_sim:∀ (ps:List Nat) (vs:List V) (cs:List Value) {fr fr':List V} {t:Array Value},setPs ps vs fr=some fr'→VRs μ Mt w vs cs→FR μ Mt w fr t→
 ps.length=cs.length∧FR μ Mt w fr' ((ps.zip cs).foldl (fun t p=>t.setIfInBounds p.1 p.2) t):=by
 intro ps
 induction ps with
 | nil=>
   intro vs cs fr fr' t h hv hf
   cases vs with
   | nil=>
     cases h
     have:cs=[]:=by have:=hv.1;cases cs <;> simp at this ⊢
     subst this
     exact ⟨rfl,hf⟩
   | cons v vs=>cases h
 | cons p ps ih=>
   intro vs cs fr fr' t h hv hf
   cases vs with
   | nil=>cases h
   | cons v vs=>
     cases cs with
     | nil=>have:=hv.1;simp at this
     | cons c cs=>
       have hv':VRs μ Mt w vs cs:=⟨by have:=hv.1;simpa using this,fun i a b ha hb=>hv.2 (i+1) a b (by simpa using ha) (by simpa using hb)⟩
       have hf':FR μ Mt w (fr.set p v) (t.setIfInBounds p c):=by
        have:=VRs.set hf p (hv.2 0 v c rfl rfl)
        simpa [FR] using this
       obtain ⟨h1,h2⟩:=ih vs cs h hv' hf'
       exact ⟨by simp [h1],by simpa using h2⟩
theorem replicate_vr (n:Nat):VRs μ Mt w (List.replicate n und) (List.replicate n Go.undef):=
 ⟨by simp,fun i a b ha hb=>by
  have h1:=List.mem_of_getElem? ha
  have h2:=List.mem_of_getElem? hb
  rw [List.mem_replicate] at h1 h2
  rw [h1.2,h2.2]
  exact .s _⟩
variable {CP:Nat→Option CFun}
theorem evCall_fn (hs:SimCall P (CR P pure') call) (hmix:P.follows .mixedOrders=true) (nn:Nat) (hCP:∀ k c,CP k=some c→FunOk P pure' k c)
 {f:Nat} {fst cap args:List V} {base:Nat} {r:V} (hev:evCall CP call (fun b k m=>iterN b k m nn) (.fn f fst cap) args base H=some (r,H')):
 (∀ xs w,(callFunc f xs).run P w=.ok (.enter f xs) w)∧Floor base H H'∧
 ∀ (μ:Mu) (Mt:Nat→Prop) (w:World) (cs:List Value),HR (CR P pure') μ Mt w H→VRs μ Mt w (fst ++ args ++ cap) cs→∀ n,CallsIn Fence.wide n P f cs.toArray w (RetP (CR P pure') μ Mt w H r H'):=by
 simp only [evCall] at hev
 split at hev
 ·rename_i c hc
  obtain ⟨fn,body,h1,h2,h3,h4,h5,h6⟩:=hCP f _ hc
  have fin:∀ (e:Ex) (fr':List V) (H1:Heap),(e=.nrm∨e=.ret)→evC call (fun b k m=>iterN b k m nn) base c.body (fst ++ args ++ cap ++ List.replicate (c.ntmps - (fst ++ args ++ cap).length) und) H=some (e,fr',H1)→
   (resultV c.results fr' H1).map (fun v=>(v,H1))=some (r,H')→(∀ xs w,(callFunc f xs).run P w=.ok (.enter f xs) w)∧Floor base H H'∧
   ∀ (μ:Mu) (Mt:Nat→Prop) (w:World) (cs:List Value),HR (CR P pure') μ Mt w H→VRs μ Mt w (fst ++ args ++ cap) cs→∀ n,CallsIn Fence.wide n P f cs.toArray w (RetP (CR P pure') μ Mt w H r H'):=by
   intro e fr' H1 he hb hres
   rw [Option.map_eq_some_iff] at hres
   obtain ⟨v,hv,e1⟩:=hres
   cases e1
   refine ⟨Go.Proofs.enters_of h1 h3 h2,evC_floor hs.floor nn _ hb,fun μ Mt w cs h hvs n=>?_⟩
   refine callsIn_of_wp_marks h1 h2 trivial ?_
   have hf0:FR μ Mt w (fst ++ args ++ cap ++ List.replicate (c.ntmps - (fst ++ args ++ cap).length) und) (cs.toArray ++ Array.replicate (fn.ntmps - cs.toArray.size) Go.undef):=by
    unfold FR
    have:=hvs.append (replicate_vr (μ:=μ) (Mt:=Mt) (w:=w) (c.ntmps - (fst ++ args ++ cap).length))
    simp only [Array.toList_append,Array.toList_replicate,List.size_toArray,h5]
    rw [hvs.1] at this ⊢
    exact this
   refine evC_sim hs hmix nn base h4 none n _ H e fr' H' hb μ Mt w { tmps:=cs.toArray ++ Array.replicate (fn.ntmps - cs.toArray.size) Go.undef,defers:=[] } _ h hf0 (fun l hl=>by cases hl) ?_
   rintro a' w' ⟨μ1,Mt1,p1,f1,L,hL,hnd,hLs⟩
   have key:LeavesInM Fence.wide n P fn a'.tmps (RetP (CR P pure') μ Mt w H r H') a'.defers .returning w':=by
    rw [hL,List.append_nil]
    refine leaves_marks (μ:=μ1) (Mt:=Mt1) (fr:=fr') (fun w2 p2 f2=>?_) L w' p1 f1 hnd hLs
    obtain ⟨cv,k1,k2⟩:=results_sim p2.hr f2 h6 hv
    exact ⟨cv,k1,cv,μ1,Mt1,rfl,k2,p2⟩
   rcases he with rfl | rfl
   ·exact key
   ·exact key
  split at hev
  ·rename_i fr' H1 hb;exact fin .nrm fr' H1 (.inl rfl) hb hev
  ·rename_i fr' H1 hb;exact fin .ret fr' H1 (.inr rfl) hb hev
  ·cases hev
 ·rename_i g hc
  obtain ⟨h1,h2⟩:=hCP f _ hc
  obtain ⟨h3,h4⟩:=h2 _ _ _ _ _ hev
  exact ⟨h1,h3,h4⟩
 ·cases hev
theorem evCall_yld (hs:SimCall P (CR P pure') call) (hmix:P.follows .mixedOrders=true) (nn:Nat)
 {id:Nat} {args:List V} {base:Nat} {r:V} (hev:evCall CP call (fun b k m=>iterN b k m nn) (.yld id) args base H=some (r,H')):
 Floor base H H'∧∀ (μ:Mu) (Mt:Nat→Prop) (w:World) (cs:List Value) (B:Nat),HR (CR P pure') μ Mt w H→VRs μ Mt w args cs→μ id 0=some (B,0)→
  ∃ f tmps assign body,(Instr.yield B cs.toArray).run P w=.ok (.round B f tmps assign body) w∧∀ n,RoundIn Fence.wide n P B f tmps assign body w (RetP (CR P pure') μ Mt w H r H'):=by
 simp only [evCall] at hev
 split at hev
 case isFalse=>cases hev
 rename_i hbase
 split at hev
 case h_2=>cases hev
 rename_i tmps params assign body hH
 split at hev
 case h_2=>cases hev
 rename_i fr0 hset
 split at hev
 case h_2=>cases hev
 rename_i fr1 H1 hasg
 split at hev
 case h_2=>cases hev
 rename_i t1 ps1 as1 b1 hH1
 split at hev
 case h_2=>cases hev
 rename_i e fr2 H3 hbody
 split at hev
 case h_2=>cases hev
 rename_i t3 ps3 as3 b3 hH3
 cases hev
 have setF:∀ (G:Heap) (o:Ob),Floor base G (G.set id o):=fun G o=>⟨by simp,fun i h1 _=>by rw [List.getElem?_set_ne (by omega)]⟩
 refine ⟨(evC_floor hs.floor nn _ hasg).trans ((setF _ _).trans ((evC_floor hs.floor nn _ hbody).trans (setF _ _))),?_⟩
 intro μ Mt w cs B h hvs hm
 obtain ⟨o,ho,hr⟩:=h.objs _ _ 0 _ _ hH rfl hm
 cases o <;> first | exact hr.elim | skip
 rename_i rec
 obtain ⟨_,q1,q2,q3,q4,q5,q6⟩:=hr
 obtain ⟨hlen,hf0⟩:=setPs_sim params args cs hset hvs (t:=rec.tmps) q3
 have hsz:cs.toArray.size=rec.params.size:=by
  rw [← q4] at hlen;simpa using hlen.symm
 have hfold:(rec.params.zip cs.toArray).foldl (fun tmps (t,a)=>tmps.setIfInBounds t a) rec.tmps=(params.zip cs).foldl (fun t p=>t.setIfInBounds p.1 p.2) rec.tmps:=by
  rw [← Array.foldl_toList,Array.toList_zip,q4]
 refine ⟨_,_,_,_,run_yield ho hsz,fun n=>?_⟩
 refine roundIn_of_wpIn (F:=Fence.wide) trivial ?_
 rw [hfold]
 refine evC_sim hs hmix nn base q5 (some B) n fr0 H .nrm fr1 H1 hasg μ Mt w { tmps:=(params.zip cs).foldl (fun t p=>t.setIfInBounds p.1 p.2) rec.tmps,defers:=[] } _ h hf0 (fun l hl=>by cases hl;exact ⟨rec,ho⟩) ?_
 rintro a1 w1 ⟨μ1,Mt1,p1,f1,_⟩
 have hm1:=p1.ext _ _ _ hm
 obtain ⟨o1,ho1,hr1⟩:=p1.hr.objs _ _ 0 _ _ hH1 rfl hm1
 cases o1 <;> first | exact hr1.elim | skip
 rename_i rec1
 obtain ⟨_,s1,s2,s3,s4,s5,s6⟩:=hr1
 have hwf1:ObW H1.length (.loop .busy none t1 ps1 as1 b1):=by have:=p1.hr.wfn hH1 rfl hm1;exact this
 have p2:Post (CR P pure') μ1 Mt1 w1 H1 (updM μ1 id 0 (B,0)) Mt1 (w1.putObj B (.loop { rec1 with state:=.busy })) (H1.set id (.loop .busy none t1 ps1 as1 b1)):=by
  refine post_set p1.hr 0 0 hH1 rfl hm1 ho1 (fun _ _ _ e=>by cases e) (fun _ _=>⟨_,rfl⟩) (.inl ⟨rfl,rfl⟩) (fun j hj=>hj) (fun _ _ e=>by cases e) rfl rfl rfl rfl hwf1 ?_
  intro _ μ' Mt' hμ hM
  have hne:∀ K,K≠B→(w1.putObj B (.loop { rec1 with state:=.busy })).heap[K]?=w1.heap[K]?:=fun K hK=>World.putObj_heap_other hK
  refine ⟨rfl,rfl,trivial,?_,s4,s5,s6⟩
  refine VRs.mono hμ (fun K hK hm=>(hM K hK).1 hm) (fun K _ hn=>hne K (fun e=>hn (e ▸ (p1.hr.isMut _ _ _ _ hm1).1))) (fun K a0 e0 fr0 hK=>?_) s3
  have:K≠B:=fun e=>by subst e;rw [ho1] at hK;cases hK
  exact ⟨a0,_,(hne K this).trans hK,rfl⟩
 refine ⟨_,run_beginRound ho1 s1,?_⟩
 have pp:=p1.trans p2
 have hB2:∃ r,(w1.putObj B (.loop { rec1 with state:=.busy })).heap[B]?=some (.loop r):=⟨_,World.putObj_heap_same (lt_of_some ho1)⟩
 refine evC_sim hs hmix nn base q6 (some B) n fr1 _ e fr2 H3 ?_ _ _ _ a1 _ p2.hr (f1.post p1.hr p2) (fun l hl=>by cases hl;exact hB2) ?_
 ·exact hbody
 ·rintro a3 w3 ⟨μ3,Mt3,p3,_,_⟩
  have hm3:μ3 id 0=some (B,0):=p3.ext _ _ _ (updM_same _ _ _ _)
  obtain ⟨o3,ho3,hr3⟩:=p3.hr.objs _ _ 0 _ _ hH3 rfl hm3
  cases o3 <;> first | exact hr3.elim | skip
  rename_i rec3
  obtain ⟨_,u1,u2,u3,u4,u5,u6⟩:=hr3
  have hwf3:∀ st pe,ObW H3.length (.loop st pe t3 ps3 as3 b3):=fun _ _=>by have:=p3.hr.wfn hH3 rfl hm3;exact this
  have fin:∀ (jump:Option Code),compStOk (if e=.nrm then .ready else .done) (pendOf e) jump→jump.isNone=decide (e=.nrm)→(if jump.isNone then LoopState.ready else .done)=(if e=.nrm then .ready else .done)→
   ∃ v w',(Instr.endRound B jump).run P w3=.ok v w'∧RetP (CR P pure') μ Mt w H (bl (decide (e=.nrm))) (H3.set id (.loop (if e=.nrm then .ready else .done) (pendOf e) t3 ps3 as3 b3)) (.returned v) w':=by
   intro jump hok hj hst
   refine ⟨_,_,run_endRound jump ho3,_,_,_,rfl,by rw [hj];exact .s _,(pp.trans p3).trans (post_set (g':=0) (b':=0) p3.hr hH3 rfl hm3 ho3 (fun _ _ _ e=>by cases e) (fun _ _=>⟨_,rfl⟩) (.inl ⟨rfl,rfl⟩) (fun j hj=>hj) (fun _ _ e=>by cases e) rfl rfl rfl rfl (hwf3 _ _) ?_)⟩
   intro _ μ' Mt' hμ hM
   have hne:∀ K,K≠B→(w3.putObj B (.loop { rec3 with state:=if jump.isNone then .ready else .done,pending:=jump })).heap[K]?=w3.heap[K]?:=fun K hK=>World.putObj_heap_other hK
   refine ⟨rfl,hst,hok,?_,u4,u5,u6⟩
   refine VRs.mono hμ (fun K hK hm=>(hM K hK).1 hm) (fun K _ hn=>hne K (fun e=>hn (e ▸ (p3.hr.isMut _ _ _ _ hm3).1))) (fun K a0 e0 fr0 hK=>?_) u3
   have:K≠B:=fun e=>by subst e;rw [ho3] at hK;cases hK
   exact ⟨a0,_,(hne K this).trans hK,rfl⟩
  cases e with
  | nrm=>exact fin none rfl rfl rfl
  | ext i=>exact fin (some (.exit i)) rfl rfl rfl
  | ret=>exact fin (some .ret) rfl rfl rfl
theorem evCall_sim (hs:SimCall P (CR P pure') call) (hmix:P.follows .mixedOrders=true) (nn:Nat) (hCP:∀ k c,CP k=some c→FunOk P pure' k c):SimCall P (CR P pure') (evCall CP call (fun b k m=>iterN b k m nn)) where
 fn f fst cap args base H r H' h:=by
  obtain ⟨h1,_,h3⟩:=evCall_fn hs hmix nn hCP h
  exact ⟨h1,h3⟩
 yld id args base H r H' h:=(evCall_yld hs hmix nn h).2
 other v args base H h1 h2:=by
  cases v <;> first | rfl | exact absurd rfl (h1 _ _ _) | exact absurd rfl (h2 _)
 floor v args base H r H' h:=by
  by_cases h1:∃ f a b,v=.fn f a b
  ·obtain ⟨f,a,b,rfl⟩:=h1
   exact (evCall_fn hs hmix nn hCP h).2.1
  ·by_cases h2:∃ id,v=.yld id
   ·obtain ⟨id,rfl⟩:=h2
    exact (evCall_yld hs hmix nn h).1
   ·exfalso
    cases v <;> first | exact h1 ⟨_,_,_,rfl⟩ | exact h2 ⟨_,rfl⟩ | (simp [evCall] at h;done)
theorem callN_sim (hmix:P.follows .mixedOrders=true) (hCP:∀ k c,CP k=some c→FunOk P pure' k c):∀ n,SimCall P (CR P pure') (callN CP n)
 | 0=>⟨fun _ _ _ _ _ _ _ _ h=>(by cases h),fun _ _ _ _ _ _ h=>(by cases h),fun _ _ _ _ _ _=>rfl,fun _ _ _ _ _ _ h=>(by cases h)⟩
 | n+1=>evCall_sim (callN_sim hmix hCP n) hmix n hCP
theorem callN_calls (hmix:P.follows .mixedOrders=true) (hCP:∀ k c,CP k=some c→FunOk P pure' k c) {n k:Nat} {args:List V} {r:V} (h:callN CP n (.fn k [] []) args 0 []=some (r,H')) {w:World} {cs:Array Value}
 (hargs:VRs (fun _ _=>none) (fun _=>False) w args cs.toList) (hfx:∀ (B:Nat) (o:Array Value × TypeId × Nat × Nat),pure'.fx B=some o→w.heap[B]?=some (.cells o.1 o.2.1 o.2.2)):
 Calls P k cs w fun e w'=>∃ c μ' Mt',e=.returned c∧VR μ' Mt' w' r c∧(∀ B,B < w.heap.size→w'.heap[B]?=w.heap[B]?)∧Tr (fun _ _=>none) w w':=by
 have h0:HR (CR P pure') (fun _ _=>none) (fun _=>False) w []:=⟨fun _ _ _ h=>by simp at h,fun _ _ _ _ h=>by simp at h,fun _ _ _ _ _ h=>by simp at h,fun _ _ _ _ _ _ _ h=>by simp at h,fun _ _ _ _ _ h=>by simp at h,fun _ _ _ _ h=>by simp at h,fun B o e=>⟨hfx B o e,fun h=>h⟩,fun _ _ _ h=>by simp at h⟩
 have:=((callN_sim hmix hCP n).fn k [] [] args 0 [] r H' h).2 _ _ w cs.toList h0 (by simpa using hargs) 0
 simp only [Array.toArray_toList] at this
 refine callsIn_wide.1 (CallsIn.mono this ?_)
 rintro e w' ⟨c,μ',Mt',rfl,hv,hp⟩
 exact ⟨c,μ',Mt',rfl,hv,fun B hB=>hp.tr.keep B hB (fun _ _ _ h=>by simp at h),hp.tr⟩
end
end Go.AM
namespace Go.AM
open Go.RowKit
section
variable {P:Program} {pure':PX}
theorem mapM_get2 {α β:Type} {f:α→Option β}:∀ {l:List α} {us:List β},l.mapM f=some us→us.length=l.length∧∀ (i:Nat) (v:α) (u:β),l[i]?=some v→us[i]?=some u→f v=some u:=by
 intro l
 induction l with
 | nil=>intro us h;simp at h;subst h;exact ⟨rfl,fun i v u h=>by simp at h⟩
 | cons x l ih=>
   intro us h
   simp only [List.mapM_cons,Option.pure_def,Option.bind_eq_bind,Option.bind_eq_some_iff] at h
   obtain ⟨v,hv,us',hus,e⟩:=h
   cases e
   obtain ⟨h1,h2⟩:=ih hus
   refine ⟨by simp [h1],fun i a u ha hu=>?_⟩
   cases i with
   | zero=>simp at ha hu;subst ha;subst hu;exact hv
   | succ i=>exact h2 i a u (by simpa using ha) (by simpa using hu)
theorem settle_get {lt:List Nat} {bf:List Nat} {l:List AOper} {i:Nat} {a:AOper} (h:(settleCalls lt bf l)[i]?=some a):∃ b,l[i]?=some b∧(a=b∨(∃ f xs,b.op=.call f xs∧a={ b with op:=.callR f xs })∨∃ k xs,b.op=.callP k xs∧a={ b with op:=.callQ k xs }):=by
 unfold settleCalls at h
 have hi:i < l.length:=by have:=(List.getElem?_eq_some_iff.1 h).1;simpa using this
 have hg:l[i]?=some l[i]:=List.getElem?_eq_getElem hi
 refine ⟨l[i],hg,?_⟩
 rw [List.getElem?_map,List.getElem?_range hi] at h
 have hd:l.getD i default=l[i]:=getD_of hg
 simp only [Option.map_some,hd,Option.some.injEq] at h
 split at h
 ·rename_i f xs hop
  split at h
  ·exact .inl h.symm
  ·exact .inr (.inl ⟨f,xs,hop,h.symm⟩)
 ·rename_i f xs hop
  split at h
  ·exact .inl h.symm
  ·exact .inr (.inr ⟨f,xs,hop,h.symm⟩)
 ·exact .inl h.symm
theorem settleApp_get {l:List AOper} {i:Nat} {a:AOper} (h:(settleApp l)[i]?=some a):∃ b,l[i]?=some b∧(a=b∨∃ sz n s x,b.op=.append sz n s x∧a={ b with op:=.appR sz n s x }):=by
 unfold settleApp at h
 rw [List.getElem?_map,Option.map_eq_some_iff] at h
 obtain ⟨b,hb,e⟩:=h
 refine ⟨b,hb,?_⟩
 split at e
 ·rename_i sz n s x hop
  exact .inr ⟨sz,n,s,x,hop,e.symm⟩
 ·exact .inl e.symm
theorem settleApp_length (l:List AOper):(settleApp l).length=l.length:=by simp [settleApp]
theorem settle_length {lt:List Nat} {bf:List Nat} {l:List AOper}:(settleCalls lt bf l).length=l.length:=by simp [settleCalls]
theorem compRegion_ok {lt:List Nat} {ops:Array Oper} {draw:Bool} {l:List AOper} {chk:List (Nat × Nat)} (h:compRegionL P lt pure' ops draw=some (l,chk)):
 RegR P pure' ops l∧(draw=true→okOrd (Region.before ops).toList chk l=true∧backB ops=true):=by
 unfold compRegionL at h
 simp only [Option.bind_eq_bind,Option.bind_eq_some_iff] at h
 obtain ⟨l0,hl0,h⟩:=h
 obtain ⟨h1,h2⟩:=mapM_get2 hl0
 have one:∀ (i:Nat) (o:Oper) (a:AOper),ops[i]?=some o→l0[i]?=some a→a.dst=o.dst∧(compOp2 P pure' o=some a.op∨a.op=.stuck)∧compGuard ops o.guard=some a.guard:=by
  intro i o a ho ha
  have:=h2 i o a (by simpa using ho) ha
  unfold compOper at this
  simp only [Option.bind_eq_bind,Option.bind_eq_some_iff,Option.pure_def,Option.some.injEq] at this
  obtain ⟨g,hg,e⟩:=this
  subst e
  refine ⟨rfl,?_,hg⟩
  cases hop:compOp2 P pure' o with
  | none=>exact .inr rfl
  | some op=>exact .inl rfl
 split at h
 ·rename_i hd
  have fin:∀ c,okOrd (Region.before ops).toList c (settleCalls lt (Region.before ops).toList l0)=true→backB ops=true→RegR P pure' ops (settleCalls lt (Region.before ops).toList l0)∧(draw=true→okOrd (Region.before ops).toList c (settleCalls lt (Region.before ops).toList l0)=true∧backB ops=true):=by
   intro c hok hbk
   refine ⟨⟨by rw [settle_length,h1];simp,fun i o a ho ha=>?_⟩,fun _=>⟨hok,hbk⟩⟩
   obtain ⟨b,hb,e⟩:=settle_get ha
   obtain ⟨k1,k2,k3⟩:=one i o b ho hb
   rcases e with rfl | ⟨f,xs,hop,rfl⟩ | ⟨f,xs,hop,rfl⟩
   ·exact ⟨k1,k2.imp id fun h=>.inr (.inr (.inr h)),k3⟩
   ·exact ⟨k1,.inr (.inl ⟨f,xs,by rw [← hop];exact k2.resolve_right (by rw [hop];intro h;cases h),rfl⟩),k3⟩
   ·exact ⟨k1,.inr (.inr (.inl ⟨f,xs,by rw [← hop];exact k2.resolve_right (by rw [hop];intro h;cases h),rfl⟩)),k3⟩
  split at h
  ·rename_i hok
   simp only [Bool.and_eq_true] at hok
   simp only [Option.pure_def,Option.some.injEq] at h
   cases h
   exact fin _ (by simp [okOrd,hok.1]) hok.2
  ·split at h
   ·rename_i hok
    simp only [Bool.and_eq_true] at hok
    simp only [Option.pure_def,Option.some.injEq] at h
    cases h
    exact fin _ (by simp [okOrd,hok.1]) hok.2
   ·split at h
    ·rename_i hok
     simp only [Bool.and_eq_true] at hok
     simp only [Option.pure_def,Option.some.injEq] at h
     cases h
     refine ⟨⟨by rw [settleApp_length,settle_length,h1];simp,fun i o a ho ha=>?_⟩,fun _=>⟨by simp [okOrd,hok.1],hok.2⟩⟩
     obtain ⟨b0,hb0,e0⟩:=settleApp_get ha
     obtain ⟨b,hb,e⟩:=settle_get hb0
     obtain ⟨k1,k2,k3⟩:=one i o b ho hb
     rcases e0 with rfl | ⟨sz,n,s,x,hop,rfl⟩
     ·rcases e with rfl | ⟨f,xs,hop,rfl⟩ | ⟨f,xs,hop,rfl⟩
      ·exact ⟨k1,k2.imp id fun h=>.inr (.inr (.inr h)),k3⟩
      ·exact ⟨k1,.inr (.inl ⟨f,xs,by rw [← hop];exact k2.resolve_right (by rw [hop];intro h;cases h),rfl⟩),k3⟩
      ·exact ⟨k1,.inr (.inr (.inl ⟨f,xs,by rw [← hop];exact k2.resolve_right (by rw [hop];intro h;cases h),rfl⟩)),k3⟩
     ·rcases e with rfl | ⟨f,xs,hop',rfl⟩ | ⟨f,xs,hop',rfl⟩
      ·exact ⟨k1,.inr (.inr (.inr (.inl ⟨sz,n,s,x,by rw [← hop];exact k2.resolve_right (by rw [hop];intro h;cases h),rfl⟩))),k3⟩
      ·cases hop
      ·cases hop
    ·cases h
 ·rename_i hd
  simp only [Option.pure_def,Option.some.injEq] at h
  cases h
  refine ⟨⟨by rw [h1];simp,fun i o a ho ha=>?_⟩,fun e=>absurd e hd⟩
  obtain ⟨k1,k2,k3⟩:=one i o a ho ha
  exact ⟨k1,k2.imp id fun h=>.inr (.inr (.inr h)),k3⟩
theorem compC_codeR {lt:List Nat}:∀ (c:Code) (ac:ACode),compCL P lt pure' c=some ac.bare→CodeR P pure' c ac:=by
 intro c
 induction c with
 | skip=>intro ac h;simp only [compCL,Option.some.injEq] at h;cases ac <;> simp only [ACode.bare] at h <;> first | exact .skip | cases h
 | exit id=>intro ac h;simp only [compCL,Option.some.injEq] at h;cases ac <;> simp only [ACode.bare] at h <;> first | (cases h;done) | (cases h;exact .exit _)
 | label l=>intro ac h;simp only [compCL,Option.some.injEq] at h;cases ac <;> simp only [ACode.bare] at h <;> first | exact .label _ | cases h
 | ret=>intro ac h;simp only [compCL,Option.some.injEq] at h;cases ac <;> simp only [ACode.bare] at h <;> first | exact .ret | cases h
 | scope c=>intro ac h;simp [compCL] at h
 | goto l=>intro ac h;simp [compCL] at h
 | refuse w=>intro ac h;simp [compCL] at h
 | region id ops draw=>
   intro ac h
   simp only [compCL] at h
   split at h
   ·rename_i q hr
    obtain ⟨l,chk⟩:=q
    simp only [Option.some.injEq] at h
    obtain ⟨h1,h2⟩:=compRegion_ok hr
    have e:=h
    cases ac <;> simp only [ACode.bare] at e <;> first | (cases e;done) | (cases e;exact .region _ _ _ _ _ _ h1 h2) | (cases e;exact .regionE _ _ _ _ _ _ h1 h2)
   ·split at h
    ·rename_i hdp
     rw [Bool.and_eq_true] at hdp
     obtain ⟨rfl,hp⟩:=hdp
     rw [Option.map_eq_some_iff] at h
     obtain ⟨⟨l,chk⟩,hr,e⟩:=h
     obtain ⟨h1,h2⟩:=compRegion_ok hr
     cases ac <;> simp only [ACode.bare] at e <;> first | (cases e;done) | (cases e;exact .regionP _ _ _ _ _ _ hp h1 (h2 rfl)) | (cases e;exact .regionPE _ _ _ _ _ _ hp h1 (h2 rfl))
    ·cases h
 | seq a b iha ihb=>
   intro ac h
   simp only [compCL,Option.bind_eq_bind,Option.bind_eq_some_iff,Option.pure_def,Option.some.injEq] at h
   obtain ⟨x,hx,y,hy,e⟩:=h
   cases ac <;> simp only [ACode.bare] at e <;> first | (cases e;done) | (cases e;exact .seq _ _ _ _ (iha _ hx) (ihb _ hy))
 | cond c a b iha ihb=>
   intro ac h
   simp only [compCL,Option.bind_eq_bind,Option.bind_eq_some_iff,Option.pure_def,Option.some.injEq] at h
   obtain ⟨o,ho,x,hx,y,hy,e⟩:=h
   cases ac <;> simp only [ACode.bare] at e <;> first | (cases e;done) | (cases e;exact .cond _ _ _ _ _ _ ho (iha _ hx) (ihb _ hy))
 | block id c ih=>
   intro ac h
   simp only [compCL,Option.bind_eq_bind,Option.bind_eq_some_iff,Option.pure_def,Option.some.injEq] at h
   obtain ⟨x,hx,e⟩:=h
   cases ac <;> simp only [ACode.bare] at e <;> first | (cases e;done) | (cases e;exact .block _ _ _ (ih _ hx))
 | loop c ih=>
   intro ac h
   simp only [compCL,Option.bind_eq_bind,Option.bind_eq_some_iff,Option.pure_def,Option.some.injEq] at h
   obtain ⟨x,hx,e⟩:=h
   cases ac <;> simp only [ACode.bare] at e <;> first | (cases e;done) | (cases e;exact .loop _ _ _ (ih _ hx))
 | rangeFunc f ps a b iha ihb=>
   intro ac h
   simp only [compCL,Option.bind_eq_bind,Option.bind_eq_some_iff,Option.pure_def,Option.some.injEq] at h
   obtain ⟨o,ho,x,hx,y,hy,e⟩:=h
   cases ac <;> simp only [ACode.bare] at e <;> first | (cases e;done) | (cases e;exact .rangeFunc _ _ _ _ _ _ _ ho (iha _ hx) (ihb _ hy))
def compKL (lt:List Nat) (P:Program) (pure':PX) (k:Nat):Option (Bool × Nat × List ARes × ACode):=
 match P.funcs[k]? with
 | some fn=>match fn.body with
   | some body=>match compCL P lt pure' body,fn.results.toList.mapM (compRes P) with
     | some a, some rs => some (fn.name == "runtime.NumGoroutine", fn.ntmps, rs, a)
     | _,_=>none
   | none=>none
 | none=>none
abbrev compK (P:Program) (pure':PX) (k:Nat):Option (Bool × Nat × List ARes × ACode):=compKL [] P pure' k
theorem funOk_of {lt:List Nat} {k:Nat} {c:ACFun} (h:compKL lt P pure' k=some (false,c.ntmps,c.results,c.body.bare)):FunOk P pure' k (.code c):=by
 unfold compKL at h
 split at h
 ·rename_i fn hfn
  split at h
  ·rename_i body hb
   split at h
   ·rename_i a rs ha hrs
    simp only [Option.some.injEq,Prod.mk.injEq] at h
    obtain ⟨h1,h2,h3,h4⟩:=h
    exact ⟨fn,body,hfn,hb,h1,compC_codeR _ _ (by rw [ha,h4]),h2,by rw [hrs,h3]⟩
   ·cases h
  ·cases h
 ·cases h
end
end Go.AM
namespace Go.AM
def Le (c c':CallF):Prop:=∀ v args base H r,c v args base H=some r→c' v args base H=some r
theorem evOp_le {c c':CallF} (h:Le c c') {base:Nat} {fr:List V} {H:Heap} {op:AOp} {r:V × Heap} (he:evOp c base fr H op=some r):evOp c' base fr H op=some r:=by
 cases op
 case call f xs=>exact h _ _ _ _ _ he
 case callR f xs=>exact h _ _ _ _ _ he
 case callP f xs=>
  simp only [evOp] at he ⊢
  split at he
  ·rename_i us hus
   split at he
   ·rename_i v H' hc
    rw [h _ _ _ _ _ hc]
    exact he
   ·cases he
  ·cases he
 case callQ f xs=>
  simp only [evOp] at he ⊢
  split at he
  ·rename_i hp
   rw [if_pos hp]
   split at he
   ·rename_i v H' hc
    rw [h _ _ _ _ _ hc]
    exact he
   ·cases he
  ·cases he
 all_goals exact he
theorem evOps_le {c c':CallF} (h:Le c c') {base:Nat}:∀ (l:List AOper) {fr:List V} {H:Heap} {r:List V × Heap},evOps c base l fr H=some r→evOps c' base l fr H=some r:=by
 intro l
 induction l with
 | nil=>intro fr H r he;exact he
 | cons o l ih=>
   intro fr H r he
   simp only [evOps] at he ⊢
   split at he
   ·cases he
   ·exact ih he
   ·split at he
    ·rename_i v H1 h1
     rw [evOp_le h h1]
     exact ih he
    ·cases he
theorem evOps_take_some {c:CallF} {base:Nat}:∀ (l:List AOper) {fr:List V} {H:Heap} {r:List V × Heap},evOps c base l fr H=some r→∀ k,∃ r',evOps c base (l.take k) fr H=some r':=by
 intro l fr H r h k
 rw [← List.take_append_drop k l,evOps_cat] at h
 cases he:evOps c base (l.take k) fr H with
 | none=>rw [he] at h;cases h
 | some r'=>exact ⟨r',rfl⟩
theorem lateOk_le {c c':CallF} (h:Le c c') {base:Nat} {l:List AOper} {fr fr':List V} {H:Heap} {r:List V × Heap} (he:evOps c base l fr H=some r):lateOk c' base l fr H fr'=lateOk c base l fr H fr':=by
 have hk:∀ k,evOps c' base (l.take k) fr H=evOps c base (l.take k) fr H:=fun k=>by
  obtain ⟨r',hr⟩:=evOps_take_some l he k
  rw [hr]
  exact evOps_le h _ hr
 funext p
 simp only [lateOk,callKeeps,hk]
theorem iterN_le {b b':List V→Heap→Option St} (hb:∀ fr H r,b fr H=some r→b' fr H=some r) {kill:List Nat} {m:Nat}:∀ {n n':Nat},n≤n'→∀ {fr:List V} {H:Heap} {r:St},iterN b kill m n fr H=some r→iterN b' kill m n' fr H=some r:=by
 intro n
 induction n with
 | zero=>intro n' _ fr H r h;simp [iterN] at h
 | succ n ih=>
   intro n' hn fr H r h
   obtain ⟨k,rfl⟩:∃ k,n'=k+1:=⟨n' - 1,by omega⟩
   simp only [iterN] at h ⊢
   split at h
   ·rename_i fr1 H1 h1
    rw [hb _ _ _ h1]
    exact ih (by omega) h
   ·rename_i e fr1 H1 hne h1
    rw [hb _ _ _ h1]
    split
    ·rename_i e' ;cases e';exact (hne rfl).elim
    ·rename_i e';cases e';exact h
    ·rename_i e';cases e'
   ·cases h
abbrev itN (n:Nat):IterF:=fun b k m=>iterN b k m n
theorem evC_le {c c':CallF} (h:Le c c') {n n':Nat} (hn:n≤n') {base:Nat}:∀ (ac:ACode) {fr:List V} {H:Heap} {r:St},evC c (itN n) base ac fr H=some r→evC c' (itN n') base ac fr H=some r:=by
 intro ac
 induction ac with
 | skip=>intro fr H r he;exact he
 | regionE ops kill outs=>intro fr H r he;exact he
 | region ops chk kill=>
   intro fr H r he
   simp only [evC] at he ⊢
   split at he
   ·rename_i fr1 H1 h1
    rw [evOps_le h ops h1]
    simp only [lateOk_le h h1]
    exact he
   ·cases he
 | seq a b iha ihb=>
   intro fr H r he
   simp only [evC] at he ⊢
   split at he
   ·rename_i fr1 H1 h1
    rw [iha h1]
    exact ihb he
   ·rename_i hne
    have:=iha he
    rw [this]
    split
    ·rename_i e;cases e;exact (hne _ _ he).elim
    ·rfl
 | cond o a b iha ihb=>
   intro fr H r he
   simp only [evC] at he ⊢
   split at he
   ·exact iha he
   ·exact ihb he
   ·cases he
 | block id a ih=>
   intro fr H r he
   simp only [evC] at he ⊢
   split at he
   ·rename_i id' fr1 H1 h1
    rw [ih h1]
    exact he
   ·rename_i hne
    rw [ih he]
    split
    ·rename_i e;cases e;exact (hne _ _ _ he).elim
    ·rfl
 | loop kill a ih=>
   intro fr H r he
   simp only [evC] at he ⊢
   exact iterN_le (fun fr H r=>ih) hn he
 | rangeFunc f ps a b _ _=>
   intro fr H r he
   simp only [evC] at he ⊢
   split at he
   ·split at he
    ·rename_i v H2 hc
     rw [h _ _ _ _ _ hc]
     exact he
    ·cases he
   ·cases he
 | exit id=>intro fr H r he;exact he
 | ret=>intro fr H r he;exact he
theorem evCall_le {CP:Nat→Option CFun} {c c':CallF} (h:Le c c') {n n':Nat} (hn:n≤n'):Le (evCall CP c (itN n)) (evCall CP c' (itN n')):=by
 intro v args base H r he
 cases v <;> simp only [evCall] at he ⊢ <;> first | (cases he;done) | skip
 case fn f x y=>
  split at he
  ·rename_i cf hcf
   split at he
   ·rename_i fr1 H1 h1;rw [evC_le h hn _ h1];exact he
   ·rename_i fr1 H1 h1;rw [evC_le h hn _ h1];exact he
   ·cases he
  ·exact he
  ·cases he
 case yld id=>
  split at he
  case isFalse=>cases he
  rename_i hb
  rw [if_pos hb]
  split at he
  case h_2=>cases he
  split at he
  case h_2=>cases he
  split at he
  case h_2=>cases he
  rename_i h1
  rw [evC_le h hn _ h1]
  simp only []
  split at he
  case h_2=>cases he
  split at he
  case h_2=>cases he
  rename_i h2
  rw [evC_le h hn _ h2]
  exact he
theorem callN_step {CP:Nat→Option CFun}:∀ n,Le (callN CP n) (callN CP (n+1))
 | 0=>fun _ _ _ _ _ h=>by cases h
 | n+1=>evCall_le (callN_step n) (Nat.le_succ n)
theorem callN_le {CP:Nat→Option CFun} {n m:Nat} (h:n≤m):Le (callN CP n) (callN CP m):=by
 induction m with
 | zero=>have:n=0:=by omega
         subst this;exact fun _ _ _ _ _ h=>h
 | succ m ih=>
   by_cases hn:n=m+1
   ·subst hn;exact fun _ _ _ _ _ h=>h
   ·exact fun v a b H r hr=>callN_step m v a b H r (ih (by omega) v a b H r hr)
open Classical in
noncomputable def callW (CP:Nat→Option CFun):CallF:=fun v args base H=>if h:∃ r n,callN CP n v args base H=some r then some h.choose else none
open Classical in
noncomputable def itW:IterF:=fun b k m fr H=>if h:∃ r n,iterN b k m n fr H=some r then some h.choose else none
variable {CP:Nat→Option CFun}
theorem callW_of {n:Nat} {v:V} {args:List V} {base:Nat} {H:Heap} {r:V × Heap} (h:callN CP n v args base H=some r):callW CP v args base H=some r:=by
 have hx:∃ r n,callN CP n v args base H=some r:=⟨r,n,h⟩
 unfold callW
 rw [dif_pos hx]
 obtain ⟨m,hm⟩:=hx.choose_spec
 have h1:=callN_le (Nat.le_max_left n m) _ _ _ _ _ h
 have h2:=callN_le (Nat.le_max_right n m) _ _ _ _ _ hm
 rw [h1] at h2
 exact h2.symm
theorem callW_ex {v:V} {args:List V} {base:Nat} {H:Heap} {r:V × Heap} (h:callW CP v args base H=some r):∃ n,callN CP n v args base H=some r:=by
 unfold callW at h
 split at h
 ·rename_i hx
  obtain ⟨m,hm⟩:=hx.choose_spec
  exact ⟨m,hm.trans h⟩
 ·cases h
theorem itW_of {b:List V→Heap→Option St} {k:List Nat} {m n:Nat} {fr:List V} {H:Heap} {r:St} (h:iterN b k m n fr H=some r):itW b k m fr H=some r:=by
 have hx:∃ r n,iterN b k m n fr H=some r:=⟨r,n,h⟩
 unfold itW
 rw [dif_pos hx]
 obtain ⟨j,hj⟩:=hx.choose_spec
 have h1:=iterN_le (fun _ _ _ h=>h) (Nat.le_max_left n j) h
 have h2:=iterN_le (fun _ _ _ h=>h) (Nat.le_max_right n j) hj
 rw [h1] at h2
 exact h2.symm
theorem itW_ex {b:List V→Heap→Option St} {k:List Nat} {m:Nat} {fr:List V} {H:Heap} {r:St} (h:itW b k m fr H=some r):∃ n,iterN b k m n fr H=some r:=by
 unfold itW at h
 split at h
 ·rename_i hx
  obtain ⟨j,hj⟩:=hx.choose_spec
  exact ⟨j,hj.trans h⟩
 ·cases h
theorem evOp_cont {base:Nat} {fr:List V} {H:Heap} {op:AOp} {r:V × Heap} (he:evOp (callW CP) base fr H op=some r):∃ n,evOp (callN CP n) base fr H op=some r:=by
 cases op
 case call f xs=>exact callW_ex he
 case callR f xs=>exact callW_ex he
 case callP f xs=>
  simp only [evOp] at he
  split at he
  ·rename_i us hus
   split at he
   ·rename_i v H' hc
    obtain ⟨n,hn⟩:=callW_ex hc
    refine ⟨n,?_⟩
    simp only [evOp,hus,hn]
    exact he
   ·cases he
  ·cases he
 case callQ f xs=>
  simp only [evOp] at he
  split at he
  ·rename_i hp
   split at he
   ·rename_i v H' hc
    obtain ⟨n,hn⟩:=callW_ex hc
    refine ⟨n,?_⟩
    simp only [evOp,if_pos hp,hn]
    exact he
   ·cases he
  ·cases he
 all_goals exact ⟨0,he⟩
theorem evOps_cont {base:Nat}:∀ (l:List AOper) {fr:List V} {H:Heap} {r:List V × Heap},evOps (callW CP) base l fr H=some r→∃ n,evOps (callN CP n) base l fr H=some r:=by
 intro l
 induction l with
 | nil=>intro fr H r he;exact ⟨0,he⟩
 | cons o l ih=>
   intro fr H r he
   simp only [evOps] at he
   split at he
   ·cases he
   ·rename_i hw
    obtain ⟨n,hn⟩:=ih he
    exact ⟨n,by simp only [evOps,hw,hn]⟩
   ·rename_i hw
    split at he
    ·rename_i v H1 h1
     obtain ⟨n1,hn1⟩:=evOp_cont h1
     obtain ⟨n2,hn2⟩:=ih he
     refine ⟨max n1 n2,?_⟩
     simp only [evOps,hw,evOp_le (callN_le (Nat.le_max_left n1 n2)) hn1]
     exact evOps_le (callN_le (Nat.le_max_right n1 n2)) l hn2
    ·cases he
theorem iterN_cont {bW:List V→Heap→Option St} {b:Nat→List V→Heap→Option St} (hmono:∀ n m,n≤m→∀ fr H r,b n fr H=some r→b m fr H=some r) (hb:∀ fr H r,bW fr H=some r→∃ n,b n fr H=some r) {kill:List Nat} {m:Nat}:
 ∀ (k:Nat) {fr:List V} {H:Heap} {r:St},iterN bW kill m k fr H=some r→∃ n,iterN (b n) kill m k fr H=some r:=by
 intro k
 induction k with
 | zero=>intro fr H r h;simp [iterN] at h
 | succ k ih=>
   intro fr H r h
   simp only [iterN] at h
   split at h
   ·rename_i fr1 H1 h1
    obtain ⟨n1,hn1⟩:=hb _ _ _ h1
    obtain ⟨n2,hn2⟩:=ih h
    refine ⟨max n1 n2,?_⟩
    simp only [iterN,hmono _ _ (Nat.le_max_left n1 n2) _ _ _ hn1]
    exact iterN_le (hmono _ _ (Nat.le_max_right n1 n2)) (Nat.le_refl _) hn2
   ·rename_i e fr1 H1 hne h1
    obtain ⟨n1,hn1⟩:=hb _ _ _ h1
    refine ⟨n1,?_⟩
    simp only [iterN,hn1]
    cases e with
    | nrm=>exact (hne rfl).elim
    | ext id=>exact h
    | ret=>exact h
   ·cases h
noncomputable def evN (CP:Nat→Option CFun) (base:Nat) (ac:ACode) (n:Nat):List V→Heap→Option St:=evC (callN CP n) (itN n) base ac
theorem evN_le {base:Nat} {ac:ACode} {n m:Nat} (h:n≤m) {fr:List V} {H:Heap} {r:St} (he:evN CP base ac n fr H=some r):evN CP base ac m fr H=some r:=evC_le (callN_le h) h ac he
theorem evC_cont {base:Nat}:∀ (ac:ACode) {fr:List V} {H:Heap} {r:St},evC (callW CP) itW base ac fr H=some r→∃ n,evN CP base ac n fr H=some r:=by
 intro ac
 induction ac with
 | skip=>intro fr H r he;exact ⟨0,he⟩
 | regionE ops kill outs=>intro fr H r he;exact ⟨0,he⟩
 | region ops chk kill=>
   intro fr H r he
   simp only [evC] at he
   split at he
   ·rename_i fr1 H1 h1
    obtain ⟨n,hn⟩:=evOps_cont ops h1
    have hl:Le (callN CP n) (callW CP):=fun _ _ _ _ _ h=>callW_of h
    refine ⟨n,?_⟩
    simp only [evN,evC,hn]
    simp only [lateOk_le hl hn] at he
    exact he
   ·cases he
 | seq a b iha ihb=>
   intro fr H r he
   simp only [evC] at he
   split at he
   ·rename_i fr1 H1 h1
    obtain ⟨n1,hn1⟩:=iha h1
    obtain ⟨n2,hn2⟩:=ihb he
    refine ⟨max n1 n2,?_⟩
    have k1:=evN_le (Nat.le_max_left n1 n2) hn1
    have k2:=evN_le (Nat.le_max_right n1 n2) hn2
    simp only [evN,evC] at k1 ⊢
    rw [k1]
    exact k2
   ·rename_i hne
    obtain ⟨n,hn⟩:=iha he
    refine ⟨n,?_⟩
    simp only [evN,evC] at hn ⊢
    rw [hn]
    split
    ·rename_i e;cases e;exact (hne _ _ he).elim
    ·rfl
 | cond o a b iha ihb=>
   intro fr H r he
   simp only [evC] at he
   split at he
   ·rename_i hc
    obtain ⟨n,hn⟩:=iha he
    exact ⟨n,by simp only [evN,evC,hc];exact hn⟩
   ·rename_i hc
    obtain ⟨n,hn⟩:=ihb he
    exact ⟨n,by simp only [evN,evC,hc];exact hn⟩
   ·cases he
 | block id a ih=>
   intro fr H r he
   simp only [evC] at he
   split at he
   ·rename_i id' fr1 H1 h1
    obtain ⟨n,hn⟩:=ih h1
    exact ⟨n,by simp only [evN,evC] at hn ⊢;rw [hn];exact he⟩
   ·rename_i hne
    obtain ⟨n,hn⟩:=ih he
    refine ⟨n,?_⟩
    simp only [evN,evC] at hn ⊢
    rw [hn]
    split
    ·rename_i e;cases e;exact (hne _ _ _ he).elim
    ·rfl
 | loop kill a ih=>
   intro fr H r he
   simp only [evC] at he
   obtain ⟨k,hk⟩:=itW_ex he
   obtain ⟨n,hn⟩:=iterN_cont (b:=evN CP base a) (fun n m h fr H r=>evN_le h) (fun fr H r=>ih) k hk
   refine ⟨max n k,?_⟩
   simp only [evN,evC]
   exact iterN_le (fun fr H r h=>evN_le (Nat.le_max_left n k) h) (Nat.le_max_right n k) hn
 | rangeFunc f ps a b _ _=>
   intro fr H r he
   simp only [evC] at he
   split at he
   ·rename_i k x y hf
    split at he
    ·rename_i v H2 hc
     obtain ⟨n,hn⟩:=callW_ex hc
     refine ⟨n,?_⟩
     simp only [evN,evC,hf,hn]
     exact he
    ·cases he
   ·cases he
 | exit id=>intro fr H r he;exact ⟨0,he⟩
 | ret=>intro fr H r he;exact ⟨0,he⟩
theorem evCall_cont {v:V} {args:List V} {base:Nat} {H:Heap} {r:V × Heap} (he:evCall CP (callW CP) itW v args base H=some r):∃ n,evCall CP (callN CP n) (itN n) v args base H=some r:=by
 cases v <;> simp only [evCall] at he ⊢ <;> first | (cases he;done) | skip
 case fn f x y=>
  split at he
  ·rename_i cf hcf
   split at he
   ·rename_i fr1 H1 h1
    obtain ⟨n,hn⟩:=evC_cont _ h1
    refine ⟨n,?_⟩
    simp only [evN] at hn
    simp only [hn];exact he
   ·rename_i fr1 H1 h1
    obtain ⟨n,hn⟩:=evC_cont _ h1
    refine ⟨n,?_⟩
    simp only [evN] at hn
    simp only [hn];exact he
   ·cases he
  ·rename_i g hg
   exact ⟨0,he⟩
  ·cases he
 case yld id=>
  split at he
  case isFalse=>cases he
  rename_i hb
  split at he
  case h_2=>cases he
  rename_i hH
  split at he
  case h_2=>cases he
  rename_i hset
  split at he
  case h_2=>cases he
  rename_i h1
  split at he
  case h_2=>cases he
  rename_i hH1
  split at he
  case h_2=>cases he
  rename_i h2
  obtain ⟨n1,hn1⟩:=evC_cont _ h1
  obtain ⟨n2,hn2⟩:=evC_cont _ h2
  have k1:=evN_le (Nat.le_max_left n1 n2) hn1
  have k2:=evN_le (Nat.le_max_right n1 n2) hn2
  refine ⟨max n1 n2,?_⟩
  simp only [evN] at k1 k2
  simp only [hb,if_true,hset,k1,hH1,k2]
  exact he
theorem callW_eq {v:V} {args:List V} {base:Nat} {H:Heap} {r:V × Heap} (he:evCall CP (callW CP) itW v args base H=some r):callW CP v args base H=some r:=by
 obtain ⟨n,hn⟩:=evCall_cont he
 exact callW_of (n:=n+1) hn
theorem itW_go {b:List V→Heap→Option St} {k:List Nat} {m:Nat} {fr fr':List V} {H H':Heap} {r:St} (h1:b fr H=some (.nrm,fr',H')) (h2:itW b k m (killS k fr') (trim m (killS k fr') H')=some r):itW b k m fr H=some r:=by
 obtain ⟨n,hn⟩:=itW_ex h2
 refine itW_of (n:=n+1) ?_
 simp only [iterN,h1]
 exact hn
theorem itW_stop {b:List V→Heap→Option St} {k:List Nat} {m:Nat} {fr fr':List V} {H H':Heap} {e:Ex} (hne:e≠.nrm) (h1:b fr H=some (e,fr',H')):itW b k m fr H=some (e,killS k fr',trim m (killS k fr') H'):=by
 refine itW_of (n:=1) ?_
 simp only [iterN,h1]
end Go.AM
namespace Go.AM
open Go.RowKit Go.ChangeShapes Go.WideShapes Go.ChangeAt
section
variable {P:Program} {pure':PX} {CP:Nat→Option CFun} {H:Type} {enc:TypeId × Value→H}
theorem kept_of {w w':World} {may:MemPlace→Prop} (hk:∀ B,B < w.heap.size→w'.heap[B]?=w.heap[B]?) (ht:Tr (fun _ _=>none) w w'):w.keptBut w' may:=by
 refine ⟨ht.os,ht.output,fun i hi=>?_⟩
 rw [hk i hi]
 cases w.heap[i]? with
 | none=>rfl
 | some o=>cases o <;> simp
theorem post_left {f:Func} {s:ChangeSpec} {again:Bool} {W W':World} {args:Array Value} {v:Value} {ds gs:List (DataW H)} {before:List MemPlace}
 (hW:DataW.Whole enc P f.params.toList s.vars false W args.toList ds gs before) {pa pv:List MemPlace}
 (hres:∀ (b:Nat) (sp:Nat→Bool) (hd:Bool),DataW.TrodAll enc P W' b sp hd f.resultTypes.toList (v.resultList f.resultTypes.size) (s.fn H (ds ++ gs)).results [])
 (hargs:∀ sp:Nat→Bool,(∀ p∈before,sp p.block=true)→DataW.TrodAll enc P W' 0 sp true f.params.toList args.toList (s.fn H (ds ++ gs)).args pa)
 (hvars:∀ sp:Nat→Bool,(∀ p∈before,sp p.block=true)→DataW.TrodVars enc P W' sp s.vars (s.fn H (ds ++ gs)).vars pv)
 (hps:before=pa ++ pv) (hk:W.keptBut W' (·∈before)) (hfz:∀ b off,MemPlace.cell b off∈before→W'.frozen? ⟨b,off,none⟩=W.frozen? ⟨b,off,none⟩)
 (hok:∀ (j:Nat) (t:TypeId) (r:Value),f.resultTypes[j]?=some t→(v.resultList f.resultTypes.size)[j]?=some r→Value.okWide P W' .any 0 t r):
 s.post enc P f false true false again W args v W':=by
 have old:∀ p∈before,(fun b=>decide (b < W.heap.size)) p.block=true:=fun p hp=>by simpa using hW.lt p hp
 refine ⟨ds,gs,before,[],pa,pv,hW,hres _ _ _,hargs _ old,hvars _ old,World.keptBut_mono (fun p hp=>⟨hp,?_⟩) hk,fun _=>?_⟩
 ·rw [hps,List.mem_append] at hp
  exact .inr hp
 ·obtain ⟨_,_,_,_,_,hz,_⟩:=hW
  refine ⟨hok,_,_,([] ++ pa) ++ pv,⟨[] ++ pa,pv,trodAll_append (hargs _ fun _ _=>rfl) (hres _ _ _),hvars _ fun _ _=>rfl,rfl,fun b off hp=>?_,fun h=>by cases h⟩,fun p hp _=>by rw [hps];simpa using hp⟩
  have hb:MemPlace.cell b off∈before:=by rw [hps];simpa using hp
  rw [hfz b off hb]
  exact hz b off hb
theorem trodAll_carry {w w':World} {base:Nat} {sp:Nat→Bool} {held:Bool}:∀ {ts:List TypeId} {vs:List Value} {ds:List (DataW H)} {ps:List MemPlace},DataW.TrodAll enc P w base sp held ts vs ds ps→(∀ p∈ps,w.sameAt w' p)→DataW.TrodAll enc P w' base sp held ts vs ds ps
 | [],[],[],_,h,_=>h
 | _ :: _,_ :: _,_ :: _,_,⟨p,q,⟨n,h1⟩,h2,e⟩,hs=>⟨p,q,⟨n,DataW.trod_carry n _ _ _ h1 (fun x hx=>hs x (by rw [e];exact List.mem_append_left _ hx))⟩,trodAll_carry h2 (fun x hx=>hs x (by rw [e];exact List.mem_append_right _ hx)),e⟩
theorem trodAll_length {w:World} {base:Nat} {sp:Nat→Bool} {held:Bool}:∀ {ts:List TypeId} {vs:List Value} {ds:List (DataW H)} {ps:List MemPlace},DataW.TrodAll enc P w base sp held ts vs ds ps→ds.length=ts.length
 | [],[],[],_,_=>rfl
 | _ :: _,_ :: _,_ :: _,_,⟨_,_,_,h2,_⟩=>by simp [trodAll_length h2]
theorem sameAt_of {w w':World} {p:MemPlace} (h:w'.heap[p.block]?=w.heap[p.block]?):w.sameAt w' p:=by
 cases p with
 | cell b off=>
   show w'.cell? ⟨b,off,none⟩=w.cell? ⟨b,off,none⟩
   have h:w'.heap[b]?=w.heap[b]?:=h
   simp only [World.cell?,h]
 | map b=>exact h
theorem law_contract (hmix:P.follows .mixedOrders=true) (hCP:∀ k c,CP k=some c→FunOk P pure' k c) (hl:laidOutB P=true) (hm:mapsRowed P=true)
 (hz:((List.range P.types.size).all fun t=>match P.underlying t with | some (.slice e)=>decide (0 < P.cellsOf e) | _=>true)=true)
 {k:Nat} {fn:Func} {s:ChangeSpec} {tb:TypeId} (hvars:s.vars=[]) (hres:fn.resultTypes=#[tb]) (htb:P.underlying tb=some .bool) (hpar:∀ t∈fn.params.toList,t < P.types.size)
 (hspec:∀ ds:List (DataW H),ds.length=fn.params.toList.length→s.fn H ds={ results:=[.lit (.bool true)],args:=ds })
 {W:World} {args:Array Value} {ds gs:List (DataW H)} {before:List MemPlace} (hW:DataW.Whole enc P fn.params.toList s.vars false W args.toList ds gs before)
 (hv:∃ vs,VRs (fun _ _=>none) (fun _=>False) W vs args.toList∧∃ n H',callN CP n (.fn k [] []) vs 0 []=some (bl true,H')) (hfx:∀ (B:Nat) (o:Array Value × TypeId × Nat × Nat),pure'.fx B=some o→W.heap[B]?=some (.cells o.1 o.2.1 o.2.2)):
 Calls P k args W fun e W'=>∃ v,e=.returned v∧s.post enc P fn false true false false W args v W':=by
 obtain ⟨vs,hvs,n,H',hc⟩:=hv
 refine (callN_calls hmix hCP hc hvs hfx).mono ?_
 rintro e W' ⟨c,μ',Mt',rfl,hr,hk,htr⟩
 have hcv:c=.bool true:=vr_s hr
 subst hcv
 have hlt:=hW.lt
 have hW0:=hW
 obtain ⟨p,q,h1,h2,e1,h3,h4⟩:=hW
 rw [hvars] at h2
 obtain ⟨rfl,rfl⟩:gs=[]∧q=[]:=by
  cases gs with
  | nil=>exact ⟨rfl,h2⟩
  | cons g gs=>exact h2.elim
 have hbp:before=p:=by simpa using e1
 have hds:=trodAll_length h1
 have hfn:s.fn H (ds ++ [])={ results:=[.lit (.bool true)],args:=ds }:=by rw [List.append_nil];exact hspec ds hds
 refine ⟨_,rfl,post_left (pa:=before) (pv:=[]) hW0 (fun b sp hd=>?_) (fun sp hsp=>?_) (fun sp _=>?_) (by simp) (kept_of hk htr) (fun b off hp=>?_) (ok_one hres rfl (okWide_bool_mk htb true))⟩
 ·rw [hfn,hres]
  exact ⟨[],[],⟨1,by simp [DataW.trod,Value.cells,htb]⟩,rfl,rfl⟩
 ·rw [hfn]
  have h5:=DataW.TrodAll.respare (kids_rows hl hm) (fun t e ht he=>slices_full_of P hz t e ht he) hpar h1 (spare':=sp) (fun x hx=>hsp x (by rw [hbp];exact hx))
  rw [hbp]
  exact trodAll_carry h5 fun x hx=>sameAt_of (hk _ (hlt x (by rw [hbp];exact hx)))
 ·rw [hfn,hvars];rfl
 ·simp only [World.frozen?,hk b (hlt _ hp)]
end
end Go.AM
namespace Go.AM
theorem pickO_bool (p x y:Bool):pickO (some (.s (.bool p))) (some (.s (.bool x))) (some (.s (.bool y)))=some (.s (.bool (bif p then x else y))):=by cases p <;> rfl
theorem pickO_true (x y:Option V):pickO (some (.s (.bool true))) x y=x:=rfl
theorem pickO_false (x y:Option V):pickO (some (.s (.bool false))) x y=y:=rfl
theorem getD_set_same {fr:List V} {s:Nat} {v:V} (h:s < fr.length):(fr.set s v).getD s .unk=v:=by simp [h]
theorem getD_set_other {fr:List V} {s t:Nat} {v:V} (h:s≠t):(fr.set s v).getD t .unk=fr.getD t .unk:=by simp [h]
theorem trim_same {m:Nat} {fr:List V} {H:Heap} (h:H.length=m):trim m fr H=H:=by
 unfold trim
 split
 ·rw [← h];exact List.take_length
 ·rfl
end Go.AM
namespace Go.AM
inductive RI where
 | keep (g:List (Nat × Bool × E)) (e:E)
 | sub (src:Nat) (path slots:List Nat)
 | tt (i:Nat)
 | cc (v:V)
 deriving Inhabited
def subAt:List Nat→List Nat→E→List (Nat × Bool × E) × E
 | [],_,e=>([],e)
 | i :: p,ss,.op _ xs=>subAt p ss (xs.getD i (.c .unk))
 | 0 :: p,ss,.pick c _ _=>subAt p ss c
 | 1 :: p,s :: ss,.pick c a _=>((s,true,c) :: (subAt p ss a).1,(subAt p ss a).2)
 | 2 :: p,s :: ss,.pick c _ b=>((s,false,c) :: (subAt p ss b).1,(subAt p ss b).2)
 | _,_,_=>([],.c .unk)
def kepts:List RI→List (List (Nat × Bool × E) × E)
 | []=>[]
 | .keep g e :: r=>(g,e) :: kepts r
 | _ :: r=>kepts r
def frees:List RI→List E
 | []=>[]
 | .keep [] e :: r=>e :: frees r
 | _ :: r=>frees r
def RI.get (S:List E):RI→List (Nat × Bool × E) × E
 | .keep g e=>(g,e)
 | .sub s p ss=>subAt p ss (S.getD s (.c .unk))
 | .tt i=>([],.t i)
 | .cc v=>([],.c v)
def expand (items:List RI) (os:List (Nat × E)):List (List (Nat × Bool × E) × E):=items.map (RI.get (os.map (·.2) ++ frees items))
theorem evEs_get {fr:List V} {H:Heap}:∀ {xs:List E} {i:Nat},(evEs fr H xs).isSome=true→(evE fr H (xs.getD i (.c .unk))).isSome=true:=by
 intro xs
 induction xs with
 | nil=>intro i _;simp [evE]
 | cons x xs ih=>
   intro i h
   simp only [evEs] at h
   cases hx:evE fr H x with
   | none=>simp [hx] at h
   | some v=>
     cases hs:evEs fr H xs with
     | none=>simp [hx,hs] at h
     | some vs=>
       cases i with
       | zero=>simp [hx]
       | succ i=>simpa using ih (i:=i) (by rw [hs];rfl)
theorem subAt_some {fr:List V} {H:Heap}:∀ (p ss:List Nat) (e:E),(evE fr H e).isSome=true→reqE fr H (subAt p ss e).1 (subAt p ss e).2=true:=by
 intro p
 induction p with
 | nil=>intro ss e h;simp only [subAt,reqE];exact h
 | cons i p ih=>
   intro ss e h
   cases e with
   | op o xs=>
     simp only [subAt]
     refine ih _ _ (evEs_get ?_)
     simp only [evE] at h
     cases hs:evEs fr H xs with
     | none=>simp [hs] at h
     | some vs=>rfl
   | pick c a b=>
     simp only [evE] at h
     cases hc:evE fr H c with
     | none=>simp [hc,pickO] at h
     | some v=>
       rw [hc] at h
       match i,ss with
       | 0,ss=>simp only [subAt];exact ih _ _ (by rw [hc];rfl)
       | 1,[]=>simp only [subAt,reqE,evE];rfl
       | 2,[]=>simp only [subAt,reqE,evE];rfl
       | 1,s :: ss=>
         simp only [subAt,reqE,hc]
         unfold pickO at h
         split at h
         ·rename_i e;cases e;simp only [reqB,if_true];exact ih _ _ h
         ·rename_i e;cases e;simp [reqB]
         ·cases h
       | 2,s :: ss=>
         simp only [subAt,reqE,hc]
         unfold pickO at h
         split at h
         ·rename_i e;cases e;simp [reqB]
         ·rename_i e;cases e;simp only [reqB,if_true];exact ih _ _ h
         ·cases h
       | i+3,ss=>simp only [subAt,reqE,evE];rfl
   | t j=>simp only [subAt,reqE,evE];rfl
   | c v=>simp only [subAt,reqE,evE];rfl
theorem setOuts_some {fr:List V} {H:Heap}:∀ {os:List (Nat × E)} {f g:List V},setOuts fr H os f=some g→∀ p∈os,(evE fr H p.2).isSome=true:=by
 intro os
 induction os with
 | nil=>intro f g _ p hp;cases hp
 | cons q os ih=>
   intro f g h p hp
   simp only [setOuts] at h
   cases hq:evE fr H q.2 with
   | none=>simp [hq] at h
   | some v=>
     simp only [hq] at h
     rcases List.mem_cons.1 hp with rfl | hp
     ·rw [hq];rfl
     ·exact ih h p hp
theorem kepts_mem:∀ {items:List RI} {g:List (Nat × Bool × E)} {e:E},RI.keep g e∈items→(g,e)∈kepts items:=by
 intro items
 induction items with
 | nil=>intro g e h;cases h
 | cons x r ih=>
   intro g e h
   rcases List.mem_cons.1 h with h2 | h2
   ·subst h2;simp [kepts]
   ·have h3:=ih h2
    clear h
    cases x <;> simp only [kepts] <;> first | exact List.mem_cons_of_mem _ h3 | exact h3
theorem mem_kepts:∀ {items:List RI} {g:List (Nat × Bool × E)} {e:E},(g,e)∈kepts items→RI.keep g e∈items:=by
 intro items
 induction items with
 | nil=>intro g e h;cases h
 | cons x r ih=>
   intro g e h
   cases x with
   | keep g' e'=>
     simp only [kepts] at h
     rcases List.mem_cons.1 h with h | h
     ·cases h;exact List.mem_cons_self
     ·exact List.mem_cons_of_mem _ (ih h)
   | _=>exact List.mem_cons_of_mem _ (ih h)
theorem frees_mem:∀ {items:List RI} {e:E},e∈frees items→([],e)∈kepts items:=by
 intro items
 induction items with
 | nil=>intro e h;cases h
 | cons x r ih=>
   intro e h
   cases x with
   | keep g e'=>
     cases g with
     | nil=>
       simp only [frees] at h
       simp only [kepts]
       rcases List.mem_cons.1 h with rfl | h
       ·exact List.mem_cons_self
       ·exact List.mem_cons_of_mem _ (ih h)
     | cons a g=>simp only [frees] at h;simp only [kepts];exact List.mem_cons_of_mem _ (ih h)
   | _=>exact ih h
theorem evTale_short (m:Nat) (items:List RI) (os:List (Nat × E)) (kill:List Nat) (fr:List V) (H:Heap):
 evTale (some (m,expand items os,os)) kill fr H=evTale (some (m,kepts items,os)) kill fr H:=by
 simp only [evTale]
 by_cases hm:m≤fr.length
 ·rw [if_pos hm,if_pos hm]
  by_cases hk:(kepts items).all (fun r=>reqE fr H r.1 r.2)=true
  ·rw [if_pos hk]
   cases hs:setOuts fr H os (killS kill fr) with
   | none=>split <;> rfl
   | some g=>
     rw [if_pos]
     rw [List.all_eq_true]
     intro r hr
     unfold expand at hr
     rw [List.mem_map] at hr
     obtain ⟨x,hx,rfl⟩:=hr
     cases x with
     | keep gg e=>
       rw [List.all_eq_true] at hk
       exact hk _ (kepts_mem hx)
     | tt i=>rfl
     | cc v=>rfl
     | sub s p ss=>
       simp only [RI.get]
       by_cases hl:s < (os.map (·.2) ++ frees items).length
       ·have hd:(os.map (·.2) ++ frees items).getD s (.c .unk)=(os.map (·.2) ++ frees items)[s]:=by simp only [List.getD,List.getElem?_eq_getElem hl];rfl
        rw [hd]
        rcases List.mem_append.1 (List.getElem_mem hl) with h1 | h1
        ·rw [List.mem_map] at h1
         obtain ⟨q,hq,e⟩:=h1
         rw [← e]
         exact subAt_some p ss _ (setOuts_some hs q hq)
        ·rw [List.all_eq_true] at hk
         have h5:=hk _ (frees_mem h1)
         exact subAt_some p ss _ (by simpa [reqE] using h5)
       ·have hd:(os.map (·.2) ++ frees items).getD s (.c .unk)=.c .unk:=by rw [List.getD,List.getElem?_eq_none (Nat.le_of_not_lt hl)];rfl
        rw [hd]
        exact subAt_some (fr:=fr) (H:=H) p ss _ rfl
  ·rw [if_neg hk,if_neg]
   intro h
   apply hk
   rw [List.all_eq_true] at h ⊢
   intro r hr
   obtain ⟨g,e⟩:=r
   exact h _ (List.mem_map.2 ⟨_,mem_kepts hr,rfl⟩)
 ·rw [if_neg hm,if_neg hm]
theorem tale_row {ops:List AOper} {kill outs:List Nat} {m:Nat} {items:List RI} {os:List (Nat × E)} (h:symAll ops kill outs=some (m,expand items os,os)) (fr:List V) (H:Heap):
 evTale (symAll ops kill outs) kill fr H=evTale (some (m,kepts items,os)) kill fr H:=by rw [h,evTale_short]
end Go.AM
namespace Go.AM
abbrev Env:=List (Nat × V)
def getV:Env→Nat→V
 | [],_=>.unk
 | (k,x) :: e,s=>if s=k then x else getV e s
def putV (s:Nat) (v:V):Env→Env
 | []=>[(s,v)]
 | (k,x) :: e=>if s=k then (s,v) :: e else if s < k then (s,v) :: (k,x) :: e else (k,x) :: putV s v e
def killV (ks:List Nat):Env→Env
 | []=>[]
 | (k,x) :: e=>if ks.contains k then killV ks e else (k,x) :: killV ks e
def frOf (n:Nat) (en:Env):List V:=(List.range n).map (getV en)
theorem getV_put (s t:Nat) (v:V):∀ en:Env,getV (putV s v en) t=if t=s then v else getV en t:=by
 intro en
 induction en with
 | nil=>rfl
 | cons p e ih=>
   obtain ⟨k,x⟩:=p
   simp only [putV]
   split
   ·rename_i h;subst h;simp only [getV];split <;> rfl
   ·split
    ·simp only [getV]
    ·rename_i h1 h2
     simp only [getV,ih]
     by_cases h3:t=k
     ·subst h3;rw [if_pos rfl,if_neg (fun e=>h1 e.symm),if_pos rfl]
     ·rw [if_neg h3,if_neg h3]
theorem getV_kill (ks:List Nat) (t:Nat):∀ en:Env,getV (killV ks en) t=if ks.contains t then .unk else getV en t:=by
 intro en
 induction en with
 | nil=>simp [killV,getV]
 | cons p e ih=>
   obtain ⟨k,x⟩:=p
   simp only [killV]
   by_cases h1:ks.contains k=true
   ·rw [if_pos h1,ih]
    split
    ·rfl
    ·rename_i h2
     simp only [getV]
     rw [if_neg]
     rintro rfl
     exact h2 h1
   ·rw [if_neg h1]
    simp only [getV,ih]
    by_cases h3:t=k
    ·subst h3;rw [if_pos rfl,if_neg h1,if_pos rfl]
    ·rw [if_neg h3,if_neg h3]
theorem frOf_length (n:Nat) (en:Env):(frOf n en).length=n:=by simp [frOf]
theorem frOf_get {n:Nat} {en:Env} {s:Nat} (h:s < n):(frOf n en).getD s .unk=getV en s:=by simp [frOf,h]
theorem fr_eq {n:Nat} {en:Env} {fr:List V} (hl:fr.length=n) (h:∀ s,s < n→fr.getD s .unk=getV en s):fr=frOf n en:=by
 refine List.ext_getElem (by rw [hl,frOf_length]) fun i h1 h2=>?_
 have:=h i (by omega)
 simp only [frOf,List.getElem_map,List.getElem_range]
 rw [← this]
 simp [h1]
theorem frOf_set (n:Nat) (en:Env) (s:Nat) (v:V):(frOf n en).set s v=frOf n (putV s v en):=by
 refine fr_eq (by rw [List.length_set,frOf_length]) fun t ht=>?_
 rw [getV_put]
 split
 ·rename_i h;subst h;exact getD_set_same (by rw [frOf_length];exact ht)
 ·rename_i h;rw [getD_set_other (fun e=>h e.symm),frOf_get ht]
theorem frOf_kill (n:Nat) (en:Env) (ks:List Nat):killS ks (frOf n en)=frOf n (killV ks en):=by
 refine fr_eq (by rw [killS_length,frOf_length]) fun t ht=>?_
 rw [killS_getD,getV_kill]
 by_cases h:t∈ks
 ·rw [if_pos h,if_pos (by simpa using h)]
 ·rw [if_neg h,if_neg (by simpa using h),frOf_get ht]
def startV (n:Nat):List V→Nat→Env
 | [],k=>(List.range' k (n - k)).map fun s=>(s,und)
 | v :: vs,k=>(k,v) :: startV n vs (k+1)
theorem getV_start (n:Nat):∀ (vs:List V) (k t:Nat),k≤t→t < n→vs.length+k≤n→getV (startV n vs k) t=if t - k < vs.length then vs.getD (t - k) .unk else und:=by
 intro vs
 induction vs with
 | nil=>
   intro k t h1 h2 _
   simp only [startV,List.length_nil,Nat.not_lt_zero,if_false]
   have:∀ (m j:Nat),j≤t→t < j+m→getV ((List.range' j m).map fun s=>(s,und)) t=und:=by
    intro m
    induction m with
    | zero=>intro j a b;omega
    | succ m ih=>
      intro j a b
      simp only [List.range'_succ,List.map_cons,getV]
      split
      ·rfl
      ·exact ih (j+1) (by omega) (by omega)
   exact this _ k h1 (by omega)
 | cons v vs ih=>
   intro k t h1 h2 h3
   simp only [startV,getV,List.length_cons] at h3 ⊢
   split
   ·rename_i h;subst h;simp
   ·rename_i h
    rw [ih (k+1) t (by omega) h2 (by omega)]
    obtain ⟨d,hd⟩:∃ d,t - k=d+1:=⟨t - k - 1,by omega⟩
    have:t - (k+1)=d:=by omega
    rw [hd,this]
    simp only [Nat.add_lt_add_iff_right,List.getD_cons_succ]
theorem start_eq {n:Nat} {vs:List V} (h:vs.length≤n):vs ++ List.replicate (n - vs.length) und=frOf n (startV n vs 0):=by
 refine fr_eq (by simp;omega) fun t ht=>?_
 rw [getV_start n vs 0 t (Nat.zero_le _) ht (by omega)]
 split
 ·rename_i h1;simp at h1;simp only [List.getD,List.getElem?_append_left h1,Nat.sub_zero]
 ·rename_i h1
  simp at h1
  simp only [List.getD,List.getElem?_append_right h1,List.getElem?_replicate]
  rw [if_pos (by omega)]
  rfl
theorem getV_nil (s:Nat):getV [] s=.unk:=rfl
theorem getV_cons (k:Nat) (x:V) (e:Env) (s:Nat):getV ((k,x) :: e) s=if s=k then x else getV e s:=rfl
theorem putV_nil (s:Nat) (v:V):putV s v []=[(s,v)]:=rfl
theorem putV_cons (s:Nat) (v:V) (k:Nat) (x:V) (e:Env):putV s v ((k,x) :: e)=if s=k then (s,v) :: e else if s < k then (s,v) :: (k,x) :: e else (k,x) :: putV s v e:=rfl
theorem killV_nil (ks:List Nat):killV ks []=[]:=rfl
theorem killV_cons (ks:List Nat) (k:Nat) (x:V) (e:Env):killV ks ((k,x) :: e)=if ks.contains k then killV ks e else (k,x) :: killV ks e:=rfl
theorem itW_eq (b:List V→Heap→Option St) (k:List Nat) (m:Nat) (fr:List V) (H:Heap):itW b k m fr H=match b fr H with
 | some (.nrm,fr',H')=>itW b k m (killS k fr') (trim m (killS k fr') H')
 | some (e,fr',H')=>some (e,killS k fr',trim m (killS k fr') H')
 | none=>none:=by
 cases hb:b fr H with
 | none=>
   simp only []
   cases hi:itW b k m fr H with
   | none=>rfl
   | some r=>
     obtain ⟨n,hn⟩:=itW_ex hi
     cases n with
     | zero=>simp [iterN] at hn
     | succ n=>simp [iterN,hb] at hn
 | some r=>
   obtain ⟨e,fr',H'⟩:=r
   cases e with
   | nrm=>
     simp only []
     cases hi:itW b k m (killS k fr') (trim m (killS k fr') H') with
     | some r=>exact itW_go hb hi
     | none=>
       cases hj:itW b k m fr H with
       | none=>rfl
       | some r=>
         obtain ⟨n,hn⟩:=itW_ex hj
         cases n with
         | zero=>simp [iterN] at hn
         | succ n=>
           simp only [iterN,hb] at hn
           rw [itW_of hn] at hi
           cases hi
   | ext id=>exact itW_stop (by simp) hb
   | ret=>exact itW_stop (by simp) hb
noncomputable def thenC (call:CallF) (it:IterF) (base:Nat) (b:ACode):Option St→Option St
 | some (.nrm,fr,H)=>evC call it base b fr H
 | r=>r
def outC (id:Nat):Option St→Option St
 | some (.ext id',fr,H)=>some (if id'=id then .nrm else .ext id',fr,H)
 | r=>r
noncomputable def condC (call:CallF) (it:IterF) (base:Nat) (a b:ACode) (fr:List V) (H:Heap):V→Option St
 | .s (.bool p)=>bif p then evC call it base a fr H else evC call it base b fr H
 | _=>none
def rowC (H:Heap):Option (List V)→Option St
 | some fr=>some (.nrm,fr,H)
 | none=>none
def opsC (chk:List (Nat × Nat)) (ops:List AOper) (kill:List Nat):Option (List V × Heap)→Option St
 | some (fr,H)=>bif chk.all (apartAt ops fr) then some (.nrm,killS kill fr,H) else none
 | none=>none
section
variable {call:CallF} {it:IterF} {base:Nat}
theorem evC_skip (fr:List V) (H:Heap):evC call it base .skip fr H=some (.nrm,fr,H):=rfl
theorem evC_exit (id:Nat) (fr:List V) (H:Heap):evC call it base (.exit id) fr H=some (.ext id,fr,H):=rfl
theorem evC_ret (fr:List V) (H:Heap):evC call it base .ret fr H=some (.ret,fr,H):=rfl
theorem evC_seq (a b:ACode) (fr:List V) (H:Heap):evC call it base (.seq a b) fr H=thenC call it base b (evC call it base a fr H):=rfl
theorem evC_block (id:Nat) (c:ACode) (fr:List V) (H:Heap):evC call it base (.block id c) fr H=outC id (evC call it base c fr H):=rfl
theorem evC_cond (c:Opd) (a b:ACode) (fr:List V) (H:Heap):evC call it base (.cond c a b) fr H=condC call it base a b fr H (ev fr c):=by
 simp only [evC]
 cases ev fr c with
 | s v=>cases v with
   | bool p=>cases p <;> rfl
   | _=>rfl
 | _=>rfl
theorem evC_loop (kill:List Nat) (c:ACode) (fr:List V) (H:Heap):evC call it base (.loop kill c) fr H=it (evC call it base c) kill H.length (killS kill fr) H:=rfl
theorem evC_row (ops:List AOper) (kill outs:List Nat) (fr:List V) (H:Heap):evC call it base (.regionE ops kill outs) fr H=rowC H (evTale (symAll ops kill outs) kill fr H):=rfl
theorem evC_ops (ops:List AOper) (kill:List Nat) (fr:List V) (H:Heap):evC call it base (.region ops [] kill) fr H=opsC [] ops kill (evOps call base ops fr H):=by
 simp only [evC]
 cases evOps call base ops fr H with
 | none=>rfl
 | some p=>rfl
theorem thenC_nrm (b:ACode) (fr:List V) (H:Heap):thenC call it base b (some (.nrm,fr,H))=evC call it base b fr H:=rfl
theorem thenC_ext (b:ACode) (i:Nat) (fr:List V) (H:Heap):thenC call it base b (some (.ext i,fr,H))=some (.ext i,fr,H):=rfl
theorem thenC_ret (b:ACode) (fr:List V) (H:Heap):thenC call it base b (some (.ret,fr,H))=some (.ret,fr,H):=rfl
theorem thenC_none (b:ACode):thenC call it base b none=none:=rfl
theorem thenC_cond (b:ACode) (p:Bool) (x y:Option St):thenC call it base b (bif p then x else y)=bif p then thenC call it base b x else thenC call it base b y:=by cases p <;> rfl
theorem outC_nrm (id:Nat) (fr:List V) (H:Heap):outC id (some (.nrm,fr,H))=some (.nrm,fr,H):=rfl
theorem outC_ret (id:Nat) (fr:List V) (H:Heap):outC id (some (.ret,fr,H))=some (.ret,fr,H):=rfl
theorem outC_ext (id i:Nat) (fr:List V) (H:Heap):outC id (some (.ext i,fr,H))=some (if i=id then .nrm else .ext i,fr,H):=rfl
theorem outC_none (id:Nat):outC id none=none:=rfl
theorem outC_cond (id:Nat) (p:Bool) (x y:Option St):outC id (bif p then x else y)=bif p then outC id x else outC id y:=by cases p <;> rfl
theorem condC_bool (a b:ACode) (fr:List V) (H:Heap) (p:Bool):condC call it base a b fr H (.s (.bool p))=bif p then evC call it base a fr H else evC call it base b fr H:=rfl
theorem rowC_some (H:Heap) (fr:List V):rowC H (some fr)=some (.nrm,fr,H):=rfl
theorem opsC_some (ops:List AOper) (kill:List Nat) (fr:List V) (H:Heap):opsC [] ops kill (some (fr,H))=some (.nrm,killS kill fr,H):=rfl
end
def taleR (fr:List V) (H:Heap) (os:List (Nat × E)) (kill:List Nat) (r:Bool):Option (List V):=bif r then setOuts fr H os (killS kill fr) else none
def outE (fr:List V) (H:Heap) (os:List (Nat × E)) (fr':List V) (s:Nat):Option V→Option (List V)
 | some v=>setOuts fr H os (fr'.set s v)
 | none=>none
theorem evTale_some {m:Nat} {R:List (List (Nat × Bool × E) × E)} {os:List (Nat × E)} {kill:List Nat} {fr:List V} {H:Heap} (h:m≤fr.length):evTale (some (m,R,os)) kill fr H=taleR fr H os kill (R.all fun r=>reqE fr H r.1 r.2):=by
 simp only [evTale,if_pos h,taleR]
 cases R.all fun r=>reqE fr H r.1 r.2 <;> rfl
theorem taleR_true (fr:List V) (H:Heap) (os:List (Nat × E)) (kill:List Nat):taleR fr H os kill true=setOuts fr H os (killS kill fr):=rfl
theorem setOuts_nil (fr:List V) (H:Heap) (fr':List V):setOuts fr H [] fr'=some fr':=rfl
theorem setOuts_cons (fr:List V) (H:Heap) (s:Nat) (e:E) (os:List (Nat × E)) (fr':List V):setOuts fr H ((s,e) :: os) fr'=outE fr H os fr' s (evE fr H e):=rfl
theorem outE_some (fr:List V) (H:Heap) (os:List (Nat × E)) (fr':List V) (s:Nat) (v:V):outE fr H os fr' s (some v)=setOuts fr H os (fr'.set s v):=rfl
theorem reqE_nil (fr:List V) (H:Heap) (e:E):reqE fr H [] e=(evE fr H e).isSome:=rfl
theorem reqE_cons (fr:List V) (H:Heap) (s:Nat) (b:Bool) (x:E) (G:List (Nat × Bool × E)) (e:E):reqE fr H ((s,b,x) :: G) e=reqB (evE fr H x) b (reqE fr H G e):=rfl
theorem reqB_bool (p b r:Bool):reqB (some (.s (.bool p))) b r=bif p == b then r else true:=by cases p <;> cases b <;> cases r <;> rfl
def V1 (f:V→Option V):Option V→Option V
 | some x=>f x
 | none=>none
def V2 (f:V→V→Option V):Option V→Option V→Option V
 | some x,some y=>f x y
 | _,_=>none
theorem V1_some (f:V→Option V) (x:V):V1 f (some x)=f x:=rfl
theorem V2_some (f:V→V→Option V) (x y:V):V2 f (some x) (some y)=f x y:=rfl
theorem evE_t (fr:List V) (H:Heap) (i:Nat):evE fr H (.t i)=some (fr.getD i .unk):=rfl
theorem evE_c (fr:List V) (H:Heap) (v:V):evE fr H (.c v)=some v:=rfl
theorem evE_pick (fr:List V) (H:Heap) (c a b:E):evE fr H (.pick c a b)=pickO (evE fr H c) (evE fr H a) (evE fr H b):=rfl
def xBin (op:BinOp):V→V→Option V
 | .s a,.s b=>(binS op a b).map .s
 | _,_=>none
def xEqB (neg:Bool):V→V→Option V
 | .s (.bool a),.s (.bool b)=>some (bl ((a == b) != neg))
 | _,_=>none
def xEqP (H:Heap) (neg:Bool):V→V→Option V
 | .ref i g _,.ref j h _=>if i=j then none else match getC H i g,getC H j h with
   | some _,some _=>some (bl neg)
   | _,_=>none
 | _,_=>none
def xEqNil (k:NK) (neg:Bool) (x:V):Option V:=(x.isNil k).map fun b=>bl (b != neg)
def xEqAgg (neg:Bool) (ls:List Leaf):V→V→Option V
 | .agg xs,.agg ys=>(eqLeaves ls xs ys).map fun b=>bl (b != neg)
 | _,_=>none
def xUn (op:UnOp) (x:V):Option V:=match op,x with
 | .not,.s (.bool b)=>some (bl (!b))
 | .neg,.s (.int k n)=>some (.s (.int k (k.wrap (0 - n))))
 | .xor,.s (.int k n)=>(binS .xor (.int k (if k.signed then -1 else k.max)) (.int k n)).map .s
 | _,_=>none
def xConv (k:IntKind):V→Option V
 | .s (.int _ n)=>some (.s (.int k (k.wrap n)))
 | _=>none
def xConvId:V→Option V
 | .s (.string b)=>some (.s (.string b))
 | _=>none
def xNilCheck:V→Option V
 | .ref id g off=>some (.ref id g off)
 | .pref cs=>some (.pref cs)
 | .fn f a b=>some (.fn f a b)
 | .yld id=>some (.yld id)
 | _=>none
def xFieldAddr (off:Nat):V→Option V
 | .ref id g o=>some (.ref id g (o+off))
 | .pref cs=>if off≤cs.length then some (.pref (cs.drop off)) else none
 | _=>none
def xField (g:Bool) (off n:Nat):V→Option V
 | .agg cs=>if ((cs.drop off).take n).length=n then shut g ((cs.drop off).take n) else none
 | _=>none
def xIndexAddr (sz:Nat):V→V→Option V
 | .sl id g off len sz',.s (.int _ n)=>if 0≤n∧n < len∧sz'=sz then some (.ref id g (off+n.toNat * sz)) else none
 | .psl es sz',.s (.int _ n)=>if 0≤n∧sz'=sz then (es[n.toNat]?).map .pref else none
 | _,_=>none
def xIndexStr:V→V→Option V
 | .s (.string b),.s (.int _ n)=>if 0≤n then (b.data.toList[n.toNat]?).map fun c=>.s (.int .u8 c.toNat) else none
 | _,_=>none
def xExtract (i:Nat):V→Option V
 | .tup vs=>vs[i]?
 | _=>none
def xLen (H:Heap):NK→V→Option V
 | .p,.s (.string b)=>some (i64 b.size)
 | .s,.s (.slice none 0 0)=>some (i64 0)
 | .m,.s (.map none)=>some (i64 0)
 | .s,.esl=>some (i64 0)
 | .s,.psl es _=>some (i64 es.length)
 | .s,.sl _ _ _ len _=>some (i64 len)
 | .m,.mp id=>match H[id]? with
   | some (.map es)=>some (i64 es.length)
   | _=>none
 | _,_=>none
def xMapGet (H:Heap) (kind:TypeDesc) (zero:V) (ok:Bool) (m k:V):Option V:=(evOp (fun _ _ _ _=>none) 0 [m,k] H (.mapGet kind zero (.t 0) (.t 1) ok)).map (·.1)
def xMinmax (mx:Bool):V→V→Option V
 | .s (.int k a),.s (.int k' b)=>if k=k' then some (.s (.int k (if mx then (if a < b then b else a) else (if b < a then b else a)))) else none
 | _,_=>none
def xLoad (H:Heap) (g:Bool) (n:Nat) (a:V):Option V:=loadV H g n a
def xSub (H:Heap) (o:AOp):Option (List V)→Option V
 | some vs=>(evOp (fun _ _ _ _=>none) 0 vs H o).map (·.1)
 | none=>none
def L1 (x:Option V) (xs:Option (List V)):Option (List V):=match x,xs with
 | some v,some vs=>some (v :: vs)
 | _,_=>none
theorem L1_some (v:V) (vs:List V):L1 (some v) (some vs)=some (v :: vs):=rfl
section
variable (fr:List V) (H:Heap) (x y:E)
theorem evEs_nil:evEs fr H []=some []:=rfl
theorem evEs_cons (xs:List E):evEs fr H (x :: xs)=L1 (evE fr H x) (evEs fr H xs):=by
 simp only [evEs];cases evE fr H x <;> cases evEs fr H xs <;> rfl
theorem evE_op (o:AOp) (xs:List E):evE fr H (.op o xs)=xSub H o (evEs fr H xs):=by
 simp only [evE]
 cases evEs fr H xs with
 | none=>rfl
 | some vs=>simp only [xSub];cases evOp (fun _ _ _ _=>none) 0 vs H o <;> rfl
theorem op1 {o:AOp} {f:V→Option V} (h:∀ v,xSub H o (some [v])=f v):evE fr H (.op o [x])=V1 f (evE fr H x):=by
 rw [evE_op,evEs_cons,evEs_nil]
 cases evE fr H x with
 | none=>rfl
 | some v=>exact h v
theorem op2 {o:AOp} {f:V→V→Option V} (h:∀ v u,xSub H o (some [v,u])=f v u):evE fr H (.op o [x,y])=V2 f (evE fr H x) (evE fr H y):=by
 rw [evE_op,evEs_cons,evEs_cons,evEs_nil]
 cases evE fr H x with
 | none=>rfl
 | some v=>cases evE fr H y with
   | none=>rfl
   | some u=>exact h v u
theorem op2L {o:AOp} {f:V→V→Option V} {c:V} (h:∀ v,xSub H o (some [v,c])=f v c):evE fr H (.op o [x,.c c])=V2 f (evE fr H x) (some c):=by
 rw [evE_op,evEs_cons,evEs_cons,evEs_nil,evE_c]
 cases evE fr H x with
 | none=>rfl
 | some v=>exact h v
theorem op2R {o:AOp} {f:V→V→Option V} {c:V} (h:∀ v,xSub H o (some [c,v])=f c v):evE fr H (.op o [.c c,y])=V2 f (some c) (evE fr H y):=by
 rw [evE_op,evEs_cons,evEs_cons,evEs_nil,evE_c]
 cases evE fr H y with
 | none=>rfl
 | some v=>exact h v
theorem evE_bin (op:BinOp):evE fr H (.op (.bin op (.t 0) (.t 1)) [x,y])=V2 (xBin op) (evE fr H x) (evE fr H y):=op2 _ _ _ _ fun v u=>by
 cases v <;> first | rfl | (cases u <;> first | rfl | (simp only [xSub,evOp,ev,List.getD_cons_zero,List.getD_cons_succ,xBin];cases binS op _ _ <;> rfl))
theorem evE_binL (op:BinOp) (c:V):evE fr H (.op (.bin op (.t 0) (.c c)) [x,.c c])=V2 (xBin op) (evE fr H x) (some c):=op2L _ _ _ fun v=>by
 cases v <;> first | rfl | (cases c <;> first | rfl | (simp only [xSub,evOp,ev,List.getD_cons_zero,List.getD_cons_succ,xBin];cases binS op _ _ <;> rfl))
theorem evE_binR (op:BinOp) (c:V):evE fr H (.op (.bin op (.c c) (.t 1)) [.c c,y])=V2 (xBin op) (some c) (evE fr H y):=op2R _ _ _ fun v=>by
 cases c <;> first | rfl | (cases v <;> first | rfl | (simp only [xSub,evOp,ev,List.getD_cons_zero,List.getD_cons_succ,xBin];cases binS op _ _ <;> rfl))
theorem evE_eqB (n:Bool):evE fr H (.op (.eqB n (.t 0) (.t 1)) [x,y])=V2 (xEqB n) (evE fr H x) (evE fr H y):=op2 _ _ _ _ fun v u=>by
 cases v <;> first | rfl | (rename_i q;cases q <;> first | rfl | (cases u <;> first | rfl | (rename_i p;cases p <;> rfl)))
theorem evE_eqBL (n:Bool) (c:V):evE fr H (.op (.eqB n (.t 0) (.c c)) [x,.c c])=V2 (xEqB n) (evE fr H x) (some c):=op2L _ _ _ fun v=>by
 cases v <;> first | rfl | (rename_i q;cases q <;> first | rfl | (cases c <;> first | rfl | (rename_i p;cases p <;> rfl)))
theorem evE_eqBR (n:Bool) (c:V):evE fr H (.op (.eqB n (.c c) (.t 1)) [.c c,y])=V2 (xEqB n) (some c) (evE fr H y):=op2R _ _ _ fun v=>by
 cases c <;> first | rfl | (rename_i q;cases q <;> first | rfl | (cases v <;> first | rfl | (rename_i p;cases p <;> rfl)))
theorem evE_eqAgg (n:Bool) (ls:List Leaf):evE fr H (.op (.eqAgg n ls (.t 0) (.t 1)) [x,y])=V2 (xEqAgg n ls) (evE fr H x) (evE fr H y):=op2 _ _ _ _ fun v u=>by
 cases v <;> first | rfl | (cases u <;> first | rfl | (simp only [xSub,evOp,ev,List.getD_cons_zero,List.getD_cons_succ,xEqAgg];cases eqLeaves ls _ _ <;> rfl))
theorem evE_eqAggL (n:Bool) (ls:List Leaf) (c:V):evE fr H (.op (.eqAgg n ls (.t 0) (.c c)) [x,.c c])=V2 (xEqAgg n ls) (evE fr H x) (some c):=op2L _ _ _ fun v=>by
 cases v <;> first | rfl | (cases c <;> first | rfl | (simp only [xSub,evOp,ev,List.getD_cons_zero,List.getD_cons_succ,xEqAgg];cases eqLeaves ls _ _ <;> rfl))
theorem evE_eqAggR (n:Bool) (ls:List Leaf) (c:V):evE fr H (.op (.eqAgg n ls (.c c) (.t 1)) [.c c,y])=V2 (xEqAgg n ls) (some c) (evE fr H y):=op2R _ _ _ fun v=>by
 cases c <;> first | rfl | (cases v <;> first | rfl | (simp only [xSub,evOp,ev,List.getD_cons_zero,List.getD_cons_succ,xEqAgg];cases eqLeaves ls _ _ <;> rfl))
theorem evE_indexAddr (sz:Nat):evE fr H (.op (.indexAddr sz (.t 0) (.t 1)) [x,y])=V2 (xIndexAddr sz) (evE fr H x) (evE fr H y):=op2 _ _ _ _ fun v u=>by
 cases v <;> first | rfl | (cases u <;> first | rfl | (rename_i q;cases q <;> first | rfl | (simp only [xSub,evOp,ev,List.getD_cons_zero,List.getD_cons_succ,xIndexAddr];split <;> first | rfl | (split <;> rename_i e <;> simp [e]))))
theorem evE_indexAddrL (sz:Nat) (c:V):evE fr H (.op (.indexAddr sz (.t 0) (.c c)) [x,.c c])=V2 (xIndexAddr sz) (evE fr H x) (some c):=op2L _ _ _ fun v=>by
 cases v <;> first | rfl | (cases c <;> first | rfl | (rename_i q;cases q <;> first | rfl | (simp only [xSub,evOp,ev,List.getD_cons_zero,List.getD_cons_succ,xIndexAddr];split <;> first | rfl | (split <;> rename_i e <;> simp [e]))))
theorem evE_indexAddrR (sz:Nat) (c:V):evE fr H (.op (.indexAddr sz (.c c) (.t 1)) [.c c,y])=V2 (xIndexAddr sz) (some c) (evE fr H y):=op2R _ _ _ fun v=>by
 cases c <;> first | rfl | (cases v <;> first | rfl | (rename_i q;cases q <;> first | rfl | (simp only [xSub,evOp,ev,List.getD_cons_zero,List.getD_cons_succ,xIndexAddr];split <;> first | rfl | (split <;> rename_i e <;> simp [e]))))
theorem evE_indexStr:evE fr H (.op (.indexStr (.t 0) (.t 1)) [x,y])=V2 (xIndexStr) (evE fr H x) (evE fr H y):=op2 _ _ _ _ fun v u=>by
 cases v <;> first | rfl | (rename_i q;cases q <;> first | rfl | (cases u <;> first | rfl | (rename_i p;cases p <;> first | rfl | (simp only [xSub,evOp,ev,List.getD_cons_zero,List.getD_cons_succ,xIndexStr];split <;> first | rfl | (split <;> rename_i e <;> simp [e])))))
theorem evE_indexStrL (c:V):evE fr H (.op (.indexStr (.t 0) (.c c)) [x,.c c])=V2 (xIndexStr) (evE fr H x) (some c):=op2L _ _ _ fun v=>by
 cases v <;> first | rfl | (rename_i q;cases q <;> first | rfl | (cases c <;> first | rfl | (rename_i p;cases p <;> first | rfl | (simp only [xSub,evOp,ev,List.getD_cons_zero,List.getD_cons_succ,xIndexStr];split <;> first | rfl | (split <;> rename_i e <;> simp [e])))))
theorem evE_indexStrR (c:V):evE fr H (.op (.indexStr (.c c) (.t 1)) [.c c,y])=V2 (xIndexStr) (some c) (evE fr H y):=op2R _ _ _ fun v=>by
 cases c <;> first | rfl | (rename_i q;cases q <;> first | rfl | (cases v <;> first | rfl | (rename_i p;cases p <;> first | rfl | (simp only [xSub,evOp,ev,List.getD_cons_zero,List.getD_cons_succ,xIndexStr];split <;> first | rfl | (split <;> rename_i e <;> simp [e])))))
theorem evE_minmax (mx:Bool):evE fr H (.op (.minmax mx (.t 0) (.t 1)) [x,y])=V2 (xMinmax mx) (evE fr H x) (evE fr H y):=op2 _ _ _ _ fun v u=>by
 cases v <;> first | rfl | (rename_i q;cases q <;> first | rfl | (cases u <;> first | rfl | (rename_i p;cases p <;> first | rfl | (simp only [xSub,evOp,ev,List.getD_cons_zero,List.getD_cons_succ,xMinmax];split <;> rfl))))
theorem evE_minmaxL (mx:Bool) (c:V):evE fr H (.op (.minmax mx (.t 0) (.c c)) [x,.c c])=V2 (xMinmax mx) (evE fr H x) (some c):=op2L _ _ _ fun v=>by
 cases v <;> first | rfl | (rename_i q;cases q <;> first | rfl | (cases c <;> first | rfl | (rename_i p;cases p <;> first | rfl | (simp only [xSub,evOp,ev,List.getD_cons_zero,List.getD_cons_succ,xMinmax];split <;> rfl))))
theorem evE_minmaxR (mx:Bool) (c:V):evE fr H (.op (.minmax mx (.c c) (.t 1)) [.c c,y])=V2 (xMinmax mx) (some c) (evE fr H y):=op2R _ _ _ fun v=>by
 cases c <;> first | rfl | (rename_i q;cases q <;> first | rfl | (cases v <;> first | rfl | (rename_i p;cases p <;> first | rfl | (simp only [xSub,evOp,ev,List.getD_cons_zero,List.getD_cons_succ,xMinmax];split <;> rfl))))
theorem evE_mapGet (kd:TypeDesc) (z:V) (ok:Bool):evE fr H (.op (.mapGet kd z (.t 0) (.t 1) ok) [x,y])=V2 (xMapGet H kd z ok) (evE fr H x) (evE fr H y):=op2 _ _ _ _ fun v u=>by
 rfl
theorem evE_mapGetL (kd:TypeDesc) (z:V) (ok:Bool) (c:V):evE fr H (.op (.mapGet kd z (.t 0) (.c c) ok) [x,.c c])=V2 (xMapGet H kd z ok) (evE fr H x) (some c):=op2L _ _ _ fun v=>by
 rfl
theorem evE_mapGetR (kd:TypeDesc) (z:V) (ok:Bool) (c:V):evE fr H (.op (.mapGet kd z (.c c) (.t 1) ok) [.c c,y])=V2 (xMapGet H kd z ok) (some c) (evE fr H y):=op2R _ _ _ fun v=>by
 rfl
theorem evE_nilCheck:evE fr H (.op (.nilCheck (.t 0)) [x])=V1 (xNilCheck) (evE fr H x):=op1 _ _ _ fun v=>by
 cases v <;> rfl
theorem evE_eqNil (k:NK) (n:Bool):evE fr H (.op (.eqNil k n (.t 0)) [x])=V1 (xEqNil k n) (evE fr H x):=op1 _ _ _ fun v=>by
 simp only [xSub,evOp,ev,List.getD_cons_zero,xEqNil];cases V.isNil k v <;> rfl
theorem evE_un (op:UnOp):evE fr H (.op (.un op (.t 0)) [x])=V1 (xUn op) (evE fr H x):=op1 _ _ _ fun v=>by
 cases op <;> first | (cases v <;> first | rfl | (rename_i q;cases q <;> first | rfl | (simp only [xSub,evOp,ev,List.getD_cons_zero,xUn];cases binS _ _ _ <;> rfl)))
theorem evE_conv (k:IntKind):evE fr H (.op (.conv k (.t 0)) [x])=V1 (xConv k) (evE fr H x):=op1 _ _ _ fun v=>by
 cases v <;> first | rfl | (rename_i q;cases q <;> rfl)
theorem evE_convId:evE fr H (.op (.convId (.t 0)) [x])=V1 (xConvId) (evE fr H x):=op1 _ _ _ fun v=>by
 cases v <;> first | rfl | (rename_i q;cases q <;> rfl)
theorem evE_fieldAddr (off:Nat):evE fr H (.op (.fieldAddr off (.t 0)) [x])=V1 (xFieldAddr off) (evE fr H x):=op1 _ _ _ fun v=>by
 cases v <;> first | rfl | (simp only [xSub,evOp,ev,List.getD_cons_zero,xFieldAddr];split <;> rfl)
theorem evE_field (g:Bool) (off n:Nat):evE fr H (.op (.field g off n (.t 0)) [x])=V1 (xField g off n) (evE fr H x):=op1 _ _ _ fun v=>by
 cases v <;> first | rfl | (simp only [xSub,evOp,ev,List.getD_cons_zero,xField];split <;> first | rfl | (cases shut g _ <;> rfl))
theorem evE_extract (i:Nat):evE fr H (.op (.extract (.t 0) i) [x])=V1 (xExtract i) (evE fr H x):=op1 _ _ _ fun v=>by
 cases v <;> first | rfl | (simp only [xSub,evOp,ev,List.getD_cons_zero,xExtract];split <;> rename_i e <;> simp [e])
theorem evE_lenS (k:NK):evE fr H (.op (.lenS k (.t 0)) [x])=V1 (xLen H k) (evE fr H x):=op1 _ _ _ fun v=>by
 cases k <;> cases v <;> first | rfl | (rename_i q;cases q <;> first | rfl | (rename_i a;cases a <;> rfl) | (rename_i a b c;cases a <;> first | rfl | (cases b <;> first | rfl | (cases c <;> rfl)))) | (rename_i j;simp only [xSub,evOp,ev,List.getD_cons_zero,xLen];generalize H[j]?=o;cases o <;> first | rfl | (rename_i ob;cases ob <;> rfl))
theorem evE_load (g:Bool) (n:Nat):evE fr H (.op (.load g n (.t 0)) [x])=V1 (xLoad H g n) (evE fr H x):=op1 _ _ _ fun v=>by
 simp only [xSub,evOp,ev,List.getD_cons_zero,xLoad];cases loadV H g n v <;> rfl
theorem evE_build (z:List V) (p:List (Nat × Nat)) (ps:List (Nat × Opd)) (xs:List E):evE fr H (.op (.build z p ps) xs)=xSub H (.build z p ps) (evEs fr H xs):=evE_op _ _ _ _
theorem evE_mkFn (f:Nat) (a b:List Opd) (xs:List E):evE fr H (.op (.mkFn f a b) xs)=xSub H (.mkFn f a b) (evEs fr H xs):=evE_op _ _ _ _
theorem evE_subStr (a:Opd) (lo hi:Option Opd) (xs:List E):evE fr H (.op (.subStr a lo hi) xs)=xSub H (.subStr a lo hi) (evEs fr H xs):=evE_op _ _ _ _
theorem evE_subSl (sz:Nat) (a:Opd) (lo hi mx:Option Opd) (xs:List E):evE fr H (.op (.subSl sz a lo hi mx) xs)=xSub H (.subSl sz a lo hi mx) (evEs fr H xs):=evE_op _ _ _ _
end
theorem evTale_free {m:Nat} {os:List (Nat × E)} {kill:List Nat} {fr:List V} {H:Heap} (h:m≤fr.length):evTale (some (m,[],os)) kill fr H=setOuts fr H os (killS kill fr):=by
 simp only [evTale,if_pos h,List.all_nil,if_true]
theorem free_row {m:Nat} {os:List (Nat × E)} {kill:List Nat} {n:Nat} {en:Env} {H:Heap} (h:m≤n):evTale (some (m,[],os)) kill (frOf n en) H=setOuts (frOf n en) H os (frOf n (killV kill en)):=by
 rw [evTale_free (by rw [frOf_length];exact h),frOf_kill]
theorem kept_row {m:Nat} {R:List (List (Nat × Bool × E) × E)} {os:List (Nat × E)} {kill:List Nat} {n:Nat} {en:Env} {H:Heap} (h:m≤n):evTale (some (m,R,os)) kill (frOf n en) H=taleR (frOf n en) H os kill (R.all fun r=>reqE (frOf n en) H r.1 r.2):=by
 rw [evTale_some (by rw [frOf_length];exact h)]
noncomputable def stepW (b:List V→Heap→Option St) (k:List Nat) (m:Nat):Option St→Option St
 | some (.nrm,fr',H')=>itW b k m (killS k fr') (trim m (killS k fr') H')
 | some (e,fr',H')=>some (e,killS k fr',trim m (killS k fr') H')
 | none=>none
theorem itW_step (b:List V→Heap→Option St) (k:List Nat) (m:Nat) (fr:List V) (H:Heap):itW b k m fr H=stepW b k m (b fr H):=by
 rw [itW_eq]
 cases b fr H with
 | none=>rfl
 | some r=>obtain ⟨e,f,h⟩:=r;cases e <;> rfl
section
variable (b:List V→Heap→Option St) (k:List Nat) (m:Nat)
theorem stepW_nrm (fr:List V) (H:Heap):stepW b k m (some (.nrm,fr,H))=itW b k m (killS k fr) (trim m (killS k fr) H):=rfl
theorem stepW_ext (i:Nat) (fr:List V) (H:Heap):stepW b k m (some (.ext i,fr,H))=some (.ext i,killS k fr,trim m (killS k fr) H):=rfl
theorem stepW_ret (fr:List V) (H:Heap):stepW b k m (some (.ret,fr,H))=some (.ret,killS k fr,trim m (killS k fr) H):=rfl
theorem stepW_cond (p:Bool) (x y:Option St):stepW b k m (bif p then x else y)=bif p then stepW b k m x else stepW b k m y:=by cases p <;> rfl
end
theorem trim_self (fr:List V) (H:Heap):trim H.length fr H=H:=trim_same rfl
def retC (rs:List ARes):Option St→Option (V × Heap)
 | some (.nrm,fr,H)=>(resultV rs fr H).map fun v=>(v,H)
 | some (.ret,fr,H)=>(resultV rs fr H).map fun v=>(v,H)
 | _=>none
theorem retC_nrm (rs:List ARes) (fr:List V) (H:Heap):retC rs (some (.nrm,fr,H))=(resultV rs fr H).map fun v=>(v,H):=rfl
theorem retC_ret (rs:List ARes) (fr:List V) (H:Heap):retC rs (some (.ret,fr,H))=(resultV rs fr H).map fun v=>(v,H):=rfl
theorem retC_cond (rs:List ARes) (p:Bool) (x y:Option St):retC rs (bif p then x else y)=bif p then retC rs x else retC rs y:=by cases p <;> rfl
theorem resultV1 (t:ARes) (fr:List V) (H:Heap):resultV [t] fr H=resV fr H t:=by
 simp only [resultV,List.mapM_cons,List.mapM_nil]
 cases resV fr H t <;> rfl
theorem resultV2 (t u:ARes) (fr:List V) (H:Heap):resultV [t,u] fr H=match resV fr H t,resV fr H u with | some x,some y=>some (.tup [x,y]) | _,_=>none:=by
 simp only [resultV,List.mapM_cons,List.mapM_nil]
 cases resV fr H t <;> cases resV fr H u <;> rfl
theorem resV_tmp (t:Nat) (fr:List V) (H:Heap):resV fr H (.tmp t)=some (fr.getD t .unk):=rfl
theorem resV_cell (t:Nat) (g:Bool) (n:Nat) (fr:List V) (H:Heap):resV fr H (.cell t g n)=loadV H g n (fr.getD t .unk):=rfl
theorem callW_fn {CP:Nat→Option CFun} {f:Nat} {c:ACFun} (hf:CP f=some (.code c)) {fst args cap:List V} (hl:(fst ++ args ++ cap).length≤c.ntmps) {base:Nat} {H:Heap} {r:V × Heap}
 (h:retC c.results (evC (callW CP) itW base c.body (frOf c.ntmps (startV c.ntmps (fst ++ args ++ cap) 0)) H)=some r):callW CP (.fn f fst cap) args base H=some r:=by
 refine callW_eq ?_
 simp only [evCall,hf]
 rw [start_eq hl]
 cases he:evC (callW CP) itW base c.body (frOf c.ntmps (startV c.ntmps (fst ++ args ++ cap) 0)) H with
 | none=>rw [he] at h;cases h
 | some s=>
   rw [he] at h
   obtain ⟨e,f2,H2⟩:=s
   cases e <;> exact h
theorem startV_cons (n:Nat) (v:V) (vs:List V) (k:Nat):startV n (v :: vs) k=(k,v) :: startV n vs (k+1):=rfl
def opK (call:CallF) (base:Nat) (o:AOper) (os:List AOper) (fr:List V) (H:Heap):Option Bool→Option (List V × Heap)
 | some true=>match evOp call base fr H o.op with
   | some (v,H')=>evOps call base os (put o.dst v fr) H'
   | none=>none
 | some false=>evOps call base os (put o.dst und fr) H
 | none=>none
def resK (call:CallF) (base:Nat) (d:Option Nat) (os:List AOper) (fr:List V):Option (V × Heap)→Option (List V × Heap)
 | some (v,H')=>evOps call base os (put d v fr) H'
 | none=>none
def wantV (b:Bool):V→Option Bool
 | .s (.bool x)=>some (x == b)
 | .s (.tuple _)=>some false
 | _=>none
section
variable {call:CallF} {base:Nat}
theorem evOps_nil (fr:List V) (H:Heap):evOps call base [] fr H=some (fr,H):=rfl
theorem evOps_cons (d:Option Nat) (op:AOp) (os:List AOper) (fr:List V) (H:Heap):evOps call base (⟨d,op,none⟩ :: os) fr H=resK call base d os fr (evOp call base fr H op):=by
 simp only [evOps,want]
 cases evOp call base fr H op <;> rfl
theorem evOps_guard (d:Option Nat) (op:AOp) (t:Nat) (b:Bool) (os:List AOper) (fr:List V) (H:Heap):evOps call base (⟨d,op,some (t,b)⟩ :: os) fr H=opK call base ⟨d,op,some (t,b)⟩ os fr H (wantV b (fr.getD t .unk)):=by
 have:want ⟨d,op,some (t,b)⟩ fr=wantV b (fr.getD t .unk):=by
  simp only [want]
  cases fr.getD t .unk with
  | s v=>cases v <;> rfl
  | _=>rfl
 simp only [evOps,this]
 cases wantV b (fr.getD t .unk) with
 | none=>rfl
 | some p=>cases p <;> rfl
theorem opK_bool (d:Option Nat) (op:AOp) (g:Option (Nat × Bool)) (os:List AOper) (fr:List V) (H:Heap) (p:Bool):opK call base ⟨d,op,g⟩ os fr H (some p)=bif p then resK call base d os fr (evOp call base fr H op) else evOps call base os (put d und fr) H:=by
 cases p
 ·rfl
 ·simp only [opK];cases evOp call base fr H op <;> rfl
theorem wantV_bool (b x:Bool):wantV b (.s (.bool x))=some (x == b):=rfl
theorem wantV_und (b:Bool):wantV b und=some false:=rfl
theorem resK_some (d:Option Nat) (os:List AOper) (fr:List V) (v:V) (H:Heap):resK call base d os fr (some (v,H))=evOps call base os (put d v fr) H:=rfl
theorem put_some (d:Nat) (v:V) (n:Nat) (en:Env):put (some d) v (frOf n en)=frOf n (putV d v en):=frOf_set n en d v
theorem put_none (v:V) (fr:List V):put none v fr=fr:=rfl
theorem resK_cond (d:Option Nat) (os:List AOper) (fr:List V) (p:Bool) (x y:Option (V × Heap)):resK call base d os fr (bif p then x else y)=bif p then resK call base d os fr x else resK call base d os fr y:=by cases p <;> rfl
theorem opsC_cond (chk:List (Nat × Nat)) (ops:List AOper) (kill:List Nat) (p:Bool) (x y:Option (List V × Heap)):opsC chk ops kill (bif p then x else y)=bif p then opsC chk ops kill x else opsC chk ops kill y:=by cases p <;> rfl
end
theorem ev_t (fr:List V) (i:Nat):ev fr (.t i)=fr.getD i .unk:=rfl
theorem ev_c (fr:List V) (v:V):ev fr (.c v)=v:=rfl
def pickR (H:Heap) (x y:V):V→Option (V × Heap)
 | .s (.bool p)=>bif p then some (x,H) else some (y,H)
 | _=>none
theorem evOp_pick (call:CallF) (base:Nat) (fr:List V) (H:Heap) (c a b:Opd):evOp call base fr H (.pick c a b)=pickR H (ev fr a) (ev fr b) (ev fr c):=by
 simp only [evOp]
 cases ev fr c with
 | s v=>cases v with
   | bool p=>cases p <;> rfl
   | _=>rfl
 | _=>rfl
theorem pickR_bool (H:Heap) (x y:V) (p:Bool):pickR H x y (.s (.bool p))=bif p then some (x,H) else some (y,H):=rfl
theorem pickR_same (H:Heap) (x y:Bool) (p:Bool):pickR H (.s (.bool x)) (.s (.bool y)) (.s (.bool p))=some (.s (.bool (bif p then x else y)),H):=by cases p <;> rfl
def RH (H:Heap):Option V→Option (V × Heap)
 | some v=>some (v,H)
 | none=>none
theorem RH_some (H:Heap) (v:V):RH H (some v)=some (v,H):=rfl
def RS:Option Heap→Option (V × Heap)
 | some H=>some (und,H)
 | none=>none
theorem RS_some (H:Heap):RS (some H)=some (und,H):=rfl
section
variable (call:CallF) (base:Nat) (fr:List V) (H:Heap) (x y:Opd)
theorem op_bin (op:BinOp):evOp call base fr H (.bin op x y)=RH H (xBin op (ev fr x) (ev fr y)):=by
 simp only [evOp]
 generalize ev fr x=v
 generalize ev fr y=u
 cases v <;> first | rfl | (cases u <;> first | rfl | (simp only [xBin];cases binS op _ _ <;> rfl))
theorem op_eqB (n:Bool):evOp call base fr H (.eqB n x y)=RH H (xEqB n (ev fr x) (ev fr y)):=by
 simp only [evOp]
 generalize ev fr x=v
 generalize ev fr y=u
 cases v <;> first | rfl | (rename_i q;cases q <;> first | rfl | (cases u <;> first | rfl | (rename_i p;cases p <;> rfl)))
theorem op_eqP (n:Bool):evOp call base fr H (.eqP n x y)=RH H (xEqP H n (ev fr x) (ev fr y)):=by
 simp only [evOp]
 generalize ev fr x=v
 generalize ev fr y=u
 cases v <;> first | rfl | (cases u <;> first | rfl | skip)
 rename_i i g _ j h _
 simp only [xEqP]
 split
 ·rfl
 ·cases getC H i g with
  | none=>rfl
  | some c=>cases getC H j h <;> rfl
theorem op_eqAgg (n:Bool) (ls:List Leaf):evOp call base fr H (.eqAgg n ls x y)=RH H (xEqAgg n ls (ev fr x) (ev fr y)):=by
 simp only [evOp]
 generalize ev fr x=v
 generalize ev fr y=u
 cases v <;> first | rfl | (cases u <;> first | rfl | (simp only [xEqAgg];cases eqLeaves ls _ _ <;> rfl))
theorem op_indexAddr (sz:Nat):evOp call base fr H (.indexAddr sz x y)=RH H (xIndexAddr sz (ev fr x) (ev fr y)):=by
 simp only [evOp]
 generalize ev fr x=v
 generalize ev fr y=u
 cases v <;> first | rfl | (cases u <;> first | rfl | (rename_i q;cases q <;> first | rfl | (simp only [xIndexAddr];split <;> first | rfl | (split <;> rename_i e <;> simp [e,RH]))))
theorem op_indexStr:evOp call base fr H (.indexStr x y)=RH H (xIndexStr (ev fr x) (ev fr y)):=by
 simp only [evOp]
 generalize ev fr x=v
 generalize ev fr y=u
 cases v <;> first | rfl | (rename_i q;cases q <;> first | rfl | (cases u <;> first | rfl | (rename_i p;cases p <;> first | rfl | (simp only [xIndexStr];split <;> first | rfl | (split <;> rename_i e <;> simp [e,RH])))))
theorem op_minmax (mx:Bool):evOp call base fr H (.minmax mx x y)=RH H (xMinmax mx (ev fr x) (ev fr y)):=by
 simp only [evOp]
 generalize ev fr x=v
 generalize ev fr y=u
 cases v <;> first | rfl | (rename_i q;cases q <;> first | rfl | (cases u <;> first | rfl | (rename_i p;cases p <;> first | rfl | (simp only [xMinmax];split <;> rfl))))
theorem op_nilCheck:evOp call base fr H (.nilCheck x)=RH H (xNilCheck (ev fr x)):=by
 simp only [evOp]
 generalize ev fr x=v
 cases v <;> rfl
theorem op_eqNil (k:NK) (n:Bool):evOp call base fr H (.eqNil k n x)=RH H (xEqNil k n (ev fr x)):=by
 simp only [evOp]
 generalize ev fr x=v
 simp only [xEqNil];cases V.isNil k v <;> rfl
theorem op_un (op:UnOp):evOp call base fr H (.un op x)=RH H (xUn op (ev fr x)):=by
 simp only [evOp]
 generalize ev fr x=v
 cases op <;> first | (cases v <;> first | rfl | (rename_i q;cases q <;> first | rfl | (simp only [xUn];cases binS _ _ _ <;> rfl)))
theorem op_conv (k:IntKind):evOp call base fr H (.conv k x)=RH H (xConv k (ev fr x)):=by
 simp only [evOp]
 generalize ev fr x=v
 cases v <;> first | rfl | (rename_i q;cases q <;> rfl)
theorem op_convId:evOp call base fr H (.convId x)=RH H (xConvId (ev fr x)):=by
 simp only [evOp]
 generalize ev fr x=v
 cases v <;> first | rfl | (rename_i q;cases q <;> rfl)
theorem op_fieldAddr (off:Nat):evOp call base fr H (.fieldAddr off x)=RH H (xFieldAddr off (ev fr x)):=by
 simp only [evOp]
 generalize ev fr x=v
 cases v <;> first | rfl | (simp only [xFieldAddr];split <;> rfl)
theorem op_field (g:Bool) (off n:Nat):evOp call base fr H (.field g off n x)=RH H (xField g off n (ev fr x)):=by
 simp only [evOp]
 generalize ev fr x=v
 cases v <;> first | rfl | (simp only [xField];split <;> first | rfl | (cases shut g _ <;> rfl))
theorem op_extract (i:Nat):evOp call base fr H (.extract x i)=RH H (xExtract i (ev fr x)):=by
 simp only [evOp]
 generalize ev fr x=v
 cases v <;> first | rfl | (simp only [xExtract];split <;> rename_i e <;> simp [e,RH])
theorem op_lenS (k:NK):evOp call base fr H (.lenS k x)=RH H (xLen H k (ev fr x)):=by
 cases k <;> (simp only [evOp];generalize ev fr x=v;cases v <;> first | rfl | (rename_i q;cases q <;> first | rfl | (rename_i a;cases a <;> rfl) | (rename_i a b c;cases a <;> first | rfl | (cases b <;> first | rfl | (cases c <;> rfl)))) | (rename_i j;simp only [xLen];generalize H[j]?=o;cases o <;> first | rfl | (rename_i ob;cases ob <;> rfl)))
theorem op_load (g:Bool) (n:Nat):evOp call base fr H (.load g n x)=RH H (xLoad H g n (ev fr x)):=by
 simp only [evOp]
 generalize ev fr x=v
 simp only [xLoad];cases loadV H g n v <;> rfl
theorem op_mapGet (kd:TypeDesc) (z:V) (ok:Bool):evOp call base fr H (.mapGet kd z x y ok)=RH H (xMapGet H kd z ok (ev fr x) (ev fr y)):=by
 have h:∀ r,evOp call base fr H (.mapGet kd z x y ok)=some r→r.2=H:=fun r h=>by obtain ⟨v,H'⟩:=r;exact (evOp_r rfl h).1
 have h2:evOp (fun _ _ _ _=>none) 0 [ev fr x,ev fr y] H (.mapGet kd z (.t 0) (.t 1) ok)=evOp call base fr H (.mapGet kd z x y ok):=rfl
 simp only [xMapGet,h2]
 cases hr:evOp call base fr H (.mapGet kd z x y ok) with
 | none=>rfl
 | some r=>obtain ⟨v,H'⟩:=r;have:=h _ hr;simp only at this;subst this;rfl
theorem op_move:evOp call base fr H (.move x)=some (ev fr x,H):=rfl
theorem op_alloc (z:List V):evOp call base fr H (.alloc z)=some (.ref H.length 0 0,H ++ [.cells 0 z]):=rfl
theorem op_box:evOp call base fr H (.box x)=if (ev fr x).cells.all V.one then some (.ref H.length 0 0,H ++ [.cells 0 (ev fr x).cells]) else none:=rfl
theorem op_mapNew:evOp call base fr H .mapNew=some (.mp H.length,H ++ [.map []]):=rfl
theorem op_store (n:Nat):evOp call base fr H (.store n x y)=RS (storeV H base n (ev fr y) (ev fr x)):=by
 simp only [evOp];cases storeV H base n (ev fr y) (ev fr x) <;> rfl
theorem op_mkFn (f:Nat) (a b:List Opd):evOp call base fr H (.mkFn f a b)=some (.fn f (a.map (ev fr)) (b.map (ev fr)),H):=rfl
theorem op_appR (sz bytes:Nat):evOp call base fr H (.appR sz bytes x y)=appendV H H.length sz bytes (ev fr x) (ev fr y):=rfl
theorem op_append (sz bytes:Nat):evOp call base fr H (.append sz bytes x y)=appendV H base sz bytes (ev fr x) (ev fr y):=rfl
theorem op_call (args:List Opd):evOp call base fr H (.call x args)=call (ev fr x) (args.map (ev fr)) base H:=rfl
theorem op_callR (args:List Opd):evOp call base fr H (.callR x args)=call (ev fr x) (args.map (ev fr)) H.length H:=rfl
theorem op_build (z:List V) (places:List (Nat × Nat)) (parts:List (Nat × Opd)):evOp call base fr H (.build z places parts)=RH H ((fillA (places[·]?) z (parts.map fun p=>(p.1,ev fr p.2))).map .agg):=by
 simp only [evOp];cases fillA (places[·]?) z (parts.map fun p=>(p.1,ev fr p.2)) <;> rfl
def mkSlV (H:Heap) (sz len:Nat):Option (List V)→Option (V × Heap)
 | some cs=>some (if len=0 then .esl else .sl H.length 0 0 len sz,H ++ [.cells 0 cs])
 | none=>none
theorem mkSlV_some (sz len:Nat) (cs:List V):mkSlV H sz len (some cs)=some (if len=0 then .esl else .sl H.length 0 0 len sz,H ++ [.cells 0 cs]):=rfl
theorem op_buildSl (sz len:Nat) (z:List V) (parts:List (Nat × Opd)):evOp call base fr H (.buildSl sz len z parts)=mkSlV H sz len (fillA (fun i=>some (i * sz,sz)) z (parts.map fun p=>(p.1,ev fr p.2))):=by
 simp only [evOp];cases fillA (fun i=>some (i * sz,sz)) z (parts.map fun p=>(p.1,ev fr p.2)) <;> rfl
end
end Go.AM
namespace Go.AM
section
variable {call:CallF} {it:IterF} {base:Nat}
def AgD (D:List Nat) (f g:List V):Prop:=f.length=g.length∧∀ s,s ∉ D→f.getD s .unk=g.getD s .unk
def readsIn (o:AOper) (D:List Nat):Bool:=o.reads.any D.contains
def less (D:List Nat) (d:Option Nat):List Nat:=match d with
 | some d=>D.filter (· != d)
 | none=>D
def indep:List Nat→List AOper→Option (List Nat)
 | D,[]=>some D
 | D,o :: os=>if readsIn o D then none else indep (less D o.dst) os
theorem put_ag {D:List Nat} {f g:List V} (h:AgD D f g) (d:Option Nat) (v:V):AgD (less D d) (put d v f) (put d v g):=by
 cases d with
 | none=>exact h
 | some d=>
   refine ⟨by simp only [put,List.length_set];exact h.1,fun s hs=>?_⟩
   simp only [put]
   by_cases e:s=d
   ·subst e
    by_cases hl:s < f.length
    ·rw [getD_set_same hl,getD_set_same (h.1 ▸ hl)]
    ·rw [List.set_eq_of_length_le (by omega),List.set_eq_of_length_le (by have:=h.1;omega)]
     simp [List.getD,hl,h.1 ▸ hl]
   ·rw [getD_set_other (fun e'=>e e'.symm),getD_set_other (fun e'=>e e'.symm)]
    refine h.2 s fun hD=>hs ?_
    simp only [less,List.mem_filter,bne_iff_ne,ne_eq]
    exact ⟨hD,e⟩
theorem evOps_ag:∀ (ops:List AOper) (D D':List Nat) (f g:List V) (H:Heap),indep D ops=some D'→AgD D f g→
 (evOps call base ops f H=none∧evOps call base ops g H=none)∨∃ f' g' H',evOps call base ops f H=some (f',H')∧evOps call base ops g H=some (g',H')∧AgD D' f' g':=by
 intro ops
 induction ops with
 | nil=>intro D D' f g H h ha;cases h;exact .inr ⟨f,g,H,rfl,rfl,ha⟩
 | cons o os ih=>
   intro D D' f g H h ha
   simp only [indep] at h
   split at h
   ·cases h
   ·rename_i hr
    have hrd:∀ s∈o.reads,f.getD s .unk=g.getD s .unk:=fun s hs=>ha.2 s fun hD=>hr (by
     unfold readsIn;rw [List.any_eq_true];exact ⟨s,hs,by simpa using hD⟩)
    have hw:=reads_want hrd
    have hc:evOp call base f H o.op=evOp call base g H o.op:=evOp_congr _ fun x hx=>reads_opd hx hrd
    simp only [evOps,hw,hc]
    cases want o g with
    | none=>exact .inl ⟨rfl,rfl⟩
    | some b=>
      cases b with
      | false=>exact ih _ _ _ _ _ h (put_ag ha _ _)
      | true=>
        simp only []
        cases evOp call base g H o.op with
        | none=>exact .inl ⟨rfl,rfl⟩
        | some r=>obtain ⟨v,H'⟩:=r;exact ih _ _ _ _ _ h (put_ag ha _ _)
theorem kill_ag {D ks:List Nat} {f g:List V} (h:AgD D f g) (hk:D.all ks.contains=true):killS ks f=killS ks g:=by
 refine List.ext_getElem (by rw [killS_length,killS_length,h.1]) fun i h1 h2=>?_
 have e:(killS ks f).getD i .unk=(killS ks g).getD i .unk:=by
  rw [killS_getD,killS_getD]
  split
  ·rfl
  ·rename_i hi
   refine h.2 i fun hD=>hi ?_
   rw [List.all_eq_true] at hk
   simpa using hk i hD
 simpa [List.getD,h1,h2] using e
def firstOk (D:List Nat):ACode→Bool
 | .seq a _=>firstOk D a
 | .region ops [] kill=>match indep D ops with
   | some D'=>D'.all kill.contains
   | none=>false
 | .cond c a b=>(c.slots.all fun s=>!D.contains s) && firstOk D a && firstOk D b
 | .block _ c=>firstOk D c
 | .loop kill _=>D.all kill.contains
 | _=>false
theorem firstOk_eq {D:List Nat}:∀ (c:ACode) {f g:List V} (H:Heap),firstOk D c=true→AgD D f g→evC call it base c f H=evC call it base c g H:=by
 intro c
 induction c with
 | seq a b iha _=>intro f g H h ha;simp only [evC,iha H h ha]
 | block id c ih=>intro f g H h ha;simp only [evC,ih H h ha]
 | cond o a b iha ihb=>
   intro f g H h ha
   simp only [firstOk,Bool.and_eq_true] at h
   have:ev f o=ev g o:=by
    cases o with
    | c v=>rfl
    | t s=>exact ha.2 s (by simpa [Opd.slots] using h.1.1)
   simp only [evC,this,iha H h.1.2 ha,ihb H h.2 ha]
 | loop kill c _=>intro f g H h ha;simp only [evC,kill_ag ha h]
 | region ops chk kill=>
   intro f g H h ha
   cases chk with
   | cons _ _=>cases h
   | nil=>
     simp only [firstOk] at h
     split at h
     ·rename_i D' hD
      rcases evOps_ag (call:=call) (base:=base) ops D D' f g H hD ha with ⟨e1,e2⟩ | ⟨f',g',H',e1,e2,ha'⟩
      ·simp only [evC,e1,e2]
      ·simp only [evC,e1,e2,kill_ag ha' h]
       rfl
     ·cases h
 | _=>intro f g H h;cases h
end
def startA:List V→Nat→Env
 | [],_=>[]
 | v :: vs,k=>(k,v) :: startA vs (k+1)
theorem startA_nil (k:Nat):startA [] k=[]:=rfl
theorem startA_cons (v:V) (vs:List V) (k:Nat):startA (v :: vs) k=(k,v) :: startA vs (k+1):=rfl
theorem getV_startA:∀ (vs:List V) (k t:Nat),k≤t→t < k+vs.length→getV (startA vs k) t=vs.getD (t - k) .unk:=by
 intro vs
 induction vs with
 | nil=>intro k t h1 h2;simp at h2;omega
 | cons v vs ih=>
   intro k t h1 h2
   simp only [startA,getV,List.length_cons] at h2 ⊢
   split
   ·rename_i h;subst h;simp
   ·rw [ih (k+1) t (by omega) (by omega)]
    obtain ⟨d,hd⟩:∃ d,t - k=d+1:=⟨t - k - 1,by omega⟩
    have:t - (k+1)=d:=by omega
    rw [hd,this];rfl
theorem callW_fnA {CP:Nat→Option CFun} {f:Nat} {c:ACFun} (hf:CP f=some (.code c)) {fst args cap:List V} {k:Nat} (hk:(fst ++ args ++ cap).length=k) (hl:k≤c.ntmps) (hfirst:firstOk (List.range' k (c.ntmps - k)) c.body=true) {base:Nat} {H:Heap} {r:V × Heap}
 (h:retC c.results (evC (callW CP) itW base c.body (frOf c.ntmps (startA (fst ++ args ++ cap) 0)) H)=some r):callW CP (.fn f fst cap) args base H=some r:=by
 refine callW_fn hf (by omega) ?_
 rw [firstOk_eq c.body H hfirst (g:=frOf c.ntmps (startA (fst ++ args ++ cap) 0))]
 ·exact h
 ·refine ⟨by rw [frOf_length,frOf_length],fun s hs=>?_⟩
  by_cases hn:s < c.ntmps
  ·rw [frOf_get hn,frOf_get hn]
   have hs':s < k:=by
    apply Nat.lt_of_not_le
    intro h
    apply hs
    rw [List.mem_range']
    exact ⟨s - k,by omega,by omega⟩
   rw [getV_start _ _ 0 s (Nat.zero_le _) hn (by omega),if_pos (by omega),getV_startA _ 0 s (Nat.zero_le _) (by omega)]
  ·simp [frOf,List.getD,hn]
section
variable (call:CallF) (it:IterF) (base:Nat)
noncomputable def segC (b:List AOper) (kill:List Nat) (H:Heap):Option (List V)→Option St→Option St
 | some f,_=>evC call it base (.region b [] kill) f H
 | none,o=>o
noncomputable def segL (H:Heap):Option (List V)→Option St→Option St
 | some f,_=>some (.nrm,f,H)
 | none,o=>o
noncomputable def origRow (ops:List AOper) (kill:List Nat) (f:List V) (H:Heap):Option St:=evC call it base (.region ops [] kill) f H
theorem segC_some (b:List AOper) (kill:List Nat) (H:Heap) (f:List V) (o:Option St):segC call it base b kill H (some f) o=evC call it base (.region b [] kill) f H:=rfl
theorem segL_some (H:Heap) (f:List V) (o:Option St):segL H (some f) o=some (.nrm,f,H):=rfl
noncomputable def cutOk (k:List Nat) (b:List AOper) (kill:List Nat):Bool:=match indep k b with
 | some D=>D.all kill.contains
 | none=>false
theorem evOps_app:∀ (a b:List AOper) (f:List V) (H:Heap),evOps call base (a ++ b) f H=match evOps call base a f H with
 | some (f',H')=>evOps call base b f' H'
 | none=>none:=by
 intro a
 induction a with
 | nil=>intro b f H;rfl
 | cons o os ih=>
   intro b f H
   simp only [List.cons_append,evOps]
   cases want o f with
   | none=>rfl
   | some p=>
     cases p with
     | false=>exact ih _ _ _
     | true=>
       simp only []
       cases evOp call base f H o.op with
       | none=>rfl
       | some r=>exact ih _ _ _
theorem ag_kill (k:List Nat) (f:List V):AgD k f (killS k f):=⟨(killS_length k f).symm,fun s hs=>by rw [killS_getD,if_neg hs]⟩
theorem region_ag {k kill:List Nat} {b:List AOper} (h:cutOk k b kill=true) (f:List V) (H:Heap):evC call it base (.region b [] kill) f H=evC call it base (.region b [] kill) (killS k f) H:=by
 refine firstOk_eq (D:=k) (.region b [] kill) H ?_ (ag_kill k f)
 unfold cutOk at h
 simp only [firstOk]
 exact h
theorem row_op (c d:List AOper) {kc kill:List Nat} (h:cutOk kc d kill=true) (f:List V) (H:Heap):evC call it base (.region (c ++ d) [] kill) f H=thenC call it base (.region d [] kill) (evC call it base (.region c [] kc) f H):=by
 have e1:evC call it base (.region (c ++ d) [] kill) f H=match evOps call base c f H with
  | some (f',H')=>evC call it base (.region d [] kill) f' H'
  | none=>none:=by
  simp only [evC,evOps_app]
  cases evOps call base c f H <;> rfl
 rw [e1,evC_ops]
 cases evOps call base c f H with
 | none=>rfl
 | some r=>
   obtain ⟨f',H'⟩:=r
   simp only [opsC_some,thenC_nrm]
   exact region_ag call it base h f' H'
theorem row_seg (a b:List AOper) {ka oa kill:List Nat} (h:cutOk ka b kill=true) (f:List V) (H:Heap):evC call it base (.region (a ++ b) [] kill) f H=segC call it base b kill H (evTale (symAll a ka oa) ka f H) (origRow call it base (a ++ b) kill f H):=by
 cases ht:evTale (symAll a ka oa) ka f H with
 | none=>rfl
 | some f2=>
   obtain ⟨f1,h1,h2⟩:=evTale_ev (call:=call) (base:=base) ht
   have e1:evC call it base (.region (a ++ b) [] kill) f H=evC call it base (.region b [] kill) f1 H:=by
    simp only [evC,evOps_app,h1]
    cases evOps call base b f1 H <;> rfl
   rw [e1,segC_some,← h2,region_ag call it base h]
theorem row_last (a:List AOper) {oa kill:List Nat} (f:List V) (H:Heap):evC call it base (.region a [] kill) f H=segL H (evTale (symAll a kill oa) kill f H) (origRow call it base a kill f H):=by
 cases ht:evTale (symAll a kill oa) kill f H with
 | none=>rfl
 | some f2=>
   obtain ⟨f1,h1,h2⟩:=evTale_ev (call:=call) (base:=base) ht
   simp only [segL_some,evC,h1,h2,List.all_nil,if_true]
theorem row_ops (ops:List AOper) (kill:List Nat) (f:List V) (H:Heap):evC call it base (.region ops [] kill) f H=opsC [] ops kill (evOps call base ops f H):=evC_ops ops kill f H
end
end Go.AM
namespace Go.AM
def Rd (H:Heap) (v:V) (l:List V):Prop:=(∀ b,v≠.s (.string b))∧elems H 1 v=some (l.length,l)
theorem Rd.nil (H:Heap):Rd H nilS []:=⟨fun _ h=>(by cases h),rfl⟩
theorem Rd.esl (H:Heap):Rd H .esl []:=⟨fun _ h=>(by cases h),rfl⟩
theorem Rd.psl (H:Heap) (l:List V):Rd H (.psl (l.map fun x=>[x]) 1) l:=by
 refine ⟨fun _ h=>by (cases h),?_⟩
 simp only [elems,if_true,List.length_map]
 congr 2
 induction l with
 | nil=>rfl
 | cons x l ih=>simp [ih]
theorem Rd.sl {H:Heap} {id g:Nat} {c:List V} (h:getC H id g=some c) {off n:Nat} (hn:off+n≤c.length):Rd H (.sl id g off n 1) ((c.drop off).take n):=by
 refine ⟨fun _ h=>by (cases h),?_⟩
 have:((c.drop off).take n).length=n:=by simp;omega
 simp only [elems,if_true,h,Nat.mul_one,this]
theorem Rd.cases {H:Heap} {v:V} {l:List V} (h:Rd H v l):(l=[]∧(v=nilS∨v=.esl))∨(∃ es,v=.psl es 1∧es.flatten=l∧es.length=l.length)∨∃ id g off n c,v=.sl id g off n 1∧getC H id g=some c∧(c.drop off).take n=l∧n=l.length:=by
 obtain ⟨h1,h2⟩:=h
 unfold elems at h2
 split at h2
 ·simp only [Option.some.injEq,Prod.mk.injEq] at h2;exact .inl ⟨h2.2.symm,.inl rfl⟩
 ·simp only [Option.some.injEq,Prod.mk.injEq] at h2;exact .inl ⟨h2.2.symm,.inr rfl⟩
 ·rename_i es sz
  split at h2
  ·rename_i hz;subst hz;simp only [Option.some.injEq,Prod.mk.injEq] at h2;exact .inr (.inl ⟨es,rfl,h2.2,h2.1⟩)
  ·cases h2
 ·rename_i id g off len sz
  split at h2
  ·rename_i hz
   subst hz
   split at h2
   ·rename_i c hc
    simp only [Nat.mul_one] at h2
    split at h2
    ·simp only [Option.some.injEq,Prod.mk.injEq] at h2
     exact .inr (.inr ⟨id,g,off,len,c,rfl,hc,h2.2,h2.1⟩)
    ·cases h2
   ·cases h2
  ·cases h2
 ·cases h2
theorem Rd.len {H:Heap} {v:V} {l:List V} (h:Rd H v l):xLen H .s v=some (.s (.int .i64 l.length)):=by
 rcases h.cases with ⟨rfl,rfl | rfl⟩ | ⟨es,rfl,_,e⟩ | ⟨id,g,off,n,c,rfl,_,_,e⟩
 ·rfl
 ·rfl
 ·simp only [xLen,e];rfl
 ·simp only [xLen,e];rfl
def Wide1:V→Prop
 | .psl es _=>∀ e∈es,e.length=1
 | _=>True
theorem flatten_get {es:List (List V)} (h:∀ e∈es,e.length=1):∀ {i:Nat} {x:V},es.flatten[i]?=some x→es[i]?=some [x]:=by
 induction es with
 | nil=>intro i x hx;simp at hx
 | cons e es ih=>
   intro i x hx
   have he:=h e List.mem_cons_self
   match e,he with
   | [y],_=>
     cases i with
     | zero=>simp at hx ⊢;exact hx
     | succ i=>simp at hx ⊢;exact ih (fun e he=>h e (List.mem_cons_of_mem _ he)) hx
theorem Rd.at {H:Heap} {v:V} {l:List V} (h:Rd H v l) (hw:Wide1 v) {i:Nat} {x:V} (hx:l[i]?=some x):V1 (xLoad H false 1) (xIndexAddr 1 v (.s (.int .i64 i)))=some x:=by
 have hi:i < l.length:=(List.getElem?_eq_some_iff.1 hx).1
 have h0:(0:Int)≤(i:Int):=by omega
 rcases h.cases with ⟨rfl,_⟩ | ⟨es,rfl,e1,e2⟩ | ⟨id,g,off,n,c,rfl,hc,e1,e2⟩
 ·simp at hx
 ·have:es[i]?=some [x]:=flatten_get hw (by rw [e1];exact hx)
  simp only [xIndexAddr,h0,true_and,if_true,Int.toNat_natCast,this,Option.map_some,V1,xLoad,loadV]
  rfl
 ·have hn:((i:Int) < (n:Int)):=by omega
  have hcx:c[off+i]?=some x:=by
   have:((c.drop off).take n)[i]?=some x:=by rw [e1];exact hx
   rw [List.getElem?_take_of_lt (by omega),List.getElem?_drop] at this
   exact this
  have:((c.drop (off+i)).take 1)=[x]:=by
   have hlt:=(List.getElem?_eq_some_iff.1 hcx).1
   rw [List.drop_eq_getElem_cons hlt]
   have:=(List.getElem?_eq_some_iff.1 hcx).2
   simp [this]
  simp only [xIndexAddr,h0,hn,and_self,if_true,Int.toNat_natCast,Nat.mul_one,V1,xLoad,loadV,hc,this]
  rfl
theorem getC_app {H G:Heap} {id g:Nat} {c:List V} (h:getC H id g=some c):getC (H ++ G) id g=some c:=by
 unfold getC at h ⊢
 split at h
 ·rename_i g' c' hh
  rw [List.getElem?_append_left (List.getElem?_eq_some_iff.1 hh).1,hh]
  exact h
 ·cases h
theorem Rd.app {H:Heap} {v:V} {l:List V} (h:Rd H v l) (G:Heap):Rd (H ++ G) v l:=by
 rcases h.cases with ⟨rfl,rfl | rfl⟩ | ⟨es,rfl,e1,e2⟩ | ⟨id,g,off,n,c,rfl,hc,e1,e2⟩
 ·exact Rd.nil _
 ·exact Rd.esl _
 ·exact ⟨h.1,h.2⟩
 ·refine ⟨h.1,?_⟩
  have:((c.drop off).take n).length=n:=by rw [e1,e2]
  simp only [elems,if_true,getC_app hc,Nat.mul_one,this,e1]
  rw [e2,if_pos rfl]
theorem getC_set {H:Heap} {id g:Nat} {c c':List V} (h:getC H id g=some c) (g':Nat):getC (H.set id (.cells g' c')) id g'=some c':=by
 have:id < H.length:=by
  unfold getC at h
  split at h
  ·rename_i hh;exact (List.getElem?_eq_some_iff.1 hh).1
  ·cases h
 simp [getC,this]
theorem set_set' (H:Heap) (id:Nat) (a b:Ob):(H.set id a).set id b=H.set id b:=List.set_set ..
theorem storeV_at {H:Heap} {id g base off:Nat} {c:List V} (hc:getC H id g=some c) (hb:base≤id) {v:V} (h1:v.one=true) (hl:off < c.length):storeV H base 1 v (.ref id g off)=some (H.set id (.cells g (c.set off v))):=by
 have hv:v.cells=[v]:=by cases v <;> first | rfl | (simp [V.one] at h1;done)
 have:splice c off [v]=c.set off v:=by
  unfold splice
  rw [List.set_eq_take_append_cons_drop,if_pos hl]
  simp
 have hl':off+1≤c.length:=hl
 simp only [storeV,if_pos hb,hc,hv,List.length_singleton,hl',List.all_cons,List.all_nil,h1,Bool.and_true,and_self,if_true,this]
theorem xb_add (k:IntKind) (a b:Int):xBin .add (.s (.int k a)) (.s (.int k b))=some (.s (.int k (k.wrap (a+b)))):=by simp [xBin,binS]
theorem xb_sub (k:IntKind) (a b:Int):xBin .sub (.s (.int k a)) (.s (.int k b))=some (.s (.int k (k.wrap (a - b)))):=by simp [xBin,binS]
theorem xb_mul (k:IntKind) (a b:Int):xBin .mul (.s (.int k a)) (.s (.int k b))=some (.s (.int k (k.wrap (a * b)))):=by simp [xBin,binS]
theorem xb_eql (k:IntKind) (a b:Int):xBin .eql (.s (.int k a)) (.s (.int k b))=some (.s (.bool (a == b))):=by simp [xBin,binS]
theorem xb_neq (k:IntKind) (a b:Int):xBin .neq (.s (.int k a)) (.s (.int k b))=some (.s (.bool (a != b))):=by simp [xBin,binS]
theorem xb_lss (k:IntKind) (a b:Int):xBin .lss (.s (.int k a)) (.s (.int k b))=some (.s (.bool (decide (a < b)))):=by simp [xBin,binS]
theorem xb_leq (k:IntKind) (a b:Int):xBin .leq (.s (.int k a)) (.s (.int k b))=some (.s (.bool (decide (a≤b)))):=by simp [xBin,binS]
theorem xb_gtr (k:IntKind) (a b:Int):xBin .gtr (.s (.int k a)) (.s (.int k b))=some (.s (.bool (decide (a > b)))):=by simp [xBin,binS]
theorem xb_geq (k:IntKind) (a b:Int):xBin .geq (.s (.int k a)) (.s (.int k b))=some (.s (.bool (decide (a ≥ b)))):=by simp [xBin,binS]
theorem xb_and (k:IntKind) (a b:Int):xBin .and (.s (.int k a)) (.s (.int k b))=some (.s (.int k (k.wrap (BitVec.ofInt k.bits a &&& BitVec.ofInt k.bits b).toNat))):=by simp [xBin,binS]
theorem xb_or (k:IntKind) (a b:Int):xBin .or (.s (.int k a)) (.s (.int k b))=some (.s (.int k (k.wrap (BitVec.ofInt k.bits a ||| BitVec.ofInt k.bits b).toNat))):=by simp [xBin,binS]
theorem xb_xor (k:IntKind) (a b:Int):xBin .xor (.s (.int k a)) (.s (.int k b))=some (.s (.int k (k.wrap (BitVec.ofInt k.bits a ^^^ BitVec.ofInt k.bits b).toNat))):=by simp [xBin,binS]
theorem xb_andNot (k:IntKind) (a b:Int):xBin .andNot (.s (.int k a)) (.s (.int k b))=some (.s (.int k (k.wrap (BitVec.ofInt k.bits a &&& ~~~ (BitVec.ofInt k.bits b)).toNat))):=by simp [xBin,binS]
theorem xb_quo (k:IntKind) (a b:Int):xBin .quo (.s (.int k a)) (.s (.int k b))=if b=0 then none else some (.s (.int k (k.wrap (a.tdiv b)))):=by by_cases h:b=0 <;> simp [xBin,binS,h]
theorem xb_rem (k:IntKind) (a b:Int):xBin .rem (.s (.int k a)) (.s (.int k b))=if b=0 then none else some (.s (.int k (a.tmod b))):=by by_cases h:b=0 <;> simp [xBin,binS,h]
theorem xb_shl (k j:IntKind) (a b:Int):xBin .shl (.s (.int k a)) (.s (.int j b))=if b < 0 then none else some (.s (.int k (k.wrap (a * 2 ^ (min b.toNat k.bits))))):=by by_cases h:b < 0 <;> simp [xBin,binS,h]
theorem xb_shr (k j:IntKind) (a b:Int):xBin .shr (.s (.int k a)) (.s (.int j b))=if b < 0 then none else some (.s (.int k (a.fdiv (2 ^ (min b.toNat k.bits))))):=by by_cases h:b < 0 <;> simp [xBin,binS,h]
theorem xs_eql (a b:ByteArray):xBin .eql (.s (.string a)) (.s (.string b))=some (.s (.bool (a.data.toList == b.data.toList))):=rfl
theorem xs_neq (a b:ByteArray):xBin .neq (.s (.string a)) (.s (.string b))=some (.s (.bool (!(a.data.toList == b.data.toList)))):=rfl
theorem xs_lss (a b:ByteArray):xBin .lss (.s (.string a)) (.s (.string b))=some (.s (.bool (Op.bytesLess a.data.toList b.data.toList))):=rfl
theorem xs_add (a b:ByteArray):xBin .add (.s (.string a)) (.s (.string b))=if ((a.size+b.size:Nat):Int) > IntKind.i64.max then none else some (.s (.string (a ++ b))):=by by_cases h:((a.size+b.size:Nat):Int) > IntKind.i64.max <;> simp only [xBin,binS,h,if_true,if_false,Option.map_some,Option.map_none]
theorem xq_b (n a b:Bool):xEqB n (.s (.bool a)) (.s (.bool b))=some (.s (.bool ((a == b) != n))):=rfl
theorem xn_pn (n:Bool):xEqNil .p n (.s (.pointer none))=some (.s (.bool (true != n))):=rfl
theorem xn_pr (n:Bool) (i g o:Nat):xEqNil .p n (.ref i g o)=some (.s (.bool (false != n))):=rfl
theorem xn_pp (n:Bool) (cs:List V):xEqNil .p n (.pref cs)=some (.s (.bool (false != n))):=rfl
theorem xn_sn (n:Bool):xEqNil .s n (.s (.slice none 0 0))=some (.s (.bool (true != n))):=rfl
theorem xn_ss (n:Bool) (i g o l z:Nat):xEqNil .s n (.sl i g o l z)=some (.s (.bool (false != n))):=rfl
theorem xn_sp (n:Bool) (es:List (List V)) (z:Nat):xEqNil .s n (.psl es z)=some (.s (.bool (false != n))):=rfl
theorem xn_se (n:Bool):xEqNil .s n (.esl)=some (.s (.bool (false != n))):=rfl
theorem xn_mn (n:Bool):xEqNil .m n (.s (.map none))=some (.s (.bool (true != n))):=rfl
theorem xn_mm (n:Bool) (i:Nat):xEqNil .m n (.mp i)=some (.s (.bool (false != n))):=rfl
theorem xn_fn (n:Bool):xEqNil .f n (.s .nilFunc)=some (.s (.bool (true != n))):=rfl
theorem xn_ff (n:Bool) (i:Nat) (a b:List V):xEqNil .f n (.fn i a b)=some (.s (.bool (false != n))):=rfl
theorem xn_fy (n:Bool) (i:Nat):xEqNil .f n (.yld i)=some (.s (.bool (false != n))):=rfl
theorem xg (n:Bool) (ls:List Leaf) (xs ys:List V):xEqAgg n ls (.agg xs) (.agg ys)=(eqLeaves ls xs ys).map fun b=>.s (.bool (b != n)):=rfl
theorem xu_not (b:Bool):xUn .not (.s (.bool b))=some (.s (.bool (!b))):=rfl
theorem xu_neg (k:IntKind) (a:Int):xUn .neg (.s (.int k a))=some (.s (.int k (k.wrap (0 - a)))):=rfl
theorem xc_int (k j:IntKind) (a:Int):xConv k (.s (.int j a))=some (.s (.int k (k.wrap a))):=rfl
theorem xc_id (b:ByteArray):xConvId (.s (.string b))=some (.s (.string b)):=rfl
theorem xk_ref (i g o:Nat):xNilCheck (.ref i g o)=some (.ref i g o):=rfl
theorem xk_pref (cs:List V):xNilCheck (.pref cs)=some (.pref cs):=rfl
theorem xk_fn (f:Nat) (a b:List V):xNilCheck (.fn f a b)=some (.fn f a b):=rfl
theorem xk_yld (i:Nat):xNilCheck (.yld i)=some (.yld i):=rfl
theorem xa_ref (off i g o:Nat):xFieldAddr off (.ref i g o)=some (.ref i g (o+off)):=rfl
theorem xa_pref (off:Nat) (cs:List V):xFieldAddr off (.pref cs)=if off≤cs.length then some (.pref (cs.drop off)) else none:=rfl
theorem xf_agg (g:Bool) (off n:Nat) (cs:List V):xField g off n (.agg cs)=if ((cs.drop off).take n).length=n then shut g ((cs.drop off).take n) else none:=rfl
theorem xi_sl (sz i g o l z:Nat) (k:IntKind) (n:Int):xIndexAddr sz (.sl i g o l z) (.s (.int k n))=if 0≤n∧n < l∧z=sz then some (.ref i g (o+n.toNat * sz)) else none:=rfl
theorem xi_psl (sz z:Nat) (es:List (List V)) (k:IntKind) (n:Int):xIndexAddr sz (.psl es z) (.s (.int k n))=if 0≤n∧z=sz then (es[n.toNat]?).map .pref else none:=rfl
theorem xj_str (b:ByteArray) (k:IntKind) (n:Int):xIndexStr (.s (.string b)) (.s (.int k n))=if 0≤n then (b.data.toList[n.toNat]?).map fun c=>.s (.int .u8 c.toNat) else none:=rfl
theorem xe_tup (i:Nat) (vs:List V):xExtract i (.tup vs)=vs[i]?:=rfl
theorem xl_str (H:Heap) (b:ByteArray):xLen H .p (.s (.string b))=some (.s (.int .i64 b.size)):=rfl
theorem xl_nil (H:Heap):xLen H .s (.s (.slice none 0 0))=some (.s (.int .i64 0)):=rfl
theorem xl_esl (H:Heap):xLen H .s .esl=some (.s (.int .i64 0)):=rfl
theorem xl_psl (H:Heap) (es:List (List V)) (z:Nat):xLen H .s (.psl es z)=some (.s (.int .i64 es.length)):=rfl
theorem xl_sl (H:Heap) (i g o l z:Nat):xLen H .s (.sl i g o l z)=some (.s (.int .i64 l)):=rfl
theorem xl_mnil (H:Heap):xLen H .m (.s (.map none))=some (.s (.int .i64 0)):=rfl
theorem xo_ref (H:Heap) (g:Bool) (n i j o:Nat):xLoad H g n (.ref i j o)=match getC H i j with | some c=>(if ((c.drop o).take n).length=n then shut g ((c.drop o).take n) else none) | none=>none:=rfl
theorem xo_pref (H:Heap) (g:Bool) (n:Nat) (cs:List V):xLoad H g n (.pref cs)=if (cs.take n).length=n then shut g (cs.take n) else none:=rfl
theorem xm (mx:Bool) (k:IntKind) (a b:Int):xMinmax mx (.s (.int k a)) (.s (.int k b))=some (.s (.int k (if mx then (if a < b then b else a) else (if b < a then b else a)))):=by simp [xMinmax]
theorem shut_agg (cs:List V):shut true cs=some (.agg cs):=rfl
theorem shut_one (x:V):shut false [x]=some x:=rfl
theorem Rd.at' {H:Heap} {v:V} {l:List V} (h:Rd H v l) (hw:Wide1 v) {i:Nat} {x:V} (hx:l[i]?=some x):∃ a,xIndexAddr 1 v (.s (.int .i64 i))=some a∧xLoad H false 1 a=some x:=by
 have:=h.at hw hx
 cases ha:xIndexAddr 1 v (.s (.int .i64 i)) with
 | none=>rw [ha] at this;cases this
 | some a=>rw [ha] at this;exact ⟨a,rfl,this⟩
def bndV (d:Nat):Option V→Option Int
 | none=>some d
 | some v=>intOf? v
theorem bndV_none (d:Nat):bndV d none=some (d:Int):=rfl
theorem bndV_int (d:Nat) (k:IntKind) (n:Int):bndV d (some (.s (.int k n)))=some n:=rfl
def cutSl (sz id g off len z:Nat):Option Int→Option Int→Option V
 | some l,some h=>if 0≤l∧l≤h∧h≤len∧z=sz then some (.sl id g (off+l.toNat * sz) (h - l).toNat sz) else none
 | _,_=>none
def cutPsl (sz:Nat) (es:List (List V)) (z:Nat):Option Int→Option Int→Option V
 | some l,some h=>if 0≤l∧l≤h∧h≤es.length∧z=sz then some (.psl ((es.drop l.toNat).take (h - l).toNat) sz) else none
 | _,_=>none
def cutNil (v:V):Option Int→Option Int→Option V
 | some l,some h=>if l=0∧h=0 then some v else none
 | _,_=>none
def xSlice (sz:Nat) (v:V) (lo hi:Option V):Option V:=
 match v with
 | .s (.slice none 0 0)=>cutNil nilS (bndV 0 lo) (bndV 0 hi)
 | .esl=>cutNil .esl (bndV 0 lo) (bndV 0 hi)
 | .psl es z=>cutPsl sz es z (bndV 0 lo) (bndV es.length hi)
 | .sl id g off len z=>cutSl sz id g off len z (bndV 0 lo) (bndV len hi)
 | _=>none
theorem xslice_nil (sz:Nat) (lo hi:Option V):xSlice sz nilS lo hi=cutNil nilS (bndV 0 lo) (bndV 0 hi):=rfl
theorem xslice_esl (sz:Nat) (lo hi:Option V):xSlice sz .esl lo hi=cutNil .esl (bndV 0 lo) (bndV 0 hi):=rfl
theorem xslice_psl (sz:Nat) (es:List (List V)) (z:Nat) (lo hi:Option V):xSlice sz (.psl es z) lo hi=cutPsl sz es z (bndV 0 lo) (bndV es.length hi):=rfl
theorem xslice_sl (sz id g off len z:Nat) (lo hi:Option V):xSlice sz (.sl id g off len z) lo hi=cutSl sz id g off len z (bndV 0 lo) (bndV len hi):=rfl
theorem cutSl_some (sz id g off len z:Nat) (l h:Int):cutSl sz id g off len z (some l) (some h)=if 0≤l∧l≤h∧h≤len∧z=sz then some (.sl id g (off+l.toNat * sz) (h - l).toNat sz) else none:=rfl
theorem cutPsl_some (sz:Nat) (es:List (List V)) (z:Nat) (l h:Int):cutPsl sz es z (some l) (some h)=if 0≤l∧l≤h∧h≤es.length∧z=sz then some (.psl ((es.drop l.toNat).take (h - l).toNat) sz) else none:=rfl
theorem cutNil_some (v:V) (l h:Int):cutNil v (some l) (some h)=if l=0∧h=0 then some v else none:=rfl
theorem bnd_eq (fr:List V) (d:Nat) (o:Option Opd):bndA fr d o=bndV d (o.map (ev fr)):=by cases o <;> rfl
theorem op_subSl (call:CallF) (base:Nat) (fr:List V) (H:Heap) (sz:Nat) (x:Opd) (lo hi:Option Opd):evOp call base fr H (.subSl sz x lo hi none)=RH H (xSlice sz (ev fr x) (lo.map (ev fr)) (hi.map (ev fr))):=by
 simp only [evOp,bnd_eq]
 generalize ev fr x=v
 generalize lo.map (ev fr)=lo
 generalize hi.map (ev fr)=hi
 cases v <;> first | rfl | skip
 case s v=>
  cases v <;> first | rfl | skip
  rename_i a n m
  cases a <;> first | rfl | skip
  cases n <;> first | rfl | skip
  cases m <;> first | rfl | skip
  simp only [xSlice]
  cases bndV 0 lo with
  | none=>rfl
  | some l=>cases bndV 0 hi with
    | none=>simp only [cutNil,RH]
    | some h=>
      simp only [cutNil]
      by_cases hl:l=0
      ·subst hl
       by_cases hh:h=0
       ·subst hh;rfl
       ·simp only [hh,and_false,if_false]
        split <;> first | rfl | (rename_i e1 e2;cases e2;exact absurd rfl hh)
      ·simp only [hl,false_and,if_false]
       split <;> first | rfl | (rename_i e1 e2;cases e1;exact absurd rfl hl)
 case esl=>
  simp only [xSlice]
  cases bndV 0 lo with
  | none=>rfl
  | some l=>cases bndV 0 hi with
    | none=>simp only [cutNil,RH]
    | some h=>
      simp only [cutNil]
      by_cases hl:l=0
      ·subst hl
       by_cases hh:h=0
       ·subst hh;rfl
       ·simp only [hh,and_false,if_false]
        split <;> first | rfl | (rename_i e1 e2;cases e2;exact absurd rfl hh)
      ·simp only [hl,false_and,if_false]
       split <;> first | rfl | (rename_i e1 e2;cases e1;exact absurd rfl hl)
 case psl es z=>
  simp only [xSlice]
  cases bndV 0 lo <;> cases bndV es.length hi <;> first | rfl | (simp only [cutPsl];split <;> rfl)
 case sl id g off len z=>
  simp only [xSlice]
  cases bndV 0 lo <;> cases bndV len hi <;> first | rfl | (simp only [cutSl];split <;> rfl)
theorem xsub_sl (H:Heap) (sz:Nat) (x:Opd) (lo hi:Option Opd) (vs:List V):xSub H (.subSl sz x lo hi none) (some vs)=xSlice sz (ev vs x) (lo.map (ev vs)) (hi.map (ev vs)):=by
 simp only [xSub,op_subSl]
 cases xSlice sz (ev vs x) (lo.map (ev vs)) (hi.map (ev vs)) <;> rfl
def xClear (H:Heap) (base sz:Nat) (zero:List V) (v:V):Option Heap:=
 match v with
 | .s (.slice none 0 0)=>some H
 | .esl=>some H
 | .sl id g off len z=>if len=0 then some H else if base≤id∧z=sz then match getC H id g with
    | some c=>if zero.length=sz∧off+len * sz≤c.length∧zero.all V.one then some (H.set id (.cells g (splice c off (List.replicate len zero).flatten))) else none
    | none=>none
   else none
 | _=>none
theorem op_clear (call:CallF) (base:Nat) (fr:List V) (H:Heap) (sz:Nat) (zero:List V) (x:Opd):evOp call base fr H (.clearSl sz zero x)=RS (xClear H base sz zero (ev fr x)):=by
 simp only [evOp]
 generalize ev fr x=v
 cases v <;> first | rfl | skip
 case s v=>
  cases v <;> first | rfl | skip
  rename_i a n m
  cases a <;> first | rfl | skip
  cases n <;> first | rfl | skip
  cases m <;> rfl
 case sl id g off len z=>
  simp only [xClear]
  split
  ·rfl
  ·split
   ·cases getC H id g with
    | none=>rfl
    | some c=>simp only [];split <;> rfl
   ·rfl
theorem cast0:((0:Nat):Int)=0:=rfl
theorem toNat0:Int.toNat 0=0:=rfl
def Ext (H0 H:Heap):Prop:=∃ G,H=H0 ++ G
theorem Ext.refl (H:Heap):Ext H H:=⟨[],by simp⟩
theorem Ext.trans {A B C:Heap} (h:Ext A B) (k:Ext B C):Ext A C:=by
 obtain ⟨G,rfl⟩:=h
 obtain ⟨K,rfl⟩:=k
 exact ⟨G ++ K,by simp⟩
theorem Ext.app (H G:Heap):Ext H (H ++ G):=⟨G,rfl⟩
theorem Ext.le {A B:Heap} (h:Ext A B):A.length≤B.length:=by obtain ⟨G,rfl⟩:=h;simp
theorem Ext.get {A B:Heap} (h:Ext A B) {i:Nat} (hi:i < A.length):B[i]?=A[i]?:=by obtain ⟨G,rfl⟩:=h;exact List.getElem?_append_left hi
theorem Ext.of_get {A B:Heap} (hl:A.length≤B.length) (h:∀ i,i < A.length→B[i]?=A[i]?):Ext A B:=by
 refine ⟨B.drop A.length,?_⟩
 refine List.ext_getElem? fun i=>?_
 by_cases hi:i < A.length
 ·rw [List.getElem?_append_left hi,h i hi]
 ·rw [List.getElem?_append_right (by omega),List.getElem?_drop]
  congr 1;omega
theorem Ext.set {A B:Heap} (h:Ext A B) {id:Nat} (hid:A.length≤id) (ob:Ob):Ext A (B.set id ob):=
 Ext.of_get (by rw [List.length_set];exact h.le) fun i hi=>by rw [List.getElem?_set_ne (by omega),h.get hi]
theorem Ext.take {A B:Heap} (h:Ext A B) {m:Nat} (hm:A.length≤m):Ext A (B.take m):=
 Ext.of_get (by rw [List.length_take];have:=h.le;omega) fun i hi=>by rw [List.getElem?_take_of_lt (by omega),h.get hi]
theorem trim_or (m:Nat) (fr:List V) (H:Heap):trim m fr H=H∨(trim m fr H=H.take m∧∀ v∈fr,idsUnder m 8 v=true):=by
 unfold trim
 split
 ·rename_i h
  simp only [Bool.and_eq_true,List.all_eq_true] at h
  exact .inr ⟨rfl,h.1⟩
 ·exact .inl rfl
theorem Ext.trim {A B:Heap} (h:Ext A B) {m:Nat} (hm:A.length≤m) (fr:List V):Ext A (trim m fr B):=by
 rcases trim_or m fr B with e | ⟨e,_⟩ <;> rw [e]
 ·exact h
 ·exact h.take hm
theorem Rd.ext {H H':Heap} {v:V} {l:List V} (h:Rd H v l) (k:Ext H H'):Rd H' v l:=by obtain ⟨G,rfl⟩:=k;exact h.app G
theorem getC_ext {H H':Heap} {id g:Nat} {c:List V} (h:getC H id g=some c) (k:Ext H H'):getC H' id g=some c:=by obtain ⟨G,rfl⟩:=k;exact getC_app h
theorem getC_lt {H:Heap} {id g:Nat} {c:List V} (h:getC H id g=some c):id < H.length:=by
 unfold getC at h
 split at h
 ·rename_i hh;exact (List.getElem?_eq_some_iff.1 hh).1
 ·cases h
theorem getC_new (H:Heap) (g:Nat) (c:List V):getC (H ++ [.cells g c]) H.length g=some c:=by simp [getC]
def Acc (H0 H:Heap) (v:V) (l:List V):Prop:=Ext H0 H∧((l=[]∧v=nilS)∨∃ id g,v=.sl id g 0 l.length 1∧getC H id g=some l∧H0.length≤id)
theorem Acc.start (H:Heap):Acc H H nilS []:=⟨Ext.refl H,.inl ⟨rfl,rfl⟩⟩
theorem Acc.rd {H0 H:Heap} {v:V} {l:List V} (h:Acc H0 H v l):Rd H v l:=by
 rcases h.2 with ⟨rfl,rfl⟩ | ⟨id,g,rfl,hc,_⟩
 ·exact Rd.nil H
 ·have:=Rd.sl hc (off:=0) (n:=l.length) (by omega)
  rwa [List.drop_zero,List.take_length] at this
theorem Acc.wide {H0 H:Heap} {v:V} {l:List V} (h:Acc H0 H v l):Wide1 v:=by
 rcases h.2 with ⟨_,rfl⟩ | ⟨id,g,rfl,_,_⟩ <;> trivial
theorem Acc.trim {H0 H:Heap} {v:V} {l:List V} (h:Acc H0 H v l) {m:Nat} (hm:H0.length≤m) {fr:List V} (hv:v∈fr):Acc H0 (trim m fr H) v l:=by
 refine ⟨h.1.trim hm fr,?_⟩
 rcases h.2 with h2 | ⟨id,g,rfl,hc,hid⟩
 ·exact .inl h2
 ·refine .inr ⟨id,g,rfl,?_,hid⟩
  rcases trim_or m fr H with e | ⟨e,hu⟩ <;> rw [e]
  ·exact hc
  ·have:=hu _ hv
   simp only [idsUnder,decide_eq_true_eq] at this
   unfold getC at hc ⊢
   rw [List.getElem?_take_of_lt this]
   exact hc
theorem elems_new {H:Heap} {x:V}:elems (H ++ [.cells 0 [x]]) 1 (.sl H.length 0 0 1 1)=some (1,[x]):=by
 simp [elems,getC]
theorem Acc.append {H0 H:Heap} {v:V} {l:List V} (h:Acc H0 H v l) {base bytes:Nat} (hb:base≤H0.length) {x:V} (hx:x.one=true) (hs:(l.length+1) * bytes≤2 ^ 47):
 ∃ v' H',appendV (H ++ [.cells 0 [x]]) base 1 bytes v (.sl H.length 0 0 1 1)=some (v',H')∧Acc H0 H' v' (l ++ [x]):=by
 have hx':[x].all V.one=true:=by simp [hx]
 rcases h.2 with ⟨rfl,rfl⟩ | ⟨id,g,rfl,hc,hid⟩
 ·have hs':1 * bytes≤2 ^ 47:=by simpa using hs
  refine ⟨.sl (H.length+1) 0 0 1 1,H ++ [.cells 0 [x]] ++ [.cells 0 [x]],?_,h.1.trans ⟨[.cells 0 [x],.cells 0 [x]],by simp⟩,.inr ⟨H.length+1,0,rfl,?_,?_⟩⟩
  ·simp only [appendV,elems_new,hx',if_true,nilS,Nat.one_ne_zero,if_false,hs',List.length_append,List.length_cons,List.length_nil]
  ·have:=getC_new (H ++ [.cells 0 [x]]) 0 [x]
   simpa using this
  ·have:=h.1.le;omega
 ·have hlt:=getC_lt hc
  have hc':=getC_app hc (G:=[Ob.cells 0 [x]])
  have hbi:base≤id:=by omega
  refine ⟨.sl id (g+1) 0 (l.length+1) 1,(H ++ [Ob.cells 0 [x]]).set id (.cells (g+1) (l ++ [x])),?_,?_,.inr ⟨id,g+1,by simp,?_,hid⟩⟩
  ·have h2:0+l.length≤l.length:=by omega
   simp only [appendV,elems_new,hx',if_true,true_and,hbi,hc',h2,Nat.one_ne_zero,if_false,hs,List.drop_zero,Nat.mul_one,List.take_length]
  ·exact (h.1.trans (Ext.app _ _)).set hid _
  ·exact getC_set hc' _
def obC (g:Nat):Ob→Option (List V)
 | .cells g' c=>if g'=g then some c else none
 | _=>none
theorem getC_snoc (A:Heap) (ob:Ob) (id g:Nat):getC (A ++ [ob]) id g=if id=A.length then obC g ob else getC A id g:=by
 by_cases h:id=A.length
 ·subst h
  simp only [getC,List.getElem?_concat_length,if_true]
  cases ob <;> rfl
 ·rw [if_neg h]
  by_cases hl:id < A.length
  ·simp only [getC,List.getElem?_append_left hl]
  ·have h1:(A ++ [ob])[id]?=none:=List.getElem?_eq_none (by simp;omega)
   have h2:A[id]?=none:=List.getElem?_eq_none (by omega)
   simp only [getC,h1,h2]
theorem obC_same (g:Nat) (c:List V):obC g (.cells g c)=some c:=by simp [obC]
theorem set_snoc (A:Heap) (ob x:Ob):(A ++ [ob]).set A.length x=A ++ [x]:=by simp
theorem len_snoc (A:Heap) (ob:Ob):(A ++ [ob]).length=A.length+1:=by simp
theorem ne_add (a b:Nat):(a=a+(b+1))=False:=by simp
theorem add_ne (a b:Nat):(a+(b+1)=a)=False:=by simp
theorem Rd.one {H:Heap} {v:V} {l:List V} (h:Rd H v l):v.one=true:=by
 rcases h.cases with ⟨_,rfl | rfl⟩ | ⟨es,rfl,_⟩ | ⟨id,g,off,n,c,rfl,_⟩ <;> rfl
theorem one_int (k:IntKind) (n:Int):V.one (.s (.int k n))=true:=rfl
theorem one_str (b:ByteArray):V.one (.s (.string b))=true:=rfl
theorem one_bool (b:Bool):V.one (.s (.bool b))=true:=rfl
theorem one_nilS:V.one (.s (.slice none 0 0))=true:=rfl
theorem one_ref (i g o:Nat):V.one (.ref i g o)=true:=rfl
theorem one_sl (i g o l z:Nat):V.one (.sl i g o l z)=true:=rfl
theorem one_psl (es:List (List V)) (z:Nat):V.one (.psl es z)=true:=rfl
theorem one_esl:V.one .esl=true:=rfl
theorem one_mp (i:Nat):V.one (.mp i)=true:=rfl
theorem one_fn (f:Nat) (a b:List V):V.one (.fn f a b)=true:=rfl
theorem cells_agg (cs:List V):V.cells (.agg cs)=cs:=rfl
theorem cells_s (v:Value):V.cells (.s v)=[.s v]:=rfl
theorem cells_sl (i g o l z:Nat):V.cells (.sl i g o l z)=[.sl i g o l z]:=rfl
theorem cells_psl (es:List (List V)) (z:Nat):V.cells (.psl es z)=[.psl es z]:=rfl
theorem cells_ref (i g o:Nat):V.cells (.ref i g o)=[.ref i g o]:=rfl
theorem cells_esl:V.cells .esl=[.esl]:=rfl
theorem cells_mp (i:Nat):V.cells (.mp i)=[.mp i]:=rfl
theorem cells_of_one {v:V} (h:v.one=true):v.cells=[v]:=by cases v <;> first | rfl | (simp [V.one] at h;done)
theorem fillA_nil (p:Nat→Option (Nat × Nat)) (c:List V):fillA p c []=some c:=rfl
theorem set_snoc' (A:Heap) (ob x:Ob) (id:Nat):(A ++ [ob]).set id x=if id=A.length then A ++ [x] else A.set id x ++ [ob]:=by
 by_cases h:id=A.length
 ·subst h;simp
 ·rw [if_neg h]
  by_cases hl:id < A.length
  ·rw [List.set_append_left _ _ hl]
  ·rw [List.set_eq_of_length_le (by simp;omega),List.set_eq_of_length_le (by omega)]
theorem storeV_ref (H:Heap) (base n:Nat) (v:V) (id g off:Nat):storeV H base n v (.ref id g off)=if base≤id then (match getC H id g with
 | some c=>if v.cells.length=n∧off+n≤c.length∧v.cells.all V.one then some (H.set id (.cells g (splice c off v.cells))) else none
 | none=>none) else none:=rfl
end Go.AM
namespace Go.AM
open Go.RowKit
def iV (n:Int):V:=.s (.int .i64 n)
end Go.AM
namespace Go.AM
open Go.RowKit
section
variable {CC:CX} {μ:Mu} {Mt:Nat→Prop} {w w':World} {H:Heap} {P:Program}
end
end Go.AM
namespace Go.AM
open Go.RowKit
abbrev PXf (fx:Nat→Option (Array Value × TypeId × Nat × Nat)):PX:=⟨fun _=>false,fx⟩
abbrev PX0:PX:=PXf fun _=>none
theorem compK_fx (lt:List Nat) (P:Program) (fx:Nat→Option (Array Value × TypeId × Nat × Nat)) (k:Nat):compKL lt P (PXf fx) k=compKL lt P PX0 k:=rfl
theorem funOk_f {P:Program} (fx:Nat→Option (Array Value × TypeId × Nat × Nat)) {lt:List Nat} {k:Nat} {c:ACFun} (h:compKL lt P PX0 k=some (false,c.ntmps,c.results,c.body.bare)):FunOk P (PXf fx) k (.code c):=funOk_of ((compK_fx lt P fx k).trans h)
section
variable {CC:CX} {μ:Mu} {Mt:Nat→Prop} {w w':World} {H:Heap} {P:Program}
theorem post_below (h:HR CC μ Mt w H) (hb:Below w.heap.size w w'):Post CC μ Mt w H μ Mt w' H:=by
 have hk:∀ B,B < w.heap.size→¬ Mt B→w'.heap[B]?=w.heap[B]?:=fun B hB _=>hb.block B hB
 have hsh:∀ (B:Nat) (arr:Array Value) (e:TypeId) (fr:Nat × Nat),w.heap[B]?=some (.cells arr e fr)→∃ arr' fr',w'.heap[B]?=some (.cells arr' e fr')∧arr'.size=arr.size:=
  fun B arr e fr hB=>⟨arr,fr,(hb.block B (lt_of_some hB)).trans hB,rfl⟩
 have hbk:∀ (B:Nat) (arr:Array Value) (e:TypeId) (fr:Nat × Nat),w'.heap[B]?=some (.cells arr e fr)→(∃ arr0,w.heap[B]?=some (.cells arr0 e fr))∨w.heap.size≤B:=by
  intro B arr e fr hB
  by_cases hlt:B < w.heap.size
  ·exact .inl ⟨arr,(hb.block B hlt).symm.trans hB⟩
  ·exact .inr (by omega)
 refine ⟨Nat.le_refl _,⟨h.dom,fun id g B b e=>⟨(h.isMut id g B b e).1,by have:=(h.isMut id g B b e).2;have:=hb.size;omega⟩,fun id ob g B b hH hc e=>?_,h.inj,h.gens,h.wf,h.fixed (fun _ _ h=>h) hk,h.zero⟩,fun _ _ _ h=>h,fun _ _=>Iff.rfl,
  ⟨hb.size,hsh,fun B l hB=>⟨l,(hb.block B (lt_of_some hB)).trans hB⟩,fun B hB _=>hb.block B hB,fun B arr e hB=>hbk B arr e _ hB,hb.os,hb.tape,hb.output⟩,fun id g _ b e _=>⟨id,g,b,e⟩,fun _ g p e _=>⟨g,p,e⟩⟩
 obtain ⟨o1,ho1,hr⟩:=h.objs id ob g B b hH hc e
 exact ⟨o1,(hb.block _ (lt_of_some ho1)).trans ho1,hr.mono (fun _ _ _ h=>h) (fun _ _ h=>h) hk hsh⟩
def insI (x:Int):List Int→List Int
 | []=>[x]
 | y :: l=>if x≤y then x :: y :: l else y :: insI x l
def sortI:List Int→List Int
 | []=>[]
 | x :: l=>insI x (sortI l)
end
end Go.AM
namespace Go.AM
open Go.RowKit
def strsOf:List V→Option (List ByteArray)
 | []=>some []
 | .s (.string b) :: l=>(strsOf l).map (b :: ·)
 | _ :: _=>none
def strsOf1:List (List V)→Option (List ByteArray)
 | []=>some []
 | [.s (.string b)] :: l=>(strsOf1 l).map (b :: ·)
 | _ :: _=>none
def strsV (H:Heap):V→Option (List ByteArray)
 | .s (.slice none 0 0)=>some []
 | .esl=>some []
 | .psl es 1=>strsOf1 es
 | .sl id g off n 1=>match getC H id g with
   | some c=>if ((c.drop off).take n).length=n then strsOf ((c.drop off).take n) else none
   | none=>none
 | _=>none
theorem strsOf_eq:∀ {l:List V} {xs:List ByteArray},strsOf l=some xs→l=xs.map fun b=>.s (.string b):=by
 intro l
 induction l with
 | nil=>intro xs h;cases h;rfl
 | cons x l ih=>
   intro xs h
   unfold strsOf at h
   split at h
   ·rename_i e;cases e
   ·rename_i b l' e
    cases e
    rw [Option.map_eq_some_iff] at h
    obtain ⟨ys,h1,rfl⟩:=h
    rw [ih h1];rfl
   ·cases h
theorem strsOf_map:∀ xs:List ByteArray,strsOf (xs.map fun b=>V.s (.string b))=some xs:=by
 intro xs
 induction xs with
 | nil=>rfl
 | cons z zs ih=>simp [strsOf];exact ih
theorem strsOf1_eq:∀ {l:List (List V)} {xs:List ByteArray},strsOf1 l=some xs→l=xs.map fun b=>[.s (.string b)]:=by
 intro l
 induction l with
 | nil=>intro xs h;cases h;rfl
 | cons x l ih=>
   intro xs h
   unfold strsOf1 at h
   split at h
   ·rename_i e;cases e
   ·rename_i b l' e
    cases e
    rw [Option.map_eq_some_iff] at h
    obtain ⟨ys,h1,rfl⟩:=h
    rw [ih h1];rfl
   ·cases h
def joinB (xs:List ByteArray) (sep:ByteArray):ByteArray:=⟨(Lib.join (xs.map (·.data.toList)) sep.data.toList).toArray⟩
def joinG:List V→Nat→Heap→Option (V × Heap)
 | [v,.s (.string sep)],_,H=>match strsV H v with
   | some xs=>if xs.length≤140737488355328∧(Lib.join (xs.map (·.data.toList)) sep.data.toList).length≤140737488355328 then some (.s (.string (joinB xs sep)),H) else none
   | none=>none
 | _,_,_=>none
def copyG:List V→Nat→Heap→Option (V × Heap)
 | [.ref id 0 0],base,H=>match getC H id 0 with
   | some [.unk,v]=>if base≤id then some (und,H.set id (.cells 0 [.ref id 0 0,v])) else none
   | some [.ref id' 0 0,_]=>if id'=id then some (und,H) else none
   | _=>none
 | _,_,_=>none
def bstG:List V→Nat→Heap→Option (V × Heap)
 | [.ref id 0 0],base,H=>match getC H id 0 with
   | some [_,.s (.slice none 0 0)]=>some (.s (.string ⟨#[]⟩),H)
   | some [_,.sl id2 g 0 n 1]=>if base≤id2∧n≠0∧n≤140737488355328 then match H[id2]? with
      | some (.bytes g' l)=>if g'=g∧n=l.length then some (.s (.string ⟨l.toArray⟩),H.set id2 .dead) else none
      | _=>none
     else none
   | _=>none
 | _,_,_=>none
def itoaG:List V→Nat→Heap→Option (V × Heap)
 | [.s (.int .i64 n)],_,H=>if 0≤n∧n < 100 then some (.s (.string ⟨(Lib.decDigits n.toNat).toArray⟩),H) else none
 | _,_,_=>none
section
variable {P:Program}
theorem itoa_ok {pure':PX} {k:Nat} (hent:∀ xs w,(callFunc k xs).run P w=.ok (.enter k xs) w)
 (hs:∀ (i:Nat) (w:World),i < 100→Calls P k #[.int .i64 i] w fun e w'=>e=.returned (.string ⟨(Lib.decDigits i).toArray⟩)∧w'=w):FunOk P pure' k (.prim itoaG):=by
 refine ⟨hent,fun vs base H r H' hg=>?_⟩
 unfold itoaG at hg
 split at hg
 ·rename_i n
  split at hg
  ·rename_i hn
   cases hg
   refine ⟨Floor.refl _ _,fun μ Mt w cs hH hvs m=>?_⟩
   obtain ⟨h1,h2⟩:=hvs
   match cs,h1 with
   | [x],_=>
     have e1:=vr_s (h2 0 _ x rfl rfl)
     subst e1
     have hc:=hs n.toNat w (by omega)
     rw [show ((n.toNat:Nat):Int)=n by omega] at hc
     refine callsIn_wide.2 (hc.mono ?_)
     rintro e w' ⟨rfl,rfl⟩
     exact ⟨_,μ,Mt,rfl,.s _,Post.refl hH⟩
  ·cases hg
 ·cases hg
theorem join_ok {pure':PX} {k:Nat} (hent:∀ xs w,(callFunc k xs).run P w=.ok (.enter k xs) w)
 (h0:∀ (a:Option Addr) (c:Nat) (sep:ByteArray) (w:World),Calls P k #[.slice a 0 c,.string sep] w fun e w'=>e=.returned (.string ⟨#[]⟩)∧w'=w)
 (hs:∀ (bk o c:Nat) (xs:List ByteArray) (sep:ByteArray) (w:World),(∀ (j:Nat) x,xs[j]?=some x→w.cell? ⟨bk,o+j,none⟩=some (.string x))→bk < w.heap.size→xs.length≤140737488355328→xs.length≤c→
  (Lib.join (xs.map (·.data.toList)) sep.data.toList).length≤140737488355328→
  Calls P k #[.slice (some ⟨bk,o,none⟩) xs.length c,.string sep] w fun e w'=>e=.returned (.string (joinB xs sep))∧Below w.heap.size w w'):FunOk P pure' k (.prim joinG):=by
 refine ⟨hent,fun vs base H r H' hg=>?_⟩
 unfold joinG at hg
 split at hg
 case h_2=>cases hg
 rename_i v sep
 split at hg
 case h_2=>cases hg
 rename_i xs hx
 split at hg
 case isFalse=>cases hg
 rename_i hb
 cases hg
 refine ⟨Floor.refl _ _,fun μ Mt w cs hH hvs m=>?_⟩
 obtain ⟨h1,h2⟩:=hvs
 match cs,h1 with
 | [x,y],_=>
   have e2:=vr_s (h2 1 _ y rfl rfl)
   subst e2
   have hv:=h2 0 _ x rfl rfl
   have none':∀ (a:Option Addr) (c:Nat),xs=[]→x=.slice a 0 c→CallsIn Fence.wide m P k #[x,.string sep] w (RetP (CR P pure') μ Mt w H (.s (.string (joinB xs sep))) H):=by
    intro a c hxs hxe
    subst hxs hxe
    refine callsIn_wide.2 ((h0 a c sep w).mono ?_)
    rintro e w' ⟨rfl,rfl⟩
    exact ⟨_,μ,Mt,rfl,.s _,Post.refl hH⟩
   have some':∀ (bk o c:Nat),x=.slice (some ⟨bk,o,none⟩) xs.length c→(∀ (j:Nat) b,xs[j]?=some b→w.cell? ⟨bk,o+j,none⟩=some (.string b))→bk < w.heap.size→xs.length≤c→
    CallsIn Fence.wide m P k #[x,.string sep] w (RetP (CR P pure') μ Mt w H (.s (.string (joinB xs sep))) H):=by
    intro bk o c hxe hc hlt hcap
    subst hxe
    refine callsIn_wide.2 ((hs bk o c xs sep w hc hlt hb.1 hcap hb.2).mono ?_)
    rintro e w' ⟨rfl,hbl⟩
    exact ⟨_,μ,Mt,rfl,.s _,post_below hH hbl⟩
   unfold strsV at hx
   split at hx
   ·cases hx;exact none' none 0 rfl (vr_s hv)
   ·cases hx
    cases hv with
    | esl a=>exact none' (some a) 0 rfl rfl
   ·rename_i es _
    have hes:=strsOf1_eq hx
    cases hv with
    | psl0 _ cap a=>
      cases xs with
      | nil=>exact none' _ _ rfl rfl
      | cons z zs=>cases hes
    | psl _ _ B o cap arr e fr hB hM hcc hz hsz hvv=>
      have hl:es.length=xs.length:=by rw [hes];simp
      refine some' B o cap (by rw [hl]) (fun j b hj=>?_) (lt_of_some hB) (by omega)
      have hjl:=(List.getElem?_eq_some_iff.1 hj).1
      have hej:es[j]?=some [V.s (.string b)]:=by rw [hes,List.getElem?_map,hj];rfl
      have ha:arr[o+j * 1+0]?=some arr[o+j * 1+0]:=Array.getElem?_eq_getElem (by omega)
      have:=vr_s (PR.vr (μ:=μ) (hvv j _ 0 _ _ hej rfl ha))
      rw [cell_of_heap hB]
      rw [this] at ha
      simpa using ha
   ·rename_i id g off n _
    split at hx
    case h_2=>cases hx
    rename_i c hc
    split at hx
    case isFalse=>cases hx
    rename_i hfit
    have hxs:=strsOf_eq hx
    have hl:xs.length=n:=by
     have:=congrArg List.length hxs
     rw [hfit,List.length_map] at this
     exact this.symm
    cases hv with
    | sl0=>
      exact none' _ _ (List.eq_nil_of_length_eq_zero hl) rfl
    | sl _ _ _ _ _ B b cap arr el hm hB hcap hsz=>
      obtain ⟨arr',el',hB',hsz',hrd⟩:=hH.row hc hm
      rw [hB] at hB'
      cases hB'
      refine some' B (b+off) cap (by rw [hl]) (fun j x hj=>?_) (lt_of_some hB) (by omega)
      have hjl:=(List.getElem?_eq_some_iff.1 hj).1
      have hcj:c[off+j]?=some (V.s (.string x)):=by
       have:((c.drop off).take n)[j]?=(xs.map fun b=>V.s (.string b))[j]?:=by rw [hxs]
       rw [List.getElem?_take_of_lt (by omega),List.getElem?_drop] at this
       rw [this,List.getElem?_map,hj];rfl
      have hlt:=(List.getElem?_eq_some_iff.1 hcj).1
      have ha:arr[b+(off+j)]?=some arr[b+(off+j)]:=Array.getElem?_eq_getElem (by omega)
      have hvr:=vr_s (hrd (off+j) _ _ hcj ha)
      rw [cell_of_heap hB,Nat.add_assoc,ha,hvr]
   ·cases hx
theorem isU8_eq {e:TypeId} (h:isU8 P e=true):P.underlying e=some (.int .u8)∧P.cellsOf e=1:=by
 unfold isU8 at h
 split at h
 ·rename_i h1;exact ⟨h1,by simpa using h⟩
 ·cases h
theorem liesAt_u8 {e u:TypeId} (he:isU8 P e=true) (hu:P.underlying u=some (.int .u8)) (count off n:Nat) (hn:off+n≤count):liesAt P P.depth e count off u n=true:=by
 obtain ⟨h1,h2⟩:=isU8_eq he
 have hd:P.depth=(2 * (P.types.size+Made.depth)+1)+1:=rfl
 rw [hd]
 simp only [liesAt,Bool.or_eq_true]
 left
 rw [hd]
 simp [rowAt,h2,hn,sameLayout,h1,hu,Nat.mod_one]
theorem run_setCell (P:Program) {w:World} {B:Nat} {arr:Array Value} {e:TypeId} (hB:w.heap[B]?=some (.cells arr e (0,0))) (h0:0 < arr.size) {p:Value} (hp:p.oneCell'=true):
 (storeCells ⟨B,0,none⟩ [p]).run P w=.ok () (w.setCell ⟨B,0,none⟩ p):=by
 have hadd:(⟨B,0,none⟩:Addr).add 0=⟨B,0,none⟩:=by unfold Addr.add;split <;> simp_all
 have hcell:w.cell? ⟨B,0,none⟩=some arr[0]:=by simp [World.cell?,hB,h0]
 have hfro:w.frozen? ⟨B,0,none⟩=false:=by simp [World.frozen?,hB]
 have hst:(store (⟨B,0,none⟩:Addr) p).run P w=.ok () (w.setCell ⟨B,0,none⟩ p):=by
  rw [run_store P w _ p _ hp,hcell]
  simp [hfro]
 simp only [storeCells,hadd,Sem.run_bind,hst,Result.andThen_ok,Sem.run_pure]
theorem copy_ok {pure':PX} {k:Nat} {T:TypeId} (hT:∀ e,isBld P e=true→e=T) (hent:∀ xs w,(callFunc k xs).run P w=.ok (.enter k xs) w)
 (hf:∀ (b:Nat) (w:World),w.cell? ⟨b,0,none⟩=some (.pointer none)→w.shape? b=some (T,2)→w.frozen? ⟨b,0,none⟩=false→Calls P k #[.pointer (some ⟨b,0,none⟩)] w fun e w'=>e=.returned (.tuple #[])∧w'=w.setCell ⟨b,0,none⟩ (.pointer (some ⟨b,0,none⟩)))
 (hu:∀ (b:Nat) (w:World),w.cell? ⟨b,0,none⟩=some (.pointer (some ⟨b,0,none⟩))→Calls P k #[.pointer (some ⟨b,0,none⟩)] w fun e w'=>e=.returned (.tuple #[])∧w'=w):FunOk P pure' k (.prim copyG):=by
 refine ⟨hent,fun vs base H r H' hg=>?_⟩
 unfold copyG at hg
 split at hg
 case h_2=>cases hg
 rename_i id
 split at hg
 case h_3=>cases hg
 ·
  rename_i v hc
  split at hg
  case isFalse=>cases hg
  rename_i hbase
  cases hg
  refine ⟨⟨by simp,fun j hj _=>by rw [List.getElem?_set_ne (by omega)]⟩,fun μ Mt w cs hH hvs m=>?_⟩
  obtain ⟨h1,h2⟩:=hvs
  match cs,h1 with
  | [x],_=>
    have hv:=h2 0 _ x rfl rfl
    cases hv with
    | ref _ _ _ B b hm=>
      have hz:=hH.zero _ _ _ hm
      subst hz
      obtain ⟨o,ho,hr⟩:=hH.objs id _ 0 B 0 (getC_some hc) rfl hm
      cases o <;> first | exact hr.elim | skip
      rename_i arr e fr
      obtain ⟨rfl,hs,hrd,hfr⟩:=hr
      obtain ⟨f1,_,f3,f4⟩:=hfr rfl rfl
      have he:=hT e f1
      subst he
      have hcl:=hf B w (by rw [cell_of_heap ho];exact f4) (by simp [World.shape?,ho,f3]) (by simp [World.frozen?,ho])
      refine callsIn_wide.2 (hcl.mono ?_)
      rintro e' w' ⟨rfl,rfl⟩
      obtain ⟨w2,hrun,hpost⟩:=post_store (P:=P) (off:=0) (vs:=[.ref id 0 0]) (us:=[.pointer (some ⟨B,0+0,none⟩)]) hH hc hm (by simp) (VR.cons (.ref id 0 0 B 0 hm) VRs.nil) rfl
      have hrun2:=run_setCell P ho (by omega) (p:=.pointer (some ⟨B,0,none⟩)) rfl
      have heq:=hrun.symm.trans hrun2
      cases heq
      exact ⟨_,_,_,rfl,.s _,hpost⟩
 ·
  rename_i id' v hc
  split at hg
  case isFalse=>cases hg
  rename_i hid
  subst hid
  cases hg
  refine ⟨Floor.refl _ _,fun μ Mt w cs hH hvs m=>?_⟩
  obtain ⟨h1,h2⟩:=hvs
  match cs,h1 with
  | [x],_=>
    have hv:=h2 0 _ x rfl rfl
    cases hv with
    | ref _ _ _ B b hm=>
      have hz:=hH.zero _ _ _ hm
      subst hz
      obtain ⟨arr,e,ho,hs,hrd⟩:=hH.row hc hm
      have hlt:0 < arr.size:=by simp at hs;omega
      have ha:arr[0+0]?=some arr[0]:=Array.getElem?_eq_getElem hlt
      have hv0:=hrd 0 _ _ rfl ha
      have hv1:∀ q,VR μ Mt w (.ref id' 0 0) q→q=.pointer (some ⟨B,0,none⟩):=by
       intro q hq
       cases hq with
       | ref _ _ _ B' b' hm'=>
         rw [hm] at hm'
         cases hm'
         rfl
      have hv1:=hv1 _ hv0
      refine callsIn_wide.2 ((hu B w (by rw [cell_of_heap ho,← hv1];exact ha)).mono ?_)
      rintro e' w' ⟨rfl,rfl⟩
      exact ⟨_,μ,Mt,rfl,.s _,Post.refl hH⟩
theorem freeze_heap {w:World} {B o n:Nat} {arr:Array Value} {e:TypeId} (hB:w.heap[B]?=some (.cells arr e (0,0))) (hn:n≠0):(w.drew.freeze ⟨B,o,none⟩ n).heap=w.heap.setIfInBounds B (.cells arr e (o,o+n)):=by
 unfold World.freeze
 rw [if_neg hn]
 apply Array.ext_getElem?
 intro i
 have hd:w.drew.heap=w.heap:=rfl
 simp only [hd,Array.getElem?_modify]
 by_cases hi:B=i
 ·subst hi
  rw [if_pos rfl,hB,Array.getElem?_setIfInBounds_self_of_lt (lt_of_some hB)]
  rfl
 ·rw [if_neg hi,Array.getElem?_setIfInBounds_ne hi]
theorem bst_ok {pure':PX} {k:Nat} (hent:∀ xs w,(callFunc k xs).run P w=.ok (.enter k xs) w)
 (hn:∀ (b:Nat) (w:World),w.cell? ⟨b,1,none⟩=some (.slice none 0 0)→Calls P k #[.pointer (some ⟨b,0,none⟩)] w fun e w'=>e=.returned (.string ⟨#[]⟩)∧Below w.heap.size w w')
 (hs:∀ (b g o cap:Nat) (cur:Array Value) (el:TypeId) (l:List UInt8) (w:World),w.cell? ⟨b,1,none⟩=some (.slice (some ⟨g,o,none⟩) l.length cap)→w.heap[g]?=some (.cells cur el (0,0))→isU8 P el=true→o+l.length≤cur.size→l.length≤cap→l.length≤140737488355328→l≠[]→
  (∀ (j:Nat) (x:UInt8),l[j]?=some x→w.cell? ⟨g,o+j,none⟩=some (.int .u8 x.toNat))→
  Calls P k #[.pointer (some ⟨b,0,none⟩)] w fun e w'=>e=.returned (.string ⟨l.toArray⟩)∧w'=w.drew.freeze ⟨g,o,none⟩ l.length):FunOk P pure' k (.prim bstG):=by
 refine ⟨hent,fun vs base H r H' hg=>?_⟩
 unfold bstG at hg
 split at hg
 case h_2=>cases hg
 rename_i id
 have cell1:∀ (μ:Mu) (Mt:Nat→Prop) (w:World) (a v:V) (B b:Nat),HR (CR P pure') μ Mt w H→getC H id 0=some [a,v]→μ id 0=some (B,b)→b=0∧∃ c,w.cell? ⟨B,1,none⟩=some c∧VR μ Mt w v c:=by
  intro μ Mt w a v B b hH hc hm
  have hz:=hH.zero _ _ _ hm
  subst hz
  obtain ⟨arr,e,ho,hs,hrd⟩:=hH.row hc hm
  have hlt:1 < arr.size:=by simp at hs;omega
  have ha:arr[0+1]?=some arr[1]:=Array.getElem?_eq_getElem hlt
  exact ⟨rfl,arr[1],by rw [cell_of_heap ho];exact ha,hrd 1 _ _ rfl ha⟩
 split at hg
 case h_3=>cases hg
 ·rename_i a hc
  cases hg
  refine ⟨Floor.refl _ _,fun μ Mt w cs hH hvs m=>?_⟩
  obtain ⟨h1,h2⟩:=hvs
  match cs,h1 with
  | [x],_=>
    have hv:=h2 0 _ x rfl rfl
    cases hv with
    | ref _ _ _ B b hm=>
      obtain ⟨rfl,c,hcc,hcv⟩:=cell1 μ Mt w _ _ B b hH hc hm
      rw [vr_s hcv] at hcc
      refine callsIn_wide.2 ((hn B w hcc).mono ?_)
      rintro e' w' ⟨rfl,hb⟩
      exact ⟨_,μ,Mt,rfl,.s _,post_below hH hb⟩
 ·rename_i a id2 g n hc
  split at hg
  case isFalse=>cases hg
  rename_i hb
  split at hg
  case h_2=>cases hg
  rename_i g' l hl
  split at hg
  case isFalse=>cases hg
  rename_i hgl
  obtain ⟨rfl,hnl⟩:=hgl
  cases hg
  refine ⟨⟨by simp,fun j hj _=>by rw [List.getElem?_set_ne (by omega)]⟩,fun μ Mt w cs hH hvs m=>?_⟩
  obtain ⟨h1,h2⟩:=hvs
  match cs,h1 with
  | [x],_=>
    have hv:=h2 0 _ x rfl rfl
    cases hv with
    | ref _ _ _ B b hm=>
      obtain ⟨rfl,c,hcc,hcv⟩:=cell1 μ Mt w _ _ B b hH hc hm
      have hl0:l≠[]:=by intro e;subst e;exact hb.2.1 hnl
      cases hcv with
      | sl0=>exact absurd rfl hb.2.1
      | sl _ _ _ _ _ B2 b2 cap arr el hm2 hB2 hcap hsz=>
        obtain ⟨o,ho,hr⟩:=hH.objs id2 _ g' B2 b2 hl rfl hm2
        rw [hB2] at ho
        cases ho
        obtain ⟨rfl,h8,hfit,hcells⟩:=hr
        rw [hnl] at hcc
        refine callsIn_wide.2 ((hs B B2 (b2+0) cap arr el l w hcc hB2 h8 (by omega) (by omega) (by omega) hl0 (fun j x hj=>?_)).mono ?_)
        ·rw [cell_of_heap hB2];exact hcells j x hj
        ·rintro e' w' ⟨rfl,rfl⟩
         have hn0:l.length≠0:=by omega
         exact ⟨_,_,_,rfl,.s _,post_dead hH hl rfl hm2 hB2 (fr:=(b2+0,b2+0+l.length)) (by intro e;have:=congrArg Prod.snd e;simp only at this;omega) (freeze_heap hB2 hn0) (by unfold World.freeze;rw [if_neg hn0];rfl) (by unfold World.freeze;rw [if_neg hn0];rfl) (by unfold World.freeze;rw [if_neg hn0];rfl)⟩
end
end Go.AM
set_option linter.unusedVariables false
namespace Go.AM
open Go.Proofs Go.Shelf Go.RowKit
variable {P:Program} {ρ:Ren}
theorem run_string_at {w:World} (pt it ty e el:TypeId) (hp:P.underlying pt=some (.pointer e)) (he:P.underlying e=some (.int .u8)) (hel:isU8 P el=true) (g o:Nat) (cur:Array Value) (hg:w.heap[g]?=some (.cells cur el (0,0)))
 (l:List UInt8) (h0:l≠[]) (hn:o+l.length≤cur.size) (h63:l.length≤9223372036854775807) (hcell:∀ j x,l[j]?=some x→w.cell? ((⟨g,o,none⟩:Addr).add j)=some (.int .u8 x.toNat)):
 (Builtin.unsafeString_ #[pt,it] ty #[.pointer (some ⟨g,o,none⟩),.int .i64 l.length]).run P w=.ok (.string ⟨l.toArray⟩) (w.freeze ⟨g,o,none⟩ l.length):=by
 have hl:l.length≠0:=by simpa using h0
 have hlb:=Lib.run_loadBytes (P:=P) (w:=w) l ⟨g,o,none⟩ .empty hcell
 have hsh:w.shape? g=some (el,cur.size):=by simp [World.shape?,hg]
 have hlies:=liesAt_u8 (P:=P) hel he (cur.size / P.cellsOf el) o l.length (by rw [(isU8_eq hel).2];simpa using hn)
 have h63':¬ (9223372036854775807:Int) < (l.length:Int):=by omega
 have hdef:Builtin.unsafeString_ #[pt,it] ty #[.pointer (some ⟨g,o,none⟩),.int .i64 l.length]=
  (do
   let n ← asInt (.int .i64 l.length)
   if n < 0 then runtimePanic (.error "unsafe.String: len out of range")
   if n > IntKind.i64.max then unsupported (.unsafePointer "String: a length above the largest int")
   if n=0 then pure (.string .empty)
   else if ← variablesAt ⟨g,o,none⟩ (← elemOf pt) n.toNat then do
    let s ← loadBytes ⟨g,o,none⟩ .empty n.toNat
    freeze ⟨g,o,none⟩ n.toNat
    pure (.string s)
   else unsupported (.unsafePointer "String: not so many bytes at ptr")) := rfl
 rw [hdef]
 have hmax:IntKind.i64.max=9223372036854775807:=rfl
 have hneg:¬ (l.length:Int) < 0:=by omega
 simp [asInt,asIntOf,hmax,h63',hneg,hl,variablesAt,hsh,elemOf,run_underlying hp,hlies,hlb]
set_option maxHeartbeats 1000000 in
set_option maxRecDepth 100000 in
theorem bst_some (L:Lays.n169 P ρ) (X:Builder.Extra P ρ) (b g o cap:Nat) (cur:Array Value) (el:TypeId) (l:List UInt8) (w:World) (hc:w.cell? ⟨b,1,none⟩=some (.slice (some ⟨g,o,none⟩) l.length cap)) (hg:w.heap[g]?=some (.cells cur el (0,0))) (hel:isU8 P el=true)
 (hfit:o+l.length≤cur.size) (hcap:l.length≤cap) (h47:l.length≤140737488355328) (h0:l≠[]) (hcell:∀ (j:Nat) (x:UInt8),l[j]?=some x→w.cell? ⟨g,o+j,none⟩=some (.int .u8 x.toNat)):
 Calls P (ρ.f 169) #[.pointer (some ⟨b,0,none⟩)] w fun e w'=>e=.returned (.string ⟨l.toArray⟩)∧w'=w.drew.freeze ⟨g,o,none⟩ l.length:=by
 have hl0:l.length≠0:=by simpa using h0
 have c1:w.drew.cell? ⟨b,1,none⟩=some (.slice (some ⟨g,o,none⟩) l.length cap):=hc
 have hSD:(Builtin.unsafeSliceData_ #[(ρ.t 37)] (ρ.t 127) #[.slice (some ⟨g,o,none⟩) l.length cap]).run P w.drew=.ok (.pointer (some ⟨g,o,none⟩)) w.drew:=
  Lib.run_unsafeSliceData_row _ _ _ _ _ _ (by omega)
 have hUS:(Builtin.unsafeString_ #[(ρ.t 127),(ρ.t 3)] (ρ.t 9) #[.pointer (some ⟨g,o,none⟩),.int .i64 l.length]).run P w.drew=.ok (.string ⟨l.toArray⟩) (w.drew.freeze ⟨g,o,none⟩ l.length):=
  run_string_at (w:=w.drew) (ρ.t 127) (ρ.t 3) (ρ.t 9) (ρ.t 5) el L.t127 X.t5 hel g o cur hg l h0 hfit (by omega) (fun j x hj=>by
   have e:(⟨g,o,none⟩:Addr).add j=⟨g,o+j,none⟩:=by unfold Addr.add;split <;> simp_all
   rw [e];exact hcell j x hj)
 have mixed:=L.mixed
 have t72:=L.t72;have a72:=L.a72;have z72:=L.z72;have v72:=L.v72;have u72:=run_underlying L.t72
 have t70:=L.t70;have a70:=L.a70;have z70:=L.z70;have v70:=L.v70;have u70:=run_underlying L.t70
 have t37:=L.t37;have a37:=L.a37;have z37:=L.z37;have v37:=L.v37;have u37:=run_underlying L.t37
 have t127:=L.t127;have a127:=L.a127;have z127:=L.z127;have v127:=L.v127;have u127:=run_underlying L.t127
 have t3:=L.t3;have a3:=L.a3;have z3:=L.z3;have v3:=L.v3;have u3:=run_underlying L.t3
 have t9:=L.t9;have a9:=L.a9;have z9:=L.z9;have v9:=L.v9;have u9:=run_underlying L.t9
 have t5:=X.t5;have a5:=X.a5;have z5:=X.z5;have v5:=X.v5;have u5:=run_underlying X.t5
 go_enter L.f169,Body.n169_ntmps ρ
 go_wp2
 go_region_o
 all_goals (go_wp2;go_ret;exact ⟨rfl,rfl⟩)
set_option maxHeartbeats 2000000 in
set_option maxRecDepth 100000 in
theorem bst_none (L:Lays.n169 P ρ) (X:Builder.Extra P ρ) (b:Nat) (w:World) (hc:w.cell? ⟨b,1,none⟩=some (.slice none 0 0)):
 Calls P (ρ.f 169) #[.pointer (some ⟨b,0,none⟩)] w fun e w'=>e=.returned (.string ⟨#[]⟩)∧Below w.heap.size w w':=by
 have hUS:=Any.unsafeString_none L X
 have c1:w.drew.cell? ⟨b,1,none⟩=some (.slice none 0 0):=hc
 have hSD:(Builtin.unsafeSliceData_ #[(ρ.t 37)] (ρ.t 127) #[.slice none 0 0]).run P w.drew=.ok (.pointer none) w.drew:=rfl
 have mixed:=L.mixed
 have t72:=L.t72;have a72:=L.a72;have z72:=L.z72;have v72:=L.v72;have u72:=run_underlying L.t72
 have t70:=L.t70;have a70:=L.a70;have z70:=L.z70;have v70:=L.v70;have u70:=run_underlying L.t70
 have t37:=L.t37;have a37:=L.a37;have z37:=L.z37;have v37:=L.v37;have u37:=run_underlying L.t37
 have t127:=L.t127;have a127:=L.a127;have z127:=L.z127;have v127:=L.v127;have u127:=run_underlying L.t127
 have t3:=L.t3;have a3:=L.a3;have z3:=L.z3;have v3:=L.v3;have u3:=run_underlying L.t3
 have t9:=L.t9;have a9:=L.a9;have z9:=L.z9;have v9:=L.v9;have u9:=run_underlying L.t9
 have t5:=X.t5;have a5:=X.a5;have z5:=X.z5;have v5:=X.v5;have u5:=run_underlying X.t5
 go_enter L.f169,Body.n169_ntmps ρ
 go_wp2
 go_region_o
 all_goals (go_wp2;go_ret;exact ⟨rfl,Below.drew (Below.refl _ w)⟩)
end Go.AM
set_option maxRecDepth 100000
namespace Go.Proofs.YtngfpadeebpoeaaGreatDoor
open Go.RowKit Go.AM Go.Shelf
theorem isBld_at (P : Program) {t : TypeId} (h : isBld P t = true) : ∃ i, P.types[t]? = some i ∧ (i.str == "strings.Builder") = true := by
 unfold isBld at h
 split at h
 ·rename_i i hi;exact ⟨i,hi,h⟩
 ·cases h
theorem bld_all : (Tryz.prog.types.toList.zipIdx.all fun p => !(p.1.str == "strings.Builder") || p.2 == 61) = true := by kernel_rfl
theorem bld_61:∀ e,isBld Tryz.prog e=true→e=61:=by
 intro e h
 obtain ⟨i,hi,hs⟩:=isBld_at _ h
 have hi':Tryz.prog.types.toList[e]?=some i:=by simpa using hi
 have:=List.all_eq_true.1 bld_all (i,e) (List.mem_zipIdx_iff_getElem?.2 (by simpa using hi'))
 rw [hs] at this
 simpa using this
theorem join_prim {px:PX}:FunOk Tryz.prog px 20 (.prim joinG):=
 join_ok (Go.Proofs.enters_of Tryz.func20 (by kernel_rfl) rfl) (fun a c sep w=>Any.strings_Join_none Tryz.joinK Tryz.extra a c sep w) (fun bk o c xs sep w h1 h2 h3 h4 h5=>Any.strings_Join Tryz.joinK Tryz.extra bk o c xs sep w h1 h2 h3 h4 h5)
theorem copy_prim {px:PX}:FunOk Tryz.prog px 70 (.prim copyG):=
 copy_ok bld_61 (Go.Proofs.enters_of Tryz.func70 (by kernel_rfl) rfl) (fun b w h1 h2 h3=>Any.Builder_copyCheck_fresh { Tryz.joinK with } Tryz.extra.toX72 b w h1 h2 h3) (fun b w h1=>Any.Builder_copyCheck_used { Tryz.joinK with } Tryz.extra.toX72 b w h1)
theorem bst_prim {px:PX}:FunOk Tryz.prog px 24 (.prim bstG):=
 bst_ok (Go.Proofs.enters_of Tryz.func24 (by kernel_rfl) rfl) (fun b w h=>bst_none { Tryz.joinK with } Tryz.extra b w h) (fun b g o cap cur el l w h1 h2 h3 h4 h5 h6 h7 h8=>bst_some { Tryz.joinK with } Tryz.extra b g o cap cur el l w h1 h2 h3 h4 h5 h6 h7 h8)
theorem itoa_prim {px:PX}:FunOk Tryz.prog px 53 (.prim itoaG):=
 itoa_ok (Go.Proofs.enters_of Tryz.func53 (by kernel_rfl) rfl) (fun i w hi=>Any.strconv_Itoa_small { Tryz.itoaK with } i hi w)
end Go.Proofs.YtngfpadeebpoeaaGreatDoor
namespace Go.AM
open Go.RowKit
def trimG:List V→Nat→Heap→Option (V × Heap)
 | [.s (.string s),.s (.string p)],_,H=>if s.size≤4611686018427387904 then some (.s (.string ⟨(Lib.trimSuffix s.data.toList p.data.toList).toArray⟩),H) else none
 | _,_,_=>none
theorem trim_ok {P:Program} {pure':PX} {k:Nat} (hent:∀ xs w,(callFunc k xs).run P w=.ok (.enter k xs) w)
 (hs:∀ (s p:ByteArray) (w:World),s.size≤9223372036854775807→Calls P k #[.string s,.string p] w fun e w'=>e=.returned (.string ⟨(Lib.trimSuffix s.data.toList p.data.toList).toArray⟩)∧w'=w):FunOk P pure' k (.prim trimG):=by
 refine ⟨hent,fun vs base H r H' hg=>?_⟩
 unfold trimG at hg
 split at hg
 case h_2=>cases hg
 rename_i s p
 split at hg
 case isFalse=>cases hg
 rename_i hb
 cases hg
 refine ⟨Floor.refl _ _,fun μ Mt w cs hH hvs m=>?_⟩
 obtain ⟨h1,h2⟩:=hvs
 match cs,h1 with
 | [x,y],_=>
   have e1:=vr_s (h2 0 _ x rfl rfl)
   have e2:=vr_s (h2 1 _ y rfl rfl)
   subst e1 e2
   refine callsIn_wide.2 ((hs s p w (by omega)).mono ?_)
   rintro e w' ⟨rfl,rfl⟩
   exact ⟨_,μ,Mt,rfl,.s _,Post.refl hH⟩
end Go.AM
namespace Go.AM
open Go.RowKit
end Go.AM
namespace Go.AM
open Go.RowKit
inductive Ty where
 | int (k:IntKind) | bool | str
 | sl (e:Ty)
 | st (fs:List Ty)
 deriving Inhabited
mutual
def Ty.width:Ty→Nat
 | .int _=>1
 | .bool=>1
 | .str=>1
 | .sl _=>1
 | .st fs=>widths fs
def widths:List Ty→Nat
 | []=>0
 | f :: fs=>f.width+widths fs
end
mutual
def tyOk (P:Program):Nat→Ty→TypeId→Bool
 | 0,_,_=>false
 | n+1,ty,t=>match ty,P.underlying t with
   | .int k,some (.int k')=>k == k'
   | .bool,some .bool=>true
   | .str,some .string=>true
   | .sl e,some (.slice e')=>tyOk P n e e' && P.cellsOf e' == e.width && decide (0 < e.width)
   | .st fs,some (.struct gs)=>P.cellsOf t == widths fs && tysOk P n 0 fs gs.toList
   | _,_=>false
def tysOk (P:Program):Nat→Nat→List Ty→List Field→Bool
 | 0,_,_,_=>false
 | n+1,off,fs,gs=>match fs,gs with
   | [],[]=>true
   | f :: fs,g :: gs=>g.offset == off && P.cellsOf g.type == f.width && tyOk P n f g.type && tysOk P n (off+f.width) fs gs
   | _,_=>false
end
mutual
def IsV:Ty→List V→Prop
 | .int k,cs=>∃ n,cs=[.s (.int k n)]∧k.min≤n∧n≤k.max
 | .bool,cs=>∃ b,cs=[.s (.bool b)]
 | .str,cs=>∃ b,cs=[.s (.string b)]∧b.size≤maxLen
 | .sl e,cs=>cs=[nilS]∨∃ es:List (List V),cs=[.psl es e.width]∧es.length≤maxLen∧∀ x∈es,IsV e x
 | .st fs,cs=>IsVs fs cs
def IsVs:List Ty→List V→Prop
 | [],cs=>cs=[]
 | f :: fs,cs=>∃ a b,cs=a ++ b∧IsV f a∧IsVs fs b
end
mutual
theorem IsV.len:∀ (t:Ty) {cs:List V},IsV t cs→cs.length=t.width
 | .int _,cs,h=>by obtain ⟨n,rfl,_⟩:=h;rfl
 | .bool,cs,h=>by obtain ⟨n,rfl⟩:=h;rfl
 | .str,cs,h=>by obtain ⟨n,rfl,_⟩:=h;rfl
 | .sl e,cs,h=>by rcases h with rfl | ⟨es,rfl,_⟩ <;> rfl
 | .st fs,cs,h=>IsVs.len fs h
theorem IsVs.len:∀ (fs:List Ty) {cs:List V},IsVs fs cs→cs.length=widths fs
 | [],cs,h=>by cases h;rfl
 | f :: fs,cs,h=>by
   obtain ⟨a,b,rfl,h1,h2⟩:=h
   rw [List.length_append,IsV.len f h1,IsVs.len fs h2];rfl
end
abbrev PRs (w:World) (vs:List V) (cs:List Value):Prop:=vs.length=cs.length∧∀ (i:Nat) (a:V) (b:Value),vs[i]?=some a→cs[i]?=some b→PR (fun _=>False) w a b
theorem PRs.app {w:World} {a b:List V} {c d:List Value} (h:PRs w a c) (k:PRs w b d):PRs w (a ++ b) (c ++ d):=by
 refine ⟨by simp [h.1,k.1],fun i x y hx hy=>?_⟩
 by_cases hi:i < a.length
 ·rw [List.getElem?_append_left hi] at hx
  rw [List.getElem?_append_left (by rw [← h.1];exact hi)] at hy
  exact h.2 i x y hx hy
 ·rw [List.getElem?_append_right (by omega)] at hx
  rw [List.getElem?_append_right (by rw [← h.1];omega),← h.1] at hy
  exact k.2 _ x y hx hy
theorem PRs.one {w:World} {a:V} {b:Value} (h:PR (fun _=>False) w a b):PRs w [a] [b]:=⟨rfl,fun i x y hx hy=>by
 cases i with
 | zero=>simp at hx hy;rw [← hx,← hy];exact h
 | succ i=>simp at hx⟩
theorem PRs.vrs {w:World} {vs:List V} {cs:List Value} (h:PRs w vs cs):VRs (fun _ _=>none) (fun _=>False) w vs cs:=⟨h.1,fun i a b ha hb=>(h.2 i a b ha hb).vr⟩
section
variable {H:Type} {enc:TypeId × Value→H} {P:Program} {w:World} {base:Nat} {sp:Nat→Bool} {held:Bool}
end
end Go.AM
namespace Go.AM
def pops:Nat→Nat→Nat
 | 0,_=>0
 | n+1,x=>x % 2+pops n (x / 2)
end Go.AM
namespace Go.AM
def wbits (k:Int) (w:Nat):List Int:=((List.range 64).filter fun b=>w.testBit b).map fun (b:Nat)=>k * 64+(b:Int)
def elemsF (ks:List Int) (f:Int→Nat):List Int:=(sortI ks).flatMap fun k=>wbits k (f k)
structure Wd (ks:List Int) (f:Int→Nat):Prop where
 nd:ks.Nodup
 iff:∀ k,k∈ks↔f k≠0
 lt:∀ k,f k < 2 ^ 64
 nn:∀ k∈ks,0≤k∧k < 2 ^ 57
def pop (w:Nat):Nat:=pops 64 w
def cntF (f:Int→Nat):List Int→Nat
 | []=>0
 | k :: ks=>pop (f k)+cntF f ks
theorem cntF_nil (f:Int→Nat):cntF f []=0:=rfl
theorem cntF_cons (f:Int→Nat) (k:Int) (ks:List Int):cntF f (k :: ks)=pop (f k)+cntF f ks:=rfl
theorem cntF_app (f:Int→Nat) (a b:List Int):cntF f (a ++ b)=cntF f a+cntF f b:=by
 induction a with
 | nil=>simp [cntF_nil]
 | cons k a ih=>rw [List.cons_append,cntF_cons,cntF_cons,ih];omega
theorem cntF_perm (f:Int→Nat) {a b:List Int} (h:a.Perm b):cntF f a=cntF f b:=by
 induction h with
 | nil=>rfl
 | cons x _ ih=>rw [cntF_cons,cntF_cons,ih]
 | swap x y l=>simp only [cntF_cons];omega
 | trans _ _ h1 h2=>exact h1.trans h2
theorem pop_zero:pop 0=0:=by decide
def updF (f:Int→Nat) (k:Int) (w:Nat):Int→Nat:=fun x=>if x=k then w else f x
def ksPut (ks:List Int) (k:Int) (w:Nat):List Int:=if w=0 then ks.erase k else if k∈ks then ks else ks ++ [k]
theorem Wd.put {ks:List Int} {f:Int→Nat} (h:Wd ks f) {k:Int} {w:Nat} (hk:0≤k∧k < 2 ^ 57) (hw:w < 2 ^ 64):Wd (ksPut ks k w) (updF f k w):=by
 refine ⟨?_,fun x=>?_,fun x=>?_,fun x hx=>?_⟩
 ·unfold ksPut
  split
  ·exact h.nd.erase k
  ·split
   ·exact h.nd
   ·rename_i hn
    rw [List.nodup_append]
    exact ⟨h.nd,by simp,fun a ha b hb=>by simp at hb;subst hb;intro e;subst e;exact hn ha⟩
 ·unfold ksPut updF
  by_cases hx:x=k
  ·subst hx
   rw [if_pos rfl]
   split
   ·rename_i h0;subst h0
    simp only [ne_eq,not_true_eq_false,iff_false]
    intro hm
    exact (List.Nodup.mem_erase_iff h.nd).1 hm |>.1 rfl
   ·rename_i h0
    simp only [ne_eq,h0,not_false_eq_true,iff_true]
    split
    ·rename_i hm;exact hm
    ·simp
  ·rw [if_neg hx]
   split
   ·rw [List.Nodup.mem_erase_iff h.nd,← h.iff x];exact ⟨fun h=>h.2,fun h=>⟨hx,h⟩⟩
   ·split
    ·exact h.iff x
    ·rw [List.mem_append,← h.iff x];simp [hx]
 ·unfold updF
  split
  ·exact hw
  ·exact h.lt x
 ·unfold ksPut at hx
  split at hx
  ·exact h.nn x (List.mem_of_mem_erase hx)
  ·split at hx
   ·exact h.nn x hx
   ·rcases List.mem_append.1 hx with hx | hx
    ·exact h.nn x hx
    ·simp at hx;subst hx;exact hk
theorem cntF_congr {f g:Int→Nat}:∀ {ks:List Int},(∀ k∈ks,f k=g k)→cntF f ks=cntF g ks:=by
 intro ks
 induction ks with
 | nil=>intro _;rfl
 | cons k ks ih=>
   intro h
   rw [cntF_cons,cntF_cons,h k List.mem_cons_self,ih fun x hx=>h x (List.mem_cons_of_mem _ hx)]
theorem cntF_erase (f:Int→Nat) {ks:List Int} {k:Int} (hk:k∈ks):cntF f ks=pop (f k)+cntF f (ks.erase k):=by
 rw [cntF_perm f (List.perm_cons_erase hk),cntF_cons]
theorem Wd.cnt {ks:List Int} {f:Int→Nat} (h:Wd ks f) (k:Int) (w:Nat):cntF (updF f k w) (ksPut ks k w)+pop (f k)=cntF f ks+pop w:=by
 have hself:updF f k w k=w:=by simp [updF]
 have hoth:∀ l:List Int,k ∉ l→cntF (updF f k w) l=cntF f l:=fun l hl=>cntF_congr fun x hx=>by
  unfold updF;rw [if_neg];rintro rfl;exact hl hx
 have hke:k ∉ ks.erase k:=fun hm=>((List.Nodup.mem_erase_iff h.nd).1 hm).1 rfl
 by_cases hk:k∈ks
 ·have e1:=cntF_erase f hk
  unfold ksPut
  by_cases h0:w=0
  ·rw [if_pos h0]
   subst h0
   rw [hoth _ hke,pop_zero];omega
  ·rw [if_neg h0,if_pos hk,cntF_erase _ hk,hself,hoth _ hke];omega
 ·have hf:f k=0:=by
   have h1:=h.iff k
   exact Decidable.byContradiction fun hne=>hk (h1.2 hne)
  rw [hf,pop_zero]
  unfold ksPut
  by_cases h0:w=0
  ·rw [if_pos h0]
   subst h0
   rw [List.erase_of_not_mem hk,hoth _ hk,pop_zero]
  ·rw [if_neg h0,if_neg hk,cntF_app,cntF_cons,cntF_nil,hself,hoth _ hk];omega
end Go.AM
namespace Go.AM
def makeV (H:Heap) (zero:List V) (sz bytes:Nat) (a b:V):Option (V × Heap):=
 match a,b with
 | .s (.int _ l),.s (.int _ c)=>if 0≤l∧l≤c∧c * bytes≤2 ^ 47 then some (.sl H.length 0 0 l.toNat sz,H ++ [.cells 0 (List.replicate l.toNat zero).flatten]) else none
 | _,_=>none
theorem op_mkSl (call:CallF) (base:Nat) (fr:List V) (H:Heap) (zero:List V) (sz bytes:Nat) (x y:Opd):evOp call base fr H (.mkSl zero sz bytes x y)=makeV H zero sz bytes (ev fr x) (ev fr y):=rfl
theorem make_n {H:Heap} {zero:List V} {sz bytes:Nat} {k k':IntKind} {n:Nat} (h:n * bytes≤2 ^ 47):makeV H zero sz bytes (.s (.int k n)) (.s (.int k' n))=some (.sl H.length 0 0 n sz,H ++ [.cells 0 (List.replicate n zero).flatten]):=by
 have h1:(n:Int) * (bytes:Int)≤2 ^ 47:=by exact_mod_cast h
 have h2:(0:Int)≤n∧(n:Int)≤n∧(n:Int) * (bytes:Int)≤2 ^ 47:=⟨by omega,by omega,h1⟩
 simp only [makeV,h2,and_self,if_true,Int.toNat_natCast]
theorem xsub_mkFn (H:Heap) (f:Nat) (a b:List Opd) (vs:List V):xSub H (.mkFn f a b) (some vs)=some (.fn f (a.map (ev vs)) (b.map (ev vs))):=rfl
theorem trim_or' (m:Nat) (fr:List V) (H:Heap):trim m fr H=H∨(trim m fr H=H.take m∧(∀ v∈fr,idsUnder m 8 v=true)∧∀ id g c,id < m→getC H id g=some c→∀ i h o n z,V.sl i h o n z∈c→i < m):=by
 unfold trim
 split
 ·rename_i h
  simp only [Bool.and_eq_true,List.all_eq_true] at h
  refine .inr ⟨rfl,h.1,?_⟩
  intro id g c hid hc i h' o n z hx
  unfold getC at hc
  split at hc
  ·rename_i g' c' hh
   split at hc
   ·cases hc
    have hm:Ob.cells g' c∈H.take m:=by
     have:(H.take m)[id]?=some (Ob.cells g' c):=by rw [List.getElem?_take_of_lt hid];exact hh
     exact List.mem_of_getElem? this
    have:=h.2 _ hm
    simp only [Ob.under,List.all_eq_true] at this
    have:=this _ hx
    simpa [idsUnder] using this
   ·cases hc
  ·cases hc
 ·exact .inl rfl
theorem trim_get {m:Nat} {fr:List V} {H:Heap} {id g:Nat} {c:List V} (hc:getC H id g=some c) (hid:id < m):getC (trim m fr H) id g=some c:=by
 rcases trim_or' m fr H with e | ⟨e,_⟩ <;> rw [e]
 ·exact hc
 ·unfold getC at hc ⊢
  rw [List.getElem?_take_of_lt hid];exact hc
def OwnN (m:Nat) (H:Heap) (v:V) (l:List V):Prop:=(l=[]∧(v=nilS∨v=.esl))∨∃ id g c,v=.sl id g 0 l.length 1∧getC H id g=some c∧l.length≤c.length∧c.take l.length=l∧m≤id
theorem OwnN.rd {m:Nat} {H:Heap} {v:V} {l:List V} (h:OwnN m H v l):Rd H v l:=by
 rcases h with ⟨rfl,rfl | rfl⟩ | ⟨id,g,c,rfl,hc,hl,ht,_⟩
 ·exact Rd.nil H
 ·exact Rd.esl H
 ·have:=Rd.sl hc (off:=0) (n:=l.length) (by omega)
  rwa [List.drop_zero,ht] at this
theorem OwnN.wide {m:Nat} {H:Heap} {v:V} {l:List V} (h:OwnN m H v l):Wide1 v:=by
 rcases h with ⟨_,rfl | rfl⟩ | ⟨_,_,_,rfl,_⟩ <;> trivial
theorem OwnN.one {m:Nat} {H:Heap} {v:V} {l:List V} (h:OwnN m H v l):v.one=true:=h.rd.one
theorem OwnN.mono {m k:Nat} {H:Heap} {v:V} {l:List V} (h:OwnN m H v l) (hk:k≤m):OwnN k H v l:=by
 rcases h with h | ⟨id,g,c,h1,h2,h3,h4,h5⟩
 ·exact .inl h
 ·exact .inr ⟨id,g,c,h1,h2,h3,h4,by omega⟩
theorem OwnN.ext {m:Nat} {H H':Heap} {v:V} {l:List V} (h:OwnN m H v l) (k:Ext H H'):OwnN m H' v l:=by
 rcases h with h | ⟨id,g,c,h1,h2,h3,h4,h5⟩
 ·exact .inl h
 ·exact .inr ⟨id,g,c,h1,getC_ext h2 k,h3,h4,h5⟩
theorem getC_other {H:Heap} {id id' g:Nat} {ob:Ob} (h:id≠id'):getC (H.set id' ob) id g=getC H id g:=by
 simp only [getC,List.getElem?_set_ne (Ne.symm h)]
theorem OwnN.set {m:Nat} {H:Heap} {v:V} {l:List V} (h:OwnN m H v l) {id:Nat} (hid:id < m) (ob:Ob):OwnN m (H.set id ob) v l:=by
 rcases h with h | ⟨i,g,c,h1,h2,h3,h4,h5⟩
 ·exact .inl h
 ·exact .inr ⟨i,g,c,h1,by rw [getC_other (by omega)];exact h2,h3,h4,h5⟩
theorem OwnN.trim {m L:Nat} {H:Heap} {v:V} {l:List V} (h:OwnN m H v l) {id g:Nat} {c:List V} (hc:getC H id g=some c) (hid:id < L) (hv:v∈c) (fr:List V):OwnN m (trim L fr H) v l:=by
 rcases h with h | ⟨i,g',c',rfl,h2,h3,h4,h5⟩
 ·exact .inl h
 ·refine .inr ⟨i,g',c',rfl,?_,h3,h4,h5⟩
  rcases trim_or' L fr H with e | ⟨e,_,hu⟩
  ·rw [e];exact h2
  ·exact trim_get h2 (hu _ _ _ hid hc _ _ _ _ _ hv)
theorem getC_sl {H:Heap} {id g:Nat} {c:List V} (h:getC H id g=some c):Rd H (.sl id g 0 c.length 1) c:=by
 have:=Rd.sl h (off:=0) (n:=c.length) (by omega)
 rwa [List.drop_zero,List.take_length] at this
theorem getC_put {H:Heap} {id g:Nat} {c c':List V} (h:getC H id g=some c):getC (H.set id (.cells g c')) id g=some c':=getC_set h _
theorem at_sl {H:Heap} {id g n j:Nat} {c:List V} {w:V} (hc:getC H id g=some c) (hj:j < n) (hw:c[j]?=some w):xIndexAddr 1 (.sl id g 0 n 1) (.s (.int .i64 j))=some (.ref id g j)∧xLoad H false 1 (.ref id g j)=some w:=by
 have h1:(0:Int)≤j∧(j:Int) < n∧1=1:=⟨by omega,by omega,rfl⟩
 have hl:=(List.getElem?_eq_some_iff.1 hw).1
 refine ⟨by simp only [xi_sl,h1,and_self,if_true,Int.toNat_natCast,Nat.mul_one,Nat.zero_add],?_⟩
 have ht:(c.drop j).take 1=[w]:=by
  rw [List.drop_eq_getElem_cons hl,List.take_succ_cons,List.take_zero]
  rw [List.getElem?_eq_getElem hl] at hw
  cases hw;rfl
 simp only [xo_ref,hc,ht,List.length_singleton,if_true,shut_one]
def RdRows (H:Heap) (v:V) (R:List (List V)):Prop:=∃ vs,Rd H v vs∧Wide1 v∧vs.length=R.length∧∀ (i:Nat) (r:List V),R[i]?=some r→∃ x,vs[i]?=some x∧Rd H x r∧Wide1 x
theorem RdRows.ext {H H':Heap} {v:V} {R:List (List V)} (h:RdRows H v R) (k:Ext H H'):RdRows H' v R:=by
 obtain ⟨vs,h1,h2,h3,h4⟩:=h
 refine ⟨vs,h1.ext k,h2,h3,fun i r hr=>?_⟩
 obtain ⟨x,q1,q2,q3⟩:=h4 i r hr
 exact ⟨x,q1,q2.ext k,q3⟩
theorem RdRows.len {H:Heap} {v:V} {R:List (List V)} (h:RdRows H v R):xLen H .s v=some (.s (.int .i64 R.length)):=by
 obtain ⟨vs,h1,_,h3,_⟩:=h
 rw [h1.len,h3]
theorem RdRows.at {H:Heap} {v:V} {R:List (List V)} (h:RdRows H v R) {i:Nat} {r:List V} (hr:R[i]?=some r):∃ a x,xIndexAddr 1 v (.s (.int .i64 i))=some a∧xLoad H false 1 a=some x∧Rd H x r∧Wide1 x:=by
 obtain ⟨vs,h1,h2,_,h4⟩:=h
 obtain ⟨x,q1,q2,q3⟩:=h4 i r hr
 obtain ⟨a,e1,e2⟩:=h1.at' h2 q1
 exact ⟨a,x,e1,e2,q2,q3⟩
def OwnRows (m:Nat) (H:Heap) (v:V) (R:List (List V)):Prop:=∃ id g vs,v=.sl id g 0 R.length 1∧getC H id g=some vs∧m≤id∧vs.length=R.length∧∀ (i:Nat) (r:List V),R[i]?=some r→∃ x,vs[i]?=some x∧OwnN (id+1) H x r
theorem OwnRows.rd {m:Nat} {H:Heap} {v:V} {R:List (List V)} (h:OwnRows m H v R):RdRows H v R:=by
 obtain ⟨id,g,vs,rfl,h2,_,h4,h5⟩:=h
 refine ⟨vs,by rw [← h4];exact getC_sl h2,trivial,h4,fun i r hr=>?_⟩
 obtain ⟨x,q1,q2⟩:=h5 i r hr
 exact ⟨x,q1,q2.rd,q2.wide⟩
theorem OwnRows.ext {m:Nat} {H H':Heap} {v:V} {R:List (List V)} (h:OwnRows m H v R) (k:Ext H H'):OwnRows m H' v R:=by
 obtain ⟨id,g,vs,h1,h2,h3,h4,h5⟩:=h
 refine ⟨id,g,vs,h1,getC_ext h2 k,h3,h4,fun i r hr=>?_⟩
 obtain ⟨x,q1,q2⟩:=h5 i r hr
 exact ⟨x,q1,q2.ext k⟩
end Go.AM
namespace Go.AM
def Bag (m:Nat) (H:Heap) (vs:List V) (R:List (List V)):Prop:=
 vs.length=R.length∧(∀ (j:Nat) (r:List V),R[j]?=some r→∃ x,vs[j]?=some x∧((r=[]∧x=nilS)∨∃ id g,x=.sl id g 0 r.length 1∧getC H id g=some r∧m≤id))∧
 ∀ (j k id g n id' g' n':Nat),j≠k→vs[j]?=some (.sl id g 0 n 1)→vs[k]?=some (.sl id' g' 0 n' 1)→id≠id'
theorem Bag.start (m:Nat) (H:Heap) (n:Nat):Bag m H (List.replicate n nilS) (List.replicate n []):=by
 refine ⟨by simp,fun j r hr=>?_,fun j k id g n id' g' n' _ h=>?_⟩
 ·rw [List.getElem?_replicate] at hr
  split at hr
  ·rename_i hj
   cases hr
   exact ⟨nilS,by rw [List.getElem?_replicate,if_pos hj],.inl ⟨rfl,rfl⟩⟩
  ·cases hr
 ·rw [List.getElem?_replicate] at h
  split at h
  ·cases h
  ·cases h
theorem Bag.get {m:Nat} {H:Heap} {vs:List V} {R:List (List V)} (h:Bag m H vs R) {j:Nat} {r:List V} (hr:R[j]?=some r):∃ x,vs[j]?=some x∧Rd H x r∧Wide1 x:=by
 obtain ⟨x,h1,h2⟩:=h.2.1 j r hr
 refine ⟨x,h1,?_⟩
 rcases h2 with ⟨rfl,rfl⟩ | ⟨id,g,rfl,hc,_⟩
 ·exact ⟨Rd.nil H,trivial⟩
 ·exact ⟨getC_sl hc,trivial⟩
theorem Bag.rows {m:Nat} {H:Heap} {vs:List V} {R:List (List V)} (h:Bag m H vs R) {o g:Nat} (hc:getC H o g=some vs):RdRows H (.sl o g 0 R.length 1) R:=by
 refine ⟨vs,by rw [← h.1];exact getC_sl hc,trivial,h.1,fun i r hr=>h.get hr⟩
theorem Bag.keep {m:Nat} {H H':Heap} {vs:List V} {R:List (List V)} (h:Bag m H vs R) (hk:∀ id g n c,V.sl id g 0 n 1∈vs→m≤id→getC H id g=some c→getC H' id g=some c):Bag m H' vs R:=by
 refine ⟨h.1,fun j r hr=>?_,h.2.2⟩
 obtain ⟨x,h1,h2⟩:=h.2.1 j r hr
 refine ⟨x,h1,?_⟩
 rcases h2 with h2 | ⟨id,g,rfl,hc,hm⟩
 ·exact .inl h2
 ·exact .inr ⟨id,g,rfl,hk id g _ _ (List.mem_of_getElem? h1) hm hc,hm⟩
theorem Bag.trim {m L o:Nat} {H:Heap} {vs:List V} {R:List (List V)} (h:Bag m H vs R) (hc:getC H o 0=some vs) (ho:o < L) (fr:List V):Bag m (trim L fr H) vs R:=by
 refine h.keep fun id g n c hv hm hg=>?_
 rcases trim_or' L fr H with e | ⟨_,_,hu⟩
 ·rw [e];exact hg
 ·exact trim_get hg (hu _ _ _ ho hc _ _ _ _ _ hv)
theorem Bag.ext {m:Nat} {H H':Heap} {vs:List V} {R:List (List V)} (h:Bag m H vs R) (k:Ext H H'):Bag m H' vs R:=h.keep fun _ _ _ _ _ _ hg=>getC_ext hg k
theorem Bag.append {m o base bytes k:Nat} {H:Heap} {vs:List V} {R:List (List V)} {r:List V} {x:V} (h:Bag m H vs R) (hc:getC H o 0=some vs) (ho:o < m) (hb:base≤m) (hm:m≤H.length) (hr:R[k]?=some r) (hx:x.one=true) (hs:(r.length+1) * bytes≤2 ^ 47):
 ∃ w v' H',vs[k]?=some w∧appendV (H ++ [.cells 0 [x]]) base 1 bytes w (.sl H.length 0 0 1 1)=some (v',H')∧v'.one=true∧getC H' o 0=some vs∧H.length≤H'.length∧
   Bag m (H'.set o (.cells 0 (vs.set k v'))) (vs.set k v') (R.set k (r ++ [x]))∧∀ H0,H0.length≤m→Ext H0 H→Ext H0 H':=by
 obtain ⟨w,hw,hwr⟩:=h.2.1 k r hr
 have hkl:k < vs.length:=(List.getElem?_eq_some_iff.1 hw).1
 have hx':[x].all V.one=true:=by simp [hx]
 have hol:=getC_lt hc
 have fin:∀ (id g:Nat) (H':Heap),(∀ j g' n,j≠k→vs[j]?≠some (.sl id g' 0 n 1))→m≤id→getC H' id g=some (r ++ [x])→(∀ i,i≠id→i < H.length→H'[i]?=H[i]?)→
  Bag m (H'.set o (.cells 0 (vs.set k (.sl id g 0 (r.length+1) 1)))) (vs.set k (.sl id g 0 (r.length+1) 1)) (R.set k (r ++ [x])):=by
  intro id g H' hne hid hg hsame
  refine ⟨by rw [List.length_set,List.length_set];exact h.1,fun j r' hr'=>?_,fun i j a b c a' b' c' hij hi hj=>?_⟩
  ·by_cases hjk:k=j
   ·subst hjk
    rw [List.getElem?_set_self (by rw [← h.1];exact hkl)] at hr'
    cases hr'
    refine ⟨_,List.getElem?_set_self hkl,.inr ⟨id,g,by simp,?_,hid⟩⟩
    rw [getC_other (by omega)];exact hg
   ·rw [List.getElem?_set_ne hjk] at hr'
    obtain ⟨y,h1,h2⟩:=h.2.1 j r' hr'
    refine ⟨y,by rw [List.getElem?_set_ne hjk];exact h1,?_⟩
    rcases h2 with h2 | ⟨id2,g2,rfl,hc2,hm2⟩
    ·exact .inl h2
    ·refine .inr ⟨id2,g2,rfl,?_,hm2⟩
     have hd:id2≠id:=by
      intro e
      subst e
      exact hne j _ _ (Ne.symm hjk) h1
     rw [getC_other (by omega)]
     have:=getC_lt hc2
     rw [← hc2]
     simp only [getC,hsame id2 hd this]
  ·by_cases hik:k=i
   ·subst hik
    rw [List.getElem?_set_self hkl] at hi
    rw [List.getElem?_set_ne hij] at hj
    cases hi
    intro e
    subst e
    exact hne j _ _ (Ne.symm hij) hj
   ·rw [List.getElem?_set_ne hik] at hi
    by_cases hjk:k=j
    ·subst hjk
     rw [List.getElem?_set_self hkl] at hj
     cases hj
     intro e
     subst e
     exact hne i _ _ hij hi
    ·rw [List.getElem?_set_ne hjk] at hj
     exact h.2.2 i j a b c a' b' c' hij hi hj
 rcases hwr with ⟨rfl,rfl⟩ | ⟨id,g,rfl,hg,hid⟩
 ·have hs':1 * bytes≤2 ^ 47:=by simpa using hs
  refine ⟨nilS,.sl (H.length+1) 0 0 1 1,H ++ [.cells 0 [x]] ++ [.cells 0 [x]],hw,?_,rfl,getC_app (getC_app hc),by simp,?_,fun H0 _ he=>he.trans ⟨[.cells 0 [x],.cells 0 [x]],by simp⟩⟩
  ·simp only [appendV,elems_new,hx',if_true,nilS,Nat.one_ne_zero,if_false,hs',List.length_append,List.length_cons,List.length_nil]
  ·refine fin (H.length+1) 0 _ (fun j g' n hj e=>?_) (by omega) ?_ (fun i _ hi=>by simp [List.getElem?_append_left hi])
   ·cases hR:R[j]? with
    | none=>
      have h1:=(List.getElem?_eq_some_iff.1 e).1
      have h2:=List.getElem?_eq_none_iff.1 hR
      rw [h.1] at h1
      omega
    | some r'=>
      obtain ⟨y,h1,h2⟩:=h.2.1 j r' hR
      rw [e] at h1
      cases h1
      rcases h2 with ⟨_,h2⟩ | ⟨id2,g2,h2,hc2,_⟩
      ·cases h2
      ·cases h2
       have:=getC_lt hc2
       omega
   ·have:=getC_new (H ++ [Ob.cells 0 [x]]) 0 [x]
    simpa using this
 ·have hlt:=getC_lt hg
  have hg':=getC_app hg (G:=[Ob.cells 0 [x]])
  have hbi:base≤id:=by omega
  have hne:id≠o:=by omega
  refine ⟨_,.sl id (g+1) 0 (r.length+1) 1,(H ++ [Ob.cells 0 [x]]).set id (.cells (g+1) (r ++ [x])),hw,?_,rfl,?_,by simp,?_,fun H0 h0 he=>(he.trans (Ext.app _ _)).set (by omega) _⟩
  ·have h2:0+r.length≤r.length:=by omega
   simp only [appendV,elems_new,hx',if_true,true_and,hbi,hg',h2,Nat.one_ne_zero,if_false,hs,List.drop_zero,Nat.mul_one,List.take_length]
  ·rw [getC_other (Ne.symm hne)];exact getC_app hc
  ·refine fin id (g+1) _ (fun j g' n hj e=>?_) hid (getC_set hg' _) (fun i hi hl=>by rw [List.getElem?_set_ne (Ne.symm hi),List.getElem?_append_left hl])
   exact h.2.2 j k _ _ _ _ _ _ hj e hw rfl
theorem OwnRows.set {m:Nat} {H:Heap} {v:V} {R:List (List V)} (h:OwnRows m H v R) {o:Nat} (ho:o < m) (ob:Ob):OwnRows m (H.set o ob) v R:=by
 obtain ⟨id,g,vs,h1,h2,h3,h4,h5⟩:=h
 refine ⟨id,g,vs,h1,by rw [getC_other (by omega)];exact h2,h3,h4,fun i r hr=>?_⟩
 obtain ⟨x,q1,q2⟩:=h5 i r hr
 exact ⟨x,q1,q2.set (by omega) _⟩
theorem Rd.slice {H:Heap} {v:V} {l:List V} (h:Rd H v l) (hw:Wide1 v) {lo hi:Option V} {a b:Nat} (hlo:bndV 0 lo=some (a:Int)) (hhi:bndV l.length hi=some (b:Int)) (hab:a≤b) (hb:b≤l.length):
 ∃ w,xSlice 1 v lo hi=some w∧Rd H w ((l.drop a).take (b - a))∧Wide1 w:=by
 have i1:(0:Int)≤a:=by omega
 have i2:(a:Int)≤b:=by omega
 have i3:((b:Int) - (a:Int)).toNat=b - a:=by omega
 rcases h.cases with ⟨rfl,hv⟩ | ⟨es,rfl,rfl,he⟩ | ⟨id,g,off,n,c,rfl,hc,rfl,hn⟩
 ·have ha:a=0:=by simp at hb;omega
  have hb0:b=0:=by simpa using hb
  subst ha hb0
  rcases hv with rfl | rfl
  ·refine ⟨nilS,?_,Rd.nil H,trivial⟩
   simp only [List.length_nil] at hhi
   simp only [xslice_nil,hlo,hhi,cutNil_some,cast0,and_self,if_true]
  ·refine ⟨.esl,?_,Rd.esl H,trivial⟩
   simp only [List.length_nil] at hhi
   simp only [xslice_esl,hlo,hhi,cutNil_some,cast0,and_self,if_true]
 ·have h1:∀ e∈es,e.length=1:=hw
  have hmap:∀ es:List (List V),(∀ e∈es,e.length=1)→es=es.flatten.map fun x=>[x]:=by
   intro es
   induction es with
   | nil=>intro _;rfl
   | cons e es ih=>
     intro h
     have he:=h e List.mem_cons_self
     match e,he with
     | [y],_=>
       show [y] :: es=(y :: es.flatten).map _
       rw [List.map_cons,← ih fun e he=>h e (List.mem_cons_of_mem _ he)]
  have hm:=hmap es h1
  refine ⟨.psl ((es.drop a).take (b - a)) 1,?_,?_,fun e he=>h1 e (List.mem_of_mem_drop (List.mem_of_mem_take he))⟩
  ·rw [← he] at hhi
   have i4:(b:Int)≤es.length:=by omega
   simp only [xslice_psl,hlo,hhi,cutPsl_some,i1,i2,i3,i4,and_self,if_true,Int.toNat_natCast]
  ·have:=Rd.psl H ((es.flatten.drop a).take (b - a))
   rw [List.map_take,List.map_drop,← hm] at this
   exact this
 ·refine ⟨.sl id g (off+a) (b - a) 1,?_,?_,trivial⟩
  ·rw [← hn] at hhi
   have i4:(b:Int)≤n:=by omega
   simp only [xslice_sl,hlo,hhi,cutSl_some,i1,i2,i3,i4,and_self,if_true,Int.toNat_natCast,Nat.mul_one]
  ·by_cases hn0:n=0
   ·subst hn0
    have hb0:b=0:=by simpa using hb
    have ha0:a=0:=by omega
    subst hb0 ha0
    simpa using h
   have hl:off+b≤c.length:=by
    simp at hb hn
    omega
   have:=Rd.sl hc (off:=off+a) (n:=b - a) (by omega)
   rw [List.drop_take,List.take_take,List.drop_drop,Nat.min_eq_left (by omega)]
   exact this
def AccR (H0 H:Heap) (v:V) (R:List (List V)):Prop:=∃ vs,Acc H0 H v vs∧vs.length=R.length∧∀ (j:Nat) (r:List V),R[j]?=some r→∃ x,vs[j]?=some x∧OwnN H0.length H x r∧∀ id g n id' g' n',v=.sl id g 0 n 1→x=.sl id' g' 0 n' 1→id≠id'
theorem AccR.start (H:Heap):AccR H H nilS []:=⟨[],Acc.start H,rfl,fun j r h=>by simp at h⟩
theorem AccR.rows {H0 H:Heap} {v:V} {R:List (List V)} (h:AccR H0 H v R):RdRows H v R:=by
 obtain ⟨vs,h1,h2,h3⟩:=h
 refine ⟨vs,h1.rd,h1.wide,h2,fun j r hr=>?_⟩
 obtain ⟨x,q1,q2,_⟩:=h3 j r hr
 exact ⟨x,q1,q2.rd,q2.wide⟩
theorem AccR.ext {H0 H H':Heap} {v:V} {R:List (List V)} (h:AccR H0 H v R) (k:Ext H H'):AccR H0 H' v R:=by
 obtain ⟨vs,h1,h2,h3⟩:=h
 refine ⟨vs,⟨h1.1.trans k,?_⟩,h2,fun j r hr=>?_⟩
 ·rcases h1.2 with h | ⟨id,g,a,b,c⟩
  ·exact .inl h
  ·exact .inr ⟨id,g,a,getC_ext b k,c⟩
 ·obtain ⟨x,q1,q2,q3⟩:=h3 j r hr
  exact ⟨x,q1,q2.ext k,q3⟩
theorem AccR.trim {H0 H:Heap} {v:V} {R:List (List V)} (h:AccR H0 H v R) {m:Nat} (hm:H0.length≤m) {fr:List V} (hv:v∈fr):AccR H0 (trim m fr H) v R:=by
 obtain ⟨vs,h1,h2,h3⟩:=h
 refine ⟨vs,h1.trim hm hv,h2,fun j r hr=>?_⟩
 obtain ⟨x,q1,q2,q3⟩:=h3 j r hr
 refine ⟨x,q1,?_,q3⟩
 rcases h1.2 with ⟨rfl,_⟩ | ⟨id,g,rfl,hc,hid⟩
 ·simp at q1
 ·rcases trim_or m fr H with e | ⟨e,hu⟩
  ·rw [e];exact q2
  ·have:=hu _ hv
   simp only [idsUnder,decide_eq_true_eq] at this
   exact q2.trim hc this (List.mem_of_getElem? q1) fr
theorem AccR.append {H0 H:Heap} {v:V} {R:List (List V)} (h:AccR H0 H v R) {base bytes:Nat} (hb:base≤H0.length) {x:V} {r:List V} (hx:OwnN H0.length H x r) (hxv:∀ id g n id' g' n',v=.sl id g 0 n 1→x=.sl id' g' 0 n' 1→id≠id') (hs:(R.length+1) * bytes≤2 ^ 47):
 ∃ v' H',appendV (H ++ [.cells 0 [x]]) base 1 bytes v (.sl H.length 0 0 1 1)=some (v',H')∧AccR H0 H' v' (R ++ [r])∧v'.one=true:=by
 obtain ⟨vs,h1,h2,h3⟩:=h
 have hx1:=hx.one
 have hx':[x].all V.one=true:=by simp [hx1]
 have rows:∀ (v':V) (H':Heap),(∀ y q,(y=x∨y∈vs)→OwnN H0.length H y q→(∀ id g n id' g' n',v=.sl id g 0 n 1→y=.sl id' g' 0 n' 1→id≠id')→OwnN H0.length H' y q∧∀ id g n id' g' n',v'=.sl id g 0 n 1→y=.sl id' g' 0 n' 1→id≠id')→
  ∀ (j:Nat) (q:List V),(R ++ [r])[j]?=some q→∃ y,(vs ++ [x])[j]?=some y∧OwnN H0.length H' y q∧∀ id g n id' g' n',v'=.sl id g 0 n 1→y=.sl id' g' 0 n' 1→id≠id':=by
  intro v' H' hk j q hq
  by_cases hj:j < R.length
  ·rw [List.getElem?_append_left hj] at hq
   obtain ⟨y,q1,q2,q3⟩:=h3 j q hq
   exact ⟨y,by rw [List.getElem?_append_left (by omega)];exact q1,hk y q (.inr (List.mem_of_getElem? q1)) q2 q3⟩
  ·rw [List.getElem?_append_right (by omega)] at hq
   have hj0:j - R.length=0:=by
    have:=(List.getElem?_eq_some_iff.1 hq).1
    simp at this
    omega
   rw [hj0] at hq
   cases hq
   refine ⟨x,by rw [List.getElem?_append_right (by omega),h2,hj0];rfl,hk x _ (.inl rfl) hx hxv⟩
 rcases h1.2 with ⟨rfl,rfl⟩ | ⟨id,g,rfl,hc,hid⟩
 ·have hR:R.length=0:=by rw [← h2];rfl
  have hs':1 * bytes≤2 ^ 47:=by rw [hR] at hs;simpa using hs
  refine ⟨.sl (H.length+1) 0 0 1 1,H ++ [.cells 0 [x]] ++ [.cells 0 [x]],?_,⟨[x],⟨h1.1.trans ⟨[.cells 0 [x],.cells 0 [x]],by simp⟩,.inr ⟨H.length+1,0,rfl,?_,?_⟩⟩,by simp [hR],rows _ _ fun y q hy hyo hyv=>⟨hyo.ext ⟨[.cells 0 [x],.cells 0 [x]],by simp⟩,?_⟩⟩,rfl⟩
  ·simp only [appendV,elems_new,hx',if_true,nilS,Nat.one_ne_zero,if_false,hs',List.length_append,List.length_cons,List.length_nil]
  ·have:=getC_new (H ++ [.cells 0 [x]]) 0 [x]
   simpa using this
  ·have:=h1.1.le;omega
  ·intro a b c a' b' c' e1 e2
   cases e1
   rcases hyo with ⟨_,rfl | rfl⟩ | ⟨i,g,cc,rfl,hcc,_⟩
   ·cases e2
   ·cases e2
   ·cases e2
    have:=getC_lt hcc
    omega
 ·have hlt:=getC_lt hc
  have hc':=getC_app hc (G:=[Ob.cells 0 [x]])
  have hbi:base≤id:=by omega
  refine ⟨.sl id (g+1) 0 (vs.length+1) 1,(H ++ [Ob.cells 0 [x]]).set id (.cells (g+1) (vs ++ [x])),?_,⟨vs ++ [x],⟨(h1.1.trans (Ext.app _ _)).set hid _,.inr ⟨id,g+1,by simp,getC_set hc' _,hid⟩⟩,by simp [h2],rows _ _ fun y q hy hyo hyv=>⟨?_,?_⟩⟩,rfl⟩
  ·have e2:0+vs.length≤vs.length:=by omega
   rw [← h2] at hs
   simp only [appendV,elems_new,hx',if_true,true_and,hbi,hc',e2,Nat.one_ne_zero,if_false,hs,List.drop_zero,Nat.mul_one,List.take_length]
  ·rcases hyo with hyo | ⟨i,g',cc,rfl,hcc,p1,p2,p3⟩
   ·exact .inl hyo
   ·refine .inr ⟨i,g',cc,rfl,?_,p1,p2,p3⟩
    have:id≠i:=hyv _ _ _ _ _ _ rfl rfl
    rw [getC_other (Ne.symm this)]
    exact getC_app hcc
  ·intro a b c a' b' c' e1 e2
   cases e1
   exact hyv _ _ _ _ _ _ rfl e2
theorem AccR.lt {H0 H:Heap} {v:V} {R:List (List V)} (h:AccR H0 H v R) {id g n:Nat} (hv:v=.sl id g 0 n 1):id < H.length:=by
 obtain ⟨vs,h1,_⟩:=h
 rcases h1.2 with ⟨_,e⟩ | ⟨i,g',e,hc,_⟩
 ·rw [hv] at e;cases e
 ·rw [hv] at e;cases e;exact getC_lt hc
theorem OwnN.apart {m:Nat} {H:Heap} {v x:V} {l:List V} (h:OwnN m H x l) (hv:∀ id g n,v=.sl id g 0 n 1→id < m):∀ id g n id' g' n',v=.sl id g 0 n 1→x=.sl id' g' 0 n' 1→id≠id':=by
 intro id g n id' g' n' e1 e2
 have h1:=hv id g n e1
 rcases h with ⟨_,e | e⟩ | ⟨i,gg,c,e,_,_,_,hi⟩
 ·rw [e] at e2;cases e2
 ·rw [e] at e2;cases e2
 ·rw [e] at e2;cases e2;omega
def apartO:Option (Option Nat)→Option (Option Nat)→Bool
 | some (some i),some (some j)=>i != j
 | some _,some _=>true
 | _,_=>false
theorem Rd.look {A H:Heap} {v:V} {l:List V} (h:Rd A v l) (k:Ext A H) (hw:Wide1 v) {i:Nat} {x:V} (hx:l[i]?=some x):∃ a,xIndexAddr 1 v (.s (.int .i64 i))=some a∧xLoad H false 1 a=some x∧∀ w,(∀ id g n,w=.sl id g 0 n 1→A.length≤id)→(w=nilS∨∃ id g n,w=.sl id g 0 n 1)→apartO (V.obj? a) (V.appObj w)=true:=by
 obtain ⟨a,h1,h2⟩:=(h.ext k).at' hw hx
 refine ⟨a,h1,h2,fun w hw1 hw2=>?_⟩
 have hi:=(List.getElem?_eq_some_iff.1 hx).1
 rcases h.cases with ⟨rfl,_⟩ | ⟨es,rfl,_⟩ | ⟨id,g,off,n,c,rfl,hc,_⟩
 ·simp at hi
 ·simp only [xi_psl] at h1
  split at h1
  ·rw [Option.map_eq_some_iff] at h1
   obtain ⟨q,_,rfl⟩:=h1
   rcases hw2 with rfl | ⟨id,g,n,rfl⟩ <;> rfl
  ·cases h1
 ·simp only [xi_sl] at h1
  split at h1
  ·cases h1
   have hlt:=getC_lt hc
   rcases hw2 with rfl | ⟨id',g',n',rfl⟩
   ·rfl
   ·have:=hw1 _ _ _ rfl
    simp only [V.obj?,V.appObj,apartO,bne_iff_ne]
    omega
  ·cases h1
theorem Bag.own {m:Nat} {H:Heap} {vs:List V} {R:List (List V)} (h:Bag m H vs R) {j:Nat} {w:V} (hw:vs[j]?=some w):(∀ id g n,w=.sl id g 0 n 1→m≤id)∧(w=nilS∨∃ id g n,w=.sl id g 0 n 1):=by
 have hj:=(List.getElem?_eq_some_iff.1 hw).1
 have hR:j < R.length:=by rw [← h.1];exact hj
 obtain ⟨x,h1,h2⟩:=h.2.1 j R[j] (List.getElem?_eq_getElem hR)
 rw [hw] at h1
 cases h1
 rcases h2 with ⟨_,rfl⟩ | ⟨id,g,rfl,_,hm⟩
 ·exact ⟨fun _ _ _ e=>(by cases e),.inl rfl⟩
 ·exact ⟨fun _ _ _ e=>(by cases e;exact hm),.inr ⟨_,_,_,rfl⟩⟩
end Go.AM
namespace Go.AM
theorem OwnN.append {m base bytes:Nat} {H:Heap} {v x:V} {l:List V} (h:OwnN m H v l) (hb:base≤m) (hx:x.one=true) (hm:m≤H.length) (hs:(l.length+1) * bytes≤2 ^ 47):
 ∃ v' H',appendV (H ++ [.cells 0 [x]]) base 1 bytes v (.sl H.length 0 0 1 1)=some (v',H')∧OwnN m H' v' (l ++ [x])∧H.length≤H'.length∧(∀ i,i < m→H'[i]?=H[i]?):=by
 have hx':[x].all V.one=true:=by simp [hx]
 have hnew:1 * bytes≤2 ^ 47:=by
  refine Nat.le_trans (Nat.mul_le_mul_right _ ?_) hs
  omega
 have hfresh:OwnN m (H ++ [.cells 0 [x]] ++ [.cells 0 [x]]) (.sl (H.length+1) 0 0 1 1) [x]:=by
  refine .inr ⟨H.length+1,0,[x],rfl,?_,Nat.le_refl _,rfl,by omega⟩
  have:=getC_new (H ++ [Ob.cells 0 [x]]) 0 [x]
  simpa using this
 rcases h with ⟨rfl,rfl | rfl⟩ | ⟨id,g,c,rfl,hc,hl,ht,hid⟩
 ·refine ⟨.sl (H.length+1) 0 0 1 1,H ++ [.cells 0 [x]] ++ [.cells 0 [x]],?_,hfresh,by simp,fun i hi=>?_⟩
  ·simp only [appendV,elems_new,hx',if_true,nilS,Nat.one_ne_zero,if_false,hnew,List.length_append,List.length_cons,List.length_nil]
  ·rw [List.getElem?_append_left (by simp;omega),List.getElem?_append_left (by omega)]
 ·refine ⟨.sl (H.length+1) 0 0 1 1,H ++ [.cells 0 [x]] ++ [.cells 0 [x]],?_,hfresh,by simp,fun i hi=>?_⟩
  ·simp only [appendV,elems_new,hx',if_true,Nat.one_ne_zero,if_false,hnew,List.length_append,List.length_cons,List.length_nil]
  ·rw [List.getElem?_append_left (by simp;omega),List.getElem?_append_left (by omega)]
 ·have hc':=getC_app hc (G:=[Ob.cells 0 [x]])
  have hbi:base≤id:=by omega
  have h2:0+l.length≤c.length:=by omega
  refine ⟨.sl id (g+1) 0 (l.length+1) 1,(H ++ [Ob.cells 0 [x]]).set id (.cells (g+1) (l ++ [x])),?_,.inr ⟨id,g+1,l ++ [x],by simp,getC_set hc' _,Nat.le_refl _,List.take_length,hid⟩,by simp,fun i hi=>?_⟩
  ·simp only [appendV,elems_new,hx',if_true,true_and,hbi,hc',h2,Nat.one_ne_zero,if_false,hs,List.drop_zero,Nat.mul_one,ht]
  ·rw [List.getElem?_set_ne (by omega),List.getElem?_append_left (by omega)]
theorem OwnN.pop {m:Nat} {H:Heap} {v:V} {l:List V} (h:OwnN m H v l) {k:Nat} (hk:k≤l.length):∃ w,xSlice 1 v none (some (.s (.int .i64 k)))=some w∧OwnN m H w (l.take k):=by
 rcases h with ⟨rfl,hv⟩ | ⟨id,g,c,rfl,hc,hl,ht,hid⟩
 ·have hk0:k=0:=by simpa using hk
  subst hk0
  refine ⟨v,?_,.inl ⟨rfl,hv⟩⟩
  rcases hv with rfl | rfl
  ·simp only [xslice_nil,bndV_none,bndV_int,cutNil_some,cast0,and_self,if_true]
  ·simp only [xslice_esl,bndV_none,bndV_int,cutNil_some,cast0,and_self,if_true]
 ·have i4:(0:Int)≤(0:Int)∧(0:Int)≤k∧(k:Int)≤l.length∧1=1:=⟨by omega,by omega,by omega,rfl⟩
  have i5:((k:Int) - 0).toNat=k:=by omega
  refine ⟨.sl id g 0 k 1,?_,.inr ⟨id,g,c,by rw [List.length_take,Nat.min_eq_left hk],hc,by rw [List.length_take];omega,?_,hid⟩⟩
  ·simp only [xslice_sl,bndV_none,bndV_int,cutSl_some,cast0,i4,i5,and_self,if_true,Int.toNat_zero,Nat.zero_mul,Nat.add_zero]
  ·rw [List.length_take,Nat.min_eq_left hk,← ht,List.take_take,Nat.min_eq_left hk]
end Go.AM
namespace Go.AM
def entF (f:Int→Nat) (k:Int):Value × V:=(.int .i64 k,.s (.int .u64 (f k)))
def esF (ks:List Int) (f:Int→Nat):List (Value × V):=ks.map (entF f)
theorem sameNow_int (a b:Int):Instr.sameNow (.int .i64) (.int .i64 a) (.int .i64 b)=some (a == b):=by simp [Instr.sameNow]
def updMV (H:Heap) (base:Nat) (kind:TypeDesc) (m k v:V):Option (V × Heap):=
 match m,k with
  | .mp id,.s key=>if base≤id∧keyOk kind key then match H[id]? with
     | some (.map es)=>match findA kind key es 0 with
       | some (some (i,_))=>some (und,H.set id (.map (es.set i (key,v))))
       | some none=>some (und,H.set id (.map (es ++ [(key,v)])))
       | none=>none
     | _=>none
    else none
  | _,_=>none
theorem op_mapUpd (call:CallF) (base:Nat) (fr:List V) (H:Heap) (kind:TypeDesc) (m k v:Opd):evOp call base fr H (.mapUpd kind m k v)=updMV H base kind (ev fr m) (ev fr k) (ev fr v):=rfl
def delMV (H:Heap) (base:Nat) (kind:TypeDesc) (m k:V):Option (V × Heap):=
 match m,k with
  | .mp id,.s key=>if base≤id∧keyOk kind key then match H[id]? with
     | some (.map es)=>match findA kind key es 0 with
       | some (some (i,_))=>some (und,H.set id (.map (es.eraseIdx i)))
       | some none=>some (und,H)
       | none=>none
     | _=>none
    else none
  | _,_=>none
theorem op_delete (call:CallF) (base:Nat) (fr:List V) (H:Heap) (kind:TypeDesc) (m k:Opd):evOp call base fr H (.delete kind m k)=delMV H base kind (ev fr m) (ev fr k):=rfl
def yldE (H:Heap) (id:Nat):Option St→Option (V × Heap)
 | some (e,_,H)=>match H[id]? with
   | some (.loop .busy none t p a b)=>some (bl (e=.nrm),H.set id (.loop (if e=.nrm then .ready else .done) (pendOf e) t p a b))
   | _=>none
 | none=>none
theorem setPs_nil (fr:List V):setPs [] [] fr=some fr:=rfl
theorem setPs_cons (p:Nat) (ps:List Nat) (v:V) (vs:List V) (n:Nat) (en:Env):setPs (p :: ps) (v :: vs) (frOf n en)=setPs ps vs (frOf n (putV p v en)):=by
 simp only [setPs,frOf_set]
structure SetW (H:Heap) (i j:Nat) (ks:List Int) (f:Int→Nat) (n:Nat):Prop where
 box:getC H i 0=some [.mp j,iV n]
 map:H[j]?=some (.map (esF ks f))
 wd:Wd ks f
def putH (H:Heap) (i j:Nat) (ks:List Int) (f:Int→Nat) (n:Nat):Heap:=(H.set i (.cells 0 [.mp j,iV n])).set j (.map (esF ks f))
theorem SetW.ne {H:Heap} {i j:Nat} {ks:List Int} {f:Int→Nat} {n:Nat} (h:SetW H i j ks f n):i≠j:=by
 rintro rfl
 have h1:=h.box
 unfold getC at h1
 rw [h.map] at h1
 cases h1
theorem SetW.lt {H:Heap} {i j:Nat} {ks:List Int} {f:Int→Nat} {n:Nat} (h:SetW H i j ks f n):i < H.length∧j < H.length:=⟨getC_lt h.box,(List.getElem?_eq_some_iff.1 h.map).1⟩
theorem SetW.put {H:Heap} {i j:Nat} {ks:List Int} {f:Int→Nat} {n:Nat} (h:SetW H i j ks f n) {ks':List Int} {f':Int→Nat} (n':Nat) (hw:Wd ks' f'):SetW (putH H i j ks' f' n') i j ks' f' n':=by
 have h1:=h.ne
 have h2:=h.lt
 refine ⟨?_,?_,hw⟩
 ·unfold putH
  rw [getC_other h1]
  simp [getC,h2.1]
 ·unfold putH
  rw [List.getElem?_set_self (by simpa using h2.2)]
abbrev WS:=List Int × (Int→Nat)
def WdP (p:WS):Prop:=Wd p.1 p.2
def cnt (p:WS):Nat:=cntF p.2 p.1
def el (p:WS):List Int:=elemsF p.1 p.2
def SetP (H:Heap) (i j:Nat) (p:WS):Prop:=SetW H i j p.1 p.2 (cnt p)
theorem SetP.wd {H:Heap} {i j:Nat} {p:WS} (h:SetP H i j p):WdP p:=SetW.wd h
theorem SetP.keep {H H':Heap} {i j:Nat} {p:WS} (h:SetP H i j p) (hi:H'[i]?=H[i]?) (hj:H'[j]?=H[j]?):SetP H' i j p:=by
 refine ⟨?_,hj.trans h.map,h.wd⟩
 have:=h.box
 unfold getC at this ⊢
 rw [hi];exact this
theorem SetP.app {H:Heap} {i j:Nat} {p:WS} (h:SetP H i j p) (G:Heap):SetP (H ++ G) i j p:=
 h.keep (List.getElem?_append_left (SetW.lt h).1) (List.getElem?_append_left (SetW.lt h).2)
theorem SetP.trim {H:Heap} {i j:Nat} {p:WS} (h:SetP H i j p) {m:Nat} (hi:i < m) (hj:j < m) (fr:List V):SetP (trim m fr H) i j p:=by
 rcases trim_or' m fr H with e | ⟨e,_⟩ <;> rw [e]
 ·exact h
 ·exact h.keep (List.getElem?_take_of_lt hi) (List.getElem?_take_of_lt hj)
def rngC (L:Nat) (fr:List V):Option (V × Heap)→Option St
 | some (_,H')=>match H'[L]? with
   | some (.loop .ready none _ _ _ _)=>some (.nrm,fr,trim L fr (H'.set L .dead))
   | some (.loop .done (some e) _ _ _ _)=>some (e,fr,trim L fr (H'.set L .dead))
   | _=>none
 | none=>none
def rngF (call:CallF) (base:Nat) (ps:List Nat) (a b:ACode) (fr:List V) (H:Heap):V→Option St
 | .fn k x y=>rngC H.length fr (call (.fn k x y) [.yld H.length] base (H ++ [.loop .ready none fr ps a b]))
 | _=>none
theorem evC_rng (call:CallF) (it:IterF) (base:Nat) (f:Opd) (ps:List Nat) (a b:ACode) (fr:List V) (H:Heap):evC call it base (.rangeFunc f ps a b) fr H=rngF call base ps a b fr H (ev fr f):=by
 simp only [evC]
 cases ev fr f <;> rfl
theorem rngF_fn (call:CallF) (base:Nat) (ps:List Nat) (a b:ACode) (fr:List V) (H:Heap) (k:Nat) (x y:List V):rngF call base ps a b fr H (.fn k x y)=rngC H.length fr (call (.fn k x y) [.yld H.length] base (H ++ [.loop .ready none fr ps a b])):=rfl
theorem rngC_nrm {L:Nat} {fr:List V} {v:V} {H':Heap} {t:List V} {p:List Nat} {a b:ACode} (h:H'[L]?=some (.loop .ready none t p a b)):rngC L fr (some (v,H'))=some (.nrm,fr,trim L fr (H'.set L .dead)):=by simp only [rngC,h]
theorem rngC_done {L:Nat} {fr:List V} {v:V} {H':Heap} {e:Ex} {t:List V} {p:List Nat} {a b:ACode} (h:H'[L]?=some (.loop .done (some e) t p a b)):rngC L fr (some (v,H'))=some (e,fr,trim L fr (H'.set L .dead)):=by simp only [rngC,h]
theorem yldE_some {H H':Heap} {id:Nat} {e:Ex} {fr t:List V} {p:List Nat} {a b:ACode} (h:H'[id]?=some (.loop .busy none t p a b)):yldE H id (some (e,fr,H'))=some (bl (e=.nrm),H'.set id (.loop (if e=.nrm then .ready else .done) (pendOf e) t p a b)):=by simp only [yldE,h]
def KeepB (m0 i j:Nat) (H0 H':Heap):Prop:=m0≤H'.length∧∀ id,id < m0→id≠i→id≠j→H'[id]?=H0[id]?
theorem KeepB.trim {m0 i j:Nat} {H0 H':Heap} (h:KeepB m0 i j H0 H') {m:Nat} (hm:m0≤m) (fr:List V):KeepB m0 i j H0 (trim m fr H'):=by
 rcases trim_or' m fr H' with e | ⟨e,_⟩ <;> rw [e]
 ·exact h
 ·exact ⟨by rw [List.length_take];have:=h.1;omega,fun id h1 h2 h3=>by rw [List.getElem?_take_of_lt (by omega)];exact h.2 id h1 h2 h3⟩
def noP:WS:=([],fun _=>0)
def andNot (a b:Nat):Nat:=a &&& (2 ^ 64 - 1 - b)
def KeepD (m0:Nat) (D:List Nat) (H0 H':Heap):Prop:=m0≤H'.length∧∀ id,id < m0→id ∉ D→H'[id]?=H0[id]?
theorem KeepD.trim {m0:Nat} {D:List Nat} {H0 H':Heap} (h:KeepD m0 D H0 H') {m:Nat} (hm:m0≤m) (fr:List V):KeepD m0 D H0 (trim m fr H'):=by
 rcases trim_or' m fr H' with e | ⟨e,_⟩ <;> rw [e]
 ·exact h
 ·exact ⟨by rw [List.length_take];have:=h.1;omega,fun id h1 h2=>by rw [List.getElem?_take_of_lt (by omega)];exact h.2 id h1 h2⟩
theorem KeepD.refl (D:List Nat) (H:Heap):KeepD H.length D H H:=⟨Nat.le_refl _,fun _ _ _=>rfl⟩
theorem KeepD.trans {m0 m1:Nat} {D:List Nat} {A B C:Heap} (h:KeepD m0 D A B) (k:KeepD m1 D B C) (hm:m0≤m1):KeepD m0 D A C:=⟨Nat.le_trans hm k.1,fun id h1 h2=>(k.2 id (by omega) h2).trans (h.2 id h1 h2)⟩
theorem KeepD.getC {m0:Nat} {D:List Nat} {A B:Heap} (h:KeepD m0 D A B) {id g:Nat} {c:List V} (hc:getC A id g=some c) (h1:id < m0) (h2:id ∉ D):getC B id g=some c:=by
 unfold Go.AM.getC at hc ⊢
 rw [h.2 id h1 h2];exact hc
theorem KeepD.setP {m0:Nat} {D:List Nat} {A B:Heap} (h:KeepD m0 D A B) {i j:Nat} {p:WS} (hp:SetP A i j p) (h1:i < m0∧j < m0) (h2:i ∉ D∧j ∉ D):SetP B i j p:=hp.keep (h.2 i h1.1 h2.1) (h.2 j h1.2 h2.2)
theorem KeepD.ext {A B:Heap} (h:KeepD A.length [] A B):Ext A B:=Ext.of_get h.1 fun id hid=>h.2 id hid (by simp)
theorem KeepB.d {m0 i j:Nat} {A B:Heap} (h:KeepB m0 i j A B):KeepD m0 [i,j] A B:=⟨h.1,fun id h1 h2=>h.2 id h1 (by simp at h2;exact h2.1) (by simp at h2;exact h2.2)⟩
theorem KeepD.mono {m0:Nat} {D D':List Nat} {A B:Heap} (h:KeepD m0 D A B) {m1:Nat} (hm:m1≤m0) (hD:∀ id,id < m1→id∈D→id∈D'):KeepD m1 D' A B:=⟨by have:=h.1;omega,fun id h1 h2=>h.2 id (by omega) fun hx=>h2 (hD id h1 hx)⟩
theorem Ext.d {A B:Heap} (h:Ext A B) (D:List Nat):KeepD A.length D A B:=⟨h.le,fun id h1 _=>h.get h1⟩
theorem xsub_build (H:Heap) (z:List V) (p:List (Nat × Nat)) (ps:List (Nat × Opd)) (vs:List V):xSub H (.build z p ps) (some vs)=(fillA (p[·]?) z (ps.map fun q=>(q.1,ev vs q.2))).map .agg:=by
 simp only [xSub,evOp]
 cases fillA (p[·]?) z (ps.map fun q=>(q.1,ev vs q.2)) <;> rfl
theorem KeepD.s {H H':Heap} (k:KeepD H.length [] H H') {i j:Nat} {p:WS} (h:SetP H i j p):SetP H' i j p:=k.setP h (SetW.lt h) ⟨by simp,by simp⟩
theorem KeepB.s {H H':Heap} {i j:Nat} (k:KeepB H.length i j H H') {a b:Nat} {p:WS} (h:SetP H a b p) (h1:a≠i∧a≠j∧b≠i∧b≠j):SetP H' a b p:=h.keep (k.2 a (SetW.lt h).1 h1.1 h1.2.1) (k.2 b (SetW.lt h).2 h1.2.2.1 h1.2.2.2)
theorem KeepD.o {H H':Heap} (k:KeepD H.length [] H H') {m:Nat} {v:V} {l:List V} (h:OwnN m H v l):OwnN m H' v l:=h.ext (KeepD.ext k)
theorem KeepB.o {H H':Heap} {i j:Nat} (k:KeepB H.length i j H H') {m:Nat} {v:V} {l:List V} (h:OwnN m H v l) (hi:i < m) (hj:j < m):OwnN m H' v l:=by
 rcases h with h | ⟨id,g,c,h1,h2,h3,h4,h5⟩
 ·exact .inl h
 ·refine .inr ⟨id,g,c,h1,?_,h3,h4,h5⟩
  have hl:=getC_lt h2
  unfold getC at h2 ⊢
  rw [k.2 id hl (by omega) (by omega)]
  exact h2
theorem KeepB.o3 {H H':Heap} {i j:Nat} (k:KeepB H.length i j H H') {m M:Nat} {v:V} {l:List V} (h:OwnN m H v l) (hb:∀ id g n,v=.sl id g 0 n 1→id < M) (hi:i < m∨M≤i) (hj:j < m∨M≤j):OwnN m H' v l:=by
 rcases h with h | ⟨id,g,c,h1,h2,h3,h4,h5⟩
 ·exact .inl h
 ·have:=hb id g _ h1
  refine .inr ⟨id,g,c,h1,?_,h3,h4,h5⟩
  have hl:=getC_lt h2
  unfold getC at h2 ⊢
  rw [k.2 id hl (by omega) (by omega)]
  exact h2
def amY:=And.intro @op_mapUpd (And.intro @op_delete (And.intro @setPs_nil (And.intro @setPs_cons (And.intro @evC_rng (And.intro @rngF_fn @xsub_build)))))
end Go.AM
namespace Go.AM
theorem flat_len {w:Nat}:∀ (R:List (List V)),(∀ r∈R,r.length=w)→R.flatten.length=R.length * w:=by
 intro R
 induction R with
 | nil=>intro _;simp
 | cons r R ih=>
   intro h
   rw [List.flatten_cons,List.length_append,ih (fun x hx=>h x (List.mem_cons_of_mem _ hx)),h r List.mem_cons_self,List.length_cons,Nat.add_mul]
   omega
theorem rows_get {w:Nat}:∀ (R:List (List V)),(∀ r∈R,r.length=w)→∀ (i:Nat) (r:List V),R[i]?=some r→(R.flatten.drop (i * w)).take w=r:=by
 intro R
 induction R with
 | nil=>intro _ i r h;simp at h
 | cons s R ih=>
   intro h i r hr
   have hs:=h s List.mem_cons_self
   cases i with
   | zero=>
     simp only [List.getElem?_cons_zero,Option.some.injEq] at hr
     subst hr
     rw [Nat.zero_mul,List.drop_zero,List.flatten_cons,← hs,List.take_left]
   | succ i=>
     simp only [List.getElem?_cons_succ] at hr
     rw [List.flatten_cons,show (i+1) * w=s.length+i * w by rw [hs,Nat.add_mul];omega,List.drop_append,List.drop_eq_nil_of_le (by omega),List.nil_append,Nat.add_sub_cancel_left]
     exact ih (fun x hx=>h x (List.mem_cons_of_mem _ hx)) i r hr
structure RdW (w:Nat) (H:Heap) (v:V) (R:List (List V)):Prop where
 el:elems H w v=some (R.length,R.flatten)
 len:xLen H .s v=some (.s (.int .i64 R.length))
 one:v.one=true
 at':∀ (i:Nat) (r:List V),R[i]?=some r→∃ a,xIndexAddr w v (.s (.int .i64 i))=some a∧xLoad H true w a=some (.agg r)∧∀ (o:Nat) (x:V),r[o]?=some x→∃ b,xFieldAddr o a=some b∧xLoad H false 1 b=some x
theorem RdW.nil (w:Nat) (H:Heap):RdW w H nilS []:=⟨rfl,rfl,rfl,fun i r h=>by simp at h⟩
theorem take_one {r:List V} {o:Nat} {x:V} (h:r[o]?=some x):(r.drop o).take 1=[x]:=by
 obtain ⟨ho,rfl⟩:=List.getElem?_eq_some_iff.1 h
 rw [List.drop_eq_getElem_cons ho]
 rfl
theorem RdW.psl {w:Nat} (H:Heap) {R:List (List V)} (hR:∀ r∈R,r.length=w):RdW w H (.psl R w) R:=by
 refine ⟨by simp [elems],rfl,rfl,fun i r h=>⟨.pref r,?_,?_,fun o x hx=>⟨.pref (r.drop o),?_,?_⟩⟩⟩
 ·rw [xi_psl,if_pos ⟨by omega,rfl⟩,Int.toNat_natCast,h]
  rfl
 ·have:=hR r (List.mem_of_getElem? h)
  rw [xo_pref,List.take_of_length_le (by omega),if_pos this,shut_agg]
 ·rw [xa_pref,if_pos (by have:=(List.getElem?_eq_some_iff.1 hx).1;omega)]
 ·rw [xo_pref,take_one hx,if_pos (by rfl),shut_one]
theorem RdW.sl {w:Nat} {H:Heap} {id g:Nat} {R:List (List V)} (hc:getC H id g=some R.flatten) (hR:∀ r∈R,r.length=w):RdW w H (.sl id g 0 R.length w) R:=by
 have hl:=flat_len R hR
 refine ⟨?_,rfl,rfl,fun i r h=>?_⟩
 ·simp only [elems,if_true,hc,List.drop_zero,← hl,List.take_length]
 ·have hr:=hR r (List.mem_of_getElem? h)
  have hi:=(List.getElem?_eq_some_iff.1 h).1
  have hg:=rows_get R hR i r h
  refine ⟨.ref id g (0+i * w),?_,?_,fun o x hx=>⟨.ref id g (0+i * w+o),rfl,?_⟩⟩
  ·rw [xi_sl,if_pos ⟨by omega,by omega,rfl⟩,Int.toNat_natCast]
  ·rw [xo_ref,hc,Nat.zero_add]
   simp only [hg,hr,if_true,shut_agg]
  ·have ho:=(List.getElem?_eq_some_iff.1 hx).1
   have e:(R.flatten.drop (0+i * w+o)).take 1=[x]:=by
    have h2:=take_one hx
    rw [← hg,List.drop_take,List.drop_drop,List.take_take,Nat.min_eq_left (by omega)] at h2
    rw [Nat.zero_add]
    exact h2
   rw [xo_ref,hc]
   simp only [e,List.length_singleton,if_true,shut_one]
def AccW (m w:Nat) (H:Heap) (v:V) (R:List (List V)):Prop:=(∀ r∈R,r.length=w)∧((R=[]∧v=nilS)∨∃ id g,v=.sl id g 0 R.length w∧getC H id g=some R.flatten∧m≤id)
theorem AccW.start (m w:Nat) (H:Heap):AccW m w H nilS []:=⟨fun r h=>by simp at h,.inl ⟨rfl,rfl⟩⟩
theorem AccW.rd {m w:Nat} {H:Heap} {v:V} {R:List (List V)} (h:AccW m w H v R):RdW w H v R:=by
 obtain ⟨hR,⟨rfl,rfl⟩ | ⟨id,g,rfl,hc,_⟩⟩:=h
 ·exact RdW.nil w H
 ·exact RdW.sl hc hR
theorem AccW.keep {m w:Nat} {H H':Heap} {v:V} {R:List (List V)} (h:AccW m w H v R) (hk:∀ id g n,v=.sl id g 0 n w→H'[id]?=H[id]?):AccW m w H' v R:=by
 obtain ⟨hR,h | ⟨id,g,rfl,hc,hm⟩⟩:=h
 ·exact ⟨hR,.inl h⟩
 ·refine ⟨hR,.inr ⟨id,g,rfl,?_,hm⟩⟩
  unfold getC at hc ⊢
  rw [hk id g _ rfl]
  exact hc
theorem AccW.lt {m w:Nat} {H:Heap} {v:V} {R:List (List V)} (h:AccW m w H v R):∀ id g n,v=.sl id g 0 n w→id < H.length:=by
 obtain ⟨_,⟨_,rfl⟩ | ⟨id,g,rfl,hc,hm⟩⟩:=h
 ·intro id g n e;cases e
 ·intro id' g' n e
  cases e
  exact getC_lt hc
theorem AccW.d {m w:Nat} {H H':Heap} {v:V} {R:List (List V)} (h:AccW m w H v R) (k:KeepD H.length [] H H'):AccW m w H' v R:=h.keep fun id g n e=>k.2 id (h.lt id g n e) (by simp)
def Plain1 (R:List (List V)):Prop:=∀ r∈R,∃ x xs,r=.s x :: xs
theorem AccW.apart {m w:Nat} {H:Heap} {v:V} {R:List (List V)} (h:AccW m w H v R) (hp:Plain1 R) {i j:Nat} {p:WS} (hs:SetP H i j p):∀ id g n,v=.sl id g 0 n w→id≠i∧id≠j:=by
 obtain ⟨hR,⟨_,rfl⟩ | ⟨id,g,rfl,hc,hm⟩⟩:=h
 ·intro id g n e;cases e
 ·intro id' g' n e
  cases e
  refine ⟨fun e=>?_,fun e=>?_⟩
  ·subst e
   have hb:=SetW.box hs
   unfold getC at hc hb
   cases ho:H[id]? with
   | none=>rw [ho] at hb;cases hb
   | some o=>
     rw [ho] at hb hc
     cases o with
     | cells g2 c=>
       dsimp only at hb hc
       split at hb
       ·split at hc
        ·cases hb
         cases R with
         | nil=>simp at hc
         | cons r R=>
           obtain ⟨x,xs,rfl⟩:=hp r List.mem_cons_self
           simp at hc
        ·cases hc
       ·cases hb
     | map _=>cases hb
     | loop _ _ _ _ _ _=>cases hb
     | dead=>cases hb
     | bytes _ _=>cases hb
  ·subst e
   have hb:=SetW.map hs
   unfold getC at hc
   rw [hb] at hc
   cases hc
theorem AccW.append {m w:Nat} {H:Heap} {v:V} {R:List (List V)} (h:AccW m w H v R) {base bytes:Nat} (hb:base≤m) (hm:m≤H.length) {S:List (List V)} (hS:∀ r∈S,r.length=w) (h0:S≠[]) {x:V} (hx:elems H w x=some (S.length,S.flatten)) (ho:S.flatten.all V.one=true) (hs:(R.length+S.length) * bytes≤2 ^ 47):
 ∃ v' H',appendV H base w bytes v x=some (v',H')∧AccW m w H' v' (R ++ S)∧H.length≤H'.length∧(∀ id,id < H.length→(∀ g n,v≠.sl id g 0 n w)→H'[id]?=H[id]?):=by
 have hn:¬ S.length=0:=fun e=>h0 (List.eq_nil_of_length_eq_zero e)
 have hRS:∀ r∈R ++ S,r.length=w→r.length=w:=fun _ _ e=>e
 obtain ⟨hR,⟨rfl,rfl⟩ | ⟨id,g,rfl,hc,hid⟩⟩:=h
 ·have hs':S.length * bytes≤2 ^ 47:=by simpa using hs
  refine ⟨.sl H.length 0 0 S.length w,H ++ [.cells 0 S.flatten],?_,⟨?_,.inr ⟨H.length,0,by simp,?_,hm⟩⟩,by simp,fun id hid _=>List.getElem?_append_left hid⟩
  ·simp only [appendV,hx,ho,if_true,nilS,hn,if_false,hs']
  ·simpa using hS
  ·rw [List.nil_append];exact getC_new H 0 _
 ·have hlt:=getC_lt hc
  have hbi:base≤id:=by omega
  have hl:=flat_len R hR
  refine ⟨.sl id (g+1) 0 (R.length+S.length) w,H.set id (.cells (g+1) (R.flatten ++ S.flatten)),?_,⟨?_,.inr ⟨id,g+1,by simp,?_,hid⟩⟩,by simp,fun id' hid' hne=>?_⟩
  ·have h2:0+R.length * w≤R.flatten.length:=by omega
   simp only [appendV,hx,ho,if_true,true_and,hbi,hc,h2,hn,if_false,hs,List.drop_zero]
   rw [List.take_of_length_le (by omega)]
  ·intro r hr
   rcases List.mem_append.1 hr with hr | hr
   ·exact hR r hr
   ·exact hS r hr
  ·rw [List.flatten_append]
   exact getC_set hc _
  ·rw [List.getElem?_set_ne]
   rintro rfl
   exact hne g _ rfl
theorem AccW.trim_or {m w L:Nat} {H:Heap} {v:V} {R:List (List V)} (h:AccW m w H v R) (hL:L≤m) {fr:List V} (hv:v∈fr):R=[]∧v=nilS∨trim L fr H=H:=by
 obtain ⟨_,h | ⟨id,g,rfl,hc,hid⟩⟩:=h
 ·exact .inl h
 ·rcases Go.AM.trim_or L fr H with e | ⟨_,hu⟩
  ·exact .inr e
  ·have:=hu _ hv
   simp only [idsUnder,decide_eq_true_eq] at this
   omega
theorem AccW.append0 {m w:Nat} {H:Heap} {v:V} {R:List (List V)} (h:AccW m w H v R) {base bytes:Nat} (hb:base≤m) (hm:m≤H.length) {S:List (List V)} (hS:∀ r∈S,r.length=w) {x:V} (hx:elems H w x=some (S.length,S.flatten)) (ho:S.flatten.all V.one=true) (hs:(R.length+S.length) * bytes≤2 ^ 47):
 ∃ v' H',appendV H base w bytes v x=some (v',H')∧AccW m w H' v' (R ++ S)∧H.length≤H'.length∧(∀ id,id < H.length→(∀ g n,v≠.sl id g 0 n w)→H'[id]?=H[id]?):=by
 by_cases h0:S=[]
 ·subst h0
  refine ⟨v,H,?_,by rw [List.append_nil];exact h,Nat.le_refl _,fun _ _ _=>rfl⟩
  obtain ⟨hR,⟨rfl,rfl⟩ | ⟨id,g,rfl,hc,hid⟩⟩:=h
  ·simp only [appendV,hx,ho,if_true,nilS,List.length_nil]
  ·have hl:=flat_len R hR
   have h2:0+R.length * w≤R.flatten.length:=by omega
   have hbi:base≤id:=by omega
   simp only [appendV,hx,ho,if_true,true_and,hbi,hc,h2,List.length_nil]
 ·exact h.append hb hm hS h0 hx ho hs
theorem RdW.ext {w:Nat} {H H':Heap} {v:V} {R:List (List V)} (h:RdW w H v R) (k:Ext H H') (hv:(∃ es,v=.psl es w)∨v=nilS∨∃ m,AccW m w H v R):RdW w H' v R:=by
 rcases hv with ⟨es,rfl⟩ | rfl | ⟨m,hv⟩
 ·refine ⟨?_,h.len,rfl,fun i r hr=>?_⟩
  ·exact h.el
  ·obtain ⟨a,h1,h2,h3⟩:=h.at' i r hr
   rw [xi_psl] at h1
   split at h1
   ·cases he:es[(i:Int).toNat]? with
    | none=>rw [he] at h1;cases h1
    | some c=>
      rw [he] at h1
      cases h1
      exact ⟨.pref c,by rw [xi_psl,if_pos (by assumption),he];rfl,h2,fun o x hx=>by
       obtain ⟨b,e1,e2⟩:=h3 o x hx
       refine ⟨b,e1,?_⟩
       rw [xa_pref] at e1
       split at e1
       ·cases e1;exact e2
       ·cases e1⟩
   ·cases h1
 ·exact ⟨h.el,h.len,rfl,fun i r hr=>by
   obtain ⟨a,h1,_⟩:=h.at' i r hr
   cases h1⟩
 ·exact (hv.d (k.d [])).rd
end Go.AM
