/- Texts of the proof: Am20, Am21, Am22, Am23, AmS, AmT, AmF, AmG, AmL, AmQ0, AmQ, AmW, AmD, AmD2, ShoX0, AmD3, AmV, AmR, AmB, BitsP, AmM, AmN, AmO, AmY, AmZ, AmI, AmU, AmU2, AmH, ShnA1, ShnArg, ShoX, AmP, AmPk. -/
import Derived.Test.YtngfpadeebpoeaaGreatDoorP0
import Derived.Test.YtngfpadeebpoeaaGreatDoorP1
import Derived.ProofKit
import Derived.ReadAgain
import Derived.Laws.BitsLemmas
import Derived.Shelf.Sort.Plain
import Derived.Shelf.SlIterI.Nil
import Derived.Shelf.SlMaps.Clone
import Derived.Shelf.Spec.TrailingZeros
import Derived.Lib.Join
import Derived.Lib.ItoaNum
import Derived.Shelf.Strings.Builder1
import Derived.Shelf.Strings.OnBuilder
import Derived.Shelf.Strings.Prefix
import Derived.Shelf.Strconv.Itoa3
import Derived.Lib.Strings
import Derived.OpenShut
import Derived.ChangeArms
import Derived.FnData
import Derived.DataReads
import Derived.ChangeOld
import Derived.LaidMore
import Derived.Stop.Joined
import Derived.SevenTiedAt
import Derived.Test.YtngfpadeebpoeaaGreatDoorRows
import Derived.Test.YtngfpadeebpoeaaGreatDoorCards
import Derived.Test.YtngfpadeebpoeaaGreatDoorTie
import Derived.KernelRfl
set_option linter.all false
namespace Go.AM
open Go.RowKit
section
variable {μ μ':Mu} {Mt Mt':Nat→Prop} {w w':World} {H H':Heap} {P:Program} {pure':PX} {call:ni}
def aej (P:Program) (pure':PX) (k:Nat):CFun→Prop
 | .code c => ∃ fn body, P.funcs[k]? = some fn ∧ fn.body = some body ∧ (fn.name == "runtime.NumGoroutine") = false ∧ CodeR P pure' body c.body ∧ fn.ntmps = c.ntmps ∧ fn.results.toList.mapM (ajd P) = some c.results
 | .prim g=>(∀ xs w,(callFunc k xs).run P w=.ok (.enter k xs) w)∧∀ vs base H r H',g vs base H=some (r,H')→Floor base H H'∧
    ∀ μ Mt w cs,HR (CR P pure') μ Mt w H→VRs μ Mt w vs cs→∀ n,CallsIn Fence.wide n P k cs.toArray w (aw1 (CR P pure') μ Mt w H r H')
theorem a1a:∀ (ps:List Nat) (vs:List V) (cs:List Value) {fr fr':List V} {t:Array Value},aq6 ps vs fr=some fr'→VRs μ Mt w vs cs→FR μ Mt w fr t→
 ps.length=cs.length∧FR μ Mt w fr' ((ps.zip cs).foldl (fun t p=>t.setIfInBounds p.1 p.2) t):=by
 intro ps
 induction ps with
 | nil=>
   intro vs cs fr fr' t h hv hf;cases vs with
   | nil=>
     cases h
     have:cs=[]:=by have:=hv.1;cases cs <;> simp at this ⊢
     subst this;exact ⟨rfl,hf⟩
   | cons v vs=>cases h
 | cons p ps ih=>
   intro vs cs fr fr' t h hv hf;cases vs with
   | nil=>cases h
   | cons v vs=>
     cases cs with
     | nil=>have:=hv.1;simp at this
     | cons c cs=>
       have hv':VRs μ Mt w vs cs:=⟨by have:=hv.1;simpa using this,fun i a b ha hb=>hv.2 (i+1) a b (by simpa using ha) (by simpa using hb)⟩
       have hf':FR μ Mt w (fr.set p v) (t.setIfInBounds p c):=by
        have:=VRs.set hf p (hv.2 0 v c rfl rfl)
        simpa [FR] using this
       obtain ⟨h1,h2⟩:=ih vs cs h hv' hf'
       exact ⟨by simp [h1],by simpa using h2⟩
theorem ar0 (n:Nat):VRs μ Mt w (List.replicate n und) (List.replicate n Go.undef):=
 ⟨by simp,fun i a b ha hb=>by
  have h1:=ak ha;have h2:=ak hb;rw [ahz] at h1 h2;rw [h1.2,h2.2];exact .s _⟩
variable {CP:Nat→Option CFun}
theorem as6 (hs:SimCall P (CR P pure') call) (hmix:P.follows .mixedOrders=true) (nn:Nat) (hCP:∀ k c,CP k=some c→aej P pure' k c)
 {f:Nat} {fst cap args:List V} {base:Nat} {r:V} (hev:zm CP call (fun b k m=>yt b k m nn) (.fn f fst cap) args base H=some (r,H')):
 (∀ xs w,(callFunc f xs).run P w=.ok (.enter f xs) w)∧Floor base H H'∧
 ∀ (μ:Mu) (Mt:Nat→Prop) (w:World) (cs:List Value),HR (CR P pure') μ Mt w H→VRs μ Mt w (fst ++ args ++ cap) cs→∀ n,CallsIn Fence.wide n P f cs.toArray w (aw1 (CR P pure') μ Mt w H r H'):=by
 simp only [zm] at hev;split at hev
 ·rename_i c hc;obtain ⟨fn,body,h1,h2,h3,h4,h5,h6⟩:=hCP f _ hc;have fin:∀ (e:Ex) (fr':List V) (H1:Heap),(e=.nrm∨e=.ret)→evC call (fun b k m=>yt b k m nn) base c.body (fst ++ args ++ cap ++ List.replicate (c.ntmps - (fst ++ args ++ cap).length) und) H=some (e,fr',H1)→
   (aap c.results fr' H1).map (fun v=>(v,H1))=some (r,H')→(∀ xs w,(callFunc f xs).run P w=.ok (.enter f xs) w)∧Floor base H H'∧
   ∀ (μ:Mu) (Mt:Nat→Prop) (w:World) (cs:List Value),HR (CR P pure') μ Mt w H→VRs μ Mt w (fst ++ args ++ cap) cs→∀ n,CallsIn Fence.wide n P f cs.toArray w (aw1 (CR P pure') μ Mt w H r H'):=by
   intro e fr' H1 he hb hres;rw [au] at hres;obtain ⟨v,hv,e1⟩:=hres;cases e1;refine ⟨Go.Proofs.enters_of h1 h3 h2,amx hs.floor nn _ hb,fun μ Mt w cs h hvs n=>?_⟩;refine callsIn_of_wp_marks h1 h2 trivial ?_
   have hf0:FR μ Mt w (fst ++ args ++ cap ++ List.replicate (c.ntmps - (fst ++ args ++ cap).length) und) (cs.toArray ++ Array.replicate (fn.ntmps - cs.toArray.size) Go.undef):=by
    unfold FR;have:=hvs.append (ar0 (μ:=μ) (Mt:=Mt) (w:=w) (c.ntmps - (fst ++ args ++ cap).length));simp only [x9,Array.toList_replicate,xu,h5];rw [hvs.1] at this ⊢;exact this
   refine awi hs hmix nn base h4 none n _ H e fr' H' hb μ Mt w { tmps:=cs.toArray ++ Array.replicate (fn.ntmps - cs.toArray.size) Go.undef,defers:=[] } _ h hf0 (fun l hl=>by cases hl) ?_
   rintro a' w' ⟨μ1,Mt1,p1,f1,L,hL,hnd,hLs⟩
   have key:LeavesInM Fence.wide n P fn a'.tmps (aw1 (CR P pure') μ Mt w H r H') a'.defers .returning w':=by
    rw [hL,oz];refine ash (μ:=μ1) (Mt:=Mt1) (fr:=fr') (fun w2 p2 f2=>?_) L w' p1 f1 hnd hLs;obtain ⟨cv,k1,k2⟩:=avk p2.hr f2 h6 hv;exact ⟨cv,k1,cv,μ1,Mt1,rfl,k2,p2⟩
   rcases he with rfl | rfl
   ·exact key
   ·exact key
  split at hev
  ·rename_i fr' H1 hb;exact fin .nrm fr' H1 (.inl rfl) hb hev
  ·rename_i fr' H1 hb;exact fin .ret fr' H1 (.inr rfl) hb hev
  ·cases hev
 ·rename_i g hc;obtain ⟨h1,h2⟩:=hCP f _ hc;obtain ⟨h3,h4⟩:=h2 _ _ _ _ _ hev;exact ⟨h1,h3,h4⟩
 ·cases hev
theorem ao2 (hs:SimCall P (CR P pure') call) (hmix:P.follows .mixedOrders=true) (nn:Nat)
 {id:Nat} {args:List V} {base:Nat} {r:V} (hev:zm CP call (fun b k m=>yt b k m nn) (.yld id) args base H=some (r,H')):
 Floor base H H'∧∀ (μ:Mu) (Mt:Nat→Prop) (w:World) (cs:List Value) (B:Nat),HR (CR P pure') μ Mt w H→VRs μ Mt w args cs→μ id 0=some (B,0)→
  ∃ f tmps assign body,(Instr.yield B cs.toArray).run P w=.ok (.round B f tmps assign body) w∧∀ n,RoundIn Fence.wide n P B f tmps assign body w (aw1 (CR P pure') μ Mt w H r H'):=by
 simp only [zm] at hev;split at hev
 case isFalse=>cases hev
 rename_i hbase;split at hev
 case h_2=>cases hev
 rename_i tmps params assign body hH;split at hev
 case h_2=>cases hev
 rename_i fr0 hset;split at hev
 case h_2=>cases hev
 rename_i fr1 H1 hasg;split at hev
 case h_2=>cases hev
 rename_i t1 ps1 as1 b1 hH1;split at hev
 case h_2=>cases hev
 rename_i e fr2 H3 hbody;split at hev
 case h_2=>cases hev
 rename_i t3 ps3 as3 b3 hH3;cases hev
 have setF:∀ (G:Heap) (o:Ob),Floor base G (G.set id o):=fun G o=>⟨by simp,fun i h1 _=>by rw [bq (by omega)]⟩
 refine ⟨(amx hs.floor nn _ hasg).trans ((setF _ _).trans ((amx hs.floor nn _ hbody).trans (setF _ _))),?_⟩;intro μ Mt w cs B h hvs hm;obtain ⟨o,ho,hr⟩:=h.objs _ _ 0 _ _ hH rfl hm
 cases o <;> first | exact hr.elim | skip
 rename_i rec;obtain ⟨_,q1,q2,q3,q4,q5,q6⟩:=hr;obtain ⟨hlen,hf0⟩:=a1a params args cs hset hvs (t:=rec.tmps) q3
 have hsz:cs.toArray.size=rec.params.size:=by
  rw [← q4] at hlen;simpa using hlen.symm
 have hfold:(rec.params.zip cs.toArray).foldl (fun tmps (t,a)=>tmps.setIfInBounds t a) rec.tmps=(params.zip cs).foldl (fun t p=>t.setIfInBounds p.1 p.2) rec.tmps:=by
  rw [← ah1,Array.toList_zip,q4]
 refine ⟨_,_,_,_,run_yield ho hsz,fun n=>?_⟩;refine roundIn_of_wpIn (F:=Fence.wide) trivial ?_;rw [hfold]
 refine awi hs hmix nn base q5 (some B) n fr0 H .nrm fr1 H1 hasg μ Mt w { tmps:=(params.zip cs).foldl (fun t p=>t.setIfInBounds p.1 p.2) rec.tmps,defers:=[] } _ h hf0 (fun l hl=>by cases hl;exact ⟨rec,ho⟩) ?_
 rintro a1 w1 ⟨μ1,Mt1,p1,f1,_⟩;have hm1:=p1.ext _ _ _ hm;obtain ⟨o1,ho1,hr1⟩:=p1.hr.objs _ _ 0 _ _ hH1 rfl hm1
 cases o1 <;> first | exact hr1.elim | skip
 rename_i rec1;obtain ⟨_,s1,s2,s3,s4,s5,s6⟩:=hr1
 have hwf1:ObW H1.length (.loop .busy none t1 ps1 as1 b1):=by have:=p1.hr.wfn hH1 rfl hm1;exact this
 have p2:Post (CR P pure') μ1 Mt1 w1 H1 (anf μ1 id 0 (B,0)) Mt1 (w1.putObj B (.loop { rec1 with state:=.busy })) (H1.set id (.loop .busy none t1 ps1 as1 b1)):=by
  refine afj p1.hr 0 0 hH1 rfl hm1 ho1 (fun _ _ _ e=>by cases e) (fun _ _=>⟨_,rfl⟩) (.inl ⟨rfl,rfl⟩) (fun j hj=>hj) (fun _ _ e=>by cases e) rfl rfl rfl rfl hwf1 ?_
  intro _ μ' Mt' hμ hM;have hne:∀ K,K≠B→(w1.putObj B (.loop { rec1 with state:=.busy })).heap[K]?=w1.heap[K]?:=fun K hK=>World.putObj_heap_other hK;refine ⟨rfl,rfl,trivial,?_,s4,s5,s6⟩;refine VRs.mono hμ (fun K hK hm=>(hM K hK).1 hm) (fun K _ hn=>hne K (fun e=>hn (e ▸ (p1.hr.isMut _ _ _ _ hm1).1))) (fun K a0 e0 fr0 hK=>?_) s3
  have:K≠B:=fun e=>by subst e;rw [ho1] at hK;cases hK
  exact ⟨a0,_,(hne K this).trans hK,rfl⟩
 refine ⟨_,run_beginRound ho1 s1,?_⟩;have pp:=p1.trans p2;have hB2:∃ r,(w1.putObj B (.loop { rec1 with state:=.busy })).heap[B]?=some (.loop r):=⟨_,World.putObj_heap_same (lt_of_some ho1)⟩
 refine awi hs hmix nn base q6 (some B) n fr1 _ e fr2 H3 ?_ _ _ _ a1 _ p2.hr (f1.post p1.hr p2) (fun l hl=>by cases hl;exact hB2) ?_
 ·exact hbody
 ·rintro a3 w3 ⟨μ3,Mt3,p3,_,_⟩;have hm3:μ3 id 0=some (B,0):=p3.ext _ _ _ (qj _ _ _ _);obtain ⟨o3,ho3,hr3⟩:=p3.hr.objs _ _ 0 _ _ hH3 rfl hm3
  cases o3 <;> first | exact hr3.elim | skip
  rename_i rec3;obtain ⟨_,u1,u2,u3,u4,u5,u6⟩:=hr3
  have hwf3:∀ st pe,ObW H3.length (.loop st pe t3 ps3 as3 b3):=fun _ _=>by have:=p3.hr.wfn hH3 rfl hm3;exact this
  have fin:∀ (jump:Option Code),akq (if e=.nrm then .ready else .done) (aoi e) jump→jump.isNone=decide (e=.nrm)→(if jump.isNone then LoopState.ready else .done)=(if e=.nrm then .ready else .done)→
   ∃ v w',(Instr.endRound B jump).run P w3=.ok v w'∧aw1 (CR P pure') μ Mt w H (bl (decide (e=.nrm))) (H3.set id (.loop (if e=.nrm then .ready else .done) (aoi e) t3 ps3 as3 b3)) (.returned v) w':=by
   intro jump hok hj hst
   refine ⟨_,_,run_endRound jump ho3,_,_,_,rfl,by rw [hj];exact .s _,(pp.trans p3).trans (afj (g':=0) (b':=0) p3.hr hH3 rfl hm3 ho3 (fun _ _ _ e=>by cases e) (fun _ _=>⟨_,rfl⟩) (.inl ⟨rfl,rfl⟩) (fun j hj=>hj) (fun _ _ e=>by cases e) rfl rfl rfl rfl (hwf3 _ _) ?_)⟩
   intro _ μ' Mt' hμ hM
   have hne:∀ K,K≠B→(w3.putObj B (.loop { rec3 with state:=if jump.isNone then .ready else .done,pending:=jump })).heap[K]?=w3.heap[K]?:=fun K hK=>World.putObj_heap_other hK
   refine ⟨rfl,hst,hok,?_,u4,u5,u6⟩;refine VRs.mono hμ (fun K hK hm=>(hM K hK).1 hm) (fun K _ hn=>hne K (fun e=>hn (e ▸ (p3.hr.isMut _ _ _ _ hm3).1))) (fun K a0 e0 fr0 hK=>?_) u3
   have:K≠B:=fun e=>by subst e;rw [ho3] at hK;cases hK
   exact ⟨a0,_,(hne K this).trans hK,rfl⟩
  cases e with
  | nrm=>exact fin none rfl rfl rfl
  | ext i=>exact fin (some (.exit i)) rfl rfl rfl
  | ret=>exact fin (some .ret) rfl rfl rfl
theorem azy (hs:SimCall P (CR P pure') call) (hmix:P.follows .mixedOrders=true) (nn:Nat) (hCP:∀ k c,CP k=some c→aej P pure' k c):SimCall P (CR P pure') (zm CP call (fun b k m=>yt b k m nn)) where
 fn f fst cap args base H r H' h:=by
  obtain ⟨h1,_,h3⟩:=as6 hs hmix nn hCP h;exact ⟨h1,h3⟩
 yld id args base H r H' h:=(ao2 hs hmix nn h).2
 other v args base H h1 h2:=by
  cases v <;> first | rfl | exact absurd rfl (h1 _ _ _) | exact absurd rfl (h2 _)
 floor v args base H r H' h:=by
  by_cases h1:∃ f a b,v=.fn f a b
  ·obtain ⟨f,a,b,rfl⟩:=h1;exact (as6 hs hmix nn hCP h).2.1
  ·by_cases h2:∃ id,v=.yld id
   ·obtain ⟨id,rfl⟩:=h2;exact (ao2 hs hmix nn h).1
   ·exfalso
    cases v <;> first | exact h1 ⟨_,_,_,rfl⟩ | exact h2 ⟨_,rfl⟩ | (simp [zm] at h;done)
theorem atg (hmix:P.follows .mixedOrders=true) (hCP:∀ k c,CP k=some c→aej P pure' k c):∀ n,SimCall P (CR P pure') (aei CP n)
 | 0=>⟨fun _ _ _ _ _ _ _ _ h=>(by cases h),fun _ _ _ _ _ _ h=>(by cases h),fun _ _ _ _ _ _=>rfl,fun _ _ _ _ _ _ h=>(by cases h)⟩
 | n+1=>azy (atg hmix hCP n) hmix n hCP
theorem awq (hmix:P.follows .mixedOrders=true) (hCP:∀ k c,CP k=some c→aej P pure' k c) {n k:Nat} {args:List V} {r:V} (h:aei CP n (.fn k [] []) args 0 []=some (r,H')) {w:World} {cs:Array Value}
 (hargs:VRs (fun _ _=>none) (fun _=>False) w args cs.toList) (hfx:∀ (B:Nat) (o:Array Value × TypeId × Nat × Nat),pure'.fx B=some o→w.heap[B]?=some (.cells o.1 o.2.1 o.2.2)):
 Calls P k cs w fun e w'=>∃ c μ' Mt',e=.returned c∧VR μ' Mt' w' r c∧(∀ B,B < w.heap.size→w'.heap[B]?=w.heap[B]?)∧Tr (fun _ _=>none) w w':=by
 have h0:HR (CR P pure') (fun _ _=>none) (fun _=>False) w []:=⟨fun _ _ _ h=>by simp at h,fun _ _ _ _ h=>by simp at h,fun _ _ _ _ _ h=>by simp at h,fun _ _ _ _ _ _ _ h=>by simp at h,fun _ _ _ _ _ h=>by simp at h,fun _ _ _ _ h=>by simp at h,fun B o e=>⟨hfx B o e,fun h=>h⟩,fun _ _ _ h=>by simp at h⟩
 have:=((atg hmix hCP n).fn k [] [] args 0 [] r H' h).2 _ _ w cs.toList h0 (by simpa using hargs) 0
 simp only [zy] at this;refine callsIn_wide.1 (CallsIn.mono this ?_);rintro e w' ⟨c,μ',Mt',rfl,hv,hp⟩
 exact ⟨c,μ',Mt',rfl,hv,fun B hB=>hp.tr.keep B hB (fun _ _ _ h=>by simp at h),hp.tr⟩
end
section
variable {P:Program} {pure':PX}
theorem asb {α β:Type} {f:α→Option β}:∀ {l:List α} {us:List β},l.mapM f=some us→us.length=l.length∧∀ (i:Nat) (v:α) (u:β),l[i]?=some v→us[i]?=some u→f v=some u:=by
 intro l
 induction l with
 | nil=>intro us h;simp at h;subst h;exact ⟨rfl,fun i v u h=>by simp at h⟩
 | cons x l ih=>
   intro us h;simp only [qa,dz,bu,aj] at h;obtain ⟨v,hv,us',hus,e⟩:=h;cases e;obtain ⟨h1,h2⟩:=ih hus
   refine ⟨by simp [h1],fun i a u ha hu=>?_⟩
   cases i with
   | zero=>simp at ha hu;subst ha;subst hu;exact hv
   | succ i=>exact h2 i a u (by simpa using ha) (by simpa using hu)
theorem aoe {lt:List Nat} {bf:List Nat} {l:List AOper} {i:Nat} {a:AOper} (h:(ze lt bf l)[i]?=some a):∃ b,l[i]?=some b∧(a=b∨(∃ f xs,b.op=.call f xs∧a={ b with op:=.callR f xs })∨∃ k xs,b.op=.callP k xs∧a={ b with op:=.callQ k xs }):=by
 unfold ze at h
 have hi:i < l.length:=by have:=(ae.1 h).1;simpa using this
 have hg:l[i]?=some l[i]:=ah hi;refine ⟨l[i],hg,?_⟩;rw [ow,aty hi] at h;have hd:l.getD i default=l[i]:=ad2 hg;simp only [mf,hd,fu] at h;split at h
 ·rename_i f xs hop;split at h
  ·exact .inl h.symm
  ·exact .inr (.inl ⟨f,xs,hop,h.symm⟩)
 ·rename_i f xs hop;split at h
  ·exact .inl h.symm
  ·exact .inr (.inr ⟨f,xs,hop,h.symm⟩)
 ·exact .inl h.symm
theorem api {l:List AOper} {i:Nat} {a:AOper} (h:(ac9 l)[i]?=some a):∃ b,l[i]?=some b∧(a=b∨∃ sz n s x,b.op=.append sz n s x∧a={ b with op:=.appR sz n s x }):=by
 unfold ac9 at h;rw [ow,au] at h;obtain ⟨b,hb,e⟩:=h;refine ⟨b,hb,?_⟩;split at e
 ·rename_i sz n s x hop;exact .inr ⟨sz,n,s,x,hop,e.symm⟩
 ·exact .inl e.symm
theorem ajv (l:List AOper):(ac9 l).length=l.length:=by simp [ac9]
theorem agz {lt:List Nat} {bf:List Nat} {l:List AOper}:(ze lt bf l).length=l.length:=by simp [ze]
theorem ahw {lt:List Nat} {ops:Array Oper} {draw:Bool} {l:List AOper} {chk:List (Nat × Nat)} (h:ad5 P lt pure' ops draw=some (l,chk)):
 a0b P pure' ops l∧(draw=true→ahi (Region.before ops).toList chk l=true∧ae7 ops=true):=by
 unfold ad5 at h;simp only [bu,aj] at h;obtain ⟨l0,hl0,h⟩:=h;obtain ⟨h1,h2⟩:=asb hl0
 have one:∀ (i:Nat) (o:Oper) (a:AOper),ops[i]?=some o→l0[i]?=some a→a.dst=o.dst∧(ad6 P pure' o=some a.op∨a.op=.stuck)∧ae5 ops o.guard=some a.guard:=by
  intro i o a ho ha
  have:=h2 i o a (by simpa using ho) ha
  unfold ax0 at this;simp only [bu,aj,dz,fu] at this;obtain ⟨g,hg,e⟩:=this;subst e;refine ⟨rfl,?_,hg⟩;cases hop:ad6 P pure' o with
  | none=>exact .inr rfl
  | some op=>exact .inl rfl
 split at h
 ·rename_i hd
  have fin:∀ c,ahi (Region.before ops).toList c (ze lt (Region.before ops).toList l0)=true→ae7 ops=true→a0b P pure' ops (ze lt (Region.before ops).toList l0)∧(draw=true→ahi (Region.before ops).toList c (ze lt (Region.before ops).toList l0)=true∧ae7 ops=true):=by
   intro c hok hbk
   refine ⟨⟨by rw [agz,h1];simp,fun i o a ho ha=>?_⟩,fun _=>⟨hok,hbk⟩⟩
   obtain ⟨b,hb,e⟩:=aoe ha;obtain ⟨k1,k2,k3⟩:=one i o b ho hb
   rcases e with rfl | ⟨f,xs,hop,rfl⟩ | ⟨f,xs,hop,rfl⟩
   ·exact ⟨k1,k2.imp id fun h=>.inr (.inr (.inr h)),k3⟩
   ·exact ⟨k1,.inr (.inl ⟨f,xs,by rw [← hop];exact k2.resolve_right (by rw [hop];intro h;cases h),rfl⟩),k3⟩
   ·exact ⟨k1,.inr (.inr (.inl ⟨f,xs,by rw [← hop];exact k2.resolve_right (by rw [hop];intro h;cases h),rfl⟩)),k3⟩
  split at h
  ·rename_i hok;simp only [dx] at hok;simp only [dz,fu] at h;cases h
   exact fin _ (by simp [ahi,hok.1]) hok.2
  ·split at h
   ·rename_i hok;simp only [dx] at hok;simp only [dz,fu] at h;cases h
    exact fin _ (by simp [ahi,hok.1]) hok.2
   ·split at h
    ·rename_i hok;simp only [dx] at hok;simp only [dz,fu] at h;cases h
     refine ⟨⟨by rw [ajv,agz,h1];simp,fun i o a ho ha=>?_⟩,fun _=>⟨by simp [ahi,hok.1],hok.2⟩⟩
     obtain ⟨b0,hb0,e0⟩:=api ha;obtain ⟨b,hb,e⟩:=aoe hb0;obtain ⟨k1,k2,k3⟩:=one i o b ho hb
     rcases e0 with rfl | ⟨sz,n,s,x,hop,rfl⟩
     ·rcases e with rfl | ⟨f,xs,hop,rfl⟩ | ⟨f,xs,hop,rfl⟩
      ·exact ⟨k1,k2.imp id fun h=>.inr (.inr (.inr h)),k3⟩
      ·exact ⟨k1,.inr (.inl ⟨f,xs,by rw [← hop];exact k2.resolve_right (by rw [hop];intro h;cases h),rfl⟩),k3⟩
      ·exact ⟨k1,.inr (.inr (.inl ⟨f,xs,by rw [← hop];exact k2.resolve_right (by rw [hop];intro h;cases h),rfl⟩)),k3⟩
     ·rcases e with rfl | ⟨f,xs,hop',rfl⟩ | ⟨f,xs,hop',rfl⟩
      ·exact ⟨k1,.inr (.inr (.inr (.inl ⟨sz,n,s,x,by rw [← hop];exact k2.resolve_right (by rw [hop];intro h;cases h),rfl⟩))),k3⟩
      ·cases hop
      ·cases hop
    ·cases h
 ·rename_i hd;simp only [dz,fu] at h;cases h
  refine ⟨⟨by rw [h1];simp,fun i o a ho ha=>?_⟩,fun e=>absurd e hd⟩
  obtain ⟨k1,k2,k3⟩:=one i o a ho ha;exact ⟨k1,k2.imp id fun h=>.inr (.inr (.inr h)),k3⟩
theorem awp {lt:List Nat}:∀ (c:Code) (ac:ACode),zo P lt pure' c=some ac.bare→CodeR P pure' c ac:=by
 intro c
 induction c with
 | skip=>intro ac h;simp only [zo,fu] at h;cases ac <;> simp only [ACode.bare] at h <;> first | exact .skip | cases h
 | exit id=>intro ac h;simp only [zo,fu] at h;cases ac <;> simp only [ACode.bare] at h <;> first | (cases h;done) | (cases h;exact .exit _)
 | label l=>intro ac h;simp only [zo,fu] at h;cases ac <;> simp only [ACode.bare] at h <;> first | exact .label _ | cases h
 | ret=>intro ac h;simp only [zo,fu] at h;cases ac <;> simp only [ACode.bare] at h <;> first | exact .ret | cases h
 | scope c=>intro ac h;simp [zo] at h
 | goto l=>intro ac h;simp [zo] at h
 | refuse w=>intro ac h;simp [zo] at h
 | region id ops draw=>
   intro ac h;simp only [zo] at h;split at h
   ·rename_i q hr;obtain ⟨l,chk⟩:=q;simp only [fu] at h;obtain ⟨h1,h2⟩:=ahw hr;have e:=h
    cases ac <;> simp only [ACode.bare] at e <;> first | (cases e;done) | (cases e;exact .region _ _ _ _ _ _ h1 h2) | (cases e;exact .regionE _ _ _ _ _ _ h1 h2)
   ·split at h
    ·rename_i hdp;rw [dx] at hdp;obtain ⟨rfl,hp⟩:=hdp;rw [au] at h;obtain ⟨⟨l,chk⟩,hr,e⟩:=h;obtain ⟨h1,h2⟩:=ahw hr
     cases ac <;> simp only [ACode.bare] at e <;> first | (cases e;done) | (cases e;exact .regionP _ _ _ _ _ _ hp h1 (h2 rfl)) | (cases e;exact .regionPE _ _ _ _ _ _ hp h1 (h2 rfl))
    ·cases h
 | seq a b iha ihb=>
   intro ac h;simp only [zo,bu,aj,dz,fu] at h;obtain ⟨x,hx,y,hy,e⟩:=h
   cases ac <;> simp only [ACode.bare] at e <;> first | (cases e;done) | (cases e;exact .seq _ _ _ _ (iha _ hx) (ihb _ hy))
 | cond c a b iha ihb=>
   intro ac h;simp only [zo,bu,aj,dz,fu] at h;obtain ⟨o,ho,x,hx,y,hy,e⟩:=h
   cases ac <;> simp only [ACode.bare] at e <;> first | (cases e;done) | (cases e;exact .cond _ _ _ _ _ _ ho (iha _ hx) (ihb _ hy))
 | block id c ih=>
   intro ac h;simp only [zo,bu,aj,dz,fu] at h;obtain ⟨x,hx,e⟩:=h
   cases ac <;> simp only [ACode.bare] at e <;> first | (cases e;done) | (cases e;exact .block _ _ _ (ih _ hx))
 | loop c ih=>
   intro ac h;simp only [zo,bu,aj,dz,fu] at h;obtain ⟨x,hx,e⟩:=h
   cases ac <;> simp only [ACode.bare] at e <;> first | (cases e;done) | (cases e;exact .loop _ _ _ (ih _ hx))
 | rangeFunc f ps a b iha ihb=>
   intro ac h;simp only [zo,bu,aj,dz,fu] at h;obtain ⟨o,ho,x,hx,y,hy,e⟩:=h
   cases ac <;> simp only [ACode.bare] at e <;> first | (cases e;done) | (cases e;exact .rangeFunc _ _ _ _ _ _ _ ho (iha _ hx) (ihb _ hy))
def ao4 (lt:List Nat) (P:Program) (pure':PX) (k:Nat):Option (Bool × Nat × List ARes × ACode):=
 match P.funcs[k]? with
 | some fn=>match fn.body with
   | some body=>match zo P lt pure' body,fn.results.toList.mapM (ajd P) with
     | some a, some rs => some (fn.name == "runtime.NumGoroutine", fn.ntmps, rs, a)
     | _,_=>none
   | none=>none
 | none=>none
abbrev qi (P:Program) (pure':PX) (k:Nat):Option (Bool × Nat × List ARes × ACode):=ao4 [] P pure' k
theorem a9k {lt:List Nat} {k:Nat} {c:ACFun} (h:ao4 lt P pure' k=some (false,c.ntmps,c.results,c.body.bare)):aej P pure' k (.code c):=by
 unfold ao4 at h;split at h
 ·rename_i fn hfn;split at h
  ·rename_i body hb;split at h
   ·rename_i a rs ha hrs;simp only [fu,aks] at h;obtain ⟨h1,h2,h3,h4⟩:=h
    exact ⟨fn,body,hfn,hb,h1,awp _ _ (by rw [ha,h4]),h2,by rw [hrs,h3]⟩
   ·cases h
  ·cases h
 ·cases h
end
def Le (c c':ni):Prop:=∀ v args base H r,c v args base H=some r→c' v args base H=some r
theorem a4i {c c':ni} (h:Le c c') {base:Nat} {fr:List V} {H:Heap} {op:AOp} {r:V × Heap} (he:ku c base fr H op=some r):ku c' base fr H op=some r:=by
 cases op
 case call f xs=>exact h _ _ _ _ _ he
 case callR f xs=>exact h _ _ _ _ _ he
 case callP f xs=>
  simp only [ku] at he ⊢;split at he
  ·rename_i us hus;split at he
   ·rename_i v H' hc;rw [h _ _ _ _ _ hc];exact he
   ·cases he
  ·cases he
 case callQ f xs=>
  simp only [ku] at he ⊢;split at he
  ·rename_i hp;rw [if_pos hp];split at he
   ·rename_i v H' hc;rw [h _ _ _ _ _ hc];exact he
   ·cases he
  ·cases he
 all_goals exact he
theorem aqa {c c':ni} (h:Le c c') {base:Nat}:∀ (l:List AOper) {fr:List V} {H:Heap} {r:List V × Heap},mi c base l fr H=some r→mi c' base l fr H=some r:=by
 intro l
 induction l with
 | nil=>intro fr H r he;exact he
 | cons o l ih=>
   intro fr H r he;simp only [mi] at he ⊢;split at he
   ·cases he
   ·exact ih he
   ·split at he
    ·rename_i v H1 h1;rw [a4i h h1];exact ih he
    ·cases he
theorem ams {c:ni} {base:Nat}:∀ (l:List AOper) {fr:List V} {H:Heap} {r:List V × Heap},mi c base l fr H=some r→∀ k,∃ r',mi c base (l.take k) fr H=some r':=by
 intro l fr H r h k;rw [← abd k l,as2] at h;cases he:mi c base (l.take k) fr H with
 | none=>rw [he] at h;cases h
 | some r'=>exact ⟨r',rfl⟩
theorem asn {c c':ni} (h:Le c c') {base:Nat} {l:List AOper} {fr fr':List V} {H:Heap} {r:List V × Heap} (he:mi c base l fr H=some r):ahm c' base l fr H fr'=ahm c base l fr H fr':=by
 have hk:∀ k,mi c' base (l.take k) fr H=mi c base (l.take k) fr H:=fun k=>by
  obtain ⟨r',hr⟩:=ams l he k;rw [hr];exact aqa h _ hr
 funext p
 simp only [ahm,ae6,hk]
theorem aho {b b':List V→Heap→Option St} (hb:∀ fr H r,b fr H=some r→b' fr H=some r) {kill:List Nat} {m:Nat}:∀ {n n':Nat},n≤n'→∀ {fr:List V} {H:Heap} {r:St},yt b kill m n fr H=some r→yt b' kill m n' fr H=some r:=by
 intro n
 induction n with
 | zero=>intro n' _ fr H r h;simp [yt] at h
 | succ n ih=>
   intro n' hn fr H r h
   obtain ⟨k,rfl⟩:∃ k,n'=k+1:=⟨n' - 1,by omega⟩
   simp only [yt] at h ⊢;split at h
   ·rename_i fr1 H1 h1;rw [hb _ _ _ h1]
    exact ih (by omega) h
   ·rename_i e fr1 H1 hne h1;rw [hb _ _ _ h1];split
    ·rename_i e' ;cases e';exact (hne rfl).elim
    ·rename_i e';cases e';exact h
    ·rename_i e';cases e'
   ·cases h
abbrev itN (n:Nat):zt:=fun b k m=>yt b k m n
theorem as7 {c c':ni} (h:Le c c') {n n':Nat} (hn:n≤n') {base:Nat}:∀ (ac:ACode) {fr:List V} {H:Heap} {r:St},evC c (itN n) base ac fr H=some r→evC c' (itN n') base ac fr H=some r:=by
 intro ac
 induction ac with
 | skip=>intro fr H r he;exact he
 | regionE ops kill outs=>intro fr H r he;exact he
 | region ops chk kill=>
   intro fr H r he;simp only [evC] at he ⊢;split at he
   ·rename_i fr1 H1 h1;rw [aqa h ops h1];simp only [asn h h1];exact he
   ·cases he
 | seq a b iha ihb=>
   intro fr H r he;simp only [evC] at he ⊢;split at he
   ·rename_i fr1 H1 h1;rw [iha h1];exact ihb he
   ·rename_i hne;have:=iha he;rw [this];split
    ·rename_i e;cases e;exact (hne _ _ he).elim
    ·rfl
 | cond o a b iha ihb=>
   intro fr H r he;simp only [evC] at he ⊢;split at he
   ·exact iha he
   ·exact ihb he
   ·cases he
 | block id a ih=>
   intro fr H r he;simp only [evC] at he ⊢;split at he
   ·rename_i id' fr1 H1 h1;rw [ih h1];exact he
   ·rename_i hne;rw [ih he];split
    ·rename_i e;cases e;exact (hne _ _ _ he).elim
    ·rfl
 | loop kill a ih=>
   intro fr H r he;simp only [evC] at he ⊢;exact aho (fun fr H r=>ih) hn he
 | rangeFunc f ps a b _ _=>
   intro fr H r he;simp only [evC] at he ⊢;split at he
   ·split at he
    ·rename_i v H2 hc;rw [h _ _ _ _ _ hc];exact he
    ·cases he
   ·cases he
 | exit id=>intro fr H r he;exact he
 | ret=>intro fr H r he;exact he
theorem a4q {CP:Nat→Option CFun} {c c':ni} (h:Le c c') {n n':Nat} (hn:n≤n'):Le (zm CP c (itN n)) (zm CP c' (itN n')):=by
 intro v args base H r he
 cases v <;> simp only [zm] at he ⊢ <;> first | (cases he;done) | skip
 case fn f x y=>
  split at he
  ·rename_i cf hcf;split at he
   ·rename_i fr1 H1 h1;rw [as7 h hn _ h1];exact he
   ·rename_i fr1 H1 h1;rw [as7 h hn _ h1];exact he
   ·cases he
  ·exact he
  ·cases he
 case yld id=>
  split at he
  case isFalse=>cases he
  rename_i hb;rw [if_pos hb];split at he
  case h_2=>cases he
  split at he
  case h_2=>cases he
  split at he
  case h_2=>cases he
  rename_i h1;rw [as7 h hn _ h1];simp only [];split at he
  case h_2=>cases he
  split at he
  case h_2=>cases he
  rename_i h2;rw [as7 h hn _ h2];exact he
theorem ao8 {CP:Nat→Option CFun}:∀ n,Le (aei CP n) (aei CP (n+1))
 | 0=>fun _ _ _ _ _ h=>by cases h
 | n+1=>a4q (ao8 n) (atx n)
theorem ahx {CP:Nat→Option CFun} {n m:Nat} (h:n≤m):Le (aei CP n) (aei CP m):=by
 induction m with
 | zero=>have:n=0:=by omega
         subst this;exact fun _ _ _ _ _ h=>h
 | succ m ih=>
   by_cases hn:n=m+1
   ·subst hn;exact fun _ _ _ _ _ h=>h
   ·exact fun v a b H r hr=>ao8 m v a b H r (ih (by omega) v a b H r hr)
open Classical in
noncomputable def dn (CP:Nat→Option CFun):ni:=fun v args base H=>if h:∃ r n,aei CP n v args base H=some r then some h.choose else none
open Classical in
noncomputable def itW:zt:=fun b k m fr H=>if h:∃ r n,yt b k m n fr H=some r then some h.choose else none
variable {CP:Nat→Option CFun}
theorem aql {n:Nat} {v:V} {args:List V} {base:Nat} {H:Heap} {r:V × Heap} (h:aei CP n v args base H=some r):dn CP v args base H=some r:=by
 have hx:∃ r n,aei CP n v args base H=some r:=⟨r,n,h⟩;unfold dn;rw [dif_pos hx];obtain ⟨m,hm⟩:=hx.choose_spec;have h1:=ahx (abb n m) _ _ _ _ _ h;have h2:=ahx (aau n m) _ _ _ _ _ hm;rw [h1] at h2;exact h2.symm
theorem ad7 {v:V} {args:List V} {base:Nat} {H:Heap} {r:V × Heap} (h:dn CP v args base H=some r):∃ n,aei CP n v args base H=some r:=by
 unfold dn at h;split at h
 ·rename_i hx;obtain ⟨m,hm⟩:=hx.choose_spec;exact ⟨m,hm.trans h⟩
 ·cases h
theorem a3l {b:List V→Heap→Option St} {k:List Nat} {m n:Nat} {fr:List V} {H:Heap} {r:St} (h:yt b k m n fr H=some r):itW b k m fr H=some r:=by
 have hx:∃ r n,yt b k m n fr H=some r:=⟨r,n,h⟩;unfold itW;rw [dif_pos hx];obtain ⟨j,hj⟩:=hx.choose_spec;have h1:=aho (fun _ _ _ h=>h) (abb n j) h;have h2:=aho (fun _ _ _ h=>h) (aau n j) hj;rw [h1] at h2;exact h2.symm
theorem axq {b:List V→Heap→Option St} {k:List Nat} {m:Nat} {fr:List V} {H:Heap} {r:St} (h:itW b k m fr H=some r):∃ n,yt b k m n fr H=some r:=by
 unfold itW at h;split at h
 ·rename_i hx;obtain ⟨j,hj⟩:=hx.choose_spec;exact ⟨j,hj.trans h⟩
 ·cases h
theorem a4j {base:Nat} {fr:List V} {H:Heap} {op:AOp} {r:V × Heap} (he:ku (dn CP) base fr H op=some r):∃ n,ku (aei CP n) base fr H op=some r:=by
 cases op
 case call f xs=>exact ad7 he
 case callR f xs=>exact ad7 he
 case callP f xs=>
  simp only [ku] at he;split at he
  ·rename_i us hus;split at he
   ·rename_i v H' hc;obtain ⟨n,hn⟩:=ad7 hc;refine ⟨n,?_⟩;simp only [ku,hus,hn];exact he
   ·cases he
  ·cases he
 case callQ f xs=>
  simp only [ku] at he;split at he
  ·rename_i hp;split at he
   ·rename_i v H' hc;obtain ⟨n,hn⟩:=ad7 hc;refine ⟨n,?_⟩;simp only [ku,if_pos hp,hn];exact he
   ·cases he
  ·cases he
 all_goals exact ⟨0,he⟩
theorem azr {base:Nat}:∀ (l:List AOper) {fr:List V} {H:Heap} {r:List V × Heap},mi (dn CP) base l fr H=some r→∃ n,mi (aei CP n) base l fr H=some r:=by
 intro l
 induction l with
 | nil=>intro fr H r he;exact ⟨0,he⟩
 | cons o l ih=>
   intro fr H r he;simp only [mi] at he;split at he
   ·cases he
   ·rename_i hw;obtain ⟨n,hn⟩:=ih he
    exact ⟨n,by simp only [mi,hw,hn]⟩
   ·rename_i hw;split at he
    ·rename_i v H1 h1;obtain ⟨n1,hn1⟩:=a4j h1;obtain ⟨n2,hn2⟩:=ih he;refine ⟨max n1 n2,?_⟩;simp only [mi,hw,a4i (ahx (abb n1 n2)) hn1];exact aqa (ahx (aau n1 n2)) l hn2
    ·cases he
theorem azl {bW:List V→Heap→Option St} {b:Nat→List V→Heap→Option St} (hmono:∀ n m,n≤m→∀ fr H r,b n fr H=some r→b m fr H=some r) (hb:∀ fr H r,bW fr H=some r→∃ n,b n fr H=some r) {kill:List Nat} {m:Nat}:
 ∀ (k:Nat) {fr:List V} {H:Heap} {r:St},yt bW kill m k fr H=some r→∃ n,yt (b n) kill m k fr H=some r:=by
 intro k
 induction k with
 | zero=>intro fr H r h;simp [yt] at h
 | succ k ih=>
   intro fr H r h;simp only [yt] at h;split at h
   ·rename_i fr1 H1 h1;obtain ⟨n1,hn1⟩:=hb _ _ _ h1;obtain ⟨n2,hn2⟩:=ih h;refine ⟨max n1 n2,?_⟩;simp only [yt,hmono _ _ (abb n1 n2) _ _ _ hn1];exact aho (hmono _ _ (aau n1 n2)) (af _) hn2
   ·rename_i e fr1 H1 hne h1;obtain ⟨n1,hn1⟩:=hb _ _ _ h1;refine ⟨n1,?_⟩;simp only [yt,hn1];cases e with
    | nrm=>exact (hne rfl).elim
    | ext id=>exact h
    | ret=>exact h
   ·cases h
noncomputable def evN (CP:Nat→Option CFun) (base:Nat) (ac:ACode) (n:Nat):List V→Heap→Option St:=evC (aei CP n) (itN n) base ac
theorem ao1 {base:Nat} {ac:ACode} {n m:Nat} (h:n≤m) {fr:List V} {H:Heap} {r:St} (he:evN CP base ac n fr H=some r):evN CP base ac m fr H=some r:=as7 (ahx h) h ac he
theorem akp {base:Nat}:∀ (ac:ACode) {fr:List V} {H:Heap} {r:St},evC (dn CP) itW base ac fr H=some r→∃ n,evN CP base ac n fr H=some r:=by
 intro ac
 induction ac with
 | skip=>intro fr H r he;exact ⟨0,he⟩
 | regionE ops kill outs=>intro fr H r he;exact ⟨0,he⟩
 | region ops chk kill=>
   intro fr H r he;simp only [evC] at he;split at he
   ·rename_i fr1 H1 h1;obtain ⟨n,hn⟩:=azr ops h1;have hl:Le (aei CP n) (dn CP):=fun _ _ _ _ _ h=>aql h;refine ⟨n,?_⟩;simp only [evN,evC,hn];simp only [asn hl hn] at he;exact he
   ·cases he
 | seq a b iha ihb=>
   intro fr H r he;simp only [evC] at he;split at he
   ·rename_i fr1 H1 h1;obtain ⟨n1,hn1⟩:=iha h1;obtain ⟨n2,hn2⟩:=ihb he;refine ⟨max n1 n2,?_⟩;have k1:=ao1 (abb n1 n2) hn1;have k2:=ao1 (aau n1 n2) hn2;simp only [evN,evC] at k1 ⊢;rw [k1];exact k2
   ·rename_i hne;obtain ⟨n,hn⟩:=iha he;refine ⟨n,?_⟩;simp only [evN,evC] at hn ⊢;rw [hn];split
    ·rename_i e;cases e;exact (hne _ _ he).elim
    ·rfl
 | cond o a b iha ihb=>
   intro fr H r he;simp only [evC] at he;split at he
   ·rename_i hc;obtain ⟨n,hn⟩:=iha he
    exact ⟨n,by simp only [evN,evC,hc];exact hn⟩
   ·rename_i hc;obtain ⟨n,hn⟩:=ihb he
    exact ⟨n,by simp only [evN,evC,hc];exact hn⟩
   ·cases he
 | block id a ih=>
   intro fr H r he;simp only [evC] at he;split at he
   ·rename_i id' fr1 H1 h1;obtain ⟨n,hn⟩:=ih h1
    exact ⟨n,by simp only [evN,evC] at hn ⊢;rw [hn];exact he⟩
   ·rename_i hne;obtain ⟨n,hn⟩:=ih he;refine ⟨n,?_⟩;simp only [evN,evC] at hn ⊢;rw [hn];split
    ·rename_i e;cases e;exact (hne _ _ _ he).elim
    ·rfl
 | loop kill a ih=>
   intro fr H r he;simp only [evC] at he;obtain ⟨k,hk⟩:=axq he;obtain ⟨n,hn⟩:=azl (b:=evN CP base a) (fun n m h fr H r=>ao1 h) (fun fr H r=>ih) k hk;refine ⟨max n k,?_⟩;simp only [evN,evC];exact aho (fun fr H r h=>ao1 (abb n k) h) (aau n k) hn
 | rangeFunc f ps a b _ _=>
   intro fr H r he;simp only [evC] at he;split at he
   ·rename_i k x y hf;split at he
    ·rename_i v H2 hc;obtain ⟨n,hn⟩:=ad7 hc;refine ⟨n,?_⟩;simp only [evN,evC,hf,hn];exact he
    ·cases he
   ·cases he
 | exit id=>intro fr H r he;exact ⟨0,he⟩
 | ret=>intro fr H r he;exact ⟨0,he⟩
theorem awh {v:V} {args:List V} {base:Nat} {H:Heap} {r:V × Heap} (he:zm CP (dn CP) itW v args base H=some r):∃ n,zm CP (aei CP n) (itN n) v args base H=some r:=by
 cases v <;> simp only [zm] at he ⊢ <;> first | (cases he;done) | skip
 case fn f x y=>
  split at he
  ·rename_i cf hcf;split at he
   ·rename_i fr1 H1 h1;obtain ⟨n,hn⟩:=akp _ h1;refine ⟨n,?_⟩;simp only [evN] at hn;simp only [hn];exact he
   ·rename_i fr1 H1 h1;obtain ⟨n,hn⟩:=akp _ h1;refine ⟨n,?_⟩;simp only [evN] at hn;simp only [hn];exact he
   ·cases he
  ·rename_i g hg;exact ⟨0,he⟩
  ·cases he
 case yld id=>
  split at he
  case isFalse=>cases he
  rename_i hb;split at he
  case h_2=>cases he
  rename_i hH;split at he
  case h_2=>cases he
  rename_i hset;split at he
  case h_2=>cases he
  rename_i h1;split at he
  case h_2=>cases he
  rename_i hH1;split at he
  case h_2=>cases he
  rename_i h2;obtain ⟨n1,hn1⟩:=akp _ h1;obtain ⟨n2,hn2⟩:=akp _ h2;have k1:=ao1 (abb n1 n2) hn1;have k2:=ao1 (aau n1 n2) hn2;refine ⟨max n1 n2,?_⟩;simp only [evN] at k1 k2;simp only [hb,if_true,hset,k1,hH1,k2];exact he
theorem abz {v:V} {args:List V} {base:Nat} {H:Heap} {r:V × Heap} (he:zm CP (dn CP) itW v args base H=some r):dn CP v args base H=some r:=by
 obtain ⟨n,hn⟩:=awh he;exact aql (n:=n+1) hn
theorem bhx {b:List V→Heap→Option St} {k:List Nat} {m:Nat} {fr fr':List V} {H H':Heap} {r:St} (h1:b fr H=some (.nrm,fr',H')) (h2:itW b k m (ru k fr') (trim m (ru k fr') H')=some r):itW b k m fr H=some r:=by
 obtain ⟨n,hn⟩:=axq h2;refine a3l (n:=n+1) ?_;simp only [yt,h1];exact hn
theorem axp {b:List V→Heap→Option St} {k:List Nat} {m:Nat} {fr fr':List V} {H H':Heap} {e:Ex} (hne:e≠.nrm) (h1:b fr H=some (e,fr',H')):itW b k m fr H=some (e,ru k fr',trim m (ru k fr') H'):=by
 refine a3l (n:=1) ?_;simp only [yt,h1]
open Go.RowKit Go.ChangeShapes Go.WideShapes Go.ChangeAt
section
variable {P:Program} {pure':PX} {CP:Nat→Option CFun} {H:Type} {enc:TypeId × Value→H}
theorem bc7 {w w':World} {may:MemPlace→Prop} (hk:∀ B,B < w.heap.size→w'.heap[B]?=w.heap[B]?) (ht:Tr (fun _ _=>none) w w'):w.keptBut w' may:=by
 refine ⟨ht.os,ht.output,fun i hi=>?_⟩;rw [hk i hi];cases w.heap[i]? with
 | none=>rfl
 | some o=>cases o <;> simp
theorem a1u {f:Func} {s:ChangeSpec} {again:Bool} {W W':World} {args:Array Value} {v:Value} {ds gs:List (DataW H)} {before:List MemPlace}
 (hW:DataW.Whole enc P f.params.toList s.vars false W args.toList ds gs before) {pa pv:List MemPlace}
 (hres:∀ (b:Nat) (sp:Nat→Bool) (hd:Bool),DataW.TrodAll enc P W' b sp hd f.resultTypes.toList (v.resultList f.resultTypes.size) (s.fn H (ds ++ gs)).results [])
 (hargs:∀ sp:Nat→Bool,(∀ p∈before,sp p.block=true)→DataW.TrodAll enc P W' 0 sp true f.params.toList args.toList (s.fn H (ds ++ gs)).args pa)
 (hvars:∀ sp:Nat→Bool,(∀ p∈before,sp p.block=true)→DataW.TrodVars enc P W' sp s.vars (s.fn H (ds ++ gs)).vars pv)
 (hps:before=pa ++ pv) (hk:W.keptBut W' (·∈before)) (hfz:∀ b off,MemPlace.cell b off∈before→W'.frozen? ⟨b,off,none⟩=W.frozen? ⟨b,off,none⟩)
 (hok:∀ (j:Nat) (t:TypeId) (r:Value),f.resultTypes[j]?=some t→(v.resultList f.resultTypes.size)[j]?=some r→Value.okWide P W' .any 0 t r):
 s.post enc P f false true false again W args v W':=by
 have old:∀ p∈before,(fun b=>decide (b < W.heap.size)) p.block=true:=fun p hp=>by simpa using hW.lt p hp
 refine ⟨ds,gs,before,[],pa,pv,hW,hres _ _ _,hargs _ old,hvars _ old,World.keptBut_mono (fun p hp=>⟨hp,?_⟩) hk,fun _=>?_⟩
 ·rw [hps,ou] at hp;exact .inr hp
 ·obtain ⟨_,_,_,_,_,hz,_⟩:=hW
  refine ⟨hok,_,_,([] ++ pa) ++ pv,⟨[] ++ pa,pv,trodAll_append (hargs _ fun _ _=>rfl) (hres _ _ _),hvars _ fun _ _=>rfl,rfl,fun b off hp=>?_,fun h=>by cases h⟩,fun p hp _=>by rw [hps];simpa using hp⟩
  have hb:MemPlace.cell b off∈before:=by rw [hps];simpa using hp
  rw [hfz b off hb];exact hz b off hb
theorem agw {w w':World} {base:Nat} {sp:Nat→Bool} {held:Bool}:∀ {ts:List TypeId} {vs:List Value} {ds:List (DataW H)} {ps:List MemPlace},DataW.TrodAll enc P w base sp held ts vs ds ps→(∀ p∈ps,w.sameAt w' p)→DataW.TrodAll enc P w' base sp held ts vs ds ps
 | [],[],[],_,h,_=>h
 | _ :: _,_ :: _,_ :: _,_,⟨p,q,⟨n,h1⟩,h2,e⟩,hs=>⟨p,q,⟨n,DataW.trod_carry n _ _ _ h1 (fun x hx=>hs x (by rw [e];exact lq _ hx))⟩,agw h2 (fun x hx=>hs x (by rw [e];exact oh _ hx)),e⟩
theorem trodAll_length {w:World} {base:Nat} {sp:Nat→Bool} {held:Bool}:∀ {ts:List TypeId} {vs:List Value} {ds:List (DataW H)} {ps:List MemPlace},DataW.TrodAll enc P w base sp held ts vs ds ps→ds.length=ts.length
 | [],[],[],_,_=>rfl
 | _ :: _,_ :: _,_ :: _,_,⟨_,_,_,h2,_⟩=>by simp [trodAll_length h2]
theorem a1e {w w':World} {p:MemPlace} (h:w'.heap[p.block]?=w.heap[p.block]?):w.sameAt w' p:=by
 cases p with
 | cell b off=>
   show w'.cell? ⟨b,off,none⟩=w.cell? ⟨b,off,none⟩;have h:w'.heap[b]?=w.heap[b]?:=h;simp only [World.cell?,h]
 | map b=>exact h
theorem asl (hmix:P.follows .mixedOrders=true) (hCP:∀ k c,CP k=some c→aej P pure' k c) (hl:laidOutB P=true) (hm:mapsRowed P=true)
 (hz:((List.range P.types.size).all fun t=>match P.underlying t with | some (.slice e)=>decide (0 < P.cellsOf e) | _=>true)=true)
 {k:Nat} {fn:Func} {s:ChangeSpec} {tb:TypeId} (hvars:s.vars=[]) (hres:fn.resultTypes=#[tb]) (htb:P.underlying tb=some .bool) (hpar:∀ t∈fn.params.toList,t < P.types.size)
 (hspec:∀ ds:List (DataW H),ds.length=fn.params.toList.length→s.fn H ds={ results:=[.lit (.bool true)],args:=ds })
 {W:World} {args:Array Value} {ds gs:List (DataW H)} {before:List MemPlace} (hW:DataW.Whole enc P fn.params.toList s.vars false W args.toList ds gs before)
 (hv:∃ vs,VRs (fun _ _=>none) (fun _=>False) W vs args.toList∧∃ n H',aei CP n (.fn k [] []) vs 0 []=some (bl true,H')) (hfx:∀ (B:Nat) (o:Array Value × TypeId × Nat × Nat),pure'.fx B=some o→W.heap[B]?=some (.cells o.1 o.2.1 o.2.2)):
 Calls P k args W fun e W'=>∃ v,e=.returned v∧s.post enc P fn false true false false W args v W':=by
 obtain ⟨vs,hvs,n,H',hc⟩:=hv;refine (awq hmix hCP hc hvs hfx).mono ?_;rintro e W' ⟨c,μ',Mt',rfl,hr,hk,htr⟩;have hcv:c=.bool true:=aaa hr;subst hcv;have hlt:=hW.lt;have hW0:=hW;obtain ⟨p,q,h1,h2,e1,h3,h4⟩:=hW;rw [hvars] at h2
 obtain ⟨rfl,rfl⟩:gs=[]∧q=[]:=by
  cases gs with
  | nil=>exact ⟨rfl,h2⟩
  | cons g gs=>exact h2.elim
 have hbp:before=p:=by simpa using e1
 have hds:=trodAll_length h1
 have hfn:s.fn H (ds ++ [])={ results:=[.lit (.bool true)],args:=ds }:=by rw [oz];exact hspec ds hds
 refine ⟨_,rfl,a1u (pa:=before) (pv:=[]) hW0 (fun b sp hd=>?_) (fun sp hsp=>?_) (fun sp _=>?_) (by simp) (bc7 hk htr) (fun b off hp=>?_) (ok_one hres rfl (okWide_bool_mk htb true))⟩
 ·rw [hfn,hres]
  exact ⟨[],[],⟨1,by simp [DataW.trod,Value.cells,htb]⟩,rfl,rfl⟩
 ·rw [hfn]
  have h5:=DataW.TrodAll.respare (kids_rows hl hm) (fun t e ht he=>slices_full_of P hz t e ht he) hpar h1 (spare':=sp) (fun x hx=>hsp x (by rw [hbp];exact hx))
  rw [hbp]
  exact agw h5 fun x hx=>a1e (hk _ (hlt x (by rw [hbp];exact hx)))
 ·rw [hfn,hvars];rfl
 ·simp only [World.frozen?,hk b (hlt _ hp)]
end
theorem ay8 (p x y:Bool):apz (some (.s (.bool p))) (some (.s (.bool x))) (some (.s (.bool y)))=some (.s (.bool (bif p then x else y))):=by cases p <;> rfl
theorem ay7 (x y:Option V):apz (some (.s (.bool true))) x y=x:=rfl
theorem avl (x y:Option V):apz (some (.s (.bool false))) x y=y:=rfl
theorem ad1 {fr:List V} {s:Nat} {v:V} (h:s < fr.length):(fr.set s v).getD s .unk=v:=by simp [h]
theorem acz {fr:List V} {s t:Nat} {v:V} (h:s≠t):(fr.set s v).getD t .unk=fr.getD t .unk:=by simp [h]
theorem mr {m:Nat} {fr:List V} {H:Heap} (h:H.length=m):trim m fr H=H:=by
 unfold trim;split
 ·rw [← h];exact ky
 ·rfl
inductive RI where
 | keep (g:List (Nat × Bool × E)) (e:E)
 | sub (src:Nat) (path slots:List Nat)
 | tt (i:Nat)
 | cc (v:V)
 deriving Inhabited
def adn:List Nat→List Nat→E→List (Nat × Bool × E) × E
 | [],_,e=>([],e)
 | i :: p,ss,.op _ xs=>adn p ss (xs.getD i (.c .unk))
 | 0 :: p,ss,.pick c _ _=>adn p ss c
 | 1 :: p,s :: ss,.pick c a _=>((s,true,c) :: (adn p ss a).1,(adn p ss a).2)
 | 2 :: p,s :: ss,.pick c _ b=>((s,false,c) :: (adn p ss b).1,(adn p ss b).2)
 | _,_,_=>([],.c .unk)
def afu:List RI→List (List (Nat × Bool × E) × E)
 | []=>[]
 | .keep g e :: r=>(g,e) :: afu r
 | _ :: r=>afu r
def frees:List RI→List E
 | []=>[]
 | .keep [] e :: r=>e :: frees r
 | _ :: r=>frees r
def RI.get (S:List E):RI→List (Nat × Bool × E) × E
 | .keep g e=>(g,e)
 | .sub s p ss=>adn p ss (S.getD s (.c .unk))
 | .tt i=>([],.t i)
 | .cc v=>([],.c v)
def aoz (items:List RI) (os:List (Nat × E)):List (List (Nat × Bool × E) × E):=items.map (RI.get (os.map (·.2) ++ frees items))
theorem a9u {fr:List V} {H:Heap}:∀ {xs:List E} {i:Nat},(aqb fr H xs).isSome=true→(evE fr H (xs.getD i (.c .unk))).isSome=true:=by
 intro xs
 induction xs with
 | nil=>intro i _;simp [evE]
 | cons x xs ih=>
   intro i h;simp only [aqb] at h;cases hx:evE fr H x with
   | none=>simp [hx] at h
   | some v=>
     cases hs:aqb fr H xs with
     | none=>simp [hx,hs] at h
     | some vs=>
       cases i with
       | zero=>simp [hx]
       | succ i=>simpa using ih (i:=i) (by rw [hs];rfl)
theorem aia {fr:List V} {H:Heap}:∀ (p ss:List Nat) (e:E),(evE fr H e).isSome=true→ajm fr H (adn p ss e).1 (adn p ss e).2=true:=by
 intro p
 induction p with
 | nil=>intro ss e h;simp only [adn,ajm];exact h
 | cons i p ih=>
   intro ss e h;cases e with
   | op o xs=>
     simp only [adn];refine ih _ _ (a9u ?_);simp only [evE] at h;cases hs:aqb fr H xs with
     | none=>simp [hs] at h
     | some vs=>rfl
   | pick c a b=>
     simp only [evE] at h;cases hc:evE fr H c with
     | none=>simp [hc,apz] at h
     | some v=>
       rw [hc] at h
       match i,ss with
       | 0,ss=>simp only [adn];exact ih _ _ (by rw [hc];rfl)
       | 1,[]=>simp only [adn,ajm,evE];rfl
       | 2,[]=>simp only [adn,ajm,evE];rfl
       | 1,s :: ss=>
         simp only [adn,ajm,hc];unfold apz at h;split at h
         ·rename_i e;cases e;simp only [a6f,if_true];exact ih _ _ h
         ·rename_i e;cases e;simp [a6f]
         ·cases h
       | 2,s :: ss=>
         simp only [adn,ajm,hc];unfold apz at h;split at h
         ·rename_i e;cases e;simp [a6f]
         ·rename_i e;cases e;simp only [a6f,if_true];exact ih _ _ h
         ·cases h
       | i+3,ss=>simp only [adn,ajm,evE];rfl
   | t j=>simp only [adn,ajm,evE];rfl
   | c v=>simp only [adn,ajm,evE];rfl
theorem aq7 {fr:List V} {H:Heap}:∀ {os:List (Nat × E)} {f g:List V},aak fr H os f=some g→∀ p∈os,(evE fr H p.2).isSome=true:=by
 intro os
 induction os with
 | nil=>intro f g _ p hp;cases hp
 | cons q os ih=>
   intro f g h p hp;simp only [aak] at h;cases hq:evE fr H q.2 with
   | none=>simp [hq] at h
   | some v=>
     simp only [hq] at h
     rcases qc.1 hp with rfl | hp
     ·rw [hq];rfl
     ·exact ih h p hp
theorem a2q:∀ {items:List RI} {g:List (Nat × Bool × E)} {e:E},RI.keep g e∈items→(g,e)∈afu items:=by
 intro items
 induction items with
 | nil=>intro g e h;cases h
 | cons x r ih=>
   intro g e h
   rcases qc.1 h with h2 | h2
   ·subst h2;simp [afu]
   ·have h3:=ih h2;clear h
    cases x <;> simp only [afu] <;> first | exact fe _ h3 | exact h3
theorem a2j:∀ {items:List RI} {g:List (Nat × Bool × E)} {e:E},(g,e)∈afu items→RI.keep g e∈items:=by
 intro items
 induction items with
 | nil=>intro g e h;cases h
 | cons x r ih=>
   intro g e h;cases x with
   | keep g' e'=>
     simp only [afu] at h
     rcases qc.1 h with h | h
     ·cases h;exact gm
     ·exact fe _ (ih h)
   | _=>exact fe _ (ih h)
theorem a4a:∀ {items:List RI} {e:E},e∈frees items→([],e)∈afu items:=by
 intro items
 induction items with
 | nil=>intro e h;cases h
 | cons x r ih=>
   intro e h;cases x with
   | keep g e'=>
     cases g with
     | nil=>
       simp only [frees] at h;simp only [afu]
       rcases qc.1 h with rfl | h
       ·exact gm
       ·exact fe _ (ih h)
     | cons a g=>simp only [frees] at h;simp only [afu];exact fe _ (ih h)
   | _=>exact ih h
theorem as0 (m:Nat) (items:List RI) (os:List (Nat × E)) (kill:List Nat) (fr:List V) (H:Heap):
 wo (some (m,aoz items os,os)) kill fr H=wo (some (m,afu items,os)) kill fr H:=by
 simp only [wo];by_cases hm:m≤fr.length
 ·rw [if_pos hm,if_pos hm];by_cases hk:(afu items).all (fun r=>ajm fr H r.1 r.2)=true
  ·rw [if_pos hk];cases hs:aak fr H os (ru kill fr) with
   | none=>split <;> rfl
   | some g=>
     rw [if_pos];rw [bi];intro r hr;unfold aoz at hr;rw [xq] at hr;obtain ⟨x,hx,rfl⟩:=hr;cases x with
     | keep gg e=>
       rw [bi] at hk;exact hk _ (a2q hx)
     | tt i=>rfl
     | cc v=>rfl
     | sub s p ss=>
       simp only [RI.get];by_cases hl:s < (os.map (·.2) ++ frees items).length
       ·have hd:(os.map (·.2) ++ frees items).getD s (.c .unk)=(os.map (·.2) ++ frees items)[s]:=by simp only [List.getD,ah hl];rfl
        rw [hd]
        rcases ou.1 (oq hl) with h1 | h1
        ·rw [xq] at h1;obtain ⟨q,hq,e⟩:=h1;rw [← e];exact aia p ss _ (aq7 hs q hq)
        ·rw [bi] at hk;have h5:=hk _ (a4a h1)
         exact aia p ss _ (by simpa [ajm] using h5)
       ·have hd:(os.map (·.2) ++ frees items).getD s (.c .unk)=.c .unk:=by rw [List.getD,lu (Nat.le_of_not_lt hl)];rfl
        rw [hd];exact aia (fr:=fr) (H:=H) p ss _ rfl
  ·rw [if_neg hk,if_neg];intro h;apply hk;rw [bi] at h ⊢;intro r hr;obtain ⟨g,e⟩:=r;exact h _ (xq.2 ⟨_,a2j hr,rfl⟩)
 ·rw [if_neg hm,if_neg hm]
theorem a6u {ops:List AOper} {kill outs:List Nat} {m:Nat} {items:List RI} {os:List (Nat × E)} (h:aas ops kill outs=some (m,aoz items os,os)) (fr:List V) (H:Heap):
 wo (aas ops kill outs) kill fr H=wo (some (m,afu items,os)) kill fr H:=by rw [h,as0]
abbrev Env:=List (Nat × V)
def amo:Env→Nat→V
 | [],_=>.unk
 | (k,x) :: e,s=>if s=k then x else amo e s
def a1s (s:Nat) (v:V):Env→Env
 | []=>[(s,v)]
 | (k,x) :: e=>if s=k then (s,v) :: e else if s < k then (s,v) :: (k,x) :: e else (k,x) :: a1s s v e
def y5 (ks:List Nat):Env→Env
 | []=>[]
 | (k,x) :: e=>if ks.contains k then y5 ks e else (k,x) :: y5 ks e
def iw (n:Nat) (en:Env):List V:=(List.range n).map (amo en)
theorem a9g (s t:Nat) (v:V):∀ en:Env,amo (a1s s v en) t=if t=s then v else amo en t:=by
 intro en
 induction en with
 | nil=>rfl
 | cons p e ih=>
   obtain ⟨k,x⟩:=p;simp only [a1s];split
   ·rename_i h;subst h;simp only [amo];split <;> rfl
   ·split
    ·simp only [amo]
    ·rename_i h1 h2;simp only [amo,ih];by_cases h3:t=k
     ·subst h3;rw [if_pos rfl,if_neg (fun e=>h1 e.symm),if_pos rfl]
     ·rw [if_neg h3,if_neg h3]
theorem a3u (ks:List Nat) (t:Nat):∀ en:Env,amo (y5 ks en) t=if ks.contains t then .unk else amo en t:=by
 intro en
 induction en with
 | nil=>simp [y5,amo]
 | cons p e ih=>
   obtain ⟨k,x⟩:=p;simp only [y5];by_cases h1:ks.contains k=true
   ·rw [if_pos h1,ih];split
    ·rfl
    ·rename_i h2;simp only [amo];rw [if_neg];rintro rfl;exact h2 h1
   ·rw [if_neg h1];simp only [amo,ih];by_cases h3:t=k
    ·subst h3;rw [if_pos rfl,if_neg h1,if_pos rfl]
    ·rw [if_neg h3,if_neg h3]
theorem zl (n:Nat) (en:Env):(iw n en).length=n:=by simp [iw]
theorem ahr {n:Nat} {en:Env} {s:Nat} (h:s < n):(iw n en).getD s .unk=amo en s:=by simp [iw,h]
theorem bd5 {n:Nat} {en:Env} {fr:List V} (hl:fr.length=n) (h:∀ s,s < n→fr.getD s .unk=amo en s):fr=iw n en:=by
 refine a6l (by rw [hl,zl]) fun i h1 h2=>?_
 have:=h i (by omega)
 simp only [iw,List.getElem_map,List.getElem_range];rw [← this];simp [h1]
theorem ap8 (n:Nat) (en:Env) (s:Nat) (v:V):(iw n en).set s v=iw n (a1s s v en):=by
 refine bd5 (by rw [pz,zl]) fun t ht=>?_
 rw [a9g];split
 ·rename_i h;subst h;exact ad1 (by rw [zl];exact ht)
 ·rename_i h;rw [acz (fun e=>h e.symm),ahr ht]
theorem asx (n:Nat) (en:Env) (ks:List Nat):ru ks (iw n en)=iw n (y5 ks en):=by
 refine bd5 (by rw [xy,zl]) fun t ht=>?_
 rw [ab2,a3u];by_cases h:t∈ks
 ·rw [if_pos h,if_pos (by simpa using h)]
 ·rw [if_neg h,if_neg (by simpa using h),ahr ht]
def si (n:Nat):List V→Nat→Env
 | [],k=>(List.range' k (n - k)).map fun s=>(s,und)
 | v :: vs,k=>(k,v) :: si n vs (k+1)
theorem aou (n:Nat):∀ (vs:List V) (k t:Nat),k≤t→t < n→vs.length+k≤n→amo (si n vs k) t=if t - k < vs.length then vs.getD (t - k) .unk else und:=by
 intro vs
 induction vs with
 | nil=>
   intro k t h1 h2 _;simp only [si,gy,bbk,if_false]
   have:∀ (m j:Nat),j≤t→t < j+m→amo ((List.range' j m).map fun s=>(s,und)) t=und:=by
    intro m
    induction m with
    | zero=>intro j a b;omega
    | succ m ih=>
      intro j a b;simp only [List.range'_succ,jv,amo];split
      ·rfl
      ·exact ih (j+1) (by omega) (by omega)
   exact this _ k h1 (by omega)
 | cons v vs ih=>
   intro k t h1 h2 h3;simp only [si,amo,fq] at h3 ⊢;split
   ·rename_i h;subst h;simp
   ·rename_i h
    rw [ih (k+1) t (by omega) h2 (by omega)]
    obtain ⟨d,hd⟩:∃ d,t - k=d+1:=⟨t - k - 1,by omega⟩
    have:t - (k+1)=d:=by omega
    rw [hd,this];simp only [Nat.add_lt_add_iff_right,j5]
theorem start_eq {n:Nat} {vs:List V} (h:vs.length≤n):vs ++ List.replicate (n - vs.length) und=iw n (si n vs 0):=by
 refine bd5 (by simp;omega) fun t ht=>?_
 rw [aou n vs 0 t (gq _) ht (by omega)]
 split
 ·rename_i h1;simp at h1;simp only [List.getD,ag h1,bkm]
 ·rename_i h1;simp at h1;simp only [List.getD,bg h1,List.getElem?_replicate]
  rw [if_pos (by omega)]
  rfl
theorem a9h (s:Nat):amo [] s=.unk:=rfl
theorem a3v (k:Nat) (x:V) (e:Env) (s:Nat):amo ((k,x) :: e) s=if s=k then x else amo e s:=rfl
theorem a7s (s:Nat) (v:V):a1s s v []=[(s,v)]:=rfl
theorem a1r (s:Nat) (v:V) (k:Nat) (x:V) (e:Env):a1s s v ((k,x) :: e)=if s=k then (s,v) :: e else if s < k then (s,v) :: (k,x) :: e else (k,x) :: a1s s v e:=rfl
theorem a2p (ks:List Nat):y5 ks []=[]:=rfl
theorem azf (ks:List Nat) (k:Nat) (x:V) (e:Env):y5 ks ((k,x) :: e)=if ks.contains k then y5 ks e else (k,x) :: y5 ks e:=rfl
theorem bhy (b:List V→Heap→Option St) (k:List Nat) (m:Nat) (fr:List V) (H:Heap):itW b k m fr H=match b fr H with
 | some (.nrm,fr',H')=>itW b k m (ru k fr') (trim m (ru k fr') H')
 | some (e,fr',H')=>some (e,ru k fr',trim m (ru k fr') H')
 | none=>none:=by
 cases hb:b fr H with
 | none=>
   simp only [];cases hi:itW b k m fr H with
   | none=>rfl
   | some r=>
     obtain ⟨n,hn⟩:=axq hi;cases n with
     | zero=>simp [yt] at hn
     | succ n=>simp [yt,hb] at hn
 | some r=>
   obtain ⟨e,fr',H'⟩:=r;cases e with
   | nrm=>
     simp only [];cases hi:itW b k m (ru k fr') (trim m (ru k fr') H') with
     | some r=>exact bhx hb hi
     | none=>
       cases hj:itW b k m fr H with
       | none=>rfl
       | some r=>
         obtain ⟨n,hn⟩:=axq hj;cases n with
         | zero=>simp [yt] at hn
         | succ n=>
           simp only [yt,hb] at hn;rw [a3l hn] at hi;cases hi
   | ext id=>exact axp (by simp) hb
   | ret=>exact axp (by simp) hb
noncomputable def abl (call:ni) (it:zt) (base:Nat) (b:ACode):Option St→Option St
 | some (.nrm,fr,H)=>evC call it base b fr H
 | r=>r
def ba3 (id:Nat):Option St→Option St
 | some (.ext id',fr,H)=>some (if id'=id then .nrm else .ext id',fr,H)
 | r=>r
noncomputable def condC (call:ni) (it:zt) (base:Nat) (a b:ACode) (fr:List V) (H:Heap):V→Option St
 | .s (.bool p)=>bif p then evC call it base a fr H else evC call it base b fr H
 | _=>none
def rowC (H:Heap):Option (List V)→Option St
 | some fr=>some (.nrm,fr,H)
 | none=>none
def opsK (kill:List Nat) (chk:List V→Bool):Option (List V × Heap)→Option St
 | some (fr,H)=>bif chk fr then some (.nrm,ru kill fr,H) else none
 | none=>none
def akk (chk:List (Nat × Nat)) (ops:List AOper) (kill:List Nat):Option (List V × Heap)→Option St
 | some (fr,H)=>bif chk.all (am9 ops fr) then some (.nrm,ru kill fr,H) else none
 | none=>none
section
variable {call:ni} {it:zt} {base:Nat}
theorem a96 (fr:List V) (H:Heap):evC call it base .skip fr H=some (.nrm,fr,H):=rfl
theorem a98 (id:Nat) (fr:List V) (H:Heap):evC call it base (.exit id) fr H=some (.ext id,fr,H):=rfl
theorem bek (fr:List V) (H:Heap):evC call it base .ret fr H=some (.ret,fr,H):=rfl
theorem beh (a b:ACode) (fr:List V) (H:Heap):evC call it base (.seq a b) fr H=abl call it base b (evC call it base a fr H):=rfl
theorem a4r (id:Nat) (c:ACode) (fr:List V) (H:Heap):evC call it base (.block id c) fr H=ba3 id (evC call it base c fr H):=rfl
theorem a99 (c:Opd) (a b:ACode) (fr:List V) (H:Heap):evC call it base (.cond c a b) fr H=condC call it base a b fr H (ev fr c):=by
 simp only [evC];cases ev fr c with
 | s v=>cases v with
   | bool p=>cases p <;> rfl
   | _=>rfl
 | _=>rfl
theorem a97 (kill:List Nat) (c:ACode) (fr:List V) (H:Heap):evC call it base (.loop kill c) fr H=it (evC call it base c) kill H.length (ru kill fr) H:=rfl
theorem bei (ops:List AOper) (kill outs:List Nat) (fr:List V) (H:Heap):evC call it base (.regionE ops kill outs) fr H=rowC H (wo (aas ops kill outs) kill fr H):=rfl
theorem evC_ops (ops:List AOper) (kill:List Nat) (fr:List V) (H:Heap):evC call it base (.region ops [] kill) fr H=akk [] ops kill (mi call base ops fr H):=by
 simp only [evC];cases mi call base ops fr H with
 | none=>rfl
 | some p=>rfl
theorem aq4 (b:ACode) (fr:List V) (H:Heap):abl call it base b (some (.nrm,fr,H))=evC call it base b fr H:=rfl
theorem a0q (b:ACode) (i:Nat) (fr:List V) (H:Heap):abl call it base b (some (.ext i,fr,H))=some (.ext i,fr,H):=rfl
theorem a0p (b:ACode) (fr:List V) (H:Heap):abl call it base b (some (.ret,fr,H))=some (.ret,fr,H):=rfl
theorem ayf (b:ACode):abl call it base b none=none:=rfl
theorem ayg (b:ACode) (p:Bool) (x y:Option St):abl call it base b (bif p then x else y)=bif p then abl call it base b x else abl call it base b y:=by cases p <;> rfl
theorem a7y (id:Nat) (fr:List V) (H:Heap):ba3 id (some (.nrm,fr,H))=some (.nrm,fr,H):=rfl
theorem a7x (id:Nat) (fr:List V) (H:Heap):ba3 id (some (.ret,fr,H))=some (.ret,fr,H):=rfl
theorem a7z (id i:Nat) (fr:List V) (H:Heap):ba3 id (some (.ext i,fr,H))=some (if i=id then .nrm else .ext i,fr,H):=rfl
theorem a13 (id:Nat):ba3 id none=none:=rfl
theorem a14 (id:Nat) (p:Bool) (x y:Option St):ba3 id (bif p then x else y)=bif p then ba3 id x else ba3 id y:=by cases p <;> rfl
theorem az0 (a b:ACode) (fr:List V) (H:Heap) (p:Bool):condC call it base a b fr H (.s (.bool p))=bif p then evC call it base a fr H else evC call it base b fr H:=rfl
theorem a1i (H:Heap) (fr:List V):rowC H (some fr)=some (.nrm,fr,H):=rfl
theorem aca (ops:List AOper) (kill:List Nat) (fr:List V) (H:Heap):akk [] ops kill (some (fr,H))=some (.nrm,ru kill fr,H):=rfl
end
def a0s (fr:List V) (H:Heap) (os:List (Nat × E)) (kill:List Nat) (r:Bool):Option (List V):=bif r then aak fr H os (ru kill fr) else none
def outE (fr:List V) (H:Heap) (os:List (Nat × E)) (fr':List V) (s:Nat):Option V→Option (List V)
 | some v=>aak fr H os (fr'.set s v)
 | none=>none
theorem av5 {m:Nat} {R:List (List (Nat × Bool × E) × E)} {os:List (Nat × E)} {kill:List Nat} {fr:List V} {H:Heap} (h:m≤fr.length):wo (some (m,R,os)) kill fr H=a0s fr H os kill (R.all fun r=>ajm fr H r.1 r.2):=by
 simp only [wo,if_pos h,a0s];cases R.all fun r=>ajm fr H r.1 r.2 <;> rfl
theorem ayh (fr:List V) (H:Heap) (os:List (Nat × E)) (kill:List Nat):a0s fr H os kill true=aak fr H os (ru kill fr):=rfl
theorem aui (fr:List V) (H:Heap) (fr':List V):aak fr H [] fr'=some fr':=rfl
theorem aq9 (fr:List V) (H:Heap) (s:Nat) (e:E) (os:List (Nat × E)) (fr':List V):aak fr H ((s,e) :: os) fr'=outE fr H os fr' s (evE fr H e):=rfl
theorem a11 (fr:List V) (H:Heap) (os:List (Nat × E)) (fr':List V) (s:Nat) (v:V):outE fr H os fr' s (some v)=aak fr H os (fr'.set s v):=rfl
theorem a7m (fr:List V) (H:Heap) (e:E):ajm fr H [] e=(evE fr H e).isSome:=rfl
theorem a1p (fr:List V) (H:Heap) (s:Nat) (b:Bool) (x:E) (G:List (Nat × Bool × E)) (e:E):ajm fr H ((s,b,x) :: G) e=a6f (evE fr H x) b (ajm fr H G e):=rfl
theorem a1q (p b r:Bool):a6f (some (.s (.bool p))) b r=bif p == b then r else true:=by cases p <;> cases b <;> cases r <;> rfl
def V1 (f:V→Option V):Option V→Option V
 | some x=>f x
 | none=>none
def V2 (f:V→V→Option V):Option V→Option V→Option V
 | some x,some y=>f x y
 | _,_=>none
theorem bez (f:V→Option V) (x:V):V1 f (some x)=f x:=rfl
theorem bey (f:V→V→Option V) (x y:V):V2 f (some x) (some y)=f x y:=rfl
theorem evE_t (fr:List V) (H:Heap) (i:Nat):evE fr H (.t i)=some (fr.getD i .unk):=rfl
theorem bef (fr:List V) (H:Heap) (v:V):evE fr H (.c v)=some v:=rfl
theorem a9v (fr:List V) (H:Heap) (c a b:E):evE fr H (.pick c a b)=apz (evE fr H c) (evE fr H a) (evE fr H b):=rfl
def ab5 (op:BinOp):V→V→Option V
 | .s a,.s b=>(afx op a b).map .s
 | _,_=>none
def bgo (neg:Bool):V→V→Option V
 | .s (.bool a),.s (.bool b)=>some (bl ((a == b) != neg))
 | _,_=>none
def xEqP (H:Heap) (neg:Bool):V→V→Option V
 | .ref i g _,.ref j h _=>if i=j then none else match jm H i g,jm H j h with
   | some _,some _=>some (bl neg)
   | _,_=>none
 | _,_=>none
def abt (k:NK) (neg:Bool) (x:V):Option V:=(x.isNil k).map fun b=>bl (b != neg)
def agv (neg:Bool) (ls:List Leaf):V→V→Option V
 | .agg xs,.agg ys=>(p8 ls xs ys).map fun b=>bl (b != neg)
 | _,_=>none
def xUn (op:UnOp) (x:V):Option V:=match op,x with
 | .not,.s (.bool b)=>some (bl (!b))
 | .neg,.s (.int k n)=>some (.s (.int k (k.wrap (0 - n))))
 | .xor,.s (.int k n)=>(afx .xor (.int k (if k.signed then -1 else k.max)) (.int k n)).map .s
 | _,_=>none
def bbp (k:IntKind):V→Option V
 | .s (.int _ n)=>some (.s (.int k (k.wrap n)))
 | _=>none
def at1:V→Option V
 | .s (.string b)=>some (.s (.string b))
 | _=>none
def ac7:V→Option V
 | .ref id g off=>some (.ref id g off)
 | .pref cs=>some (.pref cs)
 | .fn f a b=>some (.fn f a b)
 | .yld id=>some (.yld id)
 | _=>none
def aar (off:Nat):V→Option V
 | .ref id g o=>some (.ref id g (o+off))
 | .pref cs=>if off≤cs.length then some (.pref (cs.drop off)) else none
 | _=>none
def aq0 (g:Bool) (off n:Nat):V→Option V
 | .agg cs=>if ((cs.drop off).take n).length=n then shut g ((cs.drop off).take n) else none
 | _=>none
def mq (sz:Nat):V→V→Option V
 | .sl id g off len sz',.s (.int _ n)=>if 0≤n∧n < len∧sz'=sz then some (.ref id g (off+n.toNat * sz)) else none
 | .psl es sz',.s (.int _ n)=>if 0≤n∧sz'=sz then (es[n.toNat]?).map .pref else none
 | _,_=>none
def aa2:V→V→Option V
 | .s (.string b),.s (.int _ n)=>if 0≤n then (b.data.toList[n.toNat]?).map fun c=>.s (.int .u8 c.toNat) else none
 | _,_=>none
def agu (i:Nat):V→Option V
 | .tup vs=>vs[i]?
 | _=>none
def aqz (H:Heap):NK→V→Option V
 | .p,.s (.string b)=>some (i64 b.size)
 | .s,.s (.slice none 0 0)=>some (i64 0)
 | .m,.s (.map none)=>some (i64 0)
 | .s,.esl=>some (i64 0)
 | .s,.psl es _=>some (i64 es.length)
 | .s,.sl _ _ _ len _=>some (i64 len)
 | .m,.mp id=>match H[id]? with
   | some (.map es)=>some (i64 es.length)
   | _=>none
 | _,_=>none
def af3 (H:Heap) (kind:TypeDesc) (zero:V) (ok:Bool) (m k:V):Option V:=(ku (fun _ _ _ _=>none) 0 [m,k] H (.mapGet kind zero (.t 0) (.t 1) ok)).map (·.1)
def acw (mx:Bool):V→V→Option V
 | .s (.int k a),.s (.int k' b)=>if k=k' then some (.s (.int k (if mx then (if a < b then b else a) else (if b < a then b else a)))) else none
 | _,_=>none
def tu (H:Heap) (g:Bool) (n:Nat) (a:V):Option V:=aac H g n a
def aea (H:Heap) (o:AOp):Option (List V)→Option V
 | some vs=>(ku (fun _ _ _ _=>none) 0 vs H o).map (·.1)
 | none=>none
def L1 (x:Option V) (xs:Option (List V)):Option (List V):=match x,xs with
 | some v,some vs=>some (v :: vs)
 | _,_=>none
theorem bfh (v:V) (vs:List V):L1 (some v) (some vs)=some (v :: vs):=rfl
section
variable (fr:List V) (H:Heap) (x y:E)
theorem aht:aqb fr H []=some []:=rfl
theorem abp (xs:List E):aqb fr H (x :: xs)=L1 (evE fr H x) (aqb fr H xs):=by
 simp only [aqb];cases evE fr H x <;> cases aqb fr H xs <;> rfl
theorem ajq (o:AOp) (xs:List E):evE fr H (.op o xs)=aea H o (aqb fr H xs):=by
 simp only [evE];cases aqb fr H xs with
 | none=>rfl
 | some vs=>simp only [aea];cases ku (fun _ _ _ _=>none) 0 vs H o <;> rfl
theorem op1 {o:AOp} {f:V→Option V} (h:∀ v,aea H o (some [v])=f v):evE fr H (.op o [x])=V1 f (evE fr H x):=by
 rw [ajq,abp,aht];cases evE fr H x with
 | none=>rfl
 | some v=>exact h v
theorem op2 {o:AOp} {f:V→V→Option V} (h:∀ v u,aea H o (some [v,u])=f v u):evE fr H (.op o [x,y])=V2 f (evE fr H x) (evE fr H y):=by
 rw [ajq,abp,abp,aht];cases evE fr H x with
 | none=>rfl
 | some v=>cases evE fr H y with
   | none=>rfl
   | some u=>exact h v u
theorem bcu {o:AOp} {f:V→V→Option V} {c:V} (h:∀ v,aea H o (some [v,c])=f v c):evE fr H (.op o [x,.c c])=V2 f (evE fr H x) (some c):=by
 rw [ajq,abp,abp,aht,bef];cases evE fr H x with
 | none=>rfl
 | some v=>exact h v
theorem bct {o:AOp} {f:V→V→Option V} {c:V} (h:∀ v,aea H o (some [c,v])=f c v):evE fr H (.op o [.c c,y])=V2 f (some c) (evE fr H y):=by
 rw [ajq,abp,abp,aht,bef];cases evE fr H y with
 | none=>rfl
 | some v=>exact h v
theorem beg (op:BinOp):evE fr H (.op (.bin op (.t 0) (.t 1)) [x,y])=V2 (ab5 op) (evE fr H x) (evE fr H y):=op2 _ _ _ _ fun v u=>by
 cases v <;> first | rfl | (cases u <;> first | rfl | (simp only [aea,ku,ev,iy,j5,ab5];cases afx op _ _ <;> rfl))
theorem a95 (op:BinOp) (c:V):evE fr H (.op (.bin op (.t 0) (.c c)) [x,.c c])=V2 (ab5 op) (evE fr H x) (some c):=bcu _ _ _ fun v=>by
 cases v <;> first | rfl | (cases c <;> first | rfl | (simp only [aea,ku,ev,iy,j5,ab5];cases afx op _ _ <;> rfl))
theorem a94 (op:BinOp) (c:V):evE fr H (.op (.bin op (.c c) (.t 1)) [.c c,y])=V2 (ab5 op) (some c) (evE fr H y):=bct _ _ _ fun v=>by
 cases c <;> first | rfl | (cases v <;> first | rfl | (simp only [aea,ku,ev,iy,j5,ab5];cases afx op _ _ <;> rfl))
theorem bee (n:Bool):evE fr H (.op (.eqB n (.t 0) (.t 1)) [x,y])=V2 (bgo n) (evE fr H x) (evE fr H y):=op2 _ _ _ _ fun v u=>by
 cases v <;> first | rfl | (rename_i q;cases q <;> first | rfl | (cases u <;> first | rfl | (rename_i p;cases p <;> rfl)))
theorem a90 (n:Bool) (c:V):evE fr H (.op (.eqB n (.t 0) (.c c)) [x,.c c])=V2 (bgo n) (evE fr H x) (some c):=bcu _ _ _ fun v=>by
 cases v <;> first | rfl | (rename_i q;cases q <;> first | rfl | (cases c <;> first | rfl | (rename_i p;cases p <;> rfl)))
theorem a9z (n:Bool) (c:V):evE fr H (.op (.eqB n (.c c) (.t 1)) [.c c,y])=V2 (bgo n) (some c) (evE fr H y):=bct _ _ _ fun v=>by
 cases c <;> first | rfl | (rename_i q;cases q <;> first | rfl | (cases v <;> first | rfl | (rename_i p;cases p <;> rfl)))
theorem a4o (n:Bool) (ls:List Leaf):evE fr H (.op (.eqAgg n ls (.t 0) (.t 1)) [x,y])=V2 (agv n ls) (evE fr H x) (evE fr H y):=op2 _ _ _ _ fun v u=>by
 cases v <;> first | rfl | (cases u <;> first | rfl | (simp only [aea,ku,ev,iy,j5,agv];cases p8 ls _ _ <;> rfl))
theorem azw (n:Bool) (ls:List Leaf) (c:V):evE fr H (.op (.eqAgg n ls (.t 0) (.c c)) [x,.c c])=V2 (agv n ls) (evE fr H x) (some c):=bcu _ _ _ fun v=>by
 cases v <;> first | rfl | (cases c <;> first | rfl | (simp only [aea,ku,ev,iy,j5,agv];cases p8 ls _ _ <;> rfl))
theorem azv (n:Bool) (ls:List Leaf) (c:V):evE fr H (.op (.eqAgg n ls (.c c) (.t 1)) [.c c,y])=V2 (agv n ls) (some c) (evE fr H y):=bct _ _ _ fun v=>by
 cases c <;> first | rfl | (cases v <;> first | rfl | (simp only [aea,ku,ev,iy,j5,agv];cases p8 ls _ _ <;> rfl))
theorem aqe (sz:Nat):evE fr H (.op (.indexAddr sz (.t 0) (.t 1)) [x,y])=V2 (mq sz) (evE fr H x) (evE fr H y):=op2 _ _ _ _ fun v u=>by
 cases v <;> first | rfl | (cases u <;> first | rfl | (rename_i q;cases q <;> first | rfl | (simp only [aea,ku,ev,iy,j5,mq];split <;> first | rfl | (split <;> rename_i e <;> simp [e]))))
theorem an6 (sz:Nat) (c:V):evE fr H (.op (.indexAddr sz (.t 0) (.c c)) [x,.c c])=V2 (mq sz) (evE fr H x) (some c):=bcu _ _ _ fun v=>by
 cases v <;> first | rfl | (cases c <;> first | rfl | (rename_i q;cases q <;> first | rfl | (simp only [aea,ku,ev,iy,j5,mq];split <;> first | rfl | (split <;> rename_i e <;> simp [e]))))
theorem an5 (sz:Nat) (c:V):evE fr H (.op (.indexAddr sz (.c c) (.t 1)) [.c c,y])=V2 (mq sz) (some c) (evE fr H y):=bct _ _ _ fun v=>by
 cases c <;> first | rfl | (cases v <;> first | rfl | (rename_i q;cases q <;> first | rfl | (simp only [aea,ku,ev,iy,j5,mq];split <;> first | rfl | (split <;> rename_i e <;> simp [e]))))
theorem as5:evE fr H (.op (.indexStr (.t 0) (.t 1)) [x,y])=V2 (aa2) (evE fr H x) (evE fr H y):=op2 _ _ _ _ fun v u=>by
 cases v <;> first | rfl | (rename_i q;cases q <;> first | rfl | (cases u <;> first | rfl | (rename_i p;cases p <;> first | rfl | (simp only [aea,ku,ev,iy,j5,aa2];split <;> first | rfl | (split <;> rename_i e <;> simp [e])))))
theorem aqd (c:V):evE fr H (.op (.indexStr (.t 0) (.c c)) [x,.c c])=V2 (aa2) (evE fr H x) (some c):=bcu _ _ _ fun v=>by
 cases v <;> first | rfl | (rename_i q;cases q <;> first | rfl | (cases c <;> first | rfl | (rename_i p;cases p <;> first | rfl | (simp only [aea,ku,ev,iy,j5,aa2];split <;> first | rfl | (split <;> rename_i e <;> simp [e])))))
theorem aqc (c:V):evE fr H (.op (.indexStr (.c c) (.t 1)) [.c c,y])=V2 (aa2) (some c) (evE fr H y):=bct _ _ _ fun v=>by
 cases c <;> first | rfl | (rename_i q;cases q <;> first | rfl | (cases v <;> first | rfl | (rename_i p;cases p <;> first | rfl | (simp only [aea,ku,ev,iy,j5,aa2];split <;> first | rfl | (split <;> rename_i e <;> simp [e])))))
theorem azt (mx:Bool):evE fr H (.op (.minmax mx (.t 0) (.t 1)) [x,y])=V2 (acw mx) (evE fr H x) (evE fr H y):=op2 _ _ _ _ fun v u=>by
 cases v <;> first | rfl | (rename_i q;cases q <;> first | rfl | (cases u <;> first | rfl | (rename_i p;cases p <;> first | rfl | (simp only [aea,ku,ev,iy,j5,acw];split <;> rfl))))
theorem awd (mx:Bool) (c:V):evE fr H (.op (.minmax mx (.t 0) (.c c)) [x,.c c])=V2 (acw mx) (evE fr H x) (some c):=bcu _ _ _ fun v=>by
 cases v <;> first | rfl | (rename_i q;cases q <;> first | rfl | (cases c <;> first | rfl | (rename_i p;cases p <;> first | rfl | (simp only [aea,ku,ev,iy,j5,acw];split <;> rfl))))
theorem awc (mx:Bool) (c:V):evE fr H (.op (.minmax mx (.c c) (.t 1)) [.c c,y])=V2 (acw mx) (some c) (evE fr H y):=bct _ _ _ fun v=>by
 cases c <;> first | rfl | (rename_i q;cases q <;> first | rfl | (cases v <;> first | rfl | (rename_i p;cases p <;> first | rfl | (simp only [aea,ku,ev,iy,j5,acw];split <;> rfl))))
theorem azu (kd:TypeDesc) (z:V) (ok:Bool):evE fr H (.op (.mapGet kd z (.t 0) (.t 1) ok) [x,y])=V2 (af3 H kd z ok) (evE fr H x) (evE fr H y):=op2 _ _ _ _ fun v u=>by
 rfl
theorem awf (kd:TypeDesc) (z:V) (ok:Bool) (c:V):evE fr H (.op (.mapGet kd z (.t 0) (.c c) ok) [x,.c c])=V2 (af3 H kd z ok) (evE fr H x) (some c):=bcu _ _ _ fun v=>by
 rfl
theorem awe (kd:TypeDesc) (z:V) (ok:Bool) (c:V):evE fr H (.op (.mapGet kd z (.c c) (.t 1) ok) [.c c,y])=V2 (af3 H kd z ok) (some c) (evE fr H y):=bct _ _ _ fun v=>by
 rfl
theorem as4:evE fr H (.op (.nilCheck (.t 0)) [x])=V1 (ac7) (evE fr H x):=op1 _ _ _ fun v=>by
 cases v <;> rfl
theorem a4n (k:NK) (n:Bool):evE fr H (.op (.eqNil k n (.t 0)) [x])=V1 (abt k n) (evE fr H x):=op1 _ _ _ fun v=>by
 simp only [aea,ku,ev,iy,abt];cases V.isNil k v <;> rfl
theorem bid (op:UnOp):evE fr H (.op (.un op (.t 0)) [x])=V1 (xUn op) (evE fr H x):=op1 _ _ _ fun v=>by
 cases op <;> first | (cases v <;> first | rfl | (rename_i q;cases q <;> first | rfl | (simp only [aea,ku,ev,iy,xUn];cases afx _ _ _ <;> rfl)))
theorem a92 (k:IntKind):evE fr H (.op (.conv k (.t 0)) [x])=V1 (bbp k) (evE fr H x):=op1 _ _ _ fun v=>by
 cases v <;> first | rfl | (rename_i q;cases q <;> rfl)
theorem azx:evE fr H (.op (.convId (.t 0)) [x])=V1 (at1) (evE fr H x):=op1 _ _ _ fun v=>by
 cases v <;> first | rfl | (rename_i q;cases q <;> rfl)
theorem aqf (off:Nat):evE fr H (.op (.fieldAddr off (.t 0)) [x])=V1 (aar off) (evE fr H x):=op1 _ _ _ fun v=>by
 cases v <;> first | rfl | (simp only [aea,ku,ev,iy,aar];split <;> rfl)
theorem a4m (g:Bool) (off n:Nat):evE fr H (.op (.field g off n (.t 0)) [x])=V1 (aq0 g off n) (evE fr H x):=op1 _ _ _ fun v=>by
 cases v <;> first | rfl | (simp only [aea,ku,ev,iy,aq0];split <;> first | rfl | (cases shut g _ <;> rfl))
theorem awg (i:Nat):evE fr H (.op (.extract (.t 0) i) [x])=V1 (agu i) (evE fr H x):=op1 _ _ _ fun v=>by
 cases v <;> first | rfl | (simp only [aea,ku,ev,iy,agu];split <;> rename_i e <;> simp [e])
theorem a9y (k:NK):evE fr H (.op (.lenS k (.t 0)) [x])=V1 (aqz H k) (evE fr H x):=op1 _ _ _ fun v=>by
 cases k <;> cases v <;> first | rfl | (rename_i q;cases q <;> first | rfl | (rename_i a;cases a <;> rfl) | (rename_i a b c;cases a <;> first | rfl | (cases b <;> first | rfl | (cases c <;> rfl)))) | (rename_i j;simp only [aea,ku,ev,iy,aqz];generalize H[j]?=o;cases o <;> first | rfl | (rename_i ob;cases ob <;> rfl))
theorem a9x (g:Bool) (n:Nat):evE fr H (.op (.load g n (.t 0)) [x])=V1 (tu H g n) (evE fr H x):=op1 _ _ _ fun v=>by
 simp only [aea,ku,ev,iy,tu];cases aac H g n v <;> rfl
theorem a4p (z:List V) (p:List (Nat × Nat)) (ps:List (Nat × Opd)) (xs:List E):evE fr H (.op (.build z p ps) xs)=aea H (.build z p ps) (aqb fr H xs):=ajq _ _ _ _
theorem a9w (f:Nat) (a b:List Opd) (xs:List E):evE fr H (.op (.mkFn f a b) xs)=aea H (.mkFn f a b) (aqb fr H xs):=ajq _ _ _ _
theorem azs (a:Opd) (lo hi:Option Opd) (xs:List E):evE fr H (.op (.subStr a lo hi) xs)=aea H (.subStr a lo hi) (aqb fr H xs):=ajq _ _ _ _
theorem a4l (sz:Nat) (a:Opd) (lo hi mx:Option Opd) (xs:List E):evE fr H (.op (.subSl sz a lo hi mx) xs)=aea H (.subSl sz a lo hi mx) (aqb fr H xs):=ajq _ _ _ _
end
theorem av6 {m:Nat} {os:List (Nat × E)} {kill:List Nat} {fr:List V} {H:Heap} (h:m≤fr.length):wo (some (m,[],os)) kill fr H=aak fr H os (ru kill fr):=by
 simp only [wo,if_pos h,vz,if_true]
theorem a9m {m:Nat} {os:List (Nat × E)} {kill:List Nat} {n:Nat} {en:Env} {H:Heap} (h:m≤n):wo (some (m,[],os)) kill (iw n en) H=aak (iw n en) H os (iw n (y5 kill en)):=by
 rw [av6 (by rw [zl];exact h),asx]
theorem a8t {m:Nat} {R:List (List (Nat × Bool × E) × E)} {os:List (Nat × E)} {kill:List Nat} {n:Nat} {en:Env} {H:Heap} (h:m≤n):wo (some (m,R,os)) kill (iw n en) H=a0s (iw n en) H os kill (R.all fun r=>ajm (iw n en) H r.1 r.2):=by
 rw [av5 (by rw [zl];exact h)]
noncomputable def stepW (b:List V→Heap→Option St) (k:List Nat) (m:Nat):Option St→Option St
 | some (.nrm,fr',H')=>itW b k m (ru k fr') (trim m (ru k fr') H')
 | some (e,fr',H')=>some (e,ru k fr',trim m (ru k fr') H')
 | none=>none
theorem dw (b:List V→Heap→Option St) (k:List Nat) (m:Nat) (fr:List V) (H:Heap):itW b k m fr H=stepW b k m (b fr H):=by
 rw [bhy];cases b fr H with
 | none=>rfl
 | some r=>obtain ⟨e,f,h⟩:=r;cases e <;> rfl
section
variable (b:List V→Heap→Option St) (k:List Nat) (m:Nat)
theorem a0z (fr:List V) (H:Heap):stepW b k m (some (.nrm,fr,H))=itW b k m (ru k fr) (trim m (ru k fr) H):=rfl
theorem a00 (i:Nat) (fr:List V) (H:Heap):stepW b k m (some (.ext i,fr,H))=some (.ext i,ru k fr,trim m (ru k fr) H):=rfl
theorem a0y (fr:List V) (H:Heap):stepW b k m (some (.ret,fr,H))=some (.ret,ru k fr,trim m (ru k fr) H):=rfl
theorem ayl (p:Bool) (x y:Option St):stepW b k m (bif p then x else y)=bif p then stepW b k m x else stepW b k m y:=by cases p <;> rfl
end
theorem a0n (fr:List V) (H:Heap):trim H.length fr H=H:=mr rfl
def bcg (rs:List ARes):Option St→Option (V × Heap)
 | some (.nrm,fr,H)=>(aap rs fr H).map fun v=>(v,H)
 | some (.ret,fr,H)=>(aap rs fr H).map fun v=>(v,H)
 | _=>none
theorem a7h (rs:List ARes) (fr:List V) (H:Heap):bcg rs (some (.nrm,fr,H))=(aap rs fr H).map fun v=>(v,H):=rfl
theorem a7g (rs:List ARes) (fr:List V) (H:Heap):bcg rs (some (.ret,fr,H))=(aap rs fr H).map fun v=>(v,H):=rfl
theorem a1k (rs:List ARes) (p:Bool) (x y:Option St):bcg rs (bif p then x else y)=bif p then bcg rs x else bcg rs y:=by cases p <;> rfl
theorem a7j (t:ARes) (fr:List V) (H:Heap):aap [t] fr H=ayy fr H t:=by
 simp only [aap,qa,List.mapM_nil];cases ayy fr H t <;> rfl
theorem a7i (t u:ARes) (fr:List V) (H:Heap):aap [t,u] fr H=match ayy fr H t,ayy fr H u with | some x,some y=>some (.tup [x,y]) | _,_=>none:=by
 simp only [aap,qa,List.mapM_nil];cases ayy fr H t <;> cases ayy fr H u <;> rfl
theorem a7k (t:Nat) (fr:List V) (H:Heap):ayy fr H (.tmp t)=some (fr.getD t .unk):=rfl
theorem a1n (t:Nat) (g:Bool) (n:Nat) (fr:List V) (H:Heap):ayy fr H (.cell t g n)=aac H g n (fr.getD t .unk):=rfl
theorem oo {CP:Nat→Option CFun} {f:Nat} {c:ACFun} (hf:CP f=some (.code c)) {fst args cap:List V} (hl:(fst ++ args ++ cap).length≤c.ntmps) {base:Nat} {H:Heap} {r:V × Heap}
 (h:bcg c.results (evC (dn CP) itW base c.body (iw c.ntmps (si c.ntmps (fst ++ args ++ cap) 0)) H)=some r):dn CP (.fn f fst cap) args base H=some r:=by
 refine abz ?_;simp only [zm,hf];rw [start_eq hl];cases he:evC (dn CP) itW base c.body (iw c.ntmps (si c.ntmps (fst ++ args ++ cap) 0)) H with
 | none=>rw [he] at h;cases h
 | some s=>
   rw [he] at h;obtain ⟨e,f2,H2⟩:=s;cases e <;> exact h
theorem aue (n:Nat) (v:V) (vs:List V) (k:Nat):si n (v :: vs) k=(k,v) :: si n vs (k+1):=rfl
def opK (call:ni) (base:Nat) (o:AOper) (os:List AOper) (fr:List V) (H:Heap):Option Bool→Option (List V × Heap)
 | some true=>match ku call base fr H o.op with
   | some (v,H')=>mi call base os (put o.dst v fr) H'
   | none=>none
 | some false=>mi call base os (put o.dst und fr) H
 | none=>none
def bfk (call:ni) (base:Nat) (d:Option Nat) (os:List AOper) (fr:List V):Option (V × Heap)→Option (List V × Heap)
 | some (v,H')=>mi call base os (put d v fr) H'
 | none=>none
def a0j (b:Bool):V→Option Bool
 | .s (.bool x)=>some (x == b)
 | .s (.tuple _)=>some false
 | _=>none
section
variable {call:ni} {base:Nat}
theorem amt (fr:List V) (H:Heap):mi call base [] fr H=some (fr,H):=rfl
theorem ajc (d:Option Nat) (op:AOp) (os:List AOper) (fr:List V) (H:Heap):mi call base (⟨d,op,none⟩ :: os) fr H=bfk call base d os fr (ku call base fr H op):=by
 simp only [mi,want];cases ku call base fr H op <;> rfl
theorem agp (d:Option Nat) (op:AOp) (t:Nat) (b:Bool) (os:List AOper) (fr:List V) (H:Heap):mi call base (⟨d,op,some (t,b)⟩ :: os) fr H=opK call base ⟨d,op,some (t,b)⟩ os fr H (a0j b (fr.getD t .unk)):=by
 have:want ⟨d,op,some (t,b)⟩ fr=a0j b (fr.getD t .unk):=by
  simp only [want];cases fr.getD t .unk with
  | s v=>cases v <;> rfl
  | _=>rfl
 simp only [mi,this];cases a0j b (fr.getD t .unk) with
 | none=>rfl
 | some p=>cases p <;> rfl
theorem ap1 (d:Option Nat) (op:AOp) (g:Option (Nat × Bool)) (os:List AOper) (fr:List V) (H:Heap) (p:Bool):opK call base ⟨d,op,g⟩ os fr H (some p)=bif p then bfk call base d os fr (ku call base fr H op) else mi call base os (put d und fr) H:=by
 cases p
 ·rfl
 ·simp only [opK];cases ku call base fr H op <;> rfl
theorem ah9 (b x:Bool):a0j b (.s (.bool x))=some (x == b):=rfl
theorem akw (b:Bool):a0j b und=some false:=rfl
theorem alx (d:Option Nat) (os:List AOper) (fr:List V) (v:V) (H:Heap):bfk call base d os fr (some (v,H))=mi call base os (put d v fr) H:=rfl
theorem apy (d:Nat) (v:V) (n:Nat) (en:Env):put (some d) v (iw n en)=iw n (a1s d v en):=ap8 n en d v
theorem a7r (v:V) (fr:List V):put none v fr=fr:=rfl
theorem a1o (d:Option Nat) (os:List AOper) (fr:List V) (p:Bool) (x y:Option (V × Heap)):bfk call base d os fr (bif p then x else y)=bif p then bfk call base d os fr x else bfk call base d os fr y:=by cases p <;> rfl
theorem a15 (chk:List (Nat × Nat)) (ops:List AOper) (kill:List Nat) (p:Bool) (x y:Option (List V × Heap)):akk chk ops kill (bif p then x else y)=bif p then akk chk ops kill x else akk chk ops kill y:=by cases p <;> rfl
end
theorem ev_t (fr:List V) (i:Nat):ev fr (.t i)=fr.getD i .unk:=rfl
theorem ev_c (fr:List V) (v:V):ev fr (.c v)=v:=rfl
def a1x (H:Heap) (x y:V):V→Option (V × Heap)
 | .s (.bool p)=>bif p then some (x,H) else some (y,H)
 | _=>none
theorem amw (call:ni) (base:Nat) (fr:List V) (H:Heap) (c a b:Opd):ku call base fr H (.pick c a b)=a1x H (ev fr a) (ev fr b) (ev fr c):=by
 simp only [ku];cases ev fr c with
 | s v=>cases v with
   | bool p=>cases p <;> rfl
   | _=>rfl
 | _=>rfl
theorem ay6 (H:Heap) (x y:V) (p:Bool):a1x H x y (.s (.bool p))=bif p then some (x,H) else some (y,H):=rfl
theorem ay5 (H:Heap) (x y:Bool) (p:Bool):a1x H (.s (.bool x)) (.s (.bool y)) (.s (.bool p))=some (.s (.bool (bif p then x else y)),H):=by cases p <;> rfl
def RH (H:Heap):Option V→Option (V × Heap)
 | some v=>some (v,H)
 | none=>none
theorem bfg (H:Heap) (v:V):RH H (some v)=some (v,H):=rfl
def RS:Option Heap→Option (V × Heap)
 | some H=>some (und,H)
 | none=>none
theorem bff (H:Heap):RS (some H)=some (und,H):=rfl
section
variable (call:ni) (base:Nat) (fr:List V) (H:Heap) (x y:Opd)
theorem bhd (op:BinOp):ku call base fr H (.bin op x y)=RH H (ab5 op (ev fr x) (ev fr y)):=by
 simp only [ku];generalize ev fr x=v;generalize ev fr y=u
 cases v <;> first | rfl | (cases u <;> first | rfl | (simp only [ab5];cases afx op _ _ <;> rfl))
theorem bhb (n:Bool):ku call base fr H (.eqB n x y)=RH H (bgo n (ev fr x) (ev fr y)):=by
 simp only [ku];generalize ev fr x=v;generalize ev fr y=u
 cases v <;> first | rfl | (rename_i q;cases q <;> first | rfl | (cases u <;> first | rfl | (rename_i p;cases p <;> rfl)))
theorem bha (n:Bool):ku call base fr H (.eqP n x y)=RH H (xEqP H n (ev fr x) (ev fr y)):=by
 simp only [ku];generalize ev fr x=v;generalize ev fr y=u
 cases v <;> first | rfl | (cases u <;> first | rfl | skip)
 rename_i i g _ j h _;simp only [xEqP];split
 ·rfl
 ·cases jm H i g with
  | none=>rfl
  | some c=>cases jm H j h <;> rfl
theorem a8d (n:Bool) (ls:List Leaf):ku call base fr H (.eqAgg n ls x y)=RH H (agv n ls (ev fr x) (ev fr y)):=by
 simp only [ku];generalize ev fr x=v;generalize ev fr y=u
 cases v <;> first | rfl | (cases u <;> first | rfl | (simp only [agv];cases p8 ls _ _ <;> rfl))
theorem ar6 (sz:Nat):ku call base fr H (.indexAddr sz x y)=RH H (mq sz (ev fr x) (ev fr y)):=by
 simp only [ku];generalize ev fr x=v;generalize ev fr y=u
 cases v <;> first | rfl | (cases u <;> first | rfl | (rename_i q;cases q <;> first | rfl | (simp only [mq];split <;> first | rfl | (split <;> rename_i e <;> simp [e,RH]))))
theorem avq:ku call base fr H (.indexStr x y)=RH H (aa2 (ev fr x) (ev fr y)):=by
 simp only [ku];generalize ev fr x=v;generalize ev fr y=u
 cases v <;> first | rfl | (rename_i q;cases q <;> first | rfl | (cases u <;> first | rfl | (rename_i p;cases p <;> first | rfl | (simp only [aa2];split <;> first | rfl | (split <;> rename_i e <;> simp [e,RH])))))
theorem a18 (mx:Bool):ku call base fr H (.minmax mx x y)=RH H (acw mx (ev fr x) (ev fr y)):=by
 simp only [ku];generalize ev fr x=v;generalize ev fr y=u
 cases v <;> first | rfl | (rename_i q;cases q <;> first | rfl | (cases u <;> first | rfl | (rename_i p;cases p <;> first | rfl | (simp only [acw];split <;> rfl))))
theorem avo:ku call base fr H (.nilCheck x)=RH H (ac7 (ev fr x)):=by
 simp only [ku];generalize ev fr x=v;cases v <;> rfl
theorem a8c (k:NK) (n:Bool):ku call base fr H (.eqNil k n x)=RH H (abt k n (ev fr x)):=by
 simp only [ku];generalize ev fr x=v;simp only [abt];cases V.isNil k v <;> rfl
theorem bcm (op:UnOp):ku call base fr H (.un op x)=RH H (xUn op (ev fr x)):=by
 simp only [ku];generalize ev fr x=v
 cases op <;> first | (cases v <;> first | rfl | (rename_i q;cases q <;> first | rfl | (simp only [xUn];cases afx _ _ _ <;> rfl)))
theorem bcq (k:IntKind):ku call base fr H (.conv k x)=RH H (bbp k (ev fr x)):=by
 simp only [ku];generalize ev fr x=v
 cases v <;> first | rfl | (rename_i q;cases q <;> rfl)
theorem a2b:ku call base fr H (.convId x)=RH H (at1 (ev fr x)):=by
 simp only [ku];generalize ev fr x=v
 cases v <;> first | rfl | (rename_i q;cases q <;> rfl)
theorem ar7 (off:Nat):ku call base fr H (.fieldAddr off x)=RH H (aar off (ev fr x)):=by
 simp only [ku];generalize ev fr x=v
 cases v <;> first | rfl | (simp only [aar];split <;> rfl)
theorem a8b (g:Bool) (off n:Nat):ku call base fr H (.field g off n x)=RH H (aq0 g off n (ev fr x)):=by
 simp only [ku];generalize ev fr x=v
 cases v <;> first | rfl | (simp only [aq0];split <;> first | rfl | (cases shut g _ <;> rfl))
theorem ay9 (i:Nat):ku call base fr H (.extract x i)=RH H (agu i (ev fr x)):=by
 simp only [ku];generalize ev fr x=v
 cases v <;> first | rfl | (simp only [agu];split <;> rename_i e <;> simp [e,RH])
theorem bcp (k:NK):ku call base fr H (.lenS k x)=RH H (aqz H k (ev fr x)):=by
 cases k <;> (simp only [ku];generalize ev fr x=v;cases v <;> first | rfl | (rename_i q;cases q <;> first | rfl | (rename_i a;cases a <;> rfl) | (rename_i a b c;cases a <;> first | rfl | (cases b <;> first | rfl | (cases c <;> rfl)))) | (rename_i j;simp only [aqz];generalize H[j]?=o;cases o <;> first | rfl | (rename_i ob;cases ob <;> rfl)))
theorem bco (g:Bool) (n:Nat):ku call base fr H (.load g n x)=RH H (tu H g n (ev fr x)):=by
 simp only [ku];generalize ev fr x=v;simp only [tu];cases aac H g n v <;> rfl
theorem a19 (kd:TypeDesc) (z:V) (ok:Bool):ku call base fr H (.mapGet kd z x y ok)=RH H (af3 H kd z ok (ev fr x) (ev fr y)):=by
 have h:∀ r,ku call base fr H (.mapGet kd z x y ok)=some r→r.2=H:=fun r h=>by obtain ⟨v,H'⟩:=r;exact (ajp rfl h).1
 have h2:ku (fun _ _ _ _=>none) 0 [ev fr x,ev fr y] H (.mapGet kd z (.t 0) (.t 1) ok)=ku call base fr H (.mapGet kd z x y ok):=rfl;simp only [af3,h2];cases hr:ku call base fr H (.mapGet kd z x y ok) with
 | none=>rfl
 | some r=>obtain ⟨v,H'⟩:=r;have:=h _ hr;simp only at this;subst this;rfl
theorem avp:ku call base fr H (.move x)=some (ev fr x,H):=rfl
theorem a8i (z:List V):ku call base fr H (.alloc z)=some (.ref H.length 0 0,H ++ [.cells 0 z]):=rfl
theorem bhc:ku call base fr H (.box x)=if (ev fr x).cells.all V.one then some (.ref H.length 0 0,H ++ [.cells 0 (ev fr x).cells]) else none:=rfl
theorem ae0:ku call base fr H .mapNew=some (.mp H.length,H ++ [.map []]):=rfl
theorem a8a (n:Nat):ku call base fr H (.store n x y)=RS (agx H base n (ev fr y) (ev fr x)):=by
 simp only [ku];cases agx H base n (ev fr y) (ev fr x) <;> rfl
theorem bcn (f:Nat) (a b:List Opd):ku call base fr H (.mkFn f a b)=some (.fn f (a.map (ev fr)) (b.map (ev fr)),H):=rfl
theorem bcs (sz bytes:Nat):ku call base fr H (.appR sz bytes x y)=qx H H.length sz bytes (ev fr x) (ev fr y):=rfl
theorem a2c (sz bytes:Nat):ku call base fr H (.append sz bytes x y)=qx H base sz bytes (ev fr x) (ev fr y):=rfl
theorem bcr (args:List Opd):ku call base fr H (.call x args)=call (ev fr x) (args.map (ev fr)) base H:=rfl
theorem a8g (args:List Opd):ku call base fr H (.callR x args)=call (ev fr x) (args.map (ev fr)) H.length H:=rfl
theorem a8h (z:List V) (places:List (Nat × Nat)) (parts:List (Nat × Opd)):ku call base fr H (.build z places parts)=RH H ((aby (places[·]?) z (parts.map fun p=>(p.1,ev fr p.2))).map .agg):=by
 simp only [ku];cases aby (places[·]?) z (parts.map fun p=>(p.1,ev fr p.2)) <;> rfl
def bhk (H:Heap) (sz len:Nat):Option (List V)→Option (V × Heap)
 | some cs=>some (if len=0 then .esl else .sl H.length 0 0 len sz,H ++ [.cells 0 cs])
 | none=>none
theorem azc (sz len:Nat) (cs:List V):bhk H sz len (some cs)=some (if len=0 then .esl else .sl H.length 0 0 len sz,H ++ [.cells 0 cs]):=rfl
theorem aza (sz len:Nat) (z:List V) (parts:List (Nat × Opd)):ku call base fr H (.buildSl sz len z parts)=bhk H sz len (aby (fun i=>some (i * sz,sz)) z (parts.map fun p=>(p.1,ev fr p.2))):=by
 simp only [ku];cases aby (fun i=>some (i * sz,sz)) z (parts.map fun p=>(p.1,ev fr p.2)) <;> rfl
end
section
variable {call:ni} {it:zt} {base:Nat}
def AgD (D:List Nat) (f g:List V):Prop:=f.length=g.length∧∀ s,s ∉ D→f.getD s .unk=g.getD s .unk
def readsIn (o:AOper) (D:List Nat):Bool:=o.reads.any D.contains
def less (D:List Nat) (d:Option Nat):List Nat:=match d with
 | some d=>D.filter (· != d)
 | none=>D
def a3p:List Nat→List AOper→Option (List Nat)
 | D,[]=>some D
 | D,o :: os=>if readsIn o D then none else a3p (less D o.dst) os
theorem ba2 {D:List Nat} {f g:List V} (h:AgD D f g) (d:Option Nat) (v:V):AgD (less D d) (put d v f) (put d v g):=by
 cases d with
 | none=>exact h
 | some d=>
   refine ⟨by simp only [put,pz];exact h.1,fun s hs=>?_⟩
   simp only [put];by_cases e:s=d
   ·subst e;by_cases hl:s < f.length
    ·rw [ad1 hl,ad1 (h.1 ▸ hl)]
    ·rw [acm (by omega),acm (by have:=h.1;omega)]
     simp [List.getD,hl,h.1 ▸ hl]
   ·rw [acz (fun e'=>e e'.symm),acz (fun e'=>e e'.symm)];refine h.2 s fun hD=>hs ?_;simp only [less,List.mem_filter,bne_iff_ne,ne_eq];exact ⟨hD,e⟩
theorem a9t:∀ (ops:List AOper) (D D':List Nat) (f g:List V) (H:Heap),a3p D ops=some D'→AgD D f g→
 (mi call base ops f H=none∧mi call base ops g H=none)∨∃ f' g' H',mi call base ops f H=some (f',H')∧mi call base ops g H=some (g',H')∧AgD D' f' g':=by
 intro ops
 induction ops with
 | nil=>intro D D' f g H h ha;cases h;exact .inr ⟨f,g,H,rfl,rfl,ha⟩
 | cons o os ih=>
   intro D D' f g H h ha;simp only [a3p] at h;split at h
   ·cases h
   ·rename_i hr
    have hrd:∀ s∈o.reads,f.getD s .unk=g.getD s .unk:=fun s hs=>ha.2 s fun hD=>hr (by
     unfold readsIn;rw [ui];exact ⟨s,hs,by simpa using hD⟩)
    have hw:=adh hrd;have hc:ku call base f H o.op=ku call base g H o.op:=afq _ fun x hx=>ahg hx hrd;simp only [mi,hw,hc];cases want o g with
    | none=>exact .inl ⟨rfl,rfl⟩
    | some b=>
      cases b with
      | false=>exact ih _ _ _ _ _ h (ba2 ha _ _)
      | true=>
        simp only [];cases ku call base g H o.op with
        | none=>exact .inl ⟨rfl,rfl⟩
        | some r=>obtain ⟨v,H'⟩:=r;exact ih _ _ _ _ _ h (ba2 ha _ _)
theorem a2o {D ks:List Nat} {f g:List V} (h:AgD D f g) (hk:D.all ks.contains=true):ru ks f=ru ks g:=by
 refine a6l (by rw [xy,xy,h.1]) fun i h1 h2=>?_
 have e:(ru ks f).getD i .unk=(ru ks g).getD i .unk:=by
  rw [ab2,ab2];split
  ·rfl
  ·rename_i hi;refine h.2 i fun hD=>hi ?_;rw [bi] at hk
   simpa using hk i hD
 simpa [List.getD,h1,h2] using e
def l9 (D:List Nat):ACode→Bool
 | .seq a _=>l9 D a
 | .region ops [] kill=>match a3p D ops with
   | some D'=>D'.all kill.contains
   | none=>false
 | .cond c a b=>(c.slots.all fun s=>!D.contains s) && l9 D a && l9 D b
 | .block _ c=>l9 D c
 | .loop kill _=>D.all kill.contains
 | _=>false
theorem aox {D:List Nat}:∀ (c:ACode) {f g:List V} (H:Heap),l9 D c=true→AgD D f g→evC call it base c f H=evC call it base c g H:=by
 intro c
 induction c with
 | seq a b iha _=>intro f g H h ha;simp only [evC,iha H h ha]
 | block id c ih=>intro f g H h ha;simp only [evC,ih H h ha]
 | cond o a b iha ihb=>
   intro f g H h ha;simp only [l9,dx] at h
   have:ev f o=ev g o:=by
    cases o with
    | c v=>rfl
    | t s=>exact ha.2 s (by simpa [Opd.slots] using h.1.1)
   simp only [evC,this,iha H h.1.2 ha,ihb H h.2 ha]
 | loop kill c _=>intro f g H h ha;simp only [evC,a2o ha h]
 | region ops chk kill=>
   intro f g H h ha;cases chk with
   | cons _ _=>cases h
   | nil=>
     simp only [l9] at h;split at h
     ·rename_i D' hD
      rcases a9t (call:=call) (base:=base) ops D D' f g H hD ha with ⟨e1,e2⟩ | ⟨f',g',H',e1,e2,ha'⟩
      ·simp only [evC,e1,e2]
      ·simp only [evC,e1,e2,a2o ha' h];rfl
     ·cases h
 | _=>intro f g H h;cases h
end
def ajk:List V→Nat→Env
 | [],_=>[]
 | v :: vs,k=>(k,v) :: ajk vs (k+1)
theorem aym (k:Nat):ajk [] k=[]:=rfl
theorem auf (v:V) (vs:List V) (k:Nat):ajk (v :: vs) k=(k,v) :: ajk vs (k+1):=rfl
theorem avz:∀ (vs:List V) (k t:Nat),k≤t→t < k+vs.length→amo (ajk vs k) t=vs.getD (t - k) .unk:=by
 intro vs
 induction vs with
 | nil=>intro k t h1 h2;simp at h2;omega
 | cons v vs ih=>
   intro k t h1 h2;simp only [ajk,amo,fq] at h2 ⊢;split
   ·rename_i h;subst h;simp
   ·rw [ih (k+1) t (by omega) (by omega)]
    obtain ⟨d,hd⟩:∃ d,t - k=d+1:=⟨t - k - 1,by omega⟩
    have:t - (k+1)=d:=by omega
    rw [hd,this];rfl
theorem gp {CP:Nat→Option CFun} {f:Nat} {c:ACFun} (hf:CP f=some (.code c)) {fst args cap:List V} {k:Nat} (hk:(fst ++ args ++ cap).length=k) (hl:k≤c.ntmps) (hfirst:l9 (List.range' k (c.ntmps - k)) c.body=true) {base:Nat} {H:Heap} {r:V × Heap}
 (h:bcg c.results (evC (dn CP) itW base c.body (iw c.ntmps (ajk (fst ++ args ++ cap) 0)) H)=some r):dn CP (.fn f fst cap) args base H=some r:=by
 refine oo hf (by omega) ?_
 rw [aox c.body H hfirst (g:=iw c.ntmps (ajk (fst ++ args ++ cap) 0))]
 ·exact h
 ·refine ⟨by rw [zl,zl],fun s hs=>?_⟩
  by_cases hn:s < c.ntmps
  ·rw [ahr hn,ahr hn]
   have hs':s < k:=by
    apply Nat.lt_of_not_le;intro h;apply hs;rw [List.mem_range']
    exact ⟨s - k,by omega,by omega⟩
   rw [aou _ _ 0 s (gq _) hn (by omega),if_pos (by omega),avz _ 0 s (gq _) (by omega)]
  ·simp [iw,List.getD,hn]
section
variable (call:ni) (it:zt) (base:Nat)
noncomputable def bg2 (b:List AOper) (kill:List Nat) (H:Heap):Option (List V)→Option St→Option St
 | some f,_=>evC call it base (.region b [] kill) f H
 | none,o=>o
noncomputable def bg1 (H:Heap):Option (List V)→Option St→Option St
 | some f,_=>some (.nrm,f,H)
 | none,o=>o
noncomputable def qb (ops:List AOper) (kill:List Nat) (f:List V) (H:Heap):Option St:=evC call it base (.region ops [] kill) f H
theorem arb (b:List AOper) (kill:List Nat) (H:Heap) (f:List V) (o:Option St):bg2 call it base b kill H (some f) o=evC call it base (.region b [] kill) f H:=rfl
theorem ara (H:Heap) (f:List V) (o:Option St):bg1 H (some f) o=some (.nrm,f,H):=rfl
noncomputable def aqi (k:List Nat) (b:List AOper) (kill:List Nat):Bool:=match a3p k b with
 | some D=>D.all kill.contains
 | none=>false
theorem amu:∀ (a b:List AOper) (f:List V) (H:Heap),mi call base (a ++ b) f H=match mi call base a f H with
 | some (f',H')=>mi call base b f' H'
 | none=>none:=by
 intro a
 induction a with
 | nil=>intro b f H;rfl
 | cons o os ih=>
   intro b f H;simp only [bn,mi];cases want o f with
   | none=>rfl
   | some p=>
     cases p with
     | false=>exact ih _ _ _
     | true=>
       simp only [];cases ku call base f H o.op with
       | none=>rfl
       | some r=>exact ih _ _ _
theorem beu (k:List Nat) (f:List V):AgD k f (ru k f):=⟨(xy k f).symm,fun s hs=>by rw [ab2,if_neg hs]⟩
theorem aly {k kill:List Nat} {b:List AOper} (h:aqi k b kill=true) (f:List V) (H:Heap):evC call it base (.region b [] kill) f H=evC call it base (.region b [] kill) (ru k f) H:=by
 refine aox (D:=k) (.region b [] kill) H ?_ (beu k f);unfold aqi at h;simp only [l9];exact h
theorem abu (c d:List AOper) {kc kill:List Nat} (h:aqi kc d kill=true) (f:List V) (H:Heap):evC call it base (.region (c ++ d) [] kill) f H=abl call it base (.region d [] kill) (evC call it base (.region c [] kc) f H):=by
 have e1:evC call it base (.region (c ++ d) [] kill) f H=match mi call base c f H with
  | some (f',H')=>evC call it base (.region d [] kill) f' H'
  | none=>none:=by
  simp only [evC,amu];cases mi call base c f H <;> rfl
 rw [e1,evC_ops];cases mi call base c f H with
 | none=>rfl
 | some r=>
   obtain ⟨f',H'⟩:=r;simp only [aca,aq4];exact aly call it base h f' H'
theorem bcc (a b:List AOper) {ka oa kill:List Nat} (h:aqi ka b kill=true) (f:List V) (H:Heap):evC call it base (.region (a ++ b) [] kill) f H=bg2 call it base b kill H (wo (aas a ka oa) ka f H) (qb call it base (a ++ b) kill f H):=by
 cases ht:wo (aas a ka oa) ka f H with
 | none=>rfl
 | some f2=>
   obtain ⟨f1,h1,h2⟩:=ahs (call:=call) (base:=base) ht
   have e1:evC call it base (.region (a ++ b) [] kill) f H=evC call it base (.region b [] kill) f1 H:=by
    simp only [evC,amu,h1];cases mi call base b f1 H <;> rfl
   rw [e1,arb,← h2,aly call it base h]
theorem a7e (a:List AOper) {oa kill:List Nat} (f:List V) (H:Heap):evC call it base (.region a [] kill) f H=bg1 H (wo (aas a kill oa) kill f H) (qb call it base a kill f H):=by
 cases ht:wo (aas a kill oa) kill f H with
 | none=>rfl
 | some f2=>
   obtain ⟨f1,h1,h2⟩:=ahs (call:=call) (base:=base) ht;simp only [ara,evC,h1,h2,vz,if_true]
theorem zh (ops:List AOper) (kill:List Nat) (f:List V) (H:Heap):evC call it base (.region ops [] kill) f H=akk [] ops kill (mi call base ops f H):=evC_ops ops kill f H
end
def Rd (H:Heap) (v:V) (l:List V):Prop:=(∀ b,v≠.s (.string b))∧elems H 1 v=some (l.length,l)
theorem Rd.nil (H:Heap):Rd H abw []:=⟨fun _ h=>(by cases h),rfl⟩
theorem Rd.esl (H:Heap):Rd H .esl []:=⟨fun _ h=>(by cases h),rfl⟩
theorem Rd.psl (H:Heap) (l:List V):Rd H (.psl (l.map fun x=>[x]) 1) l:=by
 refine ⟨fun _ h=>by (cases h),?_⟩
 simp only [elems,if_true,sw]
 congr 2
 induction l with
 | nil=>rfl
 | cons x l ih=>simp [ih]
theorem Rd.sl {H:Heap} {id g:Nat} {c:List V} (h:jm H id g=some c) {off n:Nat} (hn:off+n≤c.length):Rd H (.sl id g off n 1) ((c.drop off).take n):=by
 refine ⟨fun _ h=>by (cases h),?_⟩
 have:((c.drop off).take n).length=n:=by simp;omega
 simp only [elems,if_true,h,ab3,this]
theorem Rd.cases {H:Heap} {v:V} {l:List V} (h:Rd H v l):(l=[]∧(v=abw∨v=.esl))∨(∃ es,v=.psl es 1∧es.flatten=l∧es.length=l.length)∨∃ id g off n c,v=.sl id g off n 1∧jm H id g=some c∧(c.drop off).take n=l∧n=l.length:=by
 obtain ⟨h1,h2⟩:=h;unfold elems at h2;split at h2
 ·simp only [fu,aks] at h2;exact .inl ⟨h2.2.symm,.inl rfl⟩
 ·simp only [fu,aks] at h2;exact .inl ⟨h2.2.symm,.inr rfl⟩
 ·rename_i es sz;split at h2
  ·rename_i hz;subst hz;simp only [fu,aks] at h2;exact .inr (.inl ⟨es,rfl,h2.2,h2.1⟩)
  ·cases h2
 ·rename_i id g off len sz;split at h2
  ·rename_i hz;subst hz;split at h2
   ·rename_i c hc;simp only [ab3] at h2;split at h2
    ·simp only [fu,aks] at h2;exact .inr (.inr ⟨id,g,off,len,c,rfl,hc,h2.2,h2.1⟩)
    ·cases h2
   ·cases h2
  ·cases h2
 ·cases h2
theorem Rd.len {H:Heap} {v:V} {l:List V} (h:Rd H v l):aqz H .s v=some (.s (.int .i64 l.length)):=by
 rcases h.cases with ⟨rfl,rfl | rfl⟩ | ⟨es,rfl,_,e⟩ | ⟨id,g,off,n,c,rfl,_,_,e⟩
 ·rfl
 ·rfl
 ·simp only [aqz,e];rfl
 ·simp only [aqz,e];rfl
def aa7:V→Prop
 | .psl es _=>∀ e∈es,e.length=1
 | _=>True
theorem av3 {es:List (List V)} (h:∀ e∈es,e.length=1):∀ {i:Nat} {x:V},es.flatten[i]?=some x→es[i]?=some [x]:=by
 induction es with
 | nil=>intro i x hx;simp at hx
 | cons e es ih=>
   intro i x hx;have he:=h e gm
   match e,he with
   | [y],_=>
     cases i with
     | zero=>simp at hx ⊢;exact hx
     | succ i=>simp at hx ⊢;exact ih (fun e he=>h e (fe _ he)) hx
theorem Rd.at {H:Heap} {v:V} {l:List V} (h:Rd H v l) (hw:aa7 v) {i:Nat} {x:V} (hx:l[i]?=some x):V1 (tu H false 1) (mq 1 v (.s (.int .i64 i)))=some x:=by
 have hi:i < l.length:=(ae.1 hx).1
 have h0:(0:Int)≤(i:Int):=by omega
 rcases h.cases with ⟨rfl,_⟩ | ⟨es,rfl,e1,e2⟩ | ⟨id,g,off,n,c,rfl,hc,e1,e2⟩
 ·simp at hx
 ·have:es[i]?=some [x]:=av3 hw (by rw [e1];exact hx)
  simp only [mq,h0,true_and,if_true,abk,this,mf,V1,tu,aac];rfl
 ·have hn:((i:Int) < (n:Int)):=by omega
  have hcx:c[off+i]?=some x:=by
   have:((c.drop off).take n)[i]?=some x:=by rw [e1];exact hx
   rw [dm (by omega),jc] at this
   exact this
  have:((c.drop (off+i)).take 1)=[x]:=by
   have hlt:=(ae.1 hcx).1;rw [y7 hlt];have:=(ae.1 hcx).2;simp [this]
  simp only [mq,h0,hn,and_self,if_true,abk,ab3,V1,tu,aac,hc,this];rfl
theorem acp {H G:Heap} {id g:Nat} {c:List V} (h:jm H id g=some c):jm (H ++ G) id g=some c:=by
 unfold jm at h ⊢;split at h
 ·rename_i g' c' hh;rw [ag (ae.1 hh).1,hh];exact h
 ·cases h
theorem Rd.app {H:Heap} {v:V} {l:List V} (h:Rd H v l) (G:Heap):Rd (H ++ G) v l:=by
 rcases h.cases with ⟨rfl,rfl | rfl⟩ | ⟨es,rfl,e1,e2⟩ | ⟨id,g,off,n,c,rfl,hc,e1,e2⟩
 ·exact Rd.nil _
 ·exact Rd.esl _
 ·exact ⟨h.1,h.2⟩
 ·refine ⟨h.1,?_⟩
  have:((c.drop off).take n).length=n:=by rw [e1,e2]
  simp only [elems,if_true,acp hc,ab3,this,e1];rw [e2,if_pos rfl]
theorem afn {H:Heap} {id g:Nat} {c c':List V} (h:jm H id g=some c) (g':Nat):jm (H.set id (.cells g' c')) id g'=some c':=by
 have:id < H.length:=by
  unfold jm at h;split at h
  ·rename_i hh;exact (ae.1 hh).1
  ·cases h
 simp [jm,this]
theorem a6z (H:Heap) (id:Nat) (a b:Ob):(H.set id a).set id b=H.set id b:=List.set_set ..
theorem bgm (k:IntKind) (a b:Int):ab5 .add (.s (.int k a)) (.s (.int k b))=some (.s (.int k (k.wrap (a+b)))):=by simp [ab5,afx]
theorem bf9 (k:IntKind) (a b:Int):ab5 .sub (.s (.int k a)) (.s (.int k b))=some (.s (.int k (k.wrap (a - b)))):=by simp [ab5,afx]
theorem bgf (k:IntKind) (a b:Int):ab5 .mul (.s (.int k a)) (.s (.int k b))=some (.s (.int k (k.wrap (a * b)))):=by simp [ab5,afx]
theorem bgk (k:IntKind) (a b:Int):ab5 .eql (.s (.int k a)) (.s (.int k b))=some (.s (.bool (a == b))):=by simp [ab5,afx]
theorem bge (k:IntKind) (a b:Int):ab5 .neq (.s (.int k a)) (.s (.int k b))=some (.s (.bool (a != b))):=by simp [ab5,afx]
theorem bgg (k:IntKind) (a b:Int):ab5 .lss (.s (.int k a)) (.s (.int k b))=some (.s (.bool (decide (a < b)))):=by simp [ab5,afx]
theorem bgh (k:IntKind) (a b:Int):ab5 .leq (.s (.int k a)) (.s (.int k b))=some (.s (.bool (decide (a≤b)))):=by simp [ab5,afx]
theorem bgi (k:IntKind) (a b:Int):ab5 .gtr (.s (.int k a)) (.s (.int k b))=some (.s (.bool (decide (a > b)))):=by simp [ab5,afx]
theorem bgj (k:IntKind) (a b:Int):ab5 .geq (.s (.int k a)) (.s (.int k b))=some (.s (.bool (decide (a ≥ b)))):=by simp [ab5,afx]
theorem bgl (k:IntKind) (a b:Int):ab5 .and (.s (.int k a)) (.s (.int k b))=some (.s (.int k (k.wrap (BitVec.ofInt k.bits a &&& BitVec.ofInt k.bits b).toNat))):=by simp [ab5,afx]
theorem xb_or (k:IntKind) (a b:Int):ab5 .or (.s (.int k a)) (.s (.int k b))=some (.s (.int k (k.wrap (BitVec.ofInt k.bits a ||| BitVec.ofInt k.bits b).toNat))):=by simp [ab5,afx]
theorem bf8 (k:IntKind) (a b:Int):ab5 .xor (.s (.int k a)) (.s (.int k b))=some (.s (.int k (k.wrap (BitVec.ofInt k.bits a ^^^ BitVec.ofInt k.bits b).toNat))):=by simp [ab5,afx]
theorem a0f (k:IntKind) (a b:Int):ab5 .andNot (.s (.int k a)) (.s (.int k b))=some (.s (.int k (k.wrap (BitVec.ofInt k.bits a &&& ~~~ (BitVec.ofInt k.bits b)).toNat))):=by simp [ab5,afx]
theorem bgd (k:IntKind) (a b:Int):ab5 .quo (.s (.int k a)) (.s (.int k b))=if b=0 then none else some (.s (.int k (k.wrap (a.tdiv b)))):=by by_cases h:b=0 <;> simp [ab5,afx,h]
theorem bgc (k:IntKind) (a b:Int):ab5 .rem (.s (.int k a)) (.s (.int k b))=if b=0 then none else some (.s (.int k (a.tmod b))):=by by_cases h:b=0 <;> simp [ab5,afx,h]
theorem bgb (k j:IntKind) (a b:Int):ab5 .shl (.s (.int k a)) (.s (.int j b))=if b < 0 then none else some (.s (.int k (k.wrap (a * 2 ^ (min b.toNat k.bits))))):=by by_cases h:b < 0 <;> simp [ab5,afx,h]
theorem bga (k j:IntKind) (a b:Int):ab5 .shr (.s (.int k a)) (.s (.int j b))=if b < 0 then none else some (.s (.int k (a.fdiv (2 ^ (min b.toNat k.bits))))):=by by_cases h:b < 0 <;> simp [ab5,afx,h]
theorem bfv (a b:ByteArray):ab5 .eql (.s (.string a)) (.s (.string b))=some (.s (.bool (a.data.toList == b.data.toList))):=rfl
theorem bft (a b:ByteArray):ab5 .neq (.s (.string a)) (.s (.string b))=some (.s (.bool (!(a.data.toList == b.data.toList)))):=rfl
theorem bfu (a b:ByteArray):ab5 .lss (.s (.string a)) (.s (.string b))=some (.s (.bool (Op.bytesLess a.data.toList b.data.toList))):=rfl
theorem bfw (a b:ByteArray):ab5 .add (.s (.string a)) (.s (.string b))=if ((a.size+b.size:Nat):Int) > IntKind.i64.max then none else some (.s (.string (a ++ b))):=by by_cases h:((a.size+b.size:Nat):Int) > IntKind.i64.max <;> simp only [ab5,afx,h,if_true,if_false,mf,aba]
theorem xq_b (n a b:Bool):bgo n (.s (.bool a)) (.s (.bool b))=some (.s (.bool ((a == b) != n))):=rfl
theorem xn_pn (n:Bool):abt .p n (.s (.pointer none))=some (.s (.bool (true != n))):=rfl
theorem xn_pr (n:Bool) (i g o:Nat):abt .p n (.ref i g o)=some (.s (.bool (false != n))):=rfl
theorem xn_pp (n:Bool) (cs:List V):abt .p n (.pref cs)=some (.s (.bool (false != n))):=rfl
theorem xn_sn (n:Bool):abt .s n (.s (.slice none 0 0))=some (.s (.bool (true != n))):=rfl
theorem xn_ss (n:Bool) (i g o l z:Nat):abt .s n (.sl i g o l z)=some (.s (.bool (false != n))):=rfl
theorem xn_sp (n:Bool) (es:List (List V)) (z:Nat):abt .s n (.psl es z)=some (.s (.bool (false != n))):=rfl
theorem xn_se (n:Bool):abt .s n (.esl)=some (.s (.bool (false != n))):=rfl
theorem xn_mn (n:Bool):abt .m n (.s (.map none))=some (.s (.bool (true != n))):=rfl
theorem xn_mm (n:Bool) (i:Nat):abt .m n (.mp i)=some (.s (.bool (false != n))):=rfl
theorem xn_fn (n:Bool):abt .f n (.s .nilFunc)=some (.s (.bool (true != n))):=rfl
theorem xn_ff (n:Bool) (i:Nat) (a b:List V):abt .f n (.fn i a b)=some (.s (.bool (false != n))):=rfl
theorem xn_fy (n:Bool) (i:Nat):abt .f n (.yld i)=some (.s (.bool (false != n))):=rfl
theorem xg (n:Bool) (ls:List Leaf) (xs ys:List V):agv n ls (.agg xs) (.agg ys)=(p8 ls xs ys).map fun b=>.s (.bool (b != n)):=rfl
theorem bfr (b:Bool):xUn .not (.s (.bool b))=some (.s (.bool (!b))):=rfl
theorem bfs (k:IntKind) (a:Int):xUn .neg (.s (.int k a))=some (.s (.int k (k.wrap (0 - a)))):=rfl
theorem bf7 (k j:IntKind) (a:Int):bbp k (.s (.int j a))=some (.s (.int k (k.wrap a))):=rfl
theorem xc_id (b:ByteArray):at1 (.s (.string b))=some (.s (.string b)):=rfl
theorem bf2 (i g o:Nat):ac7 (.ref i g o)=some (.ref i g o):=rfl
theorem bbo (cs:List V):ac7 (.pref cs)=some (.pref cs):=rfl
theorem xk_fn (f:Nat) (a b:List V):ac7 (.fn f a b)=some (.fn f a b):=rfl
theorem bf1 (i:Nat):ac7 (.yld i)=some (.yld i):=rfl
theorem bgn (off i g o:Nat):aar off (.ref i g o)=some (.ref i g (o+off)):=rfl
theorem a0g (off:Nat) (cs:List V):aar off (.pref cs)=if off≤cs.length then some (.pref (cs.drop off)) else none:=rfl
theorem bf5 (g:Bool) (off n:Nat) (cs:List V):aq0 g off n (.agg cs)=if ((cs.drop off).take n).length=n then shut g ((cs.drop off).take n) else none:=rfl
theorem bf4 (sz i g o l z:Nat) (k:IntKind) (n:Int):mq sz (.sl i g o l z) (.s (.int k n))=if 0≤n∧n < l∧z=sz then some (.ref i g (o+n.toNat * sz)) else none:=rfl
theorem bay (sz z:Nat) (es:List (List V)) (k:IntKind) (n:Int):mq sz (.psl es z) (.s (.int k n))=if 0≤n∧z=sz then (es[n.toNat]?).map .pref else none:=rfl
theorem bf3 (b:ByteArray) (k:IntKind) (n:Int):aa2 (.s (.string b)) (.s (.int k n))=if 0≤n then (b.data.toList[n.toNat]?).map fun c=>.s (.int .u8 c.toNat) else none:=rfl
theorem bf6 (i:Nat) (vs:List V):agu i (.tup vs)=vs[i]?:=rfl
theorem bfx (H:Heap) (b:ByteArray):aqz H .p (.s (.string b))=some (.s (.int .i64 b.size)):=rfl
theorem bfz (H:Heap):aqz H .s (.s (.slice none 0 0))=some (.s (.int .i64 0)):=rfl
theorem bf0 (H:Heap):aqz H .s .esl=some (.s (.int .i64 0)):=rfl
theorem bfy (H:Heap) (es:List (List V)) (z:Nat):aqz H .s (.psl es z)=some (.s (.int .i64 es.length)):=rfl
theorem xl_sl (H:Heap) (i g o l z:Nat):aqz H .s (.sl i g o l z)=some (.s (.int .i64 l)):=rfl
theorem bbn (H:Heap):aqz H .m (.s (.map none))=some (.s (.int .i64 0)):=rfl
theorem r9 (H:Heap) (g:Bool) (n i j o:Nat):tu H g n (.ref i j o)=match jm H i j with | some c=>(if ((c.drop o).take n).length=n then shut g ((c.drop o).take n) else none) | none=>none:=rfl
theorem at0 (H:Heap) (g:Bool) (n:Nat) (cs:List V):tu H g n (.pref cs)=if (cs.take n).length=n then shut g (cs.take n) else none:=rfl
theorem xm (mx:Bool) (k:IntKind) (a b:Int):acw mx (.s (.int k a)) (.s (.int k b))=some (.s (.int k (if mx then (if a < b then b else a) else (if b < a then b else a)))):=by simp [acw]
theorem aph (cs:List V):shut true cs=some (.agg cs):=rfl
theorem aj5 (x:V):shut false [x]=some x:=rfl
theorem Rd.at' {H:Heap} {v:V} {l:List V} (h:Rd H v l) (hw:aa7 v) {i:Nat} {x:V} (hx:l[i]?=some x):∃ a,mq 1 v (.s (.int .i64 i))=some a∧tu H false 1 a=some x:=by
 have:=h.at hw hx;cases ha:mq 1 v (.s (.int .i64 i)) with
 | none=>rw [ha] at this;cases this
 | some a=>rw [ha] at this;exact ⟨a,rfl,this⟩
def ajf (d:Nat):Option V→Option Int
 | none=>some d
 | some v=>amm v
theorem a5p (d:Nat):ajf d none=some (d:Int):=rfl
theorem bao (d:Nat) (k:IntKind) (n:Int):ajf d (some (.s (.int k n)))=some n:=rfl
def bag (sz id g off len z:Nat):Option Int→Option Int→Option V
 | some l,some h=>if 0≤l∧l≤h∧h≤len∧z=sz then some (.sl id g (off+l.toNat * sz) (h - l).toNat sz) else none
 | _,_=>none
def axy (sz:Nat) (es:List (List V)) (z:Nat):Option Int→Option Int→Option V
 | some l,some h=>if 0≤l∧l≤h∧h≤es.length∧z=sz then some (.psl ((es.drop l.toNat).take (h - l).toNat) sz) else none
 | _,_=>none
def ahv (v:V):Option Int→Option Int→Option V
 | some l,some h=>if l=0∧h=0 then some v else none
 | _,_=>none
def aek (sz:Nat) (v:V) (lo hi:Option V):Option V:=
 match v with
 | .s (.slice none 0 0)=>ahv abw (ajf 0 lo) (ajf 0 hi)
 | .esl=>ahv .esl (ajf 0 lo) (ajf 0 hi)
 | .psl es z=>axy sz es z (ajf 0 lo) (ajf es.length hi)
 | .sl id g off len z=>bag sz id g off len z (ajf 0 lo) (ajf len hi)
 | _=>none
theorem aya (sz:Nat) (lo hi:Option V):aek sz abw lo hi=ahv abw (ajf 0 lo) (ajf 0 hi):=rfl
theorem ayb (sz:Nat) (lo hi:Option V):aek sz .esl lo hi=ahv .esl (ajf 0 lo) (ajf 0 hi):=rfl
theorem ax9 (sz:Nat) (es:List (List V)) (z:Nat) (lo hi:Option V):aek sz (.psl es z) lo hi=axy sz es z (ajf 0 lo) (ajf es.length hi):=rfl
theorem a0e (sz id g off len z:Nat) (lo hi:Option V):aek sz (.sl id g off len z) lo hi=bag sz id g off len z (ajf 0 lo) (ajf len hi):=rfl
theorem azz (sz id g off len z:Nat) (l h:Int):bag sz id g off len z (some l) (some h)=if 0≤l∧l≤h∧h≤len∧z=sz then some (.sl id g (off+l.toNat * sz) (h - l).toNat sz) else none:=rfl
theorem awl (sz:Nat) (es:List (List V)) (z:Nat) (l h:Int):axy sz es z (some l) (some h)=if 0≤l∧l≤h∧h≤es.length∧z=sz then some (.psl ((es.drop l.toNat).take (h - l).toNat) sz) else none:=rfl
theorem awm (v:V) (l h:Int):ahv v (some l) (some h)=if l=0∧h=0 then some v else none:=rfl
theorem bii (fr:List V) (d:Nat) (o:Option Opd):ad8 fr d o=ajf d (o.map (ev fr)):=by cases o <;> rfl
theorem axj (call:ni) (base:Nat) (fr:List V) (H:Heap) (sz:Nat) (x:Opd) (lo hi:Option Opd):ku call base fr H (.subSl sz x lo hi none)=RH H (aek sz (ev fr x) (lo.map (ev fr)) (hi.map (ev fr))):=by
 simp only [ku,bii];generalize ev fr x=v;generalize lo.map (ev fr)=lo;generalize hi.map (ev fr)=hi
 cases v <;> first | rfl | skip
 case s v=>
  cases v <;> first | rfl | skip
  rename_i a n m
  cases a <;> first | rfl | skip
  cases n <;> first | rfl | skip
  cases m <;> first | rfl | skip
  simp only [aek];cases ajf 0 lo with
  | none=>rfl
  | some l=>cases ajf 0 hi with
    | none=>simp only [ahv,RH]
    | some h=>
      simp only [ahv];by_cases hl:l=0
      ·subst hl;by_cases hh:h=0
       ·subst hh;rfl
       ·simp only [hh,and_false,if_false]
        split <;> first | rfl | (rename_i e1 e2;cases e2;exact absurd rfl hh)
      ·simp only [hl,false_and,if_false]
       split <;> first | rfl | (rename_i e1 e2;cases e1;exact absurd rfl hl)
 case esl=>
  simp only [aek];cases ajf 0 lo with
  | none=>rfl
  | some l=>cases ajf 0 hi with
    | none=>simp only [ahv,RH]
    | some h=>
      simp only [ahv];by_cases hl:l=0
      ·subst hl;by_cases hh:h=0
       ·subst hh;rfl
       ·simp only [hh,and_false,if_false]
        split <;> first | rfl | (rename_i e1 e2;cases e2;exact absurd rfl hh)
      ·simp only [hl,false_and,if_false]
       split <;> first | rfl | (rename_i e1 e2;cases e1;exact absurd rfl hl)
 case psl es z=>
  simp only [aek]
  cases ajf 0 lo <;> cases ajf es.length hi <;> first | rfl | (simp only [axy];split <;> rfl)
 case sl id g off len z=>
  simp only [aek]
  cases ajf 0 lo <;> cases ajf len hi <;> first | rfl | (simp only [bag];split <;> rfl)
theorem bbm (H:Heap) (sz:Nat) (x:Opd) (lo hi:Option Opd) (vs:List V):aea H (.subSl sz x lo hi none) (some vs)=aek sz (ev vs x) (lo.map (ev vs)) (hi.map (ev vs)):=by
 simp only [aea,axj];cases aek sz (ev vs x) (lo.map (ev vs)) (hi.map (ev vs)) <;> rfl
def baz (H:Heap) (base sz:Nat) (zero:List V) (v:V):Option Heap:=
 match v with
 | .s (.slice none 0 0)=>some H
 | .esl=>some H
 | .sl id g off len z=>if len=0 then some H else if base≤id∧z=sz then match jm H id g with
    | some c=>if zero.length=sz∧off+len * sz≤c.length∧zero.all V.one then some (H.set id (.cells g (splice c off (List.replicate len zero).flatten))) else none
    | none=>none
   else none
 | _=>none
theorem a8e (call:ni) (base:Nat) (fr:List V) (H:Heap) (sz:Nat) (zero:List V) (x:Opd):ku call base fr H (.clearSl sz zero x)=RS (baz H base sz zero (ev fr x)):=by
 simp only [ku];generalize ev fr x=v
 cases v <;> first | rfl | skip
 case s v=>
  cases v <;> first | rfl | skip
  rename_i a n m
  cases a <;> first | rfl | skip
  cases n <;> first | rfl | skip
  cases m <;> rfl
 case sl id g off len z=>
  simp only [baz];split
  ·rfl
  ·split
   ·cases jm H id g with
    | none=>rfl
    | some c=>simp only [];split <;> rfl
   ·rfl
theorem ry:((0:Nat):Int)=0:=rfl
theorem bgs:Int.toNat 0=0:=rfl
def Ext (H0 H:Heap):Prop:=∃ G,H=H0 ++ G
theorem Ext.refl (H:Heap):Ext H H:=⟨[],by simp⟩
theorem Ext.trans {A B C:Heap} (h:Ext A B) (k:Ext B C):Ext A C:=by
 obtain ⟨G,rfl⟩:=h;obtain ⟨K,rfl⟩:=k
 exact ⟨G ++ K,by simp⟩
theorem Ext.app (H G:Heap):Ext H (H ++ G):=⟨G,rfl⟩
theorem Ext.le {A B:Heap} (h:Ext A B):A.length≤B.length:=by obtain ⟨G,rfl⟩:=h;simp
theorem Ext.get {A B:Heap} (h:Ext A B) {i:Nat} (hi:i < A.length):B[i]?=A[i]?:=by obtain ⟨G,rfl⟩:=h;exact ag hi
theorem Ext.of_get {A B:Heap} (hl:A.length≤B.length) (h:∀ i,i < A.length→B[i]?=A[i]?):Ext A B:=by
 refine ⟨B.drop A.length,?_⟩;refine uw fun i=>?_;by_cases hi:i < A.length
 ·rw [ag hi,h i hi]
 ·rw [bg (by omega),jc]
  congr 1;omega
theorem Ext.set {A B:Heap} (h:Ext A B) {id:Nat} (hid:A.length≤id) (ob:Ob):Ext A (B.set id ob):=
 Ext.of_get (by rw [pz];exact h.le) fun i hi=>by rw [bq (by omega),h.get hi]
theorem Ext.take {A B:Heap} (h:Ext A B) {m:Nat} (hm:A.length≤m):Ext A (B.take m):=
 Ext.of_get (by rw [wy];have:=h.le;omega) fun i hi=>by rw [dm (by omega),h.get hi]
theorem auc (m:Nat) (fr:List V) (H:Heap):trim m fr H=H∨(trim m fr H=H.take m∧∀ v∈fr,og m 8 v=true):=by
 unfold trim;split
 ·rename_i h;simp only [dx,bi] at h;exact .inr ⟨rfl,h.1⟩
 ·exact .inl rfl
theorem Ext.trim {A B:Heap} (h:Ext A B) {m:Nat} (hm:A.length≤m) (fr:List V):Ext A (trim m fr B):=by
 rcases auc m fr B with e | ⟨e,_⟩ <;> rw [e]
 ·exact h
 ·exact h.take hm
theorem Rd.ext {H H':Heap} {v:V} {l:List V} (h:Rd H v l) (k:Ext H H'):Rd H' v l:=by obtain ⟨G,rfl⟩:=k;exact h.app G
theorem cz {H H':Heap} {id g:Nat} {c:List V} (h:jm H id g=some c) (k:Ext H H'):jm H' id g=some c:=by obtain ⟨G,rfl⟩:=k;exact acp h
theorem acb {H:Heap} {id g:Nat} {c:List V} (h:jm H id g=some c):id < H.length:=by
 unfold jm at h;split at h
 ·rename_i hh;exact (ae.1 hh).1
 ·cases h
theorem dh (H:Heap) (g:Nat) (c:List V):jm (H ++ [.cells g c]) H.length g=some c:=by simp [jm]
def Acc (H0 H:Heap) (v:V) (l:List V):Prop:=Ext H0 H∧((l=[]∧v=abw)∨∃ id g,v=.sl id g 0 l.length 1∧jm H id g=some l∧H0.length≤id)
theorem Acc.start (H:Heap):Acc H H abw []:=⟨Ext.refl H,.inl ⟨rfl,rfl⟩⟩
theorem Acc.rd {H0 H:Heap} {v:V} {l:List V} (h:Acc H0 H v l):Rd H v l:=by
 rcases h.2 with ⟨rfl,rfl⟩ | ⟨id,g,rfl,hc,_⟩
 ·exact Rd.nil H
 ·have:=Rd.sl hc (off:=0) (n:=l.length) (by omega)
  rwa [pg,ky] at this
theorem Acc.wide {H0 H:Heap} {v:V} {l:List V} (h:Acc H0 H v l):aa7 v:=by
 rcases h.2 with ⟨_,rfl⟩ | ⟨id,g,rfl,_,_⟩ <;> trivial
theorem Acc.trim {H0 H:Heap} {v:V} {l:List V} (h:Acc H0 H v l) {m:Nat} (hm:H0.length≤m) {fr:List V} (hv:v∈fr):Acc H0 (trim m fr H) v l:=by
 refine ⟨h.1.trim hm fr,?_⟩
 rcases h.2 with h2 | ⟨id,g,rfl,hc,hid⟩
 ·exact .inl h2
 ·refine .inr ⟨id,g,rfl,?_,hid⟩
  rcases auc m fr H with e | ⟨e,hu⟩ <;> rw [e]
  ·exact hc
  ·have:=hu _ hv;simp only [og,decide_eq_true_eq] at this;unfold jm at hc ⊢;rw [dm this];exact hc
theorem as8 {H:Heap} {x:V}:elems (H ++ [.cells 0 [x]]) 1 (.sl H.length 0 0 1 1)=some (1,[x]):=by
 simp [elems,jm]
theorem Acc.append {H0 H:Heap} {v:V} {l:List V} (h:Acc H0 H v l) {base bytes:Nat} (hb:base≤H0.length) {x:V} (hx:x.one=true) (hs:(l.length+1) * bytes≤2 ^ 47):
 ∃ v' H',qx (H ++ [.cells 0 [x]]) base 1 bytes v (.sl H.length 0 0 1 1)=some (v',H')∧Acc H0 H' v' (l ++ [x]):=by
 have hx':[x].all V.one=true:=by simp [hx]
 rcases h.2 with ⟨rfl,rfl⟩ | ⟨id,g,rfl,hc,hid⟩
 ·have hs':1 * bytes≤2 ^ 47:=by simpa using hs
  refine ⟨.sl (H.length+1) 0 0 1 1,H ++ [.cells 0 [x]] ++ [.cells 0 [x]],?_,h.1.trans ⟨[.cells 0 [x],.cells 0 [x]],by simp⟩,.inr ⟨H.length+1,0,rfl,?_,?_⟩⟩
  ·simp only [qx,as8,hx',if_true,abw,Nat.one_ne_zero,if_false,hs',az,fq,gy]
  ·have:=dh (H ++ [.cells 0 [x]]) 0 [x]
   simpa using this
  ·have:=h.1.le;omega
 ·have hlt:=acb hc;have hc':=acp hc (G:=[Ob.cells 0 [x]])
  have hbi:base≤id:=by omega
  refine ⟨.sl id (g+1) 0 (l.length+1) 1,(H ++ [Ob.cells 0 [x]]).set id (.cells (g+1) (l ++ [x])),?_,?_,.inr ⟨id,g+1,by simp,?_,hid⟩⟩
  ·have h2:0+l.length≤l.length:=by omega
   simp only [qx,as8,hx',if_true,true_and,hbi,hc',h2,Nat.one_ne_zero,if_false,hs,pg,ab3,ky]
  ·exact (h.1.trans (Ext.app _ _)).set hid _
  ·exact afn hc' _
def obC (g:Nat):Ob→Option (List V)
 | .cells g' c=>if g'=g then some c else none
 | _=>none
theorem a3w (A:Heap) (ob:Ob) (id g:Nat):jm (A ++ [ob]) id g=if id=A.length then obC g ob else jm A id g:=by
 by_cases h:id=A.length
 ·subst h;simp only [jm,List.getElem?_concat_length,if_true];cases ob <;> rfl
 ·rw [if_neg h];by_cases hl:id < A.length
  ·simp only [jm,ag hl]
  ·have h1:(A ++ [ob])[id]?=none:=lu (by simp;omega)
   have h2:A[id]?=none:=lu (by omega)
   simp only [jm,h1,h2]
theorem a8l (g:Nat) (c:List V):obC g (.cells g c)=some c:=by simp [obC]
theorem ny (A:Heap) (ob x:Ob):(A ++ [ob]).set A.length x=A ++ [x]:=by simp
theorem eu (A:Heap) (ob:Ob):(A ++ [ob]).length=A.length+1:=by simp
theorem bhj (a b:Nat):(a=a+(b+1))=False:=by simp
theorem bio (a b:Nat):(a+(b+1)=a)=False:=by simp
theorem Rd.one {H:Heap} {v:V} {l:List V} (h:Rd H v l):v.one=true:=by
 rcases h.cases with ⟨_,rfl | rfl⟩ | ⟨es,rfl,_⟩ | ⟨id,g,off,n,c,rfl,_⟩ <;> rfl
theorem bcy (k:IntKind) (n:Int):V.one (.s (.int k n))=true:=rfl
theorem bcv (b:ByteArray):V.one (.s (.string b))=true:=rfl
theorem a8k (b:Bool):V.one (.s (.bool b))=true:=rfl
theorem a8j:V.one (.s (.slice none 0 0))=true:=rfl
theorem bcw (i g o:Nat):V.one (.ref i g o)=true:=rfl
theorem bhe (i g o l z:Nat):V.one (.sl i g o l z)=true:=rfl
theorem bcx (es:List (List V)) (z:Nat):V.one (.psl es z)=true:=rfl
theorem bcz:V.one .esl=true:=rfl
theorem bhf (i:Nat):V.one (.mp i)=true:=rfl
theorem bhg (f:Nat) (a b:List V):V.one (.fn f a b)=true:=rfl
theorem a5i (cs:List V):V.cells (.agg cs)=cs:=rfl
theorem beo (v:Value):V.cells (.s v)=[.s v]:=rfl
theorem baj (i g o l z:Nat):V.cells (.sl i g o l z)=[.sl i g o l z]:=rfl
theorem a5g (es:List (List V)) (z:Nat):V.cells (.psl es z)=[.psl es z]:=rfl
theorem a5f (i g o:Nat):V.cells (.ref i g o)=[.ref i g o]:=rfl
theorem a5h:V.cells .esl=[.esl]:=rfl
theorem bak (i:Nat):V.cells (.mp i)=[.mp i]:=rfl
theorem ate {v:V} (h:v.one=true):v.cells=[v]:=by cases v <;> first | rfl | (simp [V.one] at h;done)
theorem a4g (p:Nat→Option (Nat × Nat)) (c:List V):aby p c []=some c:=rfl
theorem a09 (A:Heap) (ob x:Ob) (id:Nat):(A ++ [ob]).set id x=if id=A.length then A ++ [x] else A.set id x ++ [ob]:=by
 by_cases h:id=A.length
 ·subst h;simp
 ·rw [if_neg h];by_cases hl:id < A.length
  ·rw [List.set_append_left _ _ hl]
  ·rw [acm (by simp;omega),acm (by omega)]
theorem ayk (H:Heap) (base n:Nat) (v:V) (id g off:Nat):agx H base n v (.ref id g off)=if base≤id then (match jm H id g with
 | some c=>if v.cells.length=n∧off+n≤c.length∧v.cells.all V.one then some (H.set id (.cells g (splice c off v.cells))) else none
 | none=>none) else none:=rfl
section
variable {CC:CX} {μ:Mu} {Mt:Nat→Prop} {w w':World} {H:Heap} {P:Program}
end
abbrev PXf (fx:Nat→Option (Array Value × TypeId × Nat × Nat)):PX:=⟨fun _=>false,fx⟩
abbrev PX0:PX:=PXf fun _=>none
theorem bah (lt:List Nat) (P:Program) (fx:Nat→Option (Array Value × TypeId × Nat × Nat)) (k:Nat):ao4 lt P (PXf fx) k=ao4 lt P PX0 k:=rfl
theorem j6 {P:Program} (fx:Nat→Option (Array Value × TypeId × Nat × Nat)) {lt:List Nat} {k:Nat} {c:ACFun} (h:ao4 lt P PX0 k=some (false,c.ntmps,c.results,c.body.bare)):aej P (PXf fx) k (.code c):=a9k ((bah lt P fx k).trans h)
section
variable {CC:CX} {μ:Mu} {Mt:Nat→Prop} {w w':World} {H:Heap} {P:Program}
theorem aog (h:HR CC μ Mt w H) (hb:Below w.heap.size w w'):Post CC μ Mt w H μ Mt w' H:=by
 have hk:∀ B,B < w.heap.size→¬ Mt B→w'.heap[B]?=w.heap[B]?:=fun B hB _=>hb.block B hB;have hsh:∀ (B:Nat) (arr:Array Value) (e:TypeId) (fr:Nat × Nat),w.heap[B]?=some (.cells arr e fr)→∃ arr' fr',w'.heap[B]?=some (.cells arr' e fr')∧arr'.size=arr.size:=
  fun B arr e fr hB=>⟨arr,fr,(hb.block B (lt_of_some hB)).trans hB,rfl⟩
 have hbk:∀ (B:Nat) (arr:Array Value) (e:TypeId) (fr:Nat × Nat),w'.heap[B]?=some (.cells arr e fr)→(∃ arr0,w.heap[B]?=some (.cells arr0 e fr))∨w.heap.size≤B:=by
  intro B arr e fr hB;by_cases hlt:B < w.heap.size
  ·exact .inl ⟨arr,(hb.block B hlt).symm.trans hB⟩
  ·exact .inr (by omega)
 refine ⟨af _,⟨h.dom,fun id g B b e=>⟨(h.isMut id g B b e).1,by have:=(h.isMut id g B b e).2;have:=hb.size;omega⟩,fun id ob g B b hH hc e=>?_,h.inj,h.gens,h.wf,h.fixed (fun _ _ h=>h) hk,h.zero⟩,fun _ _ _ h=>h,fun _ _=>bkg,
  ⟨hb.size,hsh,fun B l hB=>⟨l,(hb.block B (lt_of_some hB)).trans hB⟩,fun B hB _=>hb.block B hB,fun B arr e hB=>hbk B arr e _ hB,hb.os,hb.tape,hb.output⟩,fun id g _ b e _=>⟨id,g,b,e⟩,fun _ g p e _=>⟨g,p,e⟩⟩
 obtain ⟨o1,ho1,hr⟩:=h.objs id ob g B b hH hc e;exact ⟨o1,(hb.block _ (lt_of_some ho1)).trans ho1,hr.mono (fun _ _ _ h=>h) (fun _ _ h=>h) hk hsh⟩
def insI (x:Int):List Int→List Int
 | []=>[x]
 | y :: l=>if x≤y then x :: y :: l else y :: insI x l
def bgz:List Int→List Int
 | []=>[]
 | x :: l=>insI x (bgz l)
end
def strsOf:List V→Option (List ByteArray)
 | []=>some []
 | .s (.string b) :: l=>(strsOf l).map (b :: ·)
 | _ :: _=>none
def aib:List (List V)→Option (List ByteArray)
 | []=>some []
 | [.s (.string b)] :: l=>(aib l).map (b :: ·)
 | _ :: _=>none
def ang (H:Heap):V→Option (List ByteArray)
 | .s (.slice none 0 0)=>some []
 | .esl=>some []
 | .psl es 1=>aib es
 | .sl id g off n 1=>match jm H id g with
   | some c=>if ((c.drop off).take n).length=n then strsOf ((c.drop off).take n) else none
   | none=>none
 | _=>none
theorem a0w:∀ {l:List V} {xs:List ByteArray},strsOf l=some xs→l=xs.map fun b=>.s (.string b):=by
 intro l
 induction l with
 | nil=>intro xs h;cases h;rfl
 | cons x l ih=>
   intro xs h;unfold strsOf at h;split at h
   ·rename_i e;cases e
   ·rename_i b l' e;cases e;rw [au] at h;obtain ⟨ys,h1,rfl⟩:=h;rw [ih h1];rfl
   ·cases h
theorem aoc:∀ xs:List ByteArray,strsOf (xs.map fun b=>V.s (.string b))=some xs:=by
 intro xs
 induction xs with
 | nil=>rfl
 | cons z zs ih=>simp [strsOf];exact ih
theorem ayj:∀ {l:List (List V)} {xs:List ByteArray},aib l=some xs→l=xs.map fun b=>[.s (.string b)]:=by
 intro l
 induction l with
 | nil=>intro xs h;cases h;rfl
 | cons x l ih=>
   intro xs h;unfold aib at h;split at h
   ·rename_i e;cases e
   ·rename_i b l' e;cases e;rw [au] at h;obtain ⟨ys,h1,rfl⟩:=h;rw [ih h1];rfl
   ·cases h
def abo (xs:List ByteArray) (sep:ByteArray):ByteArray:=⟨(Lib.join (xs.map (·.data.toList)) sep.data.toList).toArray⟩
def azj:List V→Nat→Heap→Option (V × Heap)
 | [v,.s (.string sep)],_,H=>match ang H v with
   | some xs=>if xs.length≤140737488355328∧(Lib.join (xs.map (·.data.toList)) sep.data.toList).length≤140737488355328 then some (.s (.string (abo xs sep)),H) else none
   | none=>none
 | _,_,_=>none
def awn:List V→Nat→Heap→Option (V × Heap)
 | [.ref id 0 0],base,H=>match jm H id 0 with
   | some [.unk,v]=>if base≤id then some (und,H.set id (.cells 0 [.ref id 0 0,v])) else none
   | some [.ref id' 0 0,_]=>if id'=id then some (und,H) else none
   | _=>none
 | _,_,_=>none
def bes:List V→Nat→Heap→Option (V × Heap)
 | [.ref id 0 0],base,H=>match jm H id 0 with
   | some [_,.s (.slice none 0 0)]=>some (.s (.string ⟨#[]⟩),H)
   | some [_,.sl id2 g 0 n 1]=>if base≤id2∧n≠0∧n≤140737488355328 then match H[id2]? with
      | some (.bytes g' l)=>if g'=g∧n=l.length then some (.s (.string ⟨l.toArray⟩),H.set id2 .dead) else none
      | _=>none
     else none
   | _=>none
 | _,_,_=>none
def azk:List V→Nat→Heap→Option (V × Heap)
 | [.s (.int .i64 n)],_,H=>if 0≤n∧n < 100 then some (.s (.string ⟨(Lib.decDigits n.toNat).toArray⟩),H) else none
 | _,_,_=>none
section
variable {P:Program}
theorem bdy {pure':PX} {k:Nat} (hent:∀ xs w,(callFunc k xs).run P w=.ok (.enter k xs) w)
 (hs:∀ (i:Nat) (w:World),i < 100→Calls P k #[.int .i64 i] w fun e w'=>e=.returned (.string ⟨(Lib.decDigits i).toArray⟩)∧w'=w):aej P pure' k (.prim azk):=by
 refine ⟨hent,fun vs base H r H' hg=>?_⟩;unfold azk at hg;split at hg
 ·rename_i n;split at hg
  ·rename_i hn;cases hg;refine ⟨Floor.refl _ _,fun μ Mt w cs hH hvs m=>?_⟩;obtain ⟨h1,h2⟩:=hvs
   match cs,h1 with
   | [x],_=>
     have e1:=aaa (h2 0 _ x rfl rfl);subst e1
     have hc:=hs n.toNat w (by omega)
     rw [show ((n.toNat:Nat):Int)=n by omega] at hc
     refine callsIn_wide.2 (hc.mono ?_);rintro e w' ⟨rfl,rfl⟩;exact ⟨_,μ,Mt,rfl,.s _,Post.refl hH⟩
  ·cases hg
 ·cases hg
theorem bdw {pure':PX} {k:Nat} (hent:∀ xs w,(callFunc k xs).run P w=.ok (.enter k xs) w)
 (h0:∀ (a:Option Addr) (c:Nat) (sep:ByteArray) (w:World),Calls P k #[.slice a 0 c,.string sep] w fun e w'=>e=.returned (.string ⟨#[]⟩)∧w'=w)
 (hs:∀ (bk o c:Nat) (xs:List ByteArray) (sep:ByteArray) (w:World),(∀ (j:Nat) x,xs[j]?=some x→w.cell? ⟨bk,o+j,none⟩=some (.string x))→bk < w.heap.size→xs.length≤140737488355328→xs.length≤c→
  (Lib.join (xs.map (·.data.toList)) sep.data.toList).length≤140737488355328→
  Calls P k #[.slice (some ⟨bk,o,none⟩) xs.length c,.string sep] w fun e w'=>e=.returned (.string (abo xs sep))∧Below w.heap.size w w'):aej P pure' k (.prim azj):=by
 refine ⟨hent,fun vs base H r H' hg=>?_⟩;unfold azj at hg;split at hg
 case h_2=>cases hg
 rename_i v sep;split at hg
 case h_2=>cases hg
 rename_i xs hx;split at hg
 case isFalse=>cases hg
 rename_i hb;cases hg;refine ⟨Floor.refl _ _,fun μ Mt w cs hH hvs m=>?_⟩;obtain ⟨h1,h2⟩:=hvs
 match cs,h1 with
 | [x,y],_=>
   have e2:=aaa (h2 1 _ y rfl rfl);subst e2;have hv:=h2 0 _ x rfl rfl
   have none':∀ (a:Option Addr) (c:Nat),xs=[]→x=.slice a 0 c→CallsIn Fence.wide m P k #[x,.string sep] w (aw1 (CR P pure') μ Mt w H (.s (.string (abo xs sep))) H):=by
    intro a c hxs hxe;subst hxs hxe;refine callsIn_wide.2 ((h0 a c sep w).mono ?_);rintro e w' ⟨rfl,rfl⟩;exact ⟨_,μ,Mt,rfl,.s _,Post.refl hH⟩
   have some':∀ (bk o c:Nat),x=.slice (some ⟨bk,o,none⟩) xs.length c→(∀ (j:Nat) b,xs[j]?=some b→w.cell? ⟨bk,o+j,none⟩=some (.string b))→bk < w.heap.size→xs.length≤c→
    CallsIn Fence.wide m P k #[x,.string sep] w (aw1 (CR P pure') μ Mt w H (.s (.string (abo xs sep))) H):=by
    intro bk o c hxe hc hlt hcap;subst hxe;refine callsIn_wide.2 ((hs bk o c xs sep w hc hlt hb.1 hcap hb.2).mono ?_);rintro e w' ⟨rfl,hbl⟩;exact ⟨_,μ,Mt,rfl,.s _,aog hH hbl⟩
   unfold ang at hx;split at hx
   ·cases hx;exact none' none 0 rfl (aaa hv)
   ·cases hx;cases hv with
    | esl a=>exact none' (some a) 0 rfl rfl
   ·rename_i es _;have hes:=ayj hx;cases hv with
    | psl0 _ cap a=>
      cases xs with
      | nil=>exact none' _ _ rfl rfl
      | cons z zs=>cases hes
    | psl _ _ B o cap arr e fr hB hM hcc hz hsz hvv=>
      have hl:es.length=xs.length:=by rw [hes];simp
      refine some' B o cap (by rw [hl]) (fun j b hj=>?_) (lt_of_some hB) (by omega)
      have hjl:=(ae.1 hj).1
      have hej:es[j]?=some [V.s (.string b)]:=by rw [hes,ow,hj];rfl
      have ha:arr[o+j * 1+0]?=some arr[o+j * 1+0]:=kr (by omega)
      have:=aaa (PR.vr (μ:=μ) (hvv j _ 0 _ _ hej rfl ha));rw [cell_of_heap hB];rw [this] at ha
      simpa using ha
   ·rename_i id g off n _;split at hx
    case h_2=>cases hx
    rename_i c hc;split at hx
    case isFalse=>cases hx
    rename_i hfit;have hxs:=a0w hx
    have hl:xs.length=n:=by
     have:=congrArg List.length hxs;rw [hfit,sw] at this;exact this.symm
    cases hv with
    | sl0=>
      exact none' _ _ (jr hl) rfl
    | sl _ _ _ _ _ B b cap arr el hm hB hcap hsz=>
      obtain ⟨arr',el',hB',hsz',hrd⟩:=hH.row hc hm;rw [hB] at hB';cases hB'
      refine some' B (b+off) cap (by rw [hl]) (fun j x hj=>?_) (lt_of_some hB) (by omega)
      have hjl:=(ae.1 hj).1
      have hcj:c[off+j]?=some (V.s (.string x)):=by
       have:((c.drop off).take n)[j]?=(xs.map fun b=>V.s (.string b))[j]?:=by rw [hxs]
       rw [dm (by omega),jc] at this
       rw [this,ow,hj];rfl
      have hlt:=(ae.1 hcj).1
      have ha:arr[b+(off+j)]?=some arr[b+(off+j)]:=kr (by omega)
      have hvr:=aaa (hrd (off+j) _ _ hcj ha);rw [cell_of_heap hB,vg,ha,hvr]
   ·cases hx
theorem a3n {e:TypeId} (h:az8 P e=true):P.underlying e=some (.int .u8)∧P.cellsOf e=1:=by
 unfold az8 at h;split at h
 ·rename_i h1;exact ⟨h1,by simpa using h⟩
 ·cases h
theorem a2m {e u:TypeId} (he:az8 P e=true) (hu:P.underlying u=some (.int .u8)) (count off n:Nat) (hn:off+n≤count):liesAt P P.depth e count off u n=true:=by
 obtain ⟨h1,h2⟩:=a3n he;have hd:P.depth=(2 * (P.types.size+Made.depth)+1)+1:=rfl;rw [hd];simp only [liesAt,l6];left;rw [hd];simp [rowAt,h2,hn,sameLayout,h1,hu,Nat.mod_one]
theorem avi (P:Program) {w:World} {B:Nat} {arr:Array Value} {e:TypeId} (hB:w.heap[B]?=some (.cells arr e (0,0))) (h0:0 < arr.size) {p:Value} (hp:p.oneCell'=true):
 (storeCells ⟨B,0,none⟩ [p]).run P w=.ok () (w.setCell ⟨B,0,none⟩ p):=by
 have hadd:(⟨B,0,none⟩:Addr).add 0=⟨B,0,none⟩:=by unfold Addr.add;split <;> simp_all
 have hcell:w.cell? ⟨B,0,none⟩=some arr[0]:=by simp [World.cell?,hB,h0]
 have hfro:w.frozen? ⟨B,0,none⟩=false:=by simp [World.frozen?,hB]
 have hst:(store (⟨B,0,none⟩:Addr) p).run P w=.ok () (w.setCell ⟨B,0,none⟩ p):=by
  rw [run_store P w _ p _ hp,hcell];simp [hfro]
 simp only [storeCells,hadd,Sem.run_bind,hst,Result.andThen_ok,Sem.run_pure]
theorem bem {pure':PX} {k:Nat} {T:TypeId} (hT:∀ e,avy P e=true→e=T) (hent:∀ xs w,(callFunc k xs).run P w=.ok (.enter k xs) w)
 (hf:∀ (b:Nat) (w:World),w.cell? ⟨b,0,none⟩=some (.pointer none)→w.shape? b=some (T,2)→w.frozen? ⟨b,0,none⟩=false→Calls P k #[.pointer (some ⟨b,0,none⟩)] w fun e w'=>e=.returned (.tuple #[])∧w'=w.setCell ⟨b,0,none⟩ (.pointer (some ⟨b,0,none⟩)))
 (hu:∀ (b:Nat) (w:World),w.cell? ⟨b,0,none⟩=some (.pointer (some ⟨b,0,none⟩))→Calls P k #[.pointer (some ⟨b,0,none⟩)] w fun e w'=>e=.returned (.tuple #[])∧w'=w):aej P pure' k (.prim awn):=by
 refine ⟨hent,fun vs base H r H' hg=>?_⟩;unfold awn at hg;split at hg
 case h_2=>cases hg
 rename_i id;split at hg
 case h_3=>cases hg
 ·
  rename_i v hc;split at hg
  case isFalse=>cases hg
  rename_i hbase;cases hg
  refine ⟨⟨by simp,fun j hj _=>by rw [bq (by omega)]⟩,fun μ Mt w cs hH hvs m=>?_⟩
  obtain ⟨h1,h2⟩:=hvs
  match cs,h1 with
  | [x],_=>
    have hv:=h2 0 _ x rfl rfl;cases hv with
    | ref _ _ _ B b hm=>
      have hz:=hH.zero _ _ _ hm;subst hz;obtain ⟨o,ho,hr⟩:=hH.objs id _ 0 B 0 (qw hc) rfl hm
      cases o <;> first | exact hr.elim | skip
      rename_i arr e fr;obtain ⟨rfl,hs,hrd,hfr⟩:=hr;obtain ⟨f1,_,f3,f4⟩:=hfr rfl rfl;have he:=hT e f1;subst he
      have hcl:=hf B w (by rw [cell_of_heap ho];exact f4) (by simp [World.shape?,ho,f3]) (by simp [World.frozen?,ho])
      refine callsIn_wide.2 (hcl.mono ?_);rintro e' w' ⟨rfl,rfl⟩
      obtain ⟨w2,hrun,hpost⟩:=afi (P:=P) (off:=0) (vs:=[.ref id 0 0]) (us:=[.pointer (some ⟨B,0+0,none⟩)]) hH hc hm (by simp) (VR.cons (.ref id 0 0 B 0 hm) VRs.nil) rfl
      have hrun2:=avi P ho (by omega) (p:=.pointer (some ⟨B,0,none⟩)) rfl
      have heq:=hrun.symm.trans hrun2;cases heq;exact ⟨_,_,_,rfl,.s _,hpost⟩
 ·
  rename_i id' v hc;split at hg
  case isFalse=>cases hg
  rename_i hid;subst hid;cases hg;refine ⟨Floor.refl _ _,fun μ Mt w cs hH hvs m=>?_⟩;obtain ⟨h1,h2⟩:=hvs
  match cs,h1 with
  | [x],_=>
    have hv:=h2 0 _ x rfl rfl;cases hv with
    | ref _ _ _ B b hm=>
      have hz:=hH.zero _ _ _ hm;subst hz;obtain ⟨arr,e,ho,hs,hrd⟩:=hH.row hc hm
      have hlt:0 < arr.size:=by simp at hs;omega
      have ha:arr[0+0]?=some arr[0]:=kr hlt;have hv0:=hrd 0 _ _ rfl ha
      have hv1:∀ q,VR μ Mt w (.ref id' 0 0) q→q=.pointer (some ⟨B,0,none⟩):=by
       intro q hq;cases hq with
       | ref _ _ _ B' b' hm'=>
         rw [hm] at hm';cases hm';rfl
      have hv1:=hv1 _ hv0
      refine callsIn_wide.2 ((hu B w (by rw [cell_of_heap ho,← hv1];exact ha)).mono ?_)
      rintro e' w' ⟨rfl,rfl⟩;exact ⟨_,μ,Mt,rfl,.s _,Post.refl hH⟩
theorem av2 {w:World} {B o n:Nat} {arr:Array Value} {e:TypeId} (hB:w.heap[B]?=some (.cells arr e (0,0))) (hn:n≠0):(w.drew.freeze ⟨B,o,none⟩ n).heap=w.heap.setIfInBounds B (.cells arr e (o,o+n)):=by
 unfold World.freeze;rw [if_neg hn];apply Array.ext_getElem?;intro i;have hd:w.drew.heap=w.heap:=rfl;simp only [hd,Array.getElem?_modify];by_cases hi:B=i
 ·subst hi;rw [if_pos rfl,hB,abe (lt_of_some hB)];rfl
 ·rw [if_neg hi,adl hi]
theorem bih {pure':PX} {k:Nat} (hent:∀ xs w,(callFunc k xs).run P w=.ok (.enter k xs) w)
 (hn:∀ (b:Nat) (w:World),w.cell? ⟨b,1,none⟩=some (.slice none 0 0)→Calls P k #[.pointer (some ⟨b,0,none⟩)] w fun e w'=>e=.returned (.string ⟨#[]⟩)∧Below w.heap.size w w')
 (hs:∀ (b g o cap:Nat) (cur:Array Value) (el:TypeId) (l:List UInt8) (w:World),w.cell? ⟨b,1,none⟩=some (.slice (some ⟨g,o,none⟩) l.length cap)→w.heap[g]?=some (.cells cur el (0,0))→az8 P el=true→o+l.length≤cur.size→l.length≤cap→l.length≤140737488355328→l≠[]→
  (∀ (j:Nat) (x:UInt8),l[j]?=some x→w.cell? ⟨g,o+j,none⟩=some (.int .u8 x.toNat))→
  Calls P k #[.pointer (some ⟨b,0,none⟩)] w fun e w'=>e=.returned (.string ⟨l.toArray⟩)∧w'=w.drew.freeze ⟨g,o,none⟩ l.length):aej P pure' k (.prim bes):=by
 refine ⟨hent,fun vs base H r H' hg=>?_⟩;unfold bes at hg;split at hg
 case h_2=>cases hg
 rename_i id
 have cell1:∀ (μ:Mu) (Mt:Nat→Prop) (w:World) (a v:V) (B b:Nat),HR (CR P pure') μ Mt w H→jm H id 0=some [a,v]→μ id 0=some (B,b)→b=0∧∃ c,w.cell? ⟨B,1,none⟩=some c∧VR μ Mt w v c:=by
  intro μ Mt w a v B b hH hc hm;have hz:=hH.zero _ _ _ hm;subst hz;obtain ⟨arr,e,ho,hs,hrd⟩:=hH.row hc hm
  have hlt:1 < arr.size:=by simp at hs;omega
  have ha:arr[0+1]?=some arr[1]:=kr hlt
  exact ⟨rfl,arr[1],by rw [cell_of_heap ho];exact ha,hrd 1 _ _ rfl ha⟩
 split at hg
 case h_3=>cases hg
 ·rename_i a hc;cases hg;refine ⟨Floor.refl _ _,fun μ Mt w cs hH hvs m=>?_⟩;obtain ⟨h1,h2⟩:=hvs
  match cs,h1 with
  | [x],_=>
    have hv:=h2 0 _ x rfl rfl;cases hv with
    | ref _ _ _ B b hm=>
      obtain ⟨rfl,c,hcc,hcv⟩:=cell1 μ Mt w _ _ B b hH hc hm;rw [aaa hcv] at hcc;refine callsIn_wide.2 ((hn B w hcc).mono ?_);rintro e' w' ⟨rfl,hb⟩;exact ⟨_,μ,Mt,rfl,.s _,aog hH hb⟩
 ·rename_i a id2 g n hc;split at hg
  case isFalse=>cases hg
  rename_i hb;split at hg
  case h_2=>cases hg
  rename_i g' l hl;split at hg
  case isFalse=>cases hg
  rename_i hgl;obtain ⟨rfl,hnl⟩:=hgl;cases hg
  refine ⟨⟨by simp,fun j hj _=>by rw [bq (by omega)]⟩,fun μ Mt w cs hH hvs m=>?_⟩
  obtain ⟨h1,h2⟩:=hvs
  match cs,h1 with
  | [x],_=>
    have hv:=h2 0 _ x rfl rfl;cases hv with
    | ref _ _ _ B b hm=>
      obtain ⟨rfl,c,hcc,hcv⟩:=cell1 μ Mt w _ _ B b hH hc hm
      have hl0:l≠[]:=by intro e;subst e;exact hb.2.1 hnl
      cases hcv with
      | sl0=>exact absurd rfl hb.2.1
      | sl _ _ _ _ _ B2 b2 cap arr el hm2 hB2 hcap hsz=>
        obtain ⟨o,ho,hr⟩:=hH.objs id2 _ g' B2 b2 hl rfl hm2;rw [hB2] at ho;cases ho;obtain ⟨rfl,h8,hfit,hcells⟩:=hr;rw [hnl] at hcc
        refine callsIn_wide.2 ((hs B B2 (b2+0) cap arr el l w hcc hB2 h8 (by omega) (by omega) (by omega) hl0 (fun j x hj=>?_)).mono ?_)
        ·rw [cell_of_heap hB2];exact hcells j x hj
        ·rintro e' w' ⟨rfl,rfl⟩
         have hn0:l.length≠0:=by omega
         exact ⟨_,_,_,rfl,.s _,a1w hH hl rfl hm2 hB2 (fr:=(b2+0,b2+0+l.length)) (by intro e;have:=congrArg Prod.snd e;simp only at this;omega) (av2 hB2 hn0) (by unfold World.freeze;rw [if_neg hn0];rfl) (by unfold World.freeze;rw [if_neg hn0];rfl) (by unfold World.freeze;rw [if_neg hn0];rfl)⟩
end
end Go.AM
set_option linter.unusedVariables false
namespace Go.AM
open Go.Proofs Go.Shelf Go.RowKit
variable {P:Program} {ρ:Ren}
theorem apw {w:World} (pt it ty e el:TypeId) (hp:P.underlying pt=some (.pointer e)) (he:P.underlying e=some (.int .u8)) (hel:az8 P el=true) (g o:Nat) (cur:Array Value) (hg:w.heap[g]?=some (.cells cur el (0,0)))
 (l:List UInt8) (h0:l≠[]) (hn:o+l.length≤cur.size) (h63:l.length≤9223372036854775807) (hcell:∀ j x,l[j]?=some x→w.cell? ((⟨g,o,none⟩:Addr).add j)=some (.int .u8 x.toNat)):
 (Builtin.unsafeString_ #[pt,it] ty #[.pointer (some ⟨g,o,none⟩),.int .i64 l.length]).run P w=.ok (.string ⟨l.toArray⟩) (w.freeze ⟨g,o,none⟩ l.length):=by
 have hl:l.length≠0:=by simpa using h0
 have hlb:=Lib.run_loadBytes (P:=P) (w:=w) l ⟨g,o,none⟩ .empty hcell
 have hsh:w.shape? g=some (el,cur.size):=by simp [World.shape?,hg]
 have hlies:=a2m (P:=P) hel he (cur.size / P.cellsOf el) o l.length (by rw [(a3n hel).2];simpa using hn)
 have h63':¬ (9223372036854775807:Int) < (l.length:Int):=by omega
 have hdef:Builtin.unsafeString_ #[pt,it] ty #[.pointer (some ⟨g,o,none⟩),.int .i64 l.length]=
  (do
   let n ← asInt (.int .i64 l.length)
   if n < 0 then runtimePanic (.error "unsafe.String: len out of range")
   if n > IntKind.i64.max then unsupported (.unsafePointer "String: a length above the largest int")
   if n=0 then pure (.string .empty)
   else if ← variablesAt ⟨g,o,none⟩ (← elemOf pt) n.toNat then do
    let s ← loadBytes ⟨g,o,none⟩ .empty n.toNat
    freeze ⟨g,o,none⟩ n.toNat
    pure (.string s)
   else unsupported (.unsafePointer "String: not so many bytes at ptr")) := rfl
 rw [hdef];have hmax:IntKind.i64.max=9223372036854775807:=rfl
 have hneg:¬ (l.length:Int) < 0:=by omega
 simp [asInt,asIntOf,hmax,h63',hneg,hl,variablesAt,hsh,elemOf,run_underlying hp,hlies,hlb]
set_option maxHeartbeats 1000000 in
set_option maxRecDepth 100000 in
theorem bal (L:Lays.n169 P ρ) (X:Builder.Extra P ρ) (b g o cap:Nat) (cur:Array Value) (el:TypeId) (l:List UInt8) (w:World) (hc:w.cell? ⟨b,1,none⟩=some (.slice (some ⟨g,o,none⟩) l.length cap)) (hg:w.heap[g]?=some (.cells cur el (0,0))) (hel:az8 P el=true)
 (hfit:o+l.length≤cur.size) (hcap:l.length≤cap) (h47:l.length≤140737488355328) (h0:l≠[]) (hcell:∀ (j:Nat) (x:UInt8),l[j]?=some x→w.cell? ⟨g,o+j,none⟩=some (.int .u8 x.toNat)):
 Calls P (ρ.f 169) #[.pointer (some ⟨b,0,none⟩)] w fun e w'=>e=.returned (.string ⟨l.toArray⟩)∧w'=w.drew.freeze ⟨g,o,none⟩ l.length:=by
 have hl0:l.length≠0:=by simpa using h0
 have c1:w.drew.cell? ⟨b,1,none⟩=some (.slice (some ⟨g,o,none⟩) l.length cap):=hc;have hSD:(Builtin.unsafeSliceData_ #[(ρ.t 37)] (ρ.t 127) #[.slice (some ⟨g,o,none⟩) l.length cap]).run P w.drew=.ok (.pointer (some ⟨g,o,none⟩)) w.drew:=
  Lib.run_unsafeSliceData_row _ _ _ _ _ _ (by omega)
 have hUS:(Builtin.unsafeString_ #[(ρ.t 127),(ρ.t 3)] (ρ.t 9) #[.pointer (some ⟨g,o,none⟩),.int .i64 l.length]).run P w.drew=.ok (.string ⟨l.toArray⟩) (w.drew.freeze ⟨g,o,none⟩ l.length):=
  apw (w:=w.drew) (ρ.t 127) (ρ.t 3) (ρ.t 9) (ρ.t 5) el L.t127 X.t5 hel g o cur hg l h0 hfit (by omega) (fun j x hj=>by
   have e:(⟨g,o,none⟩:Addr).add j=⟨g,o+j,none⟩:=by unfold Addr.add;split <;> simp_all
   rw [e];exact hcell j x hj)
 have mixed:=L.mixed;have t72:=L.t72;have a72:=L.a72;have z72:=L.z72;have v72:=L.v72;have u72:=run_underlying L.t72;have t70:=L.t70;have a70:=L.a70;have z70:=L.z70;have v70:=L.v70;have u70:=run_underlying L.t70;have t37:=L.t37;have a37:=L.a37;have z37:=L.z37;have v37:=L.v37;have u37:=run_underlying L.t37;have t127:=L.t127;have a127:=L.a127;have z127:=L.z127;have v127:=L.v127;have u127:=run_underlying L.t127;have t3:=L.t3;have a3:=L.a3;have z3:=L.z3;have v3:=L.v3;have u3:=run_underlying L.t3;have t9:=L.t9;have a9:=L.a9;have z9:=L.z9;have v9:=L.v9;have u9:=run_underlying L.t9;have t5:=X.t5;have a5:=X.a5;have z5:=X.z5;have v5:=X.v5;have u5:=run_underlying X.t5
 go_enter L.f169,Body.n169_ntmps ρ
 go_wp2
 go_region_o
 all_goals (go_wp2;go_ret;exact ⟨rfl,rfl⟩)
set_option maxHeartbeats 2000000 in
set_option maxRecDepth 100000 in
theorem ban (L:Lays.n169 P ρ) (X:Builder.Extra P ρ) (b:Nat) (w:World) (hc:w.cell? ⟨b,1,none⟩=some (.slice none 0 0)):
 Calls P (ρ.f 169) #[.pointer (some ⟨b,0,none⟩)] w fun e w'=>e=.returned (.string ⟨#[]⟩)∧Below w.heap.size w w':=by
 have hUS:=Any.unsafeString_none L X;have c1:w.drew.cell? ⟨b,1,none⟩=some (.slice none 0 0):=hc;have hSD:(Builtin.unsafeSliceData_ #[(ρ.t 37)] (ρ.t 127) #[.slice none 0 0]).run P w.drew=.ok (.pointer none) w.drew:=rfl;have mixed:=L.mixed;have t72:=L.t72;have a72:=L.a72;have z72:=L.z72;have v72:=L.v72;have u72:=run_underlying L.t72;have t70:=L.t70;have a70:=L.a70;have z70:=L.z70;have v70:=L.v70;have u70:=run_underlying L.t70;have t37:=L.t37;have a37:=L.a37;have z37:=L.z37;have v37:=L.v37;have u37:=run_underlying L.t37;have t127:=L.t127;have a127:=L.a127;have z127:=L.z127;have v127:=L.v127;have u127:=run_underlying L.t127;have t3:=L.t3;have a3:=L.a3;have z3:=L.z3;have v3:=L.v3;have u3:=run_underlying L.t3;have t9:=L.t9;have a9:=L.a9;have z9:=L.z9;have v9:=L.v9;have u9:=run_underlying L.t9;have t5:=X.t5;have a5:=X.a5;have z5:=X.z5;have v5:=X.v5;have u5:=run_underlying X.t5
 go_enter L.f169,Body.n169_ntmps ρ
 go_wp2
 go_region_o
 all_goals (go_wp2;go_ret;exact ⟨rfl,Below.drew (Below.refl _ w)⟩)
end Go.AM
set_option maxRecDepth 100000
namespace Go.Proofs.YtngfpadeebpoeaaGreatDoor
open Go.RowKit Go.AM Go.Shelf
theorem a9c (P : Program) {t : TypeId} (h : avy P t = true) : ∃ i, P.types[t]? = some i ∧ (i.str == "strings.Builder") = true := by
 unfold avy at h;split at h
 ·rename_i i hi;exact ⟨i,hi,h⟩
 ·cases h
theorem bet : (Tryz.prog.types.toList.zipIdx.all fun p => !(p.1.str == "strings.Builder") || p.2 == 61) = true := by kernel_rfl
theorem bim:∀ e,avy Tryz.prog e=true→e=61:=by
 intro e h;obtain ⟨i,hi,hs⟩:=a9c _ h
 have hi':Tryz.prog.types.toList[e]?=some i:=by simpa using hi
 have:=bi.1 bet (i,e) (List.mem_zipIdx_iff_getElem?.2 (by simpa using hi'))
 rw [hs] at this
 simpa using this
theorem a2y {px:PX}:aej Tryz.prog px 20 (.prim azj):=
 bdw (Go.Proofs.enters_of Tryz.func20 (by kernel_rfl) rfl) (fun a c sep w=>Any.strings_Join_none Tryz.joinK Tryz.extra a c sep w) (fun bk o c xs sep w h1 h2 h3 h4 h5=>Any.strings_Join Tryz.joinK Tryz.extra bk o c xs sep w h1 h2 h3 h4 h5)
theorem a5a {px:PX}:aej Tryz.prog px 70 (.prim awn):=
 bem bim (Go.Proofs.enters_of Tryz.func70 (by kernel_rfl) rfl) (fun b w h1 h2 h3=>Any.Builder_copyCheck_fresh { Tryz.joinK with } Tryz.extra.toX72 b w h1 h2 h3) (fun b w h1=>Any.Builder_copyCheck_used { Tryz.joinK with } Tryz.extra.toX72 b w h1)
theorem bam {px:PX}:aej Tryz.prog px 24 (.prim bes):=
 bih (Go.Proofs.enters_of Tryz.func24 (by kernel_rfl) rfl) (fun b w h=>ban { Tryz.joinK with } Tryz.extra b w h) (fun b g o cap cur el l w h1 h2 h3 h4 h5 h6 h7 h8=>bal { Tryz.joinK with } Tryz.extra b g o cap cur el l w h1 h2 h3 h4 h5 h6 h7 h8)
theorem a3i {px:PX}:aej Tryz.prog px 53 (.prim azk):=
 bdy (Go.Proofs.enters_of Tryz.func53 (by kernel_rfl) rfl) (fun i w hi=>Any.strconv_Itoa_small { Tryz.itoaK with } i hi w)
end Go.Proofs.YtngfpadeebpoeaaGreatDoor
namespace Go.AM
open Go.RowKit
def aye:List V→Nat→Heap→Option (V × Heap)
 | [.s (.string s),.s (.string p)],_,H=>if s.size≤4611686018427387904 then some (.s (.string ⟨(Lib.trimSuffix s.data.toList p.data.toList).toArray⟩),H) else none
 | _,_,_=>none
theorem bbt {P:Program} {pure':PX} {k:Nat} (hent:∀ xs w,(callFunc k xs).run P w=.ok (.enter k xs) w)
 (hs:∀ (s p:ByteArray) (w:World),s.size≤9223372036854775807→Calls P k #[.string s,.string p] w fun e w'=>e=.returned (.string ⟨(Lib.trimSuffix s.data.toList p.data.toList).toArray⟩)∧w'=w):aej P pure' k (.prim aye):=by
 refine ⟨hent,fun vs base H r H' hg=>?_⟩;unfold aye at hg;split at hg
 case h_2=>cases hg
 rename_i s p;split at hg
 case isFalse=>cases hg
 rename_i hb;cases hg;refine ⟨Floor.refl _ _,fun μ Mt w cs hH hvs m=>?_⟩;obtain ⟨h1,h2⟩:=hvs
 match cs,h1 with
 | [x,y],_=>
   have e1:=aaa (h2 0 _ x rfl rfl);have e2:=aaa (h2 1 _ y rfl rfl);subst e1 e2
   refine callsIn_wide.2 ((hs s p w (by omega)).mono ?_)
   rintro e w' ⟨rfl,rfl⟩;exact ⟨_,μ,Mt,rfl,.s _,Post.refl hH⟩
inductive Ty where
 | int (k:IntKind) | bool | str
 | sl (e:Ty)
 | st (fs:List Ty)
 deriving Inhabited
mutual
def Ty.width:Ty→Nat
 | .int _=>1
 | .bool=>1
 | .str=>1
 | .sl _=>1
 | .st fs=>ajj fs
def ajj:List Ty→Nat
 | []=>0
 | f :: fs=>f.width+ajj fs
end
mutual
def aoa (P:Program):Nat→Ty→TypeId→Bool
 | 0,_,_=>false
 | n+1,ty,t=>match ty,P.underlying t with
   | .int k,some (.int k')=>k == k'
   | .bool,some .bool=>true
   | .str,some .string=>true
   | .sl e,some (.slice e')=>aoa P n e e' && P.cellsOf e' == e.width && decide (0 < e.width)
   | .st fs,some (.struct gs)=>P.cellsOf t == ajj fs && aua P n 0 fs gs.toList
   | _,_=>false
def aua (P:Program):Nat→Nat→List Ty→List Field→Bool
 | 0,_,_,_=>false
 | n+1,off,fs,gs=>match fs,gs with
   | [],[]=>true
   | f :: fs,g :: gs=>g.offset == off && P.cellsOf g.type == f.width && aoa P n f g.type && aua P n (off+f.width) fs gs
   | _,_=>false
end
mutual
def IsV:Ty→List V→Prop
 | .int k,cs=>∃ n,cs=[.s (.int k n)]∧k.min≤n∧n≤k.max
 | .bool,cs=>∃ b,cs=[.s (.bool b)]
 | .str,cs=>∃ b,cs=[.s (.string b)]∧b.size≤maxLen
 | .sl e,cs=>cs=[abw]∨∃ es:List (List V),cs=[.psl es e.width]∧es.length≤maxLen∧∀ x∈es,IsV e x
 | .st fs,cs=>bfi fs cs
def bfi:List Ty→List V→Prop
 | [],cs=>cs=[]
 | f :: fs,cs=>∃ a b,cs=a ++ b∧IsV f a∧bfi fs b
end
mutual
theorem IsV.len:∀ (t:Ty) {cs:List V},IsV t cs→cs.length=t.width
 | .int _,cs,h=>by obtain ⟨n,rfl,_⟩:=h;rfl
 | .bool,cs,h=>by obtain ⟨n,rfl⟩:=h;rfl
 | .str,cs,h=>by obtain ⟨n,rfl,_⟩:=h;rfl
 | .sl e,cs,h=>by rcases h with rfl | ⟨es,rfl,_⟩ <;> rfl
 | .st fs,cs,h=>bfi.len fs h
theorem bfi.len:∀ (fs:List Ty) {cs:List V},bfi fs cs→cs.length=ajj fs
 | [],cs,h=>by cases h;rfl
 | f :: fs,cs,h=>by
   obtain ⟨a,b,rfl,h1,h2⟩:=h;rw [az,IsV.len f h1,bfi.len fs h2];rfl
end
abbrev PRs (w:World) (vs:List V) (cs:List Value):Prop:=vs.length=cs.length∧∀ (i:Nat) (a:V) (b:Value),vs[i]?=some a→cs[i]?=some b→PR (fun _=>False) w a b
theorem PRs.app {w:World} {a b:List V} {c d:List Value} (h:PRs w a c) (k:PRs w b d):PRs w (a ++ b) (c ++ d):=by
 refine ⟨by simp [h.1,k.1],fun i x y hx hy=>?_⟩
 by_cases hi:i < a.length
 ·rw [ag hi] at hx
  rw [ag (by rw [← h.1];exact hi)] at hy
  exact h.2 i x y hx hy
 ·rw [bg (by omega)] at hx
  rw [bg (by rw [← h.1];omega),← h.1] at hy
  exact k.2 _ x y hx hy
theorem PRs.one {w:World} {a:V} {b:Value} (h:PR (fun _=>False) w a b):PRs w [a] [b]:=⟨rfl,fun i x y hx hy=>by
 cases i with
 | zero=>simp at hx hy;rw [← hx,← hy];exact h
 | succ i=>simp at hx⟩
theorem PRs.vrs {w:World} {vs:List V} {cs:List Value} (h:PRs w vs cs):VRs (fun _ _=>none) (fun _=>False) w vs cs:=⟨h.1,fun i a b ha hb=>(h.2 i a b ha hb).vr⟩
theorem a8o {α β:Type} {f:α→Option β} {l:List α} {us:List β} (h:l.mapM f=some us):us.length=l.length∧∀ (i:Nat) (v:α),l[i]?=some v→∃ u,us[i]?=some u∧f v=some u:=by
 obtain ⟨h1,h2⟩:=asb h;refine ⟨h1,fun i v hv=>?_⟩
 have hi:i < us.length:=by rw [h1];exact (ae.1 hv).1
 exact ⟨us[i],ah hi,h2 i v _ hv (ah hi)⟩
section
variable {H:Type} {enc:TypeId × Value→H} {P:Program} {w:World} {base:Nat} {sp:Nat→Bool} {held:Bool}
theorem add_block (a:Addr) (j:Nat):(a.add j).block=a.block:=by unfold Addr.add;split <;> rfl
theorem a5w {a:Addr} (h:a.spot=none) (j:Nat):(a.add j).off=a.off+j:=by
 unfold Addr.add;split
 ·rename_i e;subst e;rfl
 ·rfl
theorem atd {a:Addr} {n:Nat} {cs:List Value} (h:w.cells? base a n=some cs) (hn:0 < n):∃ arr e fr,w.heap[a.block]?=some (.cells arr e fr)∧a.spot=none∧cs.length=n∧a.off+n≤arr.size∧∀ j,j < n→cs[j]?=arr[a.off+j]?:=by
 unfold World.cells? at h;split at h
 ·obtain ⟨h1,h2⟩:=a8o h;simp only [List.length_range] at h1
  have key:∀ j,j < n→∃ u,cs[j]?=some u∧w.cell? (a.add j)=some u:=fun j hj=>h2 j j (by simp [hj])
  obtain ⟨u0,_,hc0⟩:=key 0 hn;unfold World.cell? at hc0;split at hc0
  ·rename_i c e fr hh;have hbl:∀ j,(a.add j).block=a.block:=fun j=>add_block a j;rw [hbl] at hh;split at hc0
   ·cases hc0
   ·rename_i hsp
    have hsp:a.spot=none:=by
     cases hs:a.spot with
     | none=>rfl
     | some x=>exact absurd (by show (a.add 0).spot.isSome=true;simp [Addr.add,hs]) hsp
    have all:∀ j,j < n→cs[j]?=c[a.off+j]?:=by
     intro j hj;obtain ⟨u,hu,hc⟩:=key j hj;unfold World.cell? at hc;rw [hbl,hh] at hc;simp only [] at hc;split at hc
     ·cases hc
     ·rw [hu];have:(a.add j).off=a.off+j:=a5w hsp j;rw [← this];exact hc.symm
    refine ⟨c,e,fr,hh,hsp,h1,?_,all⟩
    have hl:=all (n - 1) (by omega)
    have:cs[n - 1]?=some cs[n - 1]:=ah (by omega)
    rw [this] at hl;have:=(lg.1 hl.symm).1;omega
  ·cases hc0
 ·cases h
theorem a6q {n:Nat} {k:IntKind} {t:TypeId} (h:aoa P n (.int k) t=true):P.underlying t=some (.int k):=by
 cases n with
 | zero=>simp [aoa] at h
 | succ n=>
   simp only [aoa] at h;split at h <;> simp_all
theorem a0m {n:Nat} {t:TypeId} (h:aoa P n .bool t=true):P.underlying t=some .bool:=by
 cases n with
 | zero=>simp [aoa] at h
 | succ n=>
   simp only [aoa] at h;split at h <;> simp_all
theorem a6p {n:Nat} {t:TypeId} (h:aoa P n .str t=true):P.underlying t=some .string:=by
 cases n with
 | zero=>simp [aoa] at h
 | succ n=>
   simp only [aoa] at h;split at h <;> simp_all
theorem bbs {n:Nat} {e:Ty} {t:TypeId} (h:aoa P n (.sl e) t=true):∃ m e',P.underlying t=some (.slice e')∧aoa P m e e'=true∧P.cellsOf e'=e.width∧0 < e.width:=by
 cases n with
 | zero=>simp [aoa] at h
 | succ n=>
   simp only [aoa] at h;split at h <;> simp_all;exact ⟨n,h.1.1⟩
theorem bbr {n:Nat} {fs:List Ty} {t:TypeId} (h:aoa P n (.st fs) t=true):∃ m gs,P.underlying t=some (.struct gs)∧P.cellsOf t=ajj fs∧aua P m 0 fs gs.toList=true:=by
 cases n with
 | zero=>simp [aoa] at h
 | succ n=>
   simp only [aoa] at h;split at h <;> simp_all;exact ⟨n,h.2⟩
theorem bci:∀ (fuel n:Nat) (ty:Ty) (t:TypeId) (cs:List Value) (x:DataW H × List MemPlace),aoa P n ty t=true→DataW.trod enc P w base sp held fuel t cs=some x→∃ vs,IsV ty vs∧PRs w vs cs:=by
 intro fuel
 induction fuel with
 | zero=>intro n ty t cs x _ h;simp [DataW.trod] at h
 | succ fuel ih=>
   intro n ty t cs x ht h;cases ty with
   | int k=>
     obtain ⟨m,rfl,_,hw⟩:=DataW.trod_int (a6q ht) h;simp only [Lit.wf,dx,decide_eq_true_eq] at hw;exact ⟨[.s (.int k m)],⟨m,rfl,hw.1,hw.2⟩,PRs.one (.s _)⟩
   | bool=>
     obtain ⟨b,rfl,_⟩:=DataW.trod_bool (a0m ht) h;exact ⟨[.s (.bool b)],⟨b,rfl⟩,PRs.one (.s _)⟩
   | str=>
     obtain ⟨b,rfl,_,hb⟩:=DataW.trod_string (a6p ht) h;exact ⟨[.s (.string b)],⟨b,rfl,hb⟩,PRs.one (.s _)⟩
   | sl e=>
     obtain ⟨m,e',hu,he,hw,h0⟩:=bbs ht
     rcases DataW.trod_slice hu h with ⟨rfl,_⟩ | ⟨a,len,cap,elems,rest,n2,hn,rfl,_,hb,hlc,hcm,hel,hall,_⟩
     ·exact ⟨[abw],.inl rfl,PRs.one (.s _)⟩
     ·have hn2:n2=fuel:=by omega
      subst hn2;rw [hw] at hall;by_cases hl:len=0
      ·subst hl
       exact ⟨[.psl [] e.width],.inr ⟨[],rfl,gq _,fun x hx=>by cases hx⟩,PRs.one (.psl0 _ _ _)⟩
      ·
       have one:∀ i,i < len→∃ cs vs,w.cells? base (a.add (i * e.width)) e.width=some cs∧IsV e vs∧PRs w vs cs:=by
        intro i hi;have hh:=hall i hi
        have:elems[i]?=some elems[i]:=ah (by omega)
        rw [this,aj] at hh;obtain ⟨cs,h1,h2⟩:=hh;obtain ⟨vs,h3,h4⟩:=ih m e e' cs _ he h2;exact ⟨cs,vs,h1,h3,h4⟩
       obtain ⟨c0,_,hc0,_,_⟩:=one 0 (by omega)
       rw [a6b] at hc0
       have ha0:a.add 0=a:=by simp [Addr.add]
       rw [ha0] at hc0;obtain ⟨arr,el,fr,hB,hsp,_,_,_⟩:=atd hc0 h0
       have pos:∀ i,i < len→∃ vs,IsV e vs∧a.off+i * e.width+e.width≤arr.size∧∀ (j:Nat) (x:V) (y:Value),vs[j]?=some x→arr[a.off+i * e.width+j]?=some y→PR (fun _=>False) w x y:=by
        intro i hi;obtain ⟨cs,vs,h1,h2,h3⟩:=one i hi;obtain ⟨arr',el',fr',hB',_,hcl,hsz,hcj⟩:=atd h1 h0;rw [add_block,hB] at hB';cases hB';rw [a5w hsp] at hsz hcj;refine ⟨vs,h2,hsz,fun j x y hx hy=>?_⟩
        have hj:j < e.width:=by rw [← h2.len];exact (ae.1 hx).1
        exact h3.2 j x y hx (by rw [hcj j hj];exact hy)
       obtain ⟨es,he1,he2⟩:∃ es:List (List V),es.length=len∧∀ i vs,es[i]?=some vs→IsV e vs∧a.off+i * e.width+e.width≤arr.size∧∀ (j:Nat) (x:V) (y:Value),vs[j]?=some x→arr[a.off+i * e.width+j]?=some y→PR (fun _=>False) w x y:=by
        have:∀ k,k≤len→∃ es:List (List V),es.length=k∧∀ i vs,es[i]?=some vs→IsV e vs∧a.off+i * e.width+e.width≤arr.size∧∀ (j:Nat) (x:V) (y:Value),vs[j]?=some x→arr[a.off+i * e.width+j]?=some y→PR (fun _=>False) w x y:=by
         intro k
         induction k with
         | zero=>intro _;exact ⟨[],rfl,fun i vs h=>by simp at h⟩
         | succ k ihk=>
           intro hk
           obtain ⟨es,h1,h2⟩:=ihk (by omega)
           obtain ⟨vs,h3⟩:=pos k (by omega)
           refine ⟨es ++ [vs],by simp [h1],fun i us hi=>?_⟩
           by_cases c:i < es.length
           ·rw [ag c] at hi;exact h2 i us hi
           ·rw [bg (by omega)] at hi
            have:i - es.length=0:=by
             have:=(ae.1 hi).1;simp at this;omega
            rw [this] at hi;simp at hi
            have hik:i=k:=by omega
            subst hik;subst hi;exact h3
        exact this len (af _)
       refine ⟨[.psl es e.width],.inr ⟨es,rfl,by omega,fun x hx=>?_⟩,PRs.one ?_⟩
       ·obtain ⟨i,hi⟩:=pq.1 hx;exact (he2 i x hi).1
       ·have hslice:Value.slice (some a) len cap=.slice (some ⟨a.block,a.off,none⟩) es.length cap:=by
         rw [he1]
         congr 2
         cases a;simp at hsp;subst hsp;rfl
        rw [hslice]
        refine .psl es e.width a.block a.off cap arr el fr hB (fun h=>h) (by omega) (fun i vs hi=>(he2 i vs hi).1.len) ?_ (fun i vs j x y hi hx hy=>(he2 i vs hi).2.2 j x y hx hy)
        have hlast:=(he2 (len - 1) es[len - 1] (ah (by omega))).2.1
        rw [he1]
        have:len * e.width=(len - 1) * e.width+e.width:=by
         obtain ⟨k,rfl⟩:∃ k,len=k+1:=⟨len - 1,by omega⟩
         rw [Nat.add_sub_cancel,x8,bbj]
        omega
   | st fs=>
     obtain ⟨m,gs,hu,hw,hts⟩:=bbr ht;obtain ⟨xs,n2,hn,_,hcl,hxl,hall⟩:=DataW.trod_struct hu h
     have hn2:n2=fuel:=by omega
     subst hn2
     have key:∀ (fs:List Ty) (m off:Nat) (gl:List Field),aua P m off fs gl=true→(∀ g∈gl,∃ y,DataW.trod enc P w base sp held n2 g.type ((cs.drop g.offset).take (P.cellsOf g.type))=some y)→off+ajj fs=cs.length→∃ vs,bfi fs vs∧PRs w vs (cs.drop off):=by
      intro fs
      induction fs with
      | nil=>
        intro m off gl _ _ ho;refine ⟨[],rfl,?_⟩
        rw [bkk (by simp [ajj] at ho;omega)]
        exact ⟨rfl,fun i a b h=>by simp at h⟩
      | cons f fs ihf=>
        intro m off gl htk hg ho;cases m with
        | zero=>simp [aua] at htk
        | succ m=>
          cases gl with
          | nil=>simp [aua] at htk
          | cons g gl=>
            simp only [aua,dx,beq_iff_eq] at htk;obtain ⟨⟨⟨h1,h2⟩,h3⟩,h4⟩:=htk;obtain ⟨y,hy⟩:=hg g gm;obtain ⟨va,ha1,ha2⟩:=ih m f g.type _ y h3 hy
            obtain ⟨vb,hb1,hb2⟩:=ihf m (off+f.width) gl h4 (fun g hg'=>hg g (fe _ hg')) (by simp only [ajj] at ho;omega)
            refine ⟨va ++ vb,⟨va,vb,rfl,ha1,hb1⟩,?_⟩;rw [h1,h2] at ha2
            have:cs.drop off=(cs.drop off).take f.width ++ cs.drop (off+f.width):=by
             rw [← y8,abd]
            rw [this];exact ha2.app hb2
     obtain ⟨vs,h1,h2⟩:=key fs m 0 gs.toList hts (fun g hg=>by
      obtain ⟨i,hi⟩:=pq.1 hg
      have hi':gs[i]?=some g:=by simpa using hi
      have h3:=hall i g hi';have hlt:=(lg.1 hi').1
      exact ⟨xs[i]'(by omega),by rw [h3];exact ah (by omega)⟩) (by omega)
     exact ⟨vs,h1,by simpa using h2⟩
def argV:Ty→List V→V
 | .st _,vs=>.agg vs
 | _,[v]=>v
 | _,_=>.unk
theorem a7q {n:Nat} {ty:Ty} {t:TypeId} {v:Value} {d:DataW H} {ps:List MemPlace} (ht:aoa P n ty t=true) (hf:(match ty with | .st _=>∃ vs,v=.agg vs | _=>v.cells.toList=[v])) (h:DataW.Trod enc P w base sp held t v d ps):
 ∃ vs,IsV ty vs∧VR (fun _ _=>none) (fun _=>False) w (argV ty vs) v:=by
 obtain ⟨fuel,h⟩:=h;obtain ⟨vs,h1,h2⟩:=bci fuel n ty t _ _ ht h;refine ⟨vs,h1,?_⟩
 have one:vs.length=1→v.cells.toList=[v]→∃ x,vs=[x]∧VR (fun _ _=>none) (fun _=>False) w x v:=by
  intro hl hc
  match vs,hl with
  | [x],_=>
    rw [hc] at h2;exact ⟨x,rfl,(h2.2 0 x v rfl rfl).vr⟩
 cases ty with
 | st fs=>
   obtain ⟨us,rfl⟩:=hf;exact ael (vs:=us.toList) h2.vrs
 | _=>
   obtain ⟨x,rfl,hx⟩:=one h1.len hf;exact hx
end
def rep (c:Nat):Nat→Nat
 | 0=>0
 | n+1=>c+256 * rep c n
def st1 (n x:Nat):Nat:=(x / 2 &&& rep 0x55 n)+(x &&& rep 0x55 n)
def st2 (n x:Nat):Nat:=(x / 4 &&& rep 0x33 n)+(x &&& rep 0x33 n)
def st3 (n x:Nat):Nat:=(x / 16+x) &&& rep 0x0f n
def pops:Nat→Nat→Nat
 | 0,_=>0
 | n+1,x=>x % 2+pops n (x / 2)
def wbits (k:Int) (w:Nat):List Int:=((List.range 64).filter fun b=>w.testBit b).map fun (b:Nat)=>k * 64+(b:Int)
def bie (ks:List Int) (f:Int→Nat):List Int:=(bgz ks).flatMap fun k=>wbits k (f k)
structure Wd (ks:List Int) (f:Int→Nat):Prop where
 nd:ks.Nodup
 iff:∀ k,k∈ks↔f k≠0
 lt:∀ k,f k < 2 ^ 64
 nn:∀ k∈ks,0≤k∧k < 2 ^ 57
def pop (w:Nat):Nat:=pops 64 w
def cntF (f:Int→Nat):List Int→Nat
 | []=>0
 | k :: ks=>pop (f k)+cntF f ks
theorem aa1 (H:Heap) (f:Nat) (a b:List Opd) (vs:List V):aea H (.mkFn f a b) (some vs)=some (.fn f (a.map (ev vs)) (b.map (ev vs))):=rfl
theorem a6r (m:Nat) (fr:List V) (H:Heap):trim m fr H=H∨(trim m fr H=H.take m∧(∀ v∈fr,og m 8 v=true)∧∀ id g c,id < m→jm H id g=some c→∀ i h o n z,V.sl i h o n z∈c→i < m):=by
 unfold trim;split
 ·rename_i h;simp only [dx,bi] at h;refine .inr ⟨rfl,h.1,?_⟩;intro id g c hid hc i h' o n z hx;unfold jm at hc;split at hc
  ·rename_i g' c' hh;split at hc
   ·cases hc
    have hm:Ob.cells g' c∈H.take m:=by
     have:(H.take m)[id]?=some (Ob.cells g' c):=by rw [dm hid];exact hh
     exact ak this
    have:=h.2 _ hm;simp only [Ob.under,bi] at this;have:=this _ hx
    simpa [og] using this
   ·cases hc
  ·cases hc
 ·exact .inl rfl
theorem aa3 {m:Nat} {fr:List V} {H:Heap} {id g:Nat} {c:List V} (hc:jm H id g=some c) (hid:id < m):jm (trim m fr H) id g=some c:=by
 rcases a6r m fr H with e | ⟨e,_⟩ <;> rw [e]
 ·exact hc
 ·unfold jm at hc ⊢;rw [dm hid];exact hc
def aj3 (m:Nat) (H:Heap) (v:V) (l:List V):Prop:=(l=[]∧(v=abw∨v=.esl))∨∃ id g c,v=.sl id g 0 l.length 1∧jm H id g=some c∧l.length≤c.length∧c.take l.length=l∧m≤id
theorem aj3.rd {m:Nat} {H:Heap} {v:V} {l:List V} (h:aj3 m H v l):Rd H v l:=by
 rcases h with ⟨rfl,rfl | rfl⟩ | ⟨id,g,c,rfl,hc,hl,ht,_⟩
 ·exact Rd.nil H
 ·exact Rd.esl H
 ·have:=Rd.sl hc (off:=0) (n:=l.length) (by omega)
  rwa [pg,ht] at this
theorem aj3.wide {m:Nat} {H:Heap} {v:V} {l:List V} (h:aj3 m H v l):aa7 v:=by
 rcases h with ⟨_,rfl | rfl⟩ | ⟨_,_,_,rfl,_⟩ <;> trivial
theorem aj3.one {m:Nat} {H:Heap} {v:V} {l:List V} (h:aj3 m H v l):v.one=true:=h.rd.one
theorem yf {H:Heap} {id g:Nat} {c c':List V} (h:jm H id g=some c):jm (H.set id (.cells g c')) id g=some c':=afn h _
theorem auj (a b:Int):Instr.sameNow (.int .i64) (.int .i64 a) (.int .i64 b)=some (a == b):=by simp [Instr.sameNow]
def bbq (H:Heap) (base:Nat) (kind:TypeDesc) (m k v:V):Option (V × Heap):=
 match m,k with
  | .mp id,.s key=>if base≤id∧ae3 kind key then match H[id]? with
     | some (.map es)=>match afw kind key es 0 with
       | some (some (i,_))=>some (und,H.set id (.map (es.set i (key,v))))
       | some none=>some (und,H.set id (.map (es ++ [(key,v)])))
       | none=>none
     | _=>none
    else none
  | _,_=>none
theorem aez (call:ni) (base:Nat) (fr:List V) (H:Heap) (kind:TypeDesc) (m k v:Opd):ku call base fr H (.mapUpd kind m k v)=bbq H base kind (ev fr m) (ev fr k) (ev fr v):=rfl
def delMV (H:Heap) (base:Nat) (kind:TypeDesc) (m k:V):Option (V × Heap):=
 match m,k with
  | .mp id,.s key=>if base≤id∧ae3 kind key then match H[id]? with
     | some (.map es)=>match afw kind key es 0 with
       | some (some (i,_))=>some (und,H.set id (.map (es.eraseIdx i)))
       | some none=>some (und,H)
       | none=>none
     | _=>none
    else none
  | _,_=>none
theorem a2a (call:ni) (base:Nat) (fr:List V) (H:Heap) (kind:TypeDesc) (m k:Opd):ku call base fr H (.delete kind m k)=delMV H base kind (ev fr m) (ev fr k):=rfl
def bkb (H:Heap) (id:Nat):Option St→Option (V × Heap)
 | some (e,_,H)=>match H[id]? with
   | some (.loop .busy none t p a b)=>some (bl (e=.nrm),H.set id (.loop (if e=.nrm then .ready else .done) (aoi e) t p a b))
   | _=>none
 | none=>none
theorem a1b (fr:List V):aq6 [] [] fr=some fr:=rfl
theorem ayt (p:Nat) (ps:List Nat) (v:V) (vs:List V) (n:Nat) (en:Env):aq6 (p :: ps) (v :: vs) (iw n en)=aq6 ps vs (iw n (a1s p v en)):=by
 simp only [aq6,ap8]
abbrev WS:=List Int × (Int→Nat)
def cnt (p:WS):Nat:=cntF p.2 p.1
def el (p:WS):List Int:=bie p.1 p.2
def bfj (L:Nat) (fr:List V):Option (V × Heap)→Option St
 | some (_,H')=>match H'[L]? with
   | some (.loop .ready none _ _ _ _)=>some (.nrm,fr,trim L fr (H'.set L .dead))
   | some (.loop .done (some e) _ _ _ _)=>some (e,fr,trim L fr (H'.set L .dead))
   | _=>none
 | none=>none
def rngF (call:ni) (base:Nat) (ps:List Nat) (a b:ACode) (fr:List V) (H:Heap):V→Option St
 | .fn k x y=>bfj H.length fr (call (.fn k x y) [.yld H.length] base (H ++ [.loop .ready none fr ps a b]))
 | _=>none
theorem bej (call:ni) (it:zt) (base:Nat) (f:Opd) (ps:List Nat) (a b:ACode) (fr:List V) (H:Heap):evC call it base (.rangeFunc f ps a b) fr H=rngF call base ps a b fr H (ev fr f):=by
 simp only [evC];cases ev fr f <;> rfl
theorem bce (call:ni) (base:Nat) (ps:List Nat) (a b:ACode) (fr:List V) (H:Heap) (k:Nat) (x y:List V):rngF call base ps a b fr H (.fn k x y)=bfj H.length fr (call (.fn k x y) [.yld H.length] base (H ++ [.loop .ready none fr ps a b])):=rfl
theorem a7f {L:Nat} {fr:List V} {v:V} {H':Heap} {t:List V} {p:List Nat} {a b:ACode} (h:H'[L]?=some (.loop .ready none t p a b)):bfj L fr (some (v,H'))=some (.nrm,fr,trim L fr (H'.set L .dead)):=by simp only [bfj,h]
theorem a1j {L:Nat} {fr:List V} {v:V} {H':Heap} {e:Ex} {t:List V} {p:List Nat} {a b:ACode} (h:H'[L]?=some (.loop .done (some e) t p a b)):bfj L fr (some (v,H'))=some (e,fr,trim L fr (H'.set L .dead)):=by simp only [bfj,h]
theorem aqx {H H':Heap} {id:Nat} {e:Ex} {fr t:List V} {p:List Nat} {a b:ACode} (h:H'[id]?=some (.loop .busy none t p a b)):bkb H id (some (e,fr,H'))=some (bl (e=.nrm),H'.set id (.loop (if e=.nrm then .ready else .done) (aoi e) t p a b)):=by simp only [bkb,h]
def andNot (a b:Nat):Nat:=a &&& (2 ^ 64 - 1 - b)
theorem ax8 (H:Heap) (z:List V) (p:List (Nat × Nat)) (ps:List (Nat × Opd)) (vs:List V):aea H (.build z p ps) (some vs)=(aby (p[·]?) z (ps.map fun q=>(q.1,ev vs q.2))).map .agg:=by
 simp only [aea,ku];cases aby (p[·]?) z (ps.map fun q=>(q.1,ev vs q.2)) <;> rfl
def amY:=And.intro @aez (And.intro @a2a (And.intro @a1b (And.intro @ayt (And.intro @bej (And.intro @bce @ax8)))))
theorem ap9 {w:Nat}:∀ (R:List (List V)),(∀ r∈R,r.length=w)→R.flatten.length=R.length * w:=by
 intro R
 induction R with
 | nil=>intro _;simp
 | cons r R ih=>
   intro h;rw [xw,az,ih (fun x hx=>h x (fe _ hx)),h r gm,fq,x8];omega
theorem a7d {w:Nat}:∀ (R:List (List V)),(∀ r∈R,r.length=w)→∀ (i:Nat) (r:List V),R[i]?=some r→(R.flatten.drop (i * w)).take w=r:=by
 intro R
 induction R with
 | nil=>intro _ i r h;simp at h
 | cons s R ih=>
   intro h i r hr;have hs:=h s gm;cases i with
   | zero=>
     simp only [tq,fu] at hr;subst hr;rw [a6b,pg,xw,← hs,List.take_left]
   | succ i=>
     simp only [kw] at hr
     rw [xw,show (i+1) * w=s.length+i * w by rw [hs,x8];omega,List.drop_append,bkk (by omega),cu,Nat.add_sub_cancel_left]
     exact ih (fun x hx=>h x (fe _ hx)) i r hr
structure RdW (w:Nat) (H:Heap) (v:V) (R:List (List V)):Prop where
 el:elems H w v=some (R.length,R.flatten)
 len:aqz H .s v=some (.s (.int .i64 R.length))
 one:v.one=true
 at':∀ (i:Nat) (r:List V),R[i]?=some r→∃ a,mq w v (.s (.int .i64 i))=some a∧tu H true w a=some (.agg r)∧∀ (o:Nat) (x:V),r[o]?=some x→∃ b,aar o a=some b∧tu H false 1 b=some x
theorem RdW.nil (w:Nat) (H:Heap):RdW w H abw []:=⟨rfl,rfl,rfl,fun i r h=>by simp at h⟩
theorem aw3 {r:List V} {o:Nat} {x:V} (h:r[o]?=some x):(r.drop o).take 1=[x]:=by
 obtain ⟨ho,rfl⟩:=ae.1 h;rw [y7 ho];rfl
theorem RdW.psl {w:Nat} (H:Heap) {R:List (List V)} (hR:∀ r∈R,r.length=w):RdW w H (.psl R w) R:=by
 refine ⟨by simp [elems],rfl,rfl,fun i r h=>⟨.pref r,?_,?_,fun o x hx=>⟨.pref (r.drop o),?_,?_⟩⟩⟩
 ·rw [bay,if_pos ⟨by omega,rfl⟩,abk,h]
  rfl
 ·have:=hR r (ak h)
  rw [at0,aaz (by omega),if_pos this,aph]
 ·rw [a0g,if_pos (by have:=(ae.1 hx).1;omega)]
 ·rw [at0,aw3 hx,if_pos (by rfl),aj5]
theorem RdW.sl {w:Nat} {H:Heap} {id g:Nat} {R:List (List V)} (hc:jm H id g=some R.flatten) (hR:∀ r∈R,r.length=w):RdW w H (.sl id g 0 R.length w) R:=by
 have hl:=ap9 R hR;refine ⟨?_,rfl,rfl,fun i r h=>?_⟩
 ·simp only [elems,if_true,hc,pg,← hl,ky]
 ·have hr:=hR r (ak h);have hi:=(ae.1 h).1;have hg:=a7d R hR i r h;refine ⟨.ref id g (0+i * w),?_,?_,fun o x hx=>⟨.ref id g (0+i * w+o),rfl,?_⟩⟩
  ·rw [bf4,if_pos ⟨by omega,by omega,rfl⟩,abk]
  ·rw [r9,hc,om];simp only [hg,hr,if_true,aph]
  ·have ho:=(ae.1 hx).1
   have e:(R.flatten.drop (0+i * w+o)).take 1=[x]:=by
    have h2:=aw3 hx
    rw [← hg,List.drop_take,y8,List.take_take,Nat.min_eq_left (by omega)] at h2
    rw [om];exact h2
   rw [r9,hc];simp only [e,qz,if_true,aj5]
def apc (m w:Nat) (H:Heap) (v:V) (R:List (List V)):Prop:=(∀ r∈R,r.length=w)∧((R=[]∧v=abw)∨∃ id g,v=.sl id g 0 R.length w∧jm H id g=some R.flatten∧m≤id)
theorem apc.start (m w:Nat) (H:Heap):apc m w H abw []:=⟨fun r h=>by simp at h,.inl ⟨rfl,rfl⟩⟩
theorem apc.rd {m w:Nat} {H:Heap} {v:V} {R:List (List V)} (h:apc m w H v R):RdW w H v R:=by
 obtain ⟨hR,⟨rfl,rfl⟩ | ⟨id,g,rfl,hc,_⟩⟩:=h
 ·exact RdW.nil w H
 ·exact RdW.sl hc hR
theorem apc.keep {m w:Nat} {H H':Heap} {v:V} {R:List (List V)} (h:apc m w H v R) (hk:∀ id g n,v=.sl id g 0 n w→H'[id]?=H[id]?):apc m w H' v R:=by
 obtain ⟨hR,h | ⟨id,g,rfl,hc,hm⟩⟩:=h
 ·exact ⟨hR,.inl h⟩
 ·refine ⟨hR,.inr ⟨id,g,rfl,?_,hm⟩⟩;unfold jm at hc ⊢;rw [hk id g _ rfl];exact hc
theorem apc.lt {m w:Nat} {H:Heap} {v:V} {R:List (List V)} (h:apc m w H v R):∀ id g n,v=.sl id g 0 n w→id < H.length:=by
 obtain ⟨_,⟨_,rfl⟩ | ⟨id,g,rfl,hc,hm⟩⟩:=h
 ·intro id g n e;cases e
 ·intro id' g' n e;cases e;exact acb hc
theorem apc.append {m w:Nat} {H:Heap} {v:V} {R:List (List V)} (h:apc m w H v R) {base bytes:Nat} (hb:base≤m) (hm:m≤H.length) {S:List (List V)} (hS:∀ r∈S,r.length=w) (h0:S≠[]) {x:V} (hx:elems H w x=some (S.length,S.flatten)) (ho:S.flatten.all V.one=true) (hs:(R.length+S.length) * bytes≤2 ^ 47):
 ∃ v' H',qx H base w bytes v x=some (v',H')∧apc m w H' v' (R ++ S)∧H.length≤H'.length∧(∀ id,id < H.length→(∀ g n,v≠.sl id g 0 n w)→H'[id]?=H[id]?):=by
 have hn:¬ S.length=0:=fun e=>h0 (jr e);have hRS:∀ r∈R ++ S,r.length=w→r.length=w:=fun _ _ e=>e
 obtain ⟨hR,⟨rfl,rfl⟩ | ⟨id,g,rfl,hc,hid⟩⟩:=h
 ·have hs':S.length * bytes≤2 ^ 47:=by simpa using hs
  refine ⟨.sl H.length 0 0 S.length w,H ++ [.cells 0 S.flatten],?_,⟨?_,.inr ⟨H.length,0,by simp,?_,hm⟩⟩,by simp,fun id hid _=>ag hid⟩
  ·simp only [qx,hx,ho,if_true,abw,hn,if_false,hs']
  ·simpa using hS
  ·rw [cu];exact dh H 0 _
 ·have hlt:=acb hc
  have hbi:base≤id:=by omega
  have hl:=ap9 R hR
  refine ⟨.sl id (g+1) 0 (R.length+S.length) w,H.set id (.cells (g+1) (R.flatten ++ S.flatten)),?_,⟨?_,.inr ⟨id,g+1,by simp,?_,hid⟩⟩,by simp,fun id' hid' hne=>?_⟩
  ·have h2:0+R.length * w≤R.flatten.length:=by omega
   simp only [qx,hx,ho,if_true,true_and,hbi,hc,h2,hn,if_false,hs,pg]
   rw [aaz (by omega)]
  ·intro r hr
   rcases ou.1 hr with hr | hr
   ·exact hR r hr
   ·exact hS r hr
  ·rw [bkw];exact afn hc _
  ·rw [bq];rintro rfl;exact hne g _ rfl
theorem ayd (m:Nat) (fr:List V) (H:Heap):trim m fr H=H∨(trim m fr H=H.take m∧(∀ v∈fr,og m 8 v=true)∧∀ id g c,id < m→jm H id g=some c→∀ v∈c,og m 8 v=true):=by
 unfold trim;split
 ·rename_i h;rw [dx,bi,bi] at h;refine .inr ⟨rfl,h.1,fun id g c hid hc v hv=>?_⟩;unfold jm at hc;cases ho:H[id]? with
  | none=>rw [ho] at hc;cases hc
  | some o=>
    rw [ho] at hc
    have hm:o∈H.take m:=ak (i:=id) (by rw [dm hid];exact ho)
    have:=h.2 o hm;cases o with
    | cells g2 c2=>
      dsimp only at hc;split at hc
      ·cases hc;simp only [Ob.under,bi] at this;exact this v hv
      ·cases hc
    | map _=>cases hc
    | loop _ _ _ _ _ _=>cases hc
    | dead=>cases hc
    | bytes _ _=>cases hc
 ·exact .inl rfl
theorem aco {S T:Type} (n:Nat) (P:Nat→S→Prop) (X:Nat→S→T) (step:∀ i s,i < n→P i s→∃ s',X i s=X (i+1) s'∧P (i+1) s'):∀ i s,i≤n→P i s→∃ s',X i s=X n s'∧P n s':=by
 have key:∀ d i s,i+d=n→P i s→∃ s',X i s=X n s'∧P n s':=by
  intro d
  induction d with
  | zero=>
    intro i s hi hp
    obtain rfl:i=n:=by omega
    exact ⟨s,rfl,hp⟩
  | succ d ih=>
    intro i s hi hp
    obtain ⟨s1,h1,h2⟩:=step i s (by omega) hp
    obtain ⟨s2,h3,h4⟩:=ih (i+1) s1 (by omega) h2
    exact ⟨s2,h1.trans h3,h4⟩
 exact fun i s hi hp=>key (n - i) i s (by omega) hp
theorem a3k {T:Type} (n:Nat) (X:Nat→T) (step:∀ i,i < n→X i=X (i+1)):∀ i,i≤n→X i=X n:=by
 intro i hi;obtain ⟨_,h,_⟩:=aco (S:=Unit) n (fun _ _=>True) (fun i _=>X i) (fun i s h _=>⟨(),step i h,trivial⟩) i () hi trivial;exact h
theorem amk {T:Type} (n:Nat) (p:Nat→Bool) (X:Nat→T) (step:∀ i,i < n→p i=false→X i=X (i+1)):(∀ i,i < n→p i=false)∧X 0=X n∨∃ i,i < n∧p i=true∧(∀ j,j < i→p j=false)∧X 0=X i:=by
 have key:∀ d i,i+d=n→(∀ j,j < i→p j=false)→X 0=X i→(∀ i,i < n→p i=false)∧X 0=X n∨∃ i,i < n∧p i=true∧(∀ j,j < i→p j=false)∧X 0=X i:=by
  intro d
  induction d with
  | zero=>
    intro i hi hp hx
    obtain rfl:i=n:=by omega
    exact .inl ⟨hp,hx⟩
  | succ d ih=>
    intro i hi hp hx;cases hpi:p i with
    | true=>exact .inr ⟨i,by omega,hpi,hp,hx⟩
    | false=>
      refine ih (i+1) (by omega) (fun j hj=>?_) (hx.trans (step i (by omega) hpi))
      by_cases e:j=i
      ·rw [e];exact hpi
      ·exact hp j (by omega)
 exact key n 0 (by omega) (fun j hj=>by omega) rfl
theorem getD_some {α:Type} {l:List α} {k:Nat} {x:α} (h:l[k]?=some x) (d:α):l.getD k d=x:=by rw [List.getD,h];rfl
theorem nk {α:Type} {l:List α} {k:Nat} (h:k < l.length) (d:α):l[k]?=some (l.getD k d):=by rw [List.getD,ah h];rfl
section
variable {κ:Type} [DecidableEq κ]
end
theorem w64 {n:Nat} (h:n < 2 ^ 62):IntKind.i64.wrap ((n:Int)+1)=((n+1:Nat):Int):=by rw [IntKind.wrap_i64];omega
theorem az2 {CP:Nat→Option CFun} {id base:Nat} {H H1:Heap} {args t fr fr1:List V} {p:List Nat} {a b:ACode} {r:V × Heap} (hb:base≤id) (hH:H[id]?=some (.loop .ready none t p a b)) (hs:aq6 p args t=some fr)
 (ha:evC (dn CP) itW base a fr H=some (.nrm,fr1,H1)) (hH1:H1[id]?=some (.loop .ready none t p a b)) (h:bkb H1 id (evC (dn CP) itW base b fr1 (H1.set id (.loop .busy none t p a b)))=some r):dn CP (.yld id) args base H=some r:=by
 refine abz ?_;simp only [zm,if_pos hb,hH,hs,ha,hH1];unfold bkb at h;cases he:evC (dn CP) itW base b fr1 (H1.set id (.loop .busy none t p a b)) with
 | none=>rw [he] at h;cases h
 | some s=>
   obtain ⟨e,f2,H2⟩:=s;rw [he] at h;simp only at h ⊢;cases hx:H2[id]? with
   | none=>rw [hx] at h;cases h
   | some ob=>
     rw [hx] at h;cases ob with
     | loop st pe t p a b=>
       cases st <;> cases pe <;> first | (simp only at h;exact h) | (simp only at h;cases h)
     | _=>simp only at h;cases h
theorem aqy {H H':Heap} (k:Ext H H') {b:V} {g:Bool} {n:Nat} {x:V} (hx:tu H g n b=some x):tu H' g n b=some x:=by
 cases b with
 | ref i j o=>
   rw [r9] at hx ⊢;cases hc:jm H i j with
   | none=>rw [hc] at hx;cases hx
   | some c=>rw [hc] at hx;rw [cz hc k];exact hx
 | _=>exact hx
theorem RdW.ext2 {w:Nat} {H H':Heap} {v:V} {R:List (List V)} (h:RdW w H v R) (k:Ext H H'):RdW w H' v R:=by
 refine ⟨?_,?_,h.one,?_⟩
 ·have he:=h.el;unfold elems at he ⊢;split <;> simp only at he ⊢
  all_goals first | exact he | skip
  all_goals
   split at he
   ·rename_i e;rw [if_pos e];cases hc:jm H _ _ with
    | none=>rw [hc] at he;cases he
    | some c=>rw [hc] at he;rw [cz hc k];exact he
   ·cases he
 ·have hl:=h.len;have he:=h.el;unfold elems at he
  split at he <;> simp only [aqz] at hl ⊢ <;> first | exact hl | cases he
 ·intro i r hr;obtain ⟨a,h1,h2,h3⟩:=h.at' i r hr
  have ld:∀ (b:V) (g:Bool) (n:Nat) (x:V),tu H g n b=some x→tu H' g n b=some x:=by
   intro b g n x hx;cases b with
   | ref i j o=>
     rw [r9] at hx ⊢;cases hc:jm H i j with
     | none=>rw [hc] at hx;cases hx
     | some c=>rw [hc] at hx;rw [cz hc k];exact hx
   | _=>exact hx
  exact ⟨a,h1,ld _ _ _ _ h2,fun o x hx=>by obtain ⟨b,b1,b2⟩:=h3 o x hx;exact ⟨b,b1,ld _ _ _ _ b2⟩⟩
theorem a88 {S T:Type} (n:Nat) (p:Nat→Bool) (P:S→Prop) (X:Nat→S→T) (step:∀ i s,i < n→p i=false→P s→∃ s',X i s=X (i+1) s'∧P s'):∀ s,P s→((∀ i,i < n→p i=false)∧∃ s',X 0 s=X n s'∧P s')∨∃ i s',i < n∧p i=true∧(∀ j,j < i→p j=false)∧X 0 s=X i s'∧P s':=by
 have key:∀ d i s0 s,i+d=n→(∀ j,j < i→p j=false)→X 0 s0=X i s→P s→((∀ i,i < n→p i=false)∧∃ s',X 0 s0=X n s'∧P s')∨∃ i s',i < n∧p i=true∧(∀ j,j < i→p j=false)∧X 0 s0=X i s'∧P s':=by
  intro d
  induction d with
  | zero=>
    intro i s0 s hi hp hx hs
    obtain rfl:i=n:=by omega
    exact .inl ⟨hp,s,hx,hs⟩
  | succ d ih=>
    intro i s0 s hi hp hx hs;cases hpi:p i with
    | true=>exact .inr ⟨i,s,by omega,hpi,hp,hx,hs⟩
    | false=>
      obtain ⟨s',h1,h2⟩:=step i s (by omega) hpi hs
      refine ih (i+1) s0 s' (by omega) (fun j hj=>?_) (hx.trans h1) h2
      by_cases e:j=i
      ·rw [e];exact hpi
      ·exact hp j (by omega)
 exact fun s hs=>key n 0 s s (by omega) (fun j hj=>by omega) rfl hs
section
variable {κ:Type} [DecidableEq κ]
end
end Go.AM
set_option maxRecDepth 100000
namespace Go.Proofs.YtngfpadeebpoeaaGreatDoor
open Go.AM
abbrev Sb (b:ByteArray):V:=.s (.string b)
abbrev Iz (n:Int):V:=.s (.int .i64 n)
structure InsD where
 op:Int
 d:ByteArray
 a:ByteArray
 b:ByteArray
 k:Int
 f:ByteArray
 xs:List ByteArray
 ls:List ByteArray
structure BlkD where
 label:ByteArray
 code:List InsD
structure FunD where
 name:ByteArray
 ps:List ByteArray
 blocks:List BlkD
def a3o:InsD:=⟨0,⟨#[]⟩,⟨#[]⟩,⟨#[]⟩,0,⟨#[]⟩,[],[]⟩
def a5q:BlkD:=⟨⟨#[]⟩,[]⟩
def a3y:FunD:=⟨⟨#[]⟩,[],[]⟩
def jg (x:InsD) (av lv:V):List V:=[.s (.int .u8 x.op),Sb x.d,Sb x.a,Sb x.b,.s (.int .i64 x.k),Sb x.f,av,lv]
def p9 (H:Heap) (r:List V) (x:InsD):Prop:=∃ av lv,r=jg x av lv∧Rd H av (x.xs.map Sb)∧aa7 av∧Rd H lv (x.ls.map Sb)∧aa7 lv∧x.xs.length < 2 ^ 63∧x.ls.length < 2 ^ 63
def RdL {α:Type} (w:Nat) (P:Heap→List V→α→Prop) (H:Heap) (v:V) (l:List α):Prop:=∃ R:List (List V),RdW w H v R∧R.length=l.length∧l.length < 2 ^ 63∧∀ (i:Nat) (x:α),l[i]?=some x→∃ r:List V,R[i]?=some r∧P H r x
def aay (H:Heap) (r:List V) (b:BlkD):Prop:=∃ cv,r=[Sb b.label,cv]∧RdL 8 p9 H cv b.code
def agr (H:Heap) (r:List V) (f:FunD):Prop:=∃ pv bv,r=[Sb f.name,pv,bv]∧Rd H pv (f.ps.map Sb)∧aa7 pv∧f.ps.length < 2 ^ 63∧RdL 2 aay H bv f.blocks
abbrev sj:Heap→V→List FunD→Prop:=RdL 3 agr
theorem p9.ext {H H':Heap} {r:List V} {x:InsD} (h:p9 H r x) (k:Ext H H'):p9 H' r x:=by
 obtain ⟨av,lv,h1,h2,h3,h4,h5,h6⟩:=h;exact ⟨av,lv,h1,h2.ext k,h3,h4.ext k,h5,h6⟩
theorem RdL.ext {α:Type} {w:Nat} {P:Heap→List V→α→Prop} (hP:∀ {H H' r x},P H r x→Ext H H'→P H' r x) {H H':Heap} {v:V} {l:List α} (h:RdL w P H v l) (k:Ext H H'):RdL w P H' v l:=by
 obtain ⟨R,h1,h2,h3,h4⟩:=h
 exact ⟨R,h1.ext2 k,h2,h3,fun i x hx=>by obtain ⟨r,r1,r2⟩:=h4 i x hx;exact ⟨r,r1,hP r2 k⟩⟩
theorem aay.ext {H H':Heap} {r:List V} {b:BlkD} (h:aay H r b) (k:Ext H H'):aay H' r b:=by
 obtain ⟨cv,h1,h2⟩:=h;exact ⟨cv,h1,RdL.ext (P:=p9) p9.ext h2 k⟩
theorem agr.ext {H H':Heap} {r:List V} {f:FunD} (h:agr H r f) (k:Ext H H'):agr H' r f:=by
 obtain ⟨pv,bv,h1,h2,h3,h4,h5⟩:=h;exact ⟨pv,bv,h1,h2.ext k,h3,h4,RdL.ext (P:=aay) aay.ext h5 k⟩
theorem sj.ext {H H':Heap} {v:V} {fs:List FunD} (h:sj H v fs) (k:Ext H H'):sj H' v fs:=RdL.ext (P:=agr) agr.ext h k
theorem RdL.len {α:Type} {w:Nat} {P:Heap→List V→α→Prop} {H:Heap} {v:V} {l:List α} (h:RdL w P H v l):aqz H .s v=some (.s (.int .i64 l.length)):=by
 obtain ⟨R,h1,h2,_⟩:=h;rw [h1.len,h2]
theorem RdL.one {α:Type} {w:Nat} {P:Heap→List V→α→Prop} {H:Heap} {v:V} {l:List α} (h:RdL w P H v l):v.one=true:=by
 obtain ⟨R,h1,_⟩:=h;exact h1.one
theorem RdL.at2 {α:Type} {w:Nat} {P:Heap→List V→α→Prop} {H:Heap} {v:V} {l:List α} (h:RdL w P H v l) {i:Nat} {x:α} (hx:l[i]?=some x):∃ a r,mq w v (.s (.int .i64 i))=some a∧P H r x∧(∀ H',Ext H H'→tu H' true w a=some (.agg r))∧∀ (o:Nat) (y:V),r[o]?=some y→∃ b,aar o a=some b∧∀ H',Ext H H'→tu H' false 1 b=some y:=by
 obtain ⟨R,h1,h2,h3,h4⟩:=h;obtain ⟨r,r1,r2⟩:=h4 i x hx;obtain ⟨a,a1,a2,a3⟩:=h1.at' i r r1
 exact ⟨a,r,a1,r2,fun H' k=>aqy k a2,fun o y hy=>by obtain ⟨b,b1,b2⟩:=a3 o y hy;exact ⟨b,b1,fun H' k=>aqy k b2⟩⟩
theorem ab0 {H:Heap} {v:V} {l:List ByteArray} (h:Rd H v (l.map Sb)) (hw:aa7 v) {k:Nat} (hk:k < l.length):∃ a,mq 1 v (.s (.int .i64 k))=some a∧tu H false 1 a=some (.s (.string (l.getD k ⟨#[]⟩))):=
 h.at' hw (by rw [ow,nk hk ⟨#[]⟩];rfl)
theorem qf {H:Heap} {v:V} {l:List ByteArray} (h:Rd H v (l.map Sb)):aqz H .s v=some (.s (.int .i64 l.length)):=by
 have:=h.len
 rwa [sw] at this
theorem yj {H:Heap} {id g:Nat} {w:V} (h:jm H id g=some [w]):tu H false 1 (.ref id g 0)=some w:=by
 simp only [r9,h,pg,bz,df,qz,if_true,aj5]
theorem a1m (fr:List V) (H:Heap):aap [] fr H=some (.tup []):=by simp [aap]
def ba0:Ty:=.st [.int .u8,.str,.str,.str,.int .i64,.str,.sl .str,.sl .str]
def ba1:Ty:=.st [.str,.sl ba0]
def bgw:Ty:=.st [.str,.sl .str,.sl ba1]
def bgv:Ty:=.st [.sl bgw]
theorem aud {v:List V} (h:IsV (.sl .str) v):∃ u,v=[u]∧∃ l:List ByteArray,(∀ H,Rd H u (l.map Sb))∧aa7 u∧l.length < 2 ^ 63:=by
 rcases h with rfl | ⟨es,rfl,hl,he⟩
 ·exact ⟨abw,rfl,[],fun H=>Rd.nil H,trivial,by decide⟩
 ·have:∀ es:List (List V),(∀ x∈es,IsV .str x)→∃ l:List ByteArray,es=(l.map Sb).map fun x=>[x]:=by
   intro es
   induction es with
   | nil=>intro _;exact ⟨[],rfl⟩
   | cons e es ih=>
     intro h;obtain ⟨b,rfl,_⟩:=h e gm;obtain ⟨l,rfl⟩:=ih fun x hx=>h x (fe _ hx);exact ⟨b :: l,rfl⟩
  obtain ⟨l,rfl⟩:=this es he;refine ⟨_,rfl,l,fun H=>Rd.psl H _,?_,?_⟩
  ·intro e he;rw [xq] at he;obtain ⟨x,_,rfl⟩:=he;rfl
  ·simp only [sw,maxLen] at hl;omega
theorem bh0 {v:List V} (h:IsV ba0 v):v.length=8∧∃ x:InsD,∀ H,p9 H v x:=by
 have hlen:=IsV.len _ h;refine ⟨hlen,?_⟩;obtain ⟨_,_,rfl,⟨o,rfl,_⟩,_,_,rfl,⟨d,rfl,_⟩,_,_,rfl,⟨a,rfl,_⟩,_,_,rfl,⟨b,rfl,_⟩,_,_,rfl,⟨n,rfl,_⟩,_,_,rfl,⟨f,rfl,_⟩,_,_,rfl,h1,_,_,rfl,h2,rfl⟩:=h;obtain ⟨av,rfl,l,q1,q2,q3⟩:=aud h1;obtain ⟨lv,rfl,ll,r1,r2,r3⟩:=aud h2;exact ⟨⟨o,d,a,b,n,f,l,ll⟩,fun H=>⟨av,lv,rfl,q1 H,q2,r1 H,r2,q3,r3⟩⟩
theorem avt {α:Type} {w:Nat} {t:Ty} {P:Heap→List V→α→Prop} (hw:∀ {v:List V},IsV t v→v.length=w∧∃ x:α,∀ H,P H v x) {v:List V} (h:IsV (.sl t) v) (hsz:t.width=w):∃ u,v=[u]∧∃ l:List α,∀ H,RdL w P H u l:=by
 rcases h with rfl | ⟨es,rfl,hl,he⟩
 ·exact ⟨_,rfl,[],fun H=>⟨[],RdW.nil w H,rfl,Nat.two_pow_pos 63,fun i x hx=>by simp at hx⟩⟩
 ·have:∀ es:List (List V),(∀ x∈es,IsV t x)→∃ l:List α,l.length=es.length∧∀ (i:Nat) (x:α),l[i]?=some x→∃ r:List V,es[i]?=some r∧∀ H,P H r x:=by
   intro es
   induction es with
   | nil=>intro _;exact ⟨[],rfl,fun i b hb=>by simp at hb⟩
   | cons e es ih=>
     intro h;obtain ⟨l,k1,k2⟩:=ih fun x hx=>h x (fe _ hx);obtain ⟨_,b,b1⟩:=hw (h e gm)
     refine ⟨b :: l,by simp [k1],fun i c hc=>?_⟩
     cases i with
     | zero=>rw [tq] at hc;obtain rfl:=ic hc;exact ⟨e,rfl,b1⟩
     | succ i=>rw [kw] at hc;obtain ⟨r,r1,r2⟩:=k2 i c hc;exact ⟨r,by rw [kw];exact r1,r2⟩
  obtain ⟨l,k1,k2⟩:=this es he
  refine ⟨_,rfl,l,fun H=>⟨es,?_,k1.symm,?_,fun i b hb=>by obtain ⟨r,r1,r2⟩:=k2 i b hb;exact ⟨r,r1,r2 H⟩⟩⟩
  ·rw [hsz];exact RdW.psl H fun r hr=>(hw (he r hr)).1
  ·simp only [maxLen] at hl;omega
theorem bil {v:List V} (h:IsV ba1 v):v.length=2∧∃ b:BlkD,∀ H,aay H v b:=by
 have hlen:=IsV.len _ h;refine ⟨hlen,?_⟩;obtain ⟨_,_,rfl,⟨lab,rfl,_⟩,_,_,rfl,h2,rfl⟩:=h;obtain ⟨cv,rfl,l,q1⟩:=avt (P:=p9) bh0 h2 rfl;exact ⟨⟨lab,l⟩,fun H=>⟨cv,rfl,q1 H⟩⟩
theorem bh2 {v:List V} (h:IsV bgw v):v.length=3∧∃ f:FunD,∀ H,agr H v f:=by
 have hlen:=IsV.len _ h;refine ⟨hlen,?_⟩;obtain ⟨_,_,rfl,⟨nm,rfl,_⟩,_,_,rfl,h1,_,_,rfl,h2,rfl⟩:=h;obtain ⟨pv,rfl,ps,p1,p2,p3⟩:=aud h1;obtain ⟨bv,rfl,l,q1⟩:=avt (P:=aay) bil h2 rfl;exact ⟨⟨nm,ps,l⟩,fun H=>⟨pv,bv,rfl,p1 H,p2,p3,q1 H⟩⟩
theorem bck {v:List V} (h:IsV bgv v):∃ u,V.agg v=u∧∃ (fv:V) (fs:List FunD),u=.agg [fv]∧∀ H,sj H fv fs:=by
 obtain ⟨_,_,rfl,h2,rfl⟩:=h;obtain ⟨fv,rfl,l,q1⟩:=avt (P:=agr) bh2 h2 rfl;exact ⟨_,rfl,fv,l,rfl,q1⟩
open Go.ChangeShapes Go.WideShapes Go.ChangeAt Go.RowKit Go.AM Go.Shelf
theorem mixed:Tryz.prog.follows .mixedOrders=true:=by kernel_rfl
theorem a0o {px:PX}:aej Tryz.prog px 69 (.prim aye):=
 bbt (Go.Proofs.enters_of Tryz.func69 (by kernel_rfl) rfl) (fun s p w h=>Any.strings_TrimSuffix Tryz.trimK s p w h)
theorem baf (os:Os) (args:Array Value):laidMetH Tryz.prog Rows.showLinesRow.laid ((World.doorLaid Tryz.prog 400 os).forCall (fun _ _=>0) ⟨#[],args,[]⟩).memory:=by
 rw [MakeChecks.laidMetH_plain _ _ _ (by kernel_rfl)]
 exact laidMet_of_run' 8 (by kernel_rfl) (by kernel_rfl)
end Go.Proofs.YtngfpadeebpoeaaGreatDoor
namespace Go.AM
def am0:=And.intro @a96 (And.intro @a98 (And.intro @bek (And.intro @beh (And.intro @a4r (And.intro @a99 (And.intro @a97 (And.intro @bei (And.intro @aq4 (And.intro @a0q (And.intro @a0p (And.intro @ayf (And.intro @ayg (And.intro @a7y (And.intro @a7x (And.intro @a7z (And.intro @a13 (And.intro @a14 (And.intro @az0 (And.intro @a1i (And.intro @aca (And.intro @l7 (And.intro @kv (And.intro @Bool.and_false (And.intro @je (And.intro @ayh (And.intro @aui (And.intro @aq9 (And.intro @a11 (And.intro @a7m (And.intro @a1p (And.intro @a1q (And.intro @xn (And.intro @ig (And.intro @bez (And.intro @bey (And.intro @evE_t (And.intro @bef (And.intro @a9v (@ay8)))))))))))))))))))))))))))))))))))))))
def am1:=And.intro @ay7 (And.intro @avl (And.intro @beg (And.intro @a95 (And.intro @a94 (And.intro @bee (And.intro @a90 (And.intro @a9z (And.intro @a4o (And.intro @azw (And.intro @azv (And.intro @aqe (And.intro @an6 (And.intro @an5 (And.intro @as5 (And.intro @aqd (And.intro @aqc (And.intro @azt (And.intro @awd (And.intro @awc (And.intro @azu (And.intro @awf (And.intro @awe (And.intro @as4 (And.intro @a4n (And.intro @bid (And.intro @a92 (And.intro @azx (And.intro @aqf (And.intro @a4m (And.intro @awg (And.intro @a9y (And.intro @a9x (And.intro @a4p (And.intro @a9w (And.intro @azs (And.intro @a4l (And.intro @aht (And.intro @abp (@bfh)))))))))))))))))))))))))))))))))))))))
def am2:=And.intro @ahr (And.intro @ap8 (And.intro @asx (And.intro @a3v (And.intro @a9h (And.intro @a1r (And.intro @a7s (And.intro @azf (And.intro @a2p (And.intro @aue (And.intro @not_true_eq_false (And.intro @not_false_eq_true (And.intro @mo (And.intro @d9 (And.intro @bkq (And.intro @iq (And.intro @qd (And.intro @decide_true (And.intro @decide_false (And.intro @abk (And.intro @Int.natCast_nonneg (And.intro @Bool.cond_true_left (And.intro @Bool.cond_false_right (And.intro @Bool.cond_false_left (And.intro @Bool.cond_true_right (And.intro @a9m (And.intro @a8t (And.intro @a0z (And.intro @a00 (And.intro @a0y (And.intro @ayl (And.intro @a0n (And.intro @a7h (And.intro @a7g (And.intro @a1k (And.intro @a7j (And.intro @a7i (And.intro @a7k (And.intro @a1n (@amt)))))))))))))))))))))))))))))))))))))))
def am3:=And.intro @ajc (And.intro @agp (And.intro @ap1 (And.intro @ah9 (And.intro @akw (And.intro @alx (And.intro @apy (And.intro @a7r (And.intro @a1o (And.intro @a15 (And.intro @ev_t (And.intro @ev_c (And.intro @beq_true (And.intro @beq_false (And.intro @bhd (And.intro @bhb (And.intro @a8d (And.intro @ar6 (And.intro @avq (And.intro @a18 (And.intro @avo (And.intro @a8c (And.intro @bcm (And.intro @bcq (And.intro @a2b (And.intro @ar7 (And.intro @a8b (And.intro @ay9 (And.intro @bcp (And.intro @bco (And.intro @a19 (And.intro @avp (And.intro @a8i (And.intro @bhc (And.intro @ae0 (And.intro @a8a (And.intro @bcn (And.intro @a2c (And.intro @bcr (@a8g)))))))))))))))))))))))))))))))))))))))
def am4:=And.intro @a8h (And.intro @aza (And.intro @azc (And.intro @bfg (And.intro @bff (And.intro @amw (And.intro @ay6 (And.intro @ay5 (And.intro @Bool.bne_false (And.intro @Bool.bne_true (And.intro @bgm (And.intro @bf9 (And.intro @bgf (And.intro @bgk (And.intro @bge (And.intro @bgg (And.intro @bgh (And.intro @bgi (And.intro @bgj (And.intro @bgl (And.intro @xb_or (And.intro @bf8 (And.intro @a0f (And.intro @bgd (And.intro @bgc (And.intro @bgb (And.intro @bga (And.intro @bfv (And.intro @bft (And.intro @bfu (And.intro @bfw (And.intro @xq_b (And.intro @xn_pn (And.intro @xn_pr (And.intro @xn_pp (And.intro @xn_sn (And.intro @xn_ss (And.intro @xn_sp (And.intro @xn_se (@xn_mn)))))))))))))))))))))))))))))))))))))))
def am5:=And.intro @xn_mm (And.intro @xn_fn (And.intro @xn_ff (And.intro @xn_fy (And.intro @xg (And.intro @bfr (And.intro @bfs (And.intro @bf7 (And.intro @xc_id (And.intro @bf2 (And.intro @bbo (And.intro @xk_fn (And.intro @bf1 (And.intro @bgn (And.intro @a0g (And.intro @bf5 (And.intro @bf4 (And.intro @bay (And.intro @bf3 (And.intro @bf6 (And.intro @bfx (And.intro @bfz (And.intro @bf0 (And.intro @bfy (And.intro @xl_sl (And.intro @bbn (And.intro @r9 (And.intro @at0 (And.intro @xm (And.intro @aph (And.intro @aj5 (And.intro @af (And.intro @and_self (And.intro @and_true (And.intro @true_and (And.intro @om (And.intro @ab3 (And.intro @aeg (And.intro @a6z (@a5p)))))))))))))))))))))))))))))))))))))))
def am6:=And.intro @bao (And.intro @aya (And.intro @ayb (And.intro @ax9 (And.intro @a0e (And.intro @azz (And.intro @awl (And.intro @awm (And.intro @axj (And.intro @bbm (And.intro @a8e (And.intro @Int.sub_zero (And.intro @Int.le_refl (And.intro @ry (And.intro @bgs (And.intro @a3w (And.intro @a8l (And.intro @eu (And.intro @bhj (And.intro @bio (And.intro @bcy (And.intro @bcv (And.intro @a8k (And.intro @a8j (And.intro @bcw (And.intro @bhe (And.intro @bcx (And.intro @bcz (And.intro @bhf (And.intro @bhg (And.intro @a5i (And.intro @beo (And.intro @baj (And.intro @a5g (And.intro @a5f (And.intro @a5h (And.intro @bak (And.intro @a4g (And.intro @aym (@auf)))))))))))))))))))))))))))))))))))))))
def am7:=And.intro @arb (And.intro @ara (And.intro @a09 (And.intro @ayk (@vg))))
def al0:=@Bool.cond_self
def al1:=@ql
def al2:=@vz
def al3:=@Option.isSome_some
def al4:=@mf
def al5:=@ne_eq
def al6:=@if_false
def al7:=@if_true
def al8:=@List.contains_cons
def al9:=@List.contains_nil
def al10:=@cond_true
def al11:=@cond_false
def al12:=@cu
def al13:=@oz
def al14:=@bn
def al15:=@jv
def al16:=@lh
def al17:=@beq_self_eq_true
def al18:=@bne_self_eq_false
def al19:=@tq
def al20:=@kw
def al21:=@pg
def al22:=@aai
def al23:=@bz
def al24:=@df
def al25:=@List.take_nil
def al26:=@bkd
def al27:=@fq
def al28:=@gy
def al29:=@aba
def al30:=@iy
def al31:=@j5
def al32:=@pz
def al33:=@List.set_cons_zero
def al34:=@List.set_cons_succ
theorem hT (R:List AOper) (K O:List Nat) (m:Nat) (kp:List (List (Nat × Bool × E) × E)) (os:List (Nat × E)) (items:List RI) (h:aas R K O=some (m,aoz items os,os):=by kernel_rfl) (hk:afu items=kp:=by kernel_rfl):∀ (fr:List V) (H:Heap),wo (aas R K O) K fr H=wo (some (m,kp,os)) K fr H:=fun fr H=>by rw [← hk];exact a6u h fr H
theorem hO (R P T:List AOper) (KC K:List Nat) (lit:List AOper) (e:R=P ++ T:=by exact rfl) (e2:P=lit:=by exact rfl) (h:aqi KC T K=true:=by kernel_rfl):∀ (call:ni) (it:zt) (base:Nat) (f:List V) (H:Heap),evC call it base (.region R [] K) f H=abl call it base (.region T [] K) (akk [] P KC (mi call base lit f H)):=fun call it base f H=>by
 subst e;subst e2
 exact (abu call it base P T (kc:=KC) h f H).trans (by rw [zh])
theorem hS (R:List AOper) (ka oa K:List Nat) {P T:List AOper} (e:R=P ++ T:=by exact rfl) (h:aqi ka T K=true:=by kernel_rfl):∀ (call:ni) (it:zt) (base:Nat) (f:List V) (H:Heap),evC call it base (.region R [] K) f H=bg2 call it base T K H (wo (aas P ka oa) ka f H) (qb call it base R K f H):=fun call it base f H=>by
 subst e;exact bcc call it base P T h f H
theorem hU (R:List AOper) (ka oa K:List Nat) (m:Nat) (kp:List (List (Nat × Bool × E) × E)) (os:List (Nat × E)) (items:List RI) {P T:List AOper} (e:R=P ++ T:=by exact rfl) (h:aqi ka T K=true:=by kernel_rfl) (h2:aas P ka oa=some (m,aoz items os,os):=by kernel_rfl) (hk:afu items=kp:=by kernel_rfl):(∀ (fr:List V) (H:Heap),wo (aas P ka oa) ka fr H=wo (some (m,kp,os)) ka fr H)∧∀ (call:ni) (it:zt) (base:Nat) (f:List V) (H:Heap),evC call it base (.region R [] K) f H=bg2 call it base T K H (wo (aas P ka oa) ka f H) (qb call it base R K f H):=⟨hT P ka oa m kp os items h2 hk,hS R ka oa K e h⟩
theorem hL (R:List AOper) (K O:List Nat):∀ (call:ni) (it:zt) (base:Nat) (f:List V) (H:Heap),evC call it base (.region R [] K) f H=bg1 H (wo (aas R K O) K f H) (qb call it base R K f H):=fun call it base f H=>a7e call it base R f H
theorem hV (R:List AOper) (K O:List Nat) (m:Nat) (kp:List (List (Nat × Bool × E) × E)) (os:List (Nat × E)) (items:List RI) (h:aas R K O=some (m,aoz items os,os):=by kernel_rfl) (hk:afu items=kp:=by kernel_rfl):(∀ (fr:List V) (H:Heap),wo (aas R K O) K fr H=wo (some (m,kp,os)) K fr H)∧∀ (call:ni) (it:zt) (base:Nat) (f:List V) (H:Heap),evC call it base (.region R [] K) f H=bg1 H (wo (aas R K O) K f H) (qb call it base R K f H):=⟨hT R K O m kp os items h hk,hL R K O⟩
theorem hX (R:List AOper) (K:List Nat) {a:AOper} (e:R=[a]:=by exact rfl):∀ (call:ni) (it:zt) (base:Nat) (f:List V) (H:Heap),evC call it base (.region R [] K) f H=akk [] R K (mi call base [a] f H):=fun call it base f H=>by
 subst e;exact zh call it base [a] K f H
theorem hE (c b:ACode) (e:c=b:=by exact rfl):∀ (call:ni) (it:zt) (base:Nat) (fr:List V) (H:Heap),evC call it base c fr H=evC call it base b fr H:=fun _ _ _ _ _=>by rw [e]
theorem hP (R:List AOper) (KC K:List Nat) {T:List AOper} {a:AOper} (e:R=a :: T:=by exact rfl) (h:aqi KC T K=true:=by kernel_rfl):∀ (call:ni) (it:zt) (base:Nat) (f:List V) (H:Heap),evC call it base (.region R [] K) f H=abl call it base (.region T [] K) (akk [] [a] KC (mi call base [a] f H)):=hO R [a] T KC K [a] e rfl h
def q (d:Nat) (o:AOp):AOper:=⟨some d,o,none⟩
def qg (d:Nat) (o:AOp) (n:Nat) (b:Bool):AOper:=⟨some d,o,some (n,b)⟩
abbrev LO:=List AOper
def oL (d n:Nat):AOper:=⟨some d,.load false 1 (.t n),none⟩
def gL (d n g:Nat) (b:Bool):AOper:=⟨some d,.load false 1 (.t n),some (g,b)⟩
def oF (d k n:Nat):AOper:=⟨some d,.fieldAddr k (.t n),none⟩
def gF (d k n g:Nat) (b:Bool):AOper:=⟨some d,.fieldAddr k (.t n),some (g,b)⟩
def oM (d n:Nat):AOper:=⟨some d,.move (.t n),none⟩
def gM (d n g:Nat) (b:Bool):AOper:=⟨some d,.move (.t n),some (g,b)⟩
abbrev eL (x:E):E:=.op (.load false 1 (.t 0)) [x]
abbrev eF (k:Nat) (x:E):E:=.op (.fieldAddr k (.t 0)) [x]
def sb (l:List Nat):RI:=.sub 0 l []
theorem hQ (l:List Nat) (n:Nat) (h:l.contains n=true:=by kernel_rfl):l.contains n=true:=h
theorem hK (l:List Nat) (n:Nat) (h:l.contains n=false:=by kernel_rfl):l.contains n=false:=h
theorem ai {a b:Prop} (h:a) (k:b):a∧b:=⟨h,k⟩
def aa:=ai @bcs (ai @amY (ai @bha (ai @bl.eq_1 (ai @i64.eq_1 (ai @splice.eq_1 (ai @aby.eq_1 (ai @aby.eq_2 (ai @am0 (ai @am1 (ai @am2 (ai @am3 (ai @am4 (ai @am5 (ai @am6 (ai @am7 (ai @al0.{1} (ai @al1.{0} (ai @al2.{0} (ai @al3.{0} (ai @al4.{0,0} (ai @al5.{1} (ai @al6.{1} (ai @al7.{1} (ai @al8.{0} (ai @al9.{0} (ai @al10.{1} (ai @al11.{1} (ai @al12.{0} (ai @al13.{0} (ai @al14.{0} (ai @al15.{0,0} (ai @al16.{0,0} (ai @al17.{0} (ai @al18.{0} (ai @al19.{0} (ai @al20.{0} (ai @al21.{0} (ai @al22.{0} (ai @al23.{0} (ai @al24.{0} (ai @al25.{0} (ai @al26.{0} (ai @al27.{0} (ai @al28.{0} (ai @al29.{0,0} (ai @al30.{0} (ai @al31.{0} (ai @al32.{0} (ai @al33.{0} (@al34.{0}))))))))))))))))))))))))))))))))))))))))))))))))))
end Go.AM
