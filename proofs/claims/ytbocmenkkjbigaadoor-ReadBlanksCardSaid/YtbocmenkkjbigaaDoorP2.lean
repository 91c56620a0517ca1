/- Texts of the proof: Am20, Am21, Am22, Am23, AmS, AmT, AmF, AmG, AmL, AmQ0, AmQ, AmW, AmB, BitsP, AmM, AmN, AmO, AmY, AmZ, AmI, AmU, AmU2, AmH, RdnA1, TokP, TokP2, TokP3, RdP1, AmP, AmPk, AmPn, AmPn2, AmPr, AmPr2, AmPr3. -/
import Derived.Test.YtbocmenkkjbigaaDoorP0
import Derived.Test.YtbocmenkkjbigaaDoorP1
import Derived.ProofKit
import Derived.ReadAgain
import Derived.Laws.BitsLemmas
import Derived.Shelf.Sort.Plain
import Derived.Shelf.SlIterI.Nil
import Derived.Shelf.SlMaps.Clone
import Derived.Shelf.Spec.TrailingZeros
import Derived.KernelRfl
import Derived.RecoverIn
import Derived.Laws.Build
import Derived.WalkSmall
set_option linter.all false
namespace Go.AM
open Go.RowKit
section
variable {μ μ':Mu} {Mt Mt':Nat→Prop} {w w':World} {H H':Heap} {P:Program} {pure':PX} {call:lc}
def abf (P:Program) (pure':PX) (k:Nat):CFun→Prop
 | .code c => ∃ fn body, P.funcs[k]? = some fn ∧ fn.body = some body ∧ (fn.name == "runtime.NumGoroutine") = false ∧ CodeR P pure' body c.body ∧ fn.ntmps = c.ntmps ∧ fn.results.toList.mapM (afc P) = some c.results
 | .prim g=>(∀ xs w,(callFunc k xs).run P w=.ok (.enter k xs) w)∧∀ vs base H r H',g vs base H=some (r,H')→Floor base H H'∧
    ∀ μ Mt w cs,HR (CR P pure') μ Mt w H→VRs μ Mt w vs cs→∀ n,CallsIn Fence.wide n P k cs.toArray w (ann (CR P pure') μ Mt w H r H')
theorem aw8:∀ (ps:List Nat) (vs:List V) (cs:List Value) {fr fr':List V} {t:Array Value},aqf ps vs fr=some fr'→VRs μ Mt w vs cs→FR μ Mt w fr t→
 ps.length=cs.length∧FR μ Mt w fr' ((ps.zip cs).foldl (fun t p=>t.setIfInBounds p.1 p.2) t):=by
 intro ps
 induction ps with
 | nil=>
   intro vs cs fr fr' t h hv hf;cases vs with
   | nil=>
     cases h
     have:cs=[]:=by have:=hv.1;cases cs <;> simp at this ⊢
     subst this;exact ⟨rfl,hf⟩
   | cons v vs=>cases h
 | cons p ps ih=>
   intro vs cs fr fr' t h hv hf;cases vs with
   | nil=>cases h
   | cons v vs=>
     cases cs with
     | nil=>have:=hv.1;simp at this
     | cons c cs=>
       have hv':VRs μ Mt w vs cs:=⟨by have:=hv.1;simpa using this,fun i a b ha hb=>hv.2 (i+1) a b (by simpa using ha) (by simpa using hb)⟩
       have hf':FR μ Mt w (fr.set p v) (t.setIfInBounds p c):=by
        have:=VRs.set hf p (hv.2 0 v c rfl rfl)
        simpa [FR] using this
       obtain ⟨h1,h2⟩:=ih vs cs h hv' hf'
       exact ⟨by simp [h1],by simpa using h2⟩
theorem aaa (n:Nat):VRs μ Mt w (List.replicate n und) (List.replicate n Go.undef):=
 ⟨by simp,fun i a b ha hb=>by
  have h1:=List.mem_of_getElem? ha;have h2:=List.mem_of_getElem? hb;rw [agd] at h1 h2;rw [h1.2,h2.2];exact .s _⟩
variable {CP:Nat→Option CFun}
theorem apm (hs:SimCall P (CR P pure') call) (hmix:P.follows .mixedOrders=true) (nn:Nat) (hCP:∀ k c,CP k=some c→abf P pure' k c)
 {f:Nat} {fst cap args:List V} {base:Nat} {r:V} (hev:ve CP call (fun b k m=>qy b k m nn) (.fn f fst cap) args base H=some (r,H')):
 (∀ xs w,(callFunc f xs).run P w=.ok (.enter f xs) w)∧Floor base H H'∧
 ∀ (μ:Mu) (Mt:Nat→Prop) (w:World) (cs:List Value),HR (CR P pure') μ Mt w H→VRs μ Mt w (fst ++ args ++ cap) cs→∀ n,CallsIn Fence.wide n P f cs.toArray w (ann (CR P pure') μ Mt w H r H'):=by
 simp only [ve] at hev;split at hev
 ·rename_i c hc;obtain ⟨fn,body,h1,h2,h3,h4,h5,h6⟩:=hCP f _ hc;have fin:∀ (e:Ex) (fr':List V) (H1:Heap),(e=.nrm∨e=.ret)→evC call (fun b k m=>qy b k m nn) base c.body (fst ++ args ++ cap ++ List.replicate (c.ntmps - (fst ++ args ++ cap).length) und) H=some (e,fr',H1)→
   (qc c.results fr' H1).map (fun v=>(v,H1))=some (r,H')→(∀ xs w,(callFunc f xs).run P w=.ok (.enter f xs) w)∧Floor base H H'∧
   ∀ (μ:Mu) (Mt:Nat→Prop) (w:World) (cs:List Value),HR (CR P pure') μ Mt w H→VRs μ Mt w (fst ++ args ++ cap) cs→∀ n,CallsIn Fence.wide n P f cs.toArray w (ann (CR P pure') μ Mt w H r H'):=by
   intro e fr' H1 he hb hres;rw [ag] at hres;obtain ⟨v,hv,e1⟩:=hres;cases e1;refine ⟨Go.Proofs.enters_of h1 h3 h2,uo hs.floor nn _ hb,fun μ Mt w cs h hvs n=>?_⟩;refine callsIn_of_wp_marks h1 h2 trivial ?_
   have hf0:FR μ Mt w (fst ++ args ++ cap ++ List.replicate (c.ntmps - (fst ++ args ++ cap).length) und) (cs.toArray ++ Array.replicate (fn.ntmps - cs.toArray.size) Go.undef):=by
    unfold FR;have:=hvs.append (aaa (μ:=μ) (Mt:=Mt) (w:=w) (c.ntmps - (fst ++ args ++ cap).length));simp only [aep,acb,mh,h5];rw [hvs.1] at this ⊢;exact this
   refine ahf hs hmix nn base h4 none n _ H e fr' H' hb μ Mt w { tmps:=cs.toArray ++ Array.replicate (fn.ntmps - cs.toArray.size) Go.undef,defers:=[] } _ h hf0 (fun l hl=>by cases hl) ?_
   rintro a' w' ⟨μ1,Mt1,p1,f1,L,hL,hnd,hLs⟩
   have key:LeavesInM Fence.wide n P fn a'.tmps (ann (CR P pure') μ Mt w H r H') a'.defers .returning w':=by
    rw [hL,zm];refine ao7 (μ:=μ1) (Mt:=Mt1) (fr:=fr') (fun w2 p2 f2=>?_) L w' p1 f1 hnd hLs;obtain ⟨cv,k1,k2⟩:=acl p2.hr f2 h6 hv;exact ⟨cv,k1,cv,μ1,Mt1,rfl,k2,p2⟩
   rcases he with rfl | rfl
   ·exact key
   ·exact key
  split at hev
  ·rename_i fr' H1 hb;exact fin .nrm fr' H1 (.inl rfl) hb hev
  ·rename_i fr' H1 hb;exact fin .ret fr' H1 (.inr rfl) hb hev
  ·cases hev
 ·rename_i g hc;obtain ⟨h1,h2⟩:=hCP f _ hc;obtain ⟨h3,h4⟩:=h2 _ _ _ _ _ hev;exact ⟨h1,h3,h4⟩
 ·cases hev
theorem ak3 (hs:SimCall P (CR P pure') call) (hmix:P.follows .mixedOrders=true) (nn:Nat)
 {id:Nat} {args:List V} {base:Nat} {r:V} (hev:ve CP call (fun b k m=>qy b k m nn) (.yld id) args base H=some (r,H')):
 Floor base H H'∧∀ (μ:Mu) (Mt:Nat→Prop) (w:World) (cs:List Value) (B:Nat),HR (CR P pure') μ Mt w H→VRs μ Mt w args cs→μ id 0=some (B,0)→
  ∃ f tmps assign body,(Instr.yield B cs.toArray).run P w=.ok (.round B f tmps assign body) w∧∀ n,RoundIn Fence.wide n P B f tmps assign body w (ann (CR P pure') μ Mt w H r H'):=by
 simp only [ve] at hev;split at hev
 case isFalse=>cases hev
 rename_i hbase;split at hev
 case h_2=>cases hev
 rename_i tmps params assign body hH;split at hev
 case h_2=>cases hev
 rename_i fr0 hset;split at hev
 case h_2=>cases hev
 rename_i fr1 H1 hasg;split at hev
 case h_2=>cases hev
 rename_i t1 ps1 as1 b1 hH1;split at hev
 case h_2=>cases hev
 rename_i e fr2 H3 hbody;split at hev
 case h_2=>cases hev
 rename_i t3 ps3 as3 b3 hH3;cases hev
 have setF:∀ (G:Heap) (o:Ob),Floor base G (G.set id o):=fun G o=>⟨by simp,fun i h1 _=>by rw [List.getElem?_set_ne (by omega)]⟩
 refine ⟨(uo hs.floor nn _ hasg).trans ((setF _ _).trans ((uo hs.floor nn _ hbody).trans (setF _ _))),?_⟩;intro μ Mt w cs B h hvs hm;obtain ⟨o,ho,hr⟩:=h.objs _ _ 0 _ _ hH rfl hm
 cases o <;> first | exact hr.elim | skip
 rename_i rec;obtain ⟨_,q1,q2,q3,q4,q5,q6⟩:=hr;obtain ⟨hlen,hf0⟩:=aw8 params args cs hset hvs (t:=rec.tmps) q3
 have hsz:cs.toArray.size=rec.params.size:=by
  rw [← q4] at hlen;simpa using hlen.symm
 have hfold:(rec.params.zip cs.toArray).foldl (fun tmps (t,a)=>tmps.setIfInBounds t a) rec.tmps=(params.zip cs).foldl (fun t p=>t.setIfInBounds p.1 p.2) rec.tmps:=by
  rw [← agf,Array.toList_zip,q4]
 refine ⟨_,_,_,_,run_yield ho hsz,fun n=>?_⟩;refine roundIn_of_wpIn (F:=Fence.wide) trivial ?_;rw [hfold]
 refine ahf hs hmix nn base q5 (some B) n fr0 H .nrm fr1 H1 hasg μ Mt w { tmps:=(params.zip cs).foldl (fun t p=>t.setIfInBounds p.1 p.2) rec.tmps,defers:=[] } _ h hf0 (fun l hl=>by cases hl;exact ⟨rec,ho⟩) ?_
 rintro a1 w1 ⟨μ1,Mt1,p1,f1,_⟩;have hm1:=p1.ext _ _ _ hm;obtain ⟨o1,ho1,hr1⟩:=p1.hr.objs _ _ 0 _ _ hH1 rfl hm1
 cases o1 <;> first | exact hr1.elim | skip
 rename_i rec1;obtain ⟨_,s1,s2,s3,s4,s5,s6⟩:=hr1
 have hwf1:ObW H1.length (.loop .busy none t1 ps1 as1 b1):=by have:=p1.hr.wfn hH1 rfl hm1;exact this
 have p2:Post (CR P pure') μ1 Mt1 w1 H1 (aj4 μ1 id 0 (B,0)) Mt1 (w1.putObj B (.loop { rec1 with state:=.busy })) (H1.set id (.loop .busy none t1 ps1 as1 b1)):=by
  refine ad3 p1.hr 0 0 hH1 rfl hm1 ho1 (fun _ _ _ e=>by cases e) (fun _ _=>⟨_,rfl⟩) (.inl ⟨rfl,rfl⟩) (fun j hj=>hj) (fun _ _ e=>by cases e) rfl rfl rfl rfl hwf1 ?_
  intro _ μ' Mt' hμ hM;have hne:∀ K,K≠B→(w1.putObj B (.loop { rec1 with state:=.busy })).heap[K]?=w1.heap[K]?:=fun K hK=>World.putObj_heap_other hK;refine ⟨rfl,rfl,trivial,?_,s4,s5,s6⟩;refine VRs.mono hμ (fun K hK hm=>(hM K hK).1 hm) (fun K _ hn=>hne K (fun e=>hn (e ▸ (p1.hr.isMut _ _ _ _ hm1).1))) (fun K a0 e0 fr0 hK=>?_) s3
  have:K≠B:=fun e=>by subst e;rw [ho1] at hK;cases hK
  exact ⟨a0,_,(hne K this).trans hK,rfl⟩
 refine ⟨_,run_beginRound ho1 s1,?_⟩;have pp:=p1.trans p2;have hB2:∃ r,(w1.putObj B (.loop { rec1 with state:=.busy })).heap[B]?=some (.loop r):=⟨_,World.putObj_heap_same (lt_of_some ho1)⟩
 refine ahf hs hmix nn base q6 (some B) n fr1 _ e fr2 H3 ?_ _ _ _ a1 _ p2.hr (f1.post p1.hr p2) (fun l hl=>by cases hl;exact hB2) ?_
 ·exact hbody
 ·rintro a3 w3 ⟨μ3,Mt3,p3,_,_⟩;have hm3:μ3 id 0=some (B,0):=p3.ext _ _ _ (oo _ _ _ _);obtain ⟨o3,ho3,hr3⟩:=p3.hr.objs _ _ 0 _ _ hH3 rfl hm3
  cases o3 <;> first | exact hr3.elim | skip
  rename_i rec3;obtain ⟨_,u1,u2,u3,u4,u5,u6⟩:=hr3
  have hwf3:∀ st pe,ObW H3.length (.loop st pe t3 ps3 as3 b3):=fun _ _=>by have:=p3.hr.wfn hH3 rfl hm3;exact this
  have fin:∀ (jump:Option Code),aif (if e=.nrm then .ready else .done) (as8 e) jump→jump.isNone=decide (e=.nrm)→(if jump.isNone then LoopState.ready else .done)=(if e=.nrm then .ready else .done)→
   ∃ v w',(Instr.endRound B jump).run P w3=.ok v w'∧ann (CR P pure') μ Mt w H (bl (decide (e=.nrm))) (H3.set id (.loop (if e=.nrm then .ready else .done) (as8 e) t3 ps3 as3 b3)) (.returned v) w':=by
   intro jump hok hj hst
   refine ⟨_,_,run_endRound jump ho3,_,_,_,rfl,by rw [hj];exact .s _,(pp.trans p3).trans (ad3 (g':=0) (b':=0) p3.hr hH3 rfl hm3 ho3 (fun _ _ _ e=>by cases e) (fun _ _=>⟨_,rfl⟩) (.inl ⟨rfl,rfl⟩) (fun j hj=>hj) (fun _ _ e=>by cases e) rfl rfl rfl rfl (hwf3 _ _) ?_)⟩
   intro _ μ' Mt' hμ hM
   have hne:∀ K,K≠B→(w3.putObj B (.loop { rec3 with state:=if jump.isNone then .ready else .done,pending:=jump })).heap[K]?=w3.heap[K]?:=fun K hK=>World.putObj_heap_other hK
   refine ⟨rfl,hst,hok,?_,u4,u5,u6⟩;refine VRs.mono hμ (fun K hK hm=>(hM K hK).1 hm) (fun K _ hn=>hne K (fun e=>hn (e ▸ (p3.hr.isMut _ _ _ _ hm3).1))) (fun K a0 e0 fr0 hK=>?_) u3
   have:K≠B:=fun e=>by subst e;rw [ho3] at hK;cases hK
   exact ⟨a0,_,(hne K this).trans hK,rfl⟩
  cases e with
  | nrm=>exact fin none rfl rfl rfl
  | ext i=>exact fin (some (.exit i)) rfl rfl rfl
  | ret=>exact fin (some .ret) rfl rfl rfl
theorem avz (hs:SimCall P (CR P pure') call) (hmix:P.follows .mixedOrders=true) (nn:Nat) (hCP:∀ k c,CP k=some c→abf P pure' k c):SimCall P (CR P pure') (ve CP call (fun b k m=>qy b k m nn)) where
 fn f fst cap args base H r H' h:=by
  obtain ⟨h1,_,h3⟩:=apm hs hmix nn hCP h;exact ⟨h1,h3⟩
 yld id args base H r H' h:=(ak3 hs hmix nn h).2
 other v args base H h1 h2:=by
  cases v <;> first | rfl | exact absurd rfl (h1 _ _ _) | exact absurd rfl (h2 _)
 floor v args base H r H' h:=by
  by_cases h1:∃ f a b,v=.fn f a b
  ·obtain ⟨f,a,b,rfl⟩:=h1;exact (apm hs hmix nn hCP h).2.1
  ·by_cases h2:∃ id,v=.yld id
   ·obtain ⟨id,rfl⟩:=h2;exact (ak3 hs hmix nn h).1
   ·exfalso
    cases v <;> first | exact h1 ⟨_,_,_,rfl⟩ | exact h2 ⟨_,rfl⟩ | (simp [ve] at h;done)
theorem aa6 (hmix:P.follows .mixedOrders=true) (hCP:∀ k c,CP k=some c→abf P pure' k c):∀ n,SimCall P (CR P pure') (xc CP n)
 | 0=>⟨fun _ _ _ _ _ _ _ _ h=>(by cases h),fun _ _ _ _ _ _ h=>(by cases h),fun _ _ _ _ _ _=>rfl,fun _ _ _ _ _ _ h=>(by cases h)⟩
 | n+1=>avz (aa6 hmix hCP n) hmix n hCP
theorem asj (hmix:P.follows .mixedOrders=true) (hCP:∀ k c,CP k=some c→abf P pure' k c) {n k:Nat} {args:List V} {r:V} (h:xc CP n (.fn k [] []) args 0 []=some (r,H')) {w:World} {cs:Array Value}
 (hargs:VRs (fun _ _=>none) (fun _=>False) w args cs.toList) (hfx:∀ (B:Nat) (o:Array Value × TypeId × Nat × Nat),pure'.fx B=some o→w.heap[B]?=some (.cells o.1 o.2.1 o.2.2)):
 Calls P k cs w fun e w'=>∃ c μ' Mt',e=.returned c∧VR μ' Mt' w' r c∧(∀ B,B < w.heap.size→w'.heap[B]?=w.heap[B]?)∧Tr (fun _ _=>none) w w':=by
 have h0:HR (CR P pure') (fun _ _=>none) (fun _=>False) w []:=⟨fun _ _ _ h=>by simp at h,fun _ _ _ _ h=>by simp at h,fun _ _ _ _ _ h=>by simp at h,fun _ _ _ _ _ _ _ h=>by simp at h,fun _ _ _ _ _ h=>by simp at h,fun _ _ _ _ h=>by simp at h,fun B o e=>⟨hfx B o e,fun h=>h⟩,fun _ _ _ h=>by simp at h⟩
 have:=((aa6 hmix hCP n).fn k [] [] args 0 [] r H' h).2 _ _ w cs.toList h0 (by simpa using hargs) 0
 simp only [qf] at this;refine callsIn_wide.1 (CallsIn.mono this ?_);rintro e w' ⟨c,μ',Mt',rfl,hv,hp⟩
 exact ⟨c,μ',Mt',rfl,hv,fun B hB=>hp.tr.keep B hB (fun _ _ _ h=>by simp at h),hp.tr⟩
end
section
variable {P:Program} {pure':PX}
theorem ao2 {α β:Type} {f:α→Option β}:∀ {l:List α} {us:List β},l.mapM f=some us→us.length=l.length∧∀ (i:Nat) (v:α) (u:β),l[i]?=some v→us[i]?=some u→f v=some u:=by
 intro l
 induction l with
 | nil=>intro us h;simp at h;subst h;exact ⟨rfl,fun i v u h=>by simp at h⟩
 | cons x l ih=>
   intro us h;simp only [lh,cz,bg,ae] at h;obtain ⟨v,hv,us',hus,e⟩:=h;cases e;obtain ⟨h1,h2⟩:=ih hus
   refine ⟨by simp [h1],fun i a u ha hu=>?_⟩
   cases i with
   | zero=>simp at ha hu;subst ha;subst hu;exact hv
   | succ i=>exact h2 i a u (by simpa using ha) (by simpa using hu)
theorem akn {lt:List Nat} {bf:List Nat} {l:List AOper} {i:Nat} {a:AOper} (h:(wo lt bf l)[i]?=some a):∃ b,l[i]?=some b∧(a=b∨(∃ f xs,b.op=.call f xs∧a={ b with op:=.callR f xs })∨∃ k xs,b.op=.callP k xs∧a={ b with op:=.callQ k xs }):=by
 unfold wo at h
 have hi:i < l.length:=by have:=(List.getElem?_eq_some_iff.1 h).1;simpa using this
 have hg:l[i]?=some l[i]:=List.getElem?_eq_getElem hi;refine ⟨l[i],hg,?_⟩;rw [List.getElem?_map,List.getElem?_range hi] at h;have hd:l.getD i default=l[i]:=ze hg;simp only [jo,hd,ed] at h;split at h
 ·rename_i f xs hop;split at h
  ·exact .inl h.symm
  ·exact .inr (.inl ⟨f,xs,hop,h.symm⟩)
 ·rename_i f xs hop;split at h
  ·exact .inl h.symm
  ·exact .inr (.inr ⟨f,xs,hop,h.symm⟩)
 ·exact .inl h.symm
theorem alm {l:List AOper} {i:Nat} {a:AOper} (h:(ab1 l)[i]?=some a):∃ b,l[i]?=some b∧(a=b∨∃ sz n s x,b.op=.append sz n s x∧a={ b with op:=.appR sz n s x }):=by
 unfold ab1 at h;rw [List.getElem?_map,ag] at h;obtain ⟨b,hb,e⟩:=h;refine ⟨b,hb,?_⟩;split at e
 ·rename_i sz n s x hop;exact .inr ⟨sz,n,s,x,hop,e.symm⟩
 ·exact .inl e.symm
theorem ah1 (l:List AOper):(ab1 l).length=l.length:=by simp [ab1]
theorem afo {lt:List Nat} {bf:List Nat} {l:List AOper}:(wo lt bf l).length=l.length:=by simp [wo]
theorem acs {lt:List Nat} {ops:Array Oper} {draw:Bool} {l:List AOper} {chk:List (Nat × Nat)} (h:acu P lt pure' ops draw=some (l,chk)):
 ap0 P pure' ops l∧(draw=true→aeh (Region.before ops).toList chk l=true∧ac5 ops=true):=by
 unfold acu at h;simp only [bg,ae] at h;obtain ⟨l0,hl0,h⟩:=h;obtain ⟨h1,h2⟩:=ao2 hl0
 have one:∀ (i:Nat) (o:Oper) (a:AOper),ops[i]?=some o→l0[i]?=some a→a.dst=o.dst∧(xw P pure' o=some a.op∨a.op=.stuck)∧adt ops o.guard=some a.guard:=by
  intro i o a ho ha
  have:=h2 i o a (by simpa using ho) ha
  unfold at7 at this;simp only [bg,ae,cz,ed] at this;obtain ⟨g,hg,e⟩:=this;subst e;refine ⟨rfl,?_,hg⟩;cases hop:xw P pure' o with
  | none=>exact .inr rfl
  | some op=>exact .inl rfl
 split at h
 ·rename_i hd
  have fin:∀ c,aeh (Region.before ops).toList c (wo lt (Region.before ops).toList l0)=true→ac5 ops=true→ap0 P pure' ops (wo lt (Region.before ops).toList l0)∧(draw=true→aeh (Region.before ops).toList c (wo lt (Region.before ops).toList l0)=true∧ac5 ops=true):=by
   intro c hok hbk
   refine ⟨⟨by rw [afo,h1];simp,fun i o a ho ha=>?_⟩,fun _=>⟨hok,hbk⟩⟩
   obtain ⟨b,hb,e⟩:=akn ha;obtain ⟨k1,k2,k3⟩:=one i o b ho hb
   rcases e with rfl | ⟨f,xs,hop,rfl⟩ | ⟨f,xs,hop,rfl⟩
   ·exact ⟨k1,k2.imp id fun h=>.inr (.inr (.inr h)),k3⟩
   ·exact ⟨k1,.inr (.inl ⟨f,xs,by rw [← hop];exact k2.resolve_right (by rw [hop];intro h;cases h),rfl⟩),k3⟩
   ·exact ⟨k1,.inr (.inr (.inl ⟨f,xs,by rw [← hop];exact k2.resolve_right (by rw [hop];intro h;cases h),rfl⟩)),k3⟩
  split at h
  ·rename_i hok;simp only [ak] at hok;simp only [cz,ed] at h;cases h
   exact fin _ (by simp [aeh,hok.1]) hok.2
  ·split at h
   ·rename_i hok;simp only [ak] at hok;simp only [cz,ed] at h;cases h
    exact fin _ (by simp [aeh,hok.1]) hok.2
   ·split at h
    ·rename_i hok;simp only [ak] at hok;simp only [cz,ed] at h;cases h
     refine ⟨⟨by rw [ah1,afo,h1];simp,fun i o a ho ha=>?_⟩,fun _=>⟨by simp [aeh,hok.1],hok.2⟩⟩
     obtain ⟨b0,hb0,e0⟩:=alm ha;obtain ⟨b,hb,e⟩:=akn hb0;obtain ⟨k1,k2,k3⟩:=one i o b ho hb
     rcases e0 with rfl | ⟨sz,n,s,x,hop,rfl⟩
     ·rcases e with rfl | ⟨f,xs,hop,rfl⟩ | ⟨f,xs,hop,rfl⟩
      ·exact ⟨k1,k2.imp id fun h=>.inr (.inr (.inr h)),k3⟩
      ·exact ⟨k1,.inr (.inl ⟨f,xs,by rw [← hop];exact k2.resolve_right (by rw [hop];intro h;cases h),rfl⟩),k3⟩
      ·exact ⟨k1,.inr (.inr (.inl ⟨f,xs,by rw [← hop];exact k2.resolve_right (by rw [hop];intro h;cases h),rfl⟩)),k3⟩
     ·rcases e with rfl | ⟨f,xs,hop',rfl⟩ | ⟨f,xs,hop',rfl⟩
      ·exact ⟨k1,.inr (.inr (.inr (.inl ⟨sz,n,s,x,by rw [← hop];exact k2.resolve_right (by rw [hop];intro h;cases h),rfl⟩))),k3⟩
      ·cases hop
      ·cases hop
    ·cases h
 ·rename_i hd;simp only [cz,ed] at h;cases h
  refine ⟨⟨by rw [h1];simp,fun i o a ho ha=>?_⟩,fun e=>absurd e hd⟩
  obtain ⟨k1,k2,k3⟩:=one i o a ho ha;exact ⟨k1,k2.imp id fun h=>.inr (.inr (.inr h)),k3⟩
theorem zt {lt:List Nat}:∀ (c:Code) (ac:ACode),w9 P lt pure' c=some ac.bare→CodeR P pure' c ac:=by
 intro c
 induction c with
 | skip=>intro ac h;simp only [w9,ed] at h;cases ac <;> simp only [ACode.bare] at h <;> first | exact .skip | cases h
 | exit id=>intro ac h;simp only [w9,ed] at h;cases ac <;> simp only [ACode.bare] at h <;> first | (cases h;done) | (cases h;exact .exit _)
 | label l=>intro ac h;simp only [w9,ed] at h;cases ac <;> simp only [ACode.bare] at h <;> first | exact .label _ | cases h
 | ret=>intro ac h;simp only [w9,ed] at h;cases ac <;> simp only [ACode.bare] at h <;> first | exact .ret | cases h
 | scope c=>intro ac h;simp [w9] at h
 | goto l=>intro ac h;simp [w9] at h
 | refuse w=>intro ac h;simp [w9] at h
 | region id ops draw=>
   intro ac h;simp only [w9] at h;split at h
   ·rename_i q hr;obtain ⟨l,chk⟩:=q;simp only [ed] at h;obtain ⟨h1,h2⟩:=acs hr;have e:=h
    cases ac <;> simp only [ACode.bare] at e <;> first | (cases e;done) | (cases e;exact .region _ _ _ _ _ _ h1 h2) | (cases e;exact .regionE _ _ _ _ _ _ h1 h2)
   ·split at h
    ·rename_i hdp;rw [ak] at hdp;obtain ⟨rfl,hp⟩:=hdp;rw [ag] at h;obtain ⟨⟨l,chk⟩,hr,e⟩:=h;obtain ⟨h1,h2⟩:=acs hr
     cases ac <;> simp only [ACode.bare] at e <;> first | (cases e;done) | (cases e;exact .regionP _ _ _ _ _ _ hp h1 (h2 rfl)) | (cases e;exact .regionPE _ _ _ _ _ _ hp h1 (h2 rfl))
    ·cases h
 | seq a b iha ihb=>
   intro ac h;simp only [w9,bg,ae,cz,ed] at h;obtain ⟨x,hx,y,hy,e⟩:=h
   cases ac <;> simp only [ACode.bare] at e <;> first | (cases e;done) | (cases e;exact .seq _ _ _ _ (iha _ hx) (ihb _ hy))
 | cond c a b iha ihb=>
   intro ac h;simp only [w9,bg,ae,cz,ed] at h;obtain ⟨o,ho,x,hx,y,hy,e⟩:=h
   cases ac <;> simp only [ACode.bare] at e <;> first | (cases e;done) | (cases e;exact .cond _ _ _ _ _ _ ho (iha _ hx) (ihb _ hy))
 | block id c ih=>
   intro ac h;simp only [w9,bg,ae,cz,ed] at h;obtain ⟨x,hx,e⟩:=h
   cases ac <;> simp only [ACode.bare] at e <;> first | (cases e;done) | (cases e;exact .block _ _ _ (ih _ hx))
 | loop c ih=>
   intro ac h;simp only [w9,bg,ae,cz,ed] at h;obtain ⟨x,hx,e⟩:=h
   cases ac <;> simp only [ACode.bare] at e <;> first | (cases e;done) | (cases e;exact .loop _ _ _ (ih _ hx))
 | rangeFunc f ps a b iha ihb=>
   intro ac h;simp only [w9,bg,ae,cz,ed] at h;obtain ⟨o,ho,x,hx,y,hy,e⟩:=h
   cases ac <;> simp only [ACode.bare] at e <;> first | (cases e;done) | (cases e;exact .rangeFunc _ _ _ _ _ _ _ ho (iha _ hx) (ihb _ hy))
def ahw (lt:List Nat) (P:Program) (pure':PX) (k:Nat):Option (Bool × Nat × List ARes × ACode):=
 match P.funcs[k]? with
 | some fn=>match fn.body with
   | some body=>match w9 P lt pure' body,fn.results.toList.mapM (afc P) with
     | some a, some rs => some (fn.name == "runtime.NumGoroutine", fn.ntmps, rs, a)
     | _,_=>none
   | none=>none
 | none=>none
abbrev wu (P:Program) (pure':PX) (k:Nat):Option (Bool × Nat × List ARes × ACode):=ahw [] P pure' k
theorem a3w {lt:List Nat} {k:Nat} {c:ACFun} (h:ahw lt P pure' k=some (false,c.ntmps,c.results,c.body.bare)):abf P pure' k (.code c):=by
 unfold ahw at h;split at h
 ·rename_i fn hfn;split at h
  ·rename_i body hb;split at h
   ·rename_i a rs ha hrs;simp only [ed,aig] at h;obtain ⟨h1,h2,h3,h4⟩:=h
    exact ⟨fn,body,hfn,hb,h1,zt _ _ (by rw [ha,h4]),h2,by rw [hrs,h3]⟩
   ·cases h
  ·cases h
 ·cases h
end
def Le (c c':lc):Prop:=∀ v args base H r,c v args base H=some r→c' v args base H=some r
theorem ana {c c':lc} (h:Le c c') {base:Nat} {fr:List V} {H:Heap} {op:AOp} {r:V × Heap} (he:jf c base fr H op=some r):jf c' base fr H op=some r:=by
 cases op
 case call f xs=>exact h _ _ _ _ _ he
 case callR f xs=>exact h _ _ _ _ _ he
 case callP f xs=>
  simp only [jf] at he ⊢;split at he
  ·rename_i us hus;split at he
   ·rename_i v H' hc;rw [h _ _ _ _ _ hc];exact he
   ·cases he
  ·cases he
 case callQ f xs=>
  simp only [jf] at he ⊢;split at he
  ·rename_i hp;rw [cu hp];split at he
   ·rename_i v H' hc;rw [h _ _ _ _ _ hc];exact he
   ·cases he
  ·cases he
 all_goals exact he
theorem af0 {c c':lc} (h:Le c c') {base:Nat}:∀ (l:List AOper) {fr:List V} {H:Heap} {r:List V × Heap},jl c base l fr H=some r→jl c' base l fr H=some r:=by
 intro l
 induction l with
 | nil=>intro fr H r he;exact he
 | cons o l ih=>
   intro fr H r he;simp only [jl] at he ⊢;split at he
   ·cases he
   ·exact ih he
   ·split at he
    ·rename_i v H1 h1;rw [ana h h1];exact ih he
    ·cases he
theorem ajs {c:lc} {base:Nat}:∀ (l:List AOper) {fr:List V} {H:Heap} {r:List V × Heap},jl c base l fr H=some r→∀ k,∃ r',jl c base (l.take k) fr H=some r':=by
 intro l fr H r h k;rw [← ol k l,adr] at h;cases he:jl c base (l.take k) fr H with
 | none=>rw [he] at h;cases h
 | some r'=>exact ⟨r',rfl⟩
theorem apb {c c':lc} (h:Le c c') {base:Nat} {l:List AOper} {fr fr':List V} {H:Heap} {r:List V × Heap} (he:jl c base l fr H=some r):aa0 c' base l fr H fr'=aa0 c base l fr H fr':=by
 have hk:∀ k,jl c' base (l.take k) fr H=jl c base (l.take k) fr H:=fun k=>by
  obtain ⟨r',hr⟩:=ajs l he k;rw [hr];exact af0 h _ hr
 funext p
 simp only [aa0,aa7,hk]
theorem afz {b b':List V→Heap→Option St} (hb:∀ fr H r,b fr H=some r→b' fr H=some r) {kill:List Nat} {m:Nat}:∀ {n n':Nat},n≤n'→∀ {fr:List V} {H:Heap} {r:St},qy b kill m n fr H=some r→qy b' kill m n' fr H=some r:=by
 intro n
 induction n with
 | zero=>intro n' _ fr H r h;simp [qy] at h
 | succ n ih=>
   intro n' hn fr H r h
   obtain ⟨k,rfl⟩:∃ k,n'=k+1:=⟨n' - 1,by omega⟩
   simp only [qy] at h ⊢;split at h
   ·rename_i fr1 H1 h1;rw [hb _ _ _ h1]
    exact ih (by omega) h
   ·rename_i e fr1 H1 hne h1;rw [hb _ _ _ h1];split
    ·rename_i e' ;cases e';exact (hne rfl).elim
    ·rename_i e';cases e';exact h
    ·rename_i e';cases e'
   ·cases h
abbrev itN (n:Nat):yo:=fun b k m=>qy b k m n
theorem ahu {c c':lc} (h:Le c c') {n n':Nat} (hn:n≤n') {base:Nat}:∀ (ac:ACode) {fr:List V} {H:Heap} {r:St},evC c (itN n) base ac fr H=some r→evC c' (itN n') base ac fr H=some r:=by
 intro ac
 induction ac with
 | skip=>intro fr H r he;exact he
 | regionE ops kill outs=>intro fr H r he;exact he
 | region ops chk kill=>
   intro fr H r he;simp only [evC] at he ⊢;split at he
   ·rename_i fr1 H1 h1;rw [af0 h ops h1];simp only [apb h h1];exact he
   ·cases he
 | seq a b iha ihb=>
   intro fr H r he;simp only [evC] at he ⊢;split at he
   ·rename_i fr1 H1 h1;rw [iha h1];exact ihb he
   ·rename_i hne;have:=iha he;rw [this];split
    ·rename_i e;cases e;exact (hne _ _ he).elim
    ·rfl
 | cond o a b iha ihb=>
   intro fr H r he;simp only [evC] at he ⊢;split at he
   ·exact iha he
   ·exact ihb he
   ·cases he
 | block id a ih=>
   intro fr H r he;simp only [evC] at he ⊢;split at he
   ·rename_i id' fr1 H1 h1;rw [ih h1];exact he
   ·rename_i hne;rw [ih he];split
    ·rename_i e;cases e;exact (hne _ _ _ he).elim
    ·rfl
 | loop kill a ih=>
   intro fr H r he;simp only [evC] at he ⊢;exact afz (fun fr H r=>ih) hn he
 | rangeFunc f ps a b _ _=>
   intro fr H r he;simp only [evC] at he ⊢;split at he
   ·split at he
    ·rename_i v H2 hc;rw [h _ _ _ _ _ hc];exact he
    ·cases he
   ·cases he
 | exit id=>intro fr H r he;exact he
 | ret=>intro fr H r he;exact he
theorem azw {CP:Nat→Option CFun} {c c':lc} (h:Le c c') {n n':Nat} (hn:n≤n'):Le (ve CP c (itN n)) (ve CP c' (itN n')):=by
 intro v args base H r he
 cases v <;> simp only [ve] at he ⊢ <;> first | (cases he;done) | skip
 case fn f x y=>
  split at he
  ·rename_i cf hcf;split at he
   ·rename_i fr1 H1 h1;rw [ahu h hn _ h1];exact he
   ·rename_i fr1 H1 h1;rw [ahu h hn _ h1];exact he
   ·cases he
  ·exact he
  ·cases he
 case yld id=>
  split at he
  case isFalse=>cases he
  rename_i hb;rw [cu hb];split at he
  case h_2=>cases he
  split at he
  case h_2=>cases he
  split at he
  case h_2=>cases he
  rename_i h1;rw [ahu h hn _ h1];simp only [];split at he
  case h_2=>cases he
  split at he
  case h_2=>cases he
  rename_i h2;rw [ahu h hn _ h2];exact he
theorem ahg {CP:Nat→Option CFun}:∀ n,Le (xc CP n) (xc CP (n+1))
 | 0=>fun _ _ _ _ _ h=>by cases h
 | n+1=>azw (ahg n) (aih n)
theorem vg {CP:Nat→Option CFun} {n m:Nat} (h:n≤m):Le (xc CP n) (xc CP m):=by
 induction m with
 | zero=>have:n=0:=by omega
         subst this;exact fun _ _ _ _ _ h=>h
 | succ m ih=>
   by_cases hn:n=m+1
   ·subst hn;exact fun _ _ _ _ _ h=>h
   ·exact fun v a b H r hr=>ahg m v a b H r (ih (by omega) v a b H r hr)
open Classical in
noncomputable def fe (CP:Nat→Option CFun):lc:=fun v args base H=>if h:∃ r n,xc CP n v args base H=some r then some h.choose else none
open Classical in
noncomputable def itW:yo:=fun b k m fr H=>if h:∃ r n,qy b k m n fr H=some r then some h.choose else none
variable {CP:Nat→Option CFun}
theorem aua {n:Nat} {v:V} {args:List V} {base:Nat} {H:Heap} {r:V × Heap} (h:xc CP n v args base H=some r):fe CP v args base H=some r:=by
 have hx:∃ r n,xc CP n v args base H=some r:=⟨r,n,h⟩;unfold fe;rw [dif_pos hx];obtain ⟨m,hm⟩:=hx.choose_spec;have h1:=vg (o7 n m) _ _ _ _ _ h;have h2:=vg (kr n m) _ _ _ _ _ hm;rw [h1] at h2;exact h2.symm
theorem acv {v:V} {args:List V} {base:Nat} {H:Heap} {r:V × Heap} (h:fe CP v args base H=some r):∃ n,xc CP n v args base H=some r:=by
 unfold fe at h;split at h
 ·rename_i hx;obtain ⟨m,hm⟩:=hx.choose_spec;exact ⟨m,hm.trans h⟩
 ·cases h
theorem ay4 {b:List V→Heap→Option St} {k:List Nat} {m n:Nat} {fr:List V} {H:Heap} {r:St} (h:qy b k m n fr H=some r):itW b k m fr H=some r:=by
 have hx:∃ r n,qy b k m n fr H=some r:=⟨r,n,h⟩;unfold itW;rw [dif_pos hx];obtain ⟨j,hj⟩:=hx.choose_spec;have h1:=afz (fun _ _ _ h=>h) (o7 n j) h;have h2:=afz (fun _ _ _ h=>h) (kr n j) hj;rw [h1] at h2;exact h2.symm
theorem atl {b:List V→Heap→Option St} {k:List Nat} {m:Nat} {fr:List V} {H:Heap} {r:St} (h:itW b k m fr H=some r):∃ n,qy b k m n fr H=some r:=by
 unfold itW at h;split at h
 ·rename_i hx;obtain ⟨j,hj⟩:=hx.choose_spec;exact ⟨j,hj.trans h⟩
 ·cases h
theorem apj {base:Nat} {fr:List V} {H:Heap} {op:AOp} {r:V × Heap} (he:jf (fe CP) base fr H op=some r):∃ n,jf (xc CP n) base fr H op=some r:=by
 cases op
 case call f xs=>exact acv he
 case callR f xs=>exact acv he
 case callP f xs=>
  simp only [jf] at he;split at he
  ·rename_i us hus;split at he
   ·rename_i v H' hc;obtain ⟨n,hn⟩:=acv hc;refine ⟨n,?_⟩;simp only [jf,hus,hn];exact he
   ·cases he
  ·cases he
 case callQ f xs=>
  simp only [jf] at he;split at he
  ·rename_i hp;split at he
   ·rename_i v H' hc;obtain ⟨n,hn⟩:=acv hc;refine ⟨n,?_⟩;simp only [jf,cu hp,hn];exact he
   ·cases he
  ·cases he
 all_goals exact ⟨0,he⟩
theorem ak1 {base:Nat}:∀ (l:List AOper) {fr:List V} {H:Heap} {r:List V × Heap},jl (fe CP) base l fr H=some r→∃ n,jl (xc CP n) base l fr H=some r:=by
 intro l
 induction l with
 | nil=>intro fr H r he;exact ⟨0,he⟩
 | cons o l ih=>
   intro fr H r he;simp only [jl] at he;split at he
   ·cases he
   ·rename_i hw;obtain ⟨n,hn⟩:=ih he
    exact ⟨n,by simp only [jl,hw,hn]⟩
   ·rename_i hw;split at he
    ·rename_i v H1 h1;obtain ⟨n1,hn1⟩:=apj h1;obtain ⟨n2,hn2⟩:=ih he;refine ⟨max n1 n2,?_⟩;simp only [jl,hw,ana (vg (o7 n1 n2)) hn1];exact af0 (vg (kr n1 n2)) l hn2
    ·cases he
theorem avn {bW:List V→Heap→Option St} {b:Nat→List V→Heap→Option St} (hmono:∀ n m,n≤m→∀ fr H r,b n fr H=some r→b m fr H=some r) (hb:∀ fr H r,bW fr H=some r→∃ n,b n fr H=some r) {kill:List Nat} {m:Nat}:
 ∀ (k:Nat) {fr:List V} {H:Heap} {r:St},qy bW kill m k fr H=some r→∃ n,qy (b n) kill m k fr H=some r:=by
 intro k
 induction k with
 | zero=>intro fr H r h;simp [qy] at h
 | succ k ih=>
   intro fr H r h;simp only [qy] at h;split at h
   ·rename_i fr1 H1 h1;obtain ⟨n1,hn1⟩:=hb _ _ _ h1;obtain ⟨n2,hn2⟩:=ih h;refine ⟨max n1 n2,?_⟩;simp only [qy,hmono _ _ (o7 n1 n2) _ _ _ hn1];exact afz (hmono _ _ (kr n1 n2)) (af _) hn2
   ·rename_i e fr1 H1 hne h1;obtain ⟨n1,hn1⟩:=hb _ _ _ h1;refine ⟨n1,?_⟩;simp only [qy,hn1];cases e with
    | nrm=>exact (hne rfl).elim
    | ext id=>exact h
    | ret=>exact h
   ·cases h
noncomputable def evN (CP:Nat→Option CFun) (base:Nat) (ac:ACode) (n:Nat):List V→Heap→Option St:=evC (xc CP n) (itN n) base ac
theorem yw {base:Nat} {ac:ACode} {n m:Nat} (h:n≤m) {fr:List V} {H:Heap} {r:St} (he:evN CP base ac n fr H=some r):evN CP base ac m fr H=some r:=ahu (vg h) h ac he
theorem yh {base:Nat}:∀ (ac:ACode) {fr:List V} {H:Heap} {r:St},evC (fe CP) itW base ac fr H=some r→∃ n,evN CP base ac n fr H=some r:=by
 intro ac
 induction ac with
 | skip=>intro fr H r he;exact ⟨0,he⟩
 | regionE ops kill outs=>intro fr H r he;exact ⟨0,he⟩
 | region ops chk kill=>
   intro fr H r he;simp only [evC] at he;split at he
   ·rename_i fr1 H1 h1;obtain ⟨n,hn⟩:=ak1 ops h1;have hl:Le (xc CP n) (fe CP):=fun _ _ _ _ _ h=>aua h;refine ⟨n,?_⟩;simp only [evN,evC,hn];simp only [apb hl hn] at he;exact he
   ·cases he
 | seq a b iha ihb=>
   intro fr H r he;simp only [evC] at he;split at he
   ·rename_i fr1 H1 h1;obtain ⟨n1,hn1⟩:=iha h1;obtain ⟨n2,hn2⟩:=ihb he;refine ⟨max n1 n2,?_⟩;have k1:=yw (o7 n1 n2) hn1;have k2:=yw (kr n1 n2) hn2;simp only [evN,evC] at k1 ⊢;rw [k1];exact k2
   ·rename_i hne;obtain ⟨n,hn⟩:=iha he;refine ⟨n,?_⟩;simp only [evN,evC] at hn ⊢;rw [hn];split
    ·rename_i e;cases e;exact (hne _ _ he).elim
    ·rfl
 | cond o a b iha ihb=>
   intro fr H r he;simp only [evC] at he;split at he
   ·rename_i hc;obtain ⟨n,hn⟩:=iha he
    exact ⟨n,by simp only [evN,evC,hc];exact hn⟩
   ·rename_i hc;obtain ⟨n,hn⟩:=ihb he
    exact ⟨n,by simp only [evN,evC,hc];exact hn⟩
   ·cases he
 | block id a ih=>
   intro fr H r he;simp only [evC] at he;split at he
   ·rename_i id' fr1 H1 h1;obtain ⟨n,hn⟩:=ih h1
    exact ⟨n,by simp only [evN,evC] at hn ⊢;rw [hn];exact he⟩
   ·rename_i hne;obtain ⟨n,hn⟩:=ih he;refine ⟨n,?_⟩;simp only [evN,evC] at hn ⊢;rw [hn];split
    ·rename_i e;cases e;exact (hne _ _ _ he).elim
    ·rfl
 | loop kill a ih=>
   intro fr H r he;simp only [evC] at he;obtain ⟨k,hk⟩:=atl he;obtain ⟨n,hn⟩:=avn (b:=evN CP base a) (fun n m h fr H r=>yw h) (fun fr H r=>ih) k hk;refine ⟨max n k,?_⟩;simp only [evN,evC];exact afz (fun fr H r h=>yw (o7 n k) h) (kr n k) hn
 | rangeFunc f ps a b _ _=>
   intro fr H r he;simp only [evC] at he;split at he
   ·rename_i k x y hf;split at he
    ·rename_i v H2 hc;obtain ⟨n,hn⟩:=acv hc;refine ⟨n,?_⟩;simp only [evN,evC,hf,hn];exact he
    ·cases he
   ·cases he
 | exit id=>intro fr H r he;exact ⟨0,he⟩
 | ret=>intro fr H r he;exact ⟨0,he⟩
theorem ase {v:V} {args:List V} {base:Nat} {H:Heap} {r:V × Heap} (he:ve CP (fe CP) itW v args base H=some r):∃ n,ve CP (xc CP n) (itN n) v args base H=some r:=by
 cases v <;> simp only [ve] at he ⊢ <;> first | (cases he;done) | skip
 case fn f x y=>
  split at he
  ·rename_i cf hcf;split at he
   ·rename_i fr1 H1 h1;obtain ⟨n,hn⟩:=yh _ h1;refine ⟨n,?_⟩;simp only [evN] at hn;simp only [hn];exact he
   ·rename_i fr1 H1 h1;obtain ⟨n,hn⟩:=yh _ h1;refine ⟨n,?_⟩;simp only [evN] at hn;simp only [hn];exact he
   ·cases he
  ·rename_i g hg;exact ⟨0,he⟩
  ·cases he
 case yld id=>
  split at he
  case isFalse=>cases he
  rename_i hb;split at he
  case h_2=>cases he
  rename_i hH;split at he
  case h_2=>cases he
  rename_i hset;split at he
  case h_2=>cases he
  rename_i h1;split at he
  case h_2=>cases he
  rename_i hH1;split at he
  case h_2=>cases he
  rename_i h2;obtain ⟨n1,hn1⟩:=yh _ h1;obtain ⟨n2,hn2⟩:=yh _ h2;have k1:=yw (o7 n1 n2) hn1;have k2:=yw (kr n1 n2) hn2;refine ⟨max n1 n2,?_⟩;simp only [evN] at k1 k2;simp only [hb,ja,hset,k1,hH1,k2];exact he
theorem zz {v:V} {args:List V} {base:Nat} {H:Heap} {r:V × Heap} (he:ve CP (fe CP) itW v args base H=some r):fe CP v args base H=some r:=by
 obtain ⟨n,hn⟩:=ase he;exact aua (n:=n+1) hn
theorem bcw {b:List V→Heap→Option St} {k:List Nat} {m:Nat} {fr fr':List V} {H H':Heap} {r:St} (h1:b fr H=some (.nrm,fr',H')) (h2:itW b k m (oq k fr') (trim m (oq k fr') H')=some r):itW b k m fr H=some r:=by
 obtain ⟨n,hn⟩:=atl h2;refine ay4 (n:=n+1) ?_;simp only [qy,h1];exact hn
theorem atj {b:List V→Heap→Option St} {k:List Nat} {m:Nat} {fr fr':List V} {H H':Heap} {e:Ex} (hne:e≠.nrm) (h1:b fr H=some (e,fr',H')):itW b k m fr H=some (e,oq k fr',trim m (oq k fr') H'):=by
 refine ay4 (n:=1) ?_;simp only [qy,h1]
open Go.RowKit Go.ChangeShapes Go.WideShapes Go.ChangeAt
section
variable {P:Program} {pure':PX} {CP:Nat→Option CFun} {H:Type} {enc:TypeId × Value→H}
theorem a8m {w w':World} {may:MemPlace→Prop} (hk:∀ B,B < w.heap.size→w'.heap[B]?=w.heap[B]?) (ht:Tr (fun _ _=>none) w w'):w.keptBut w' may:=by
 refine ⟨ht.os,ht.output,fun i hi=>?_⟩;rw [hk i hi];cases w.heap[i]? with
 | none=>rfl
 | some o=>cases o <;> simp
theorem axt {f:Func} {s:ChangeSpec} {again:Bool} {W W':World} {args:Array Value} {v:Value} {ds gs:List (DataW H)} {before:List MemPlace}
 (hW:DataW.Whole enc P f.params.toList s.vars false W args.toList ds gs before) {pa pv:List MemPlace}
 (hres:∀ (b:Nat) (sp:Nat→Bool) (hd:Bool),DataW.TrodAll enc P W' b sp hd f.resultTypes.toList (v.resultList f.resultTypes.size) (s.fn H (ds ++ gs)).results [])
 (hargs:∀ sp:Nat→Bool,(∀ p∈before,sp p.block=true)→DataW.TrodAll enc P W' 0 sp true f.params.toList args.toList (s.fn H (ds ++ gs)).args pa)
 (hvars:∀ sp:Nat→Bool,(∀ p∈before,sp p.block=true)→DataW.TrodVars enc P W' sp s.vars (s.fn H (ds ++ gs)).vars pv)
 (hps:before=pa ++ pv) (hk:W.keptBut W' (·∈before)) (hfz:∀ b off,MemPlace.cell b off∈before→W'.frozen? ⟨b,off,none⟩=W.frozen? ⟨b,off,none⟩)
 (hok:∀ (j:Nat) (t:TypeId) (r:Value),f.resultTypes[j]?=some t→(v.resultList f.resultTypes.size)[j]?=some r→Value.okWide P W' .any 0 t r):
 s.post enc P f false true false again W args v W':=by
 have old:∀ p∈before,(fun b=>decide (b < W.heap.size)) p.block=true:=fun p hp=>by simpa using hW.lt p hp
 refine ⟨ds,gs,before,[],pa,pv,hW,hres _ _ _,hargs _ old,hvars _ old,World.keptBut_mono (fun p hp=>⟨hp,?_⟩) hk,fun _=>?_⟩
 ·rw [hps,kg] at hp;exact .inr hp
 ·obtain ⟨_,_,_,_,_,hz,_⟩:=hW
  refine ⟨hok,_,_,([] ++ pa) ++ pv,⟨[] ++ pa,pv,trodAll_append (hargs _ fun _ _=>rfl) (hres _ _ _),hvars _ fun _ _=>rfl,rfl,fun b off hp=>?_,fun h=>by cases h⟩,fun p hp _=>by rw [hps];simpa using hp⟩
  have hb:MemPlace.cell b off∈before:=by rw [hps];simpa using hp
  rw [hfz b off hb];exact hz b off hb
theorem afk {w w':World} {base:Nat} {sp:Nat→Bool} {held:Bool}:∀ {ts:List TypeId} {vs:List Value} {ds:List (DataW H)} {ps:List MemPlace},DataW.TrodAll enc P w base sp held ts vs ds ps→(∀ p∈ps,w.sameAt w' p)→DataW.TrodAll enc P w' base sp held ts vs ds ps
 | [],[],[],_,h,_=>h
 | _ :: _,_ :: _,_ :: _,_,⟨p,q,⟨n,h1⟩,h2,e⟩,hs=>⟨p,q,⟨n,DataW.trod_carry n _ _ _ h1 (fun x hx=>hs x (by rw [e];exact je _ hx))⟩,afk h2 (fun x hx=>hs x (by rw [e];exact lu _ hx)),e⟩
theorem trodAll_length {w:World} {base:Nat} {sp:Nat→Bool} {held:Bool}:∀ {ts:List TypeId} {vs:List Value} {ds:List (DataW H)} {ps:List MemPlace},DataW.TrodAll enc P w base sp held ts vs ds ps→ds.length=ts.length
 | [],[],[],_,_=>rfl
 | _ :: _,_ :: _,_ :: _,_,⟨_,_,_,h2,_⟩=>by simp [trodAll_length h2]
theorem axc {w w':World} {p:MemPlace} (h:w'.heap[p.block]?=w.heap[p.block]?):w.sameAt w' p:=by
 cases p with
 | cell b off=>
   show w'.cell? ⟨b,off,none⟩=w.cell? ⟨b,off,none⟩;have h:w'.heap[b]?=w.heap[b]?:=h;simp only [World.cell?,h]
 | map b=>exact h
theorem apa (hmix:P.follows .mixedOrders=true) (hCP:∀ k c,CP k=some c→abf P pure' k c) (hl:laidOutB P=true) (hm:mapsRowed P=true)
 (hz:((List.range P.types.size).all fun t=>match P.underlying t with | some (.slice e)=>decide (0 < P.cellsOf e) | _=>true)=true)
 {k:Nat} {fn:Func} {s:ChangeSpec} {tb:TypeId} (hvars:s.vars=[]) (hres:fn.resultTypes=#[tb]) (htb:P.underlying tb=some .bool) (hpar:∀ t∈fn.params.toList,t < P.types.size)
 (hspec:∀ ds:List (DataW H),ds.length=fn.params.toList.length→s.fn H ds={ results:=[.lit (.bool true)],args:=ds })
 {W:World} {args:Array Value} {ds gs:List (DataW H)} {before:List MemPlace} (hW:DataW.Whole enc P fn.params.toList s.vars false W args.toList ds gs before)
 (hv:∃ vs,VRs (fun _ _=>none) (fun _=>False) W vs args.toList∧∃ n H',xc CP n (.fn k [] []) vs 0 []=some (bl true,H')) (hfx:∀ (B:Nat) (o:Array Value × TypeId × Nat × Nat),pure'.fx B=some o→W.heap[B]?=some (.cells o.1 o.2.1 o.2.2)):
 Calls P k args W fun e W'=>∃ v,e=.returned v∧s.post enc P fn false true false false W args v W':=by
 obtain ⟨vs,hvs,n,H',hc⟩:=hv;refine (asj hmix hCP hc hvs hfx).mono ?_;rintro e W' ⟨c,μ',Mt',rfl,hr,hk,htr⟩;have hcv:c=.bool true:=yg hr;subst hcv;have hlt:=hW.lt;have hW0:=hW;obtain ⟨p,q,h1,h2,e1,h3,h4⟩:=hW;rw [hvars] at h2
 obtain ⟨rfl,rfl⟩:gs=[]∧q=[]:=by
  cases gs with
  | nil=>exact ⟨rfl,h2⟩
  | cons g gs=>exact h2.elim
 have hbp:before=p:=by simpa using e1
 have hds:=trodAll_length h1
 have hfn:s.fn H (ds ++ [])={ results:=[.lit (.bool true)],args:=ds }:=by rw [zm];exact hspec ds hds
 refine ⟨_,rfl,axt (pa:=before) (pv:=[]) hW0 (fun b sp hd=>?_) (fun sp hsp=>?_) (fun sp _=>?_) (by simp) (a8m hk htr) (fun b off hp=>?_) (ok_one hres rfl (okWide_bool_mk htb true))⟩
 ·rw [hfn,hres]
  exact ⟨[],[],⟨1,by simp [DataW.trod,Value.cells,htb]⟩,rfl,rfl⟩
 ·rw [hfn]
  have h5:=DataW.TrodAll.respare (kids_rows hl hm) (fun t e ht he=>slices_full_of P hz t e ht he) hpar h1 (spare':=sp) (fun x hx=>hsp x (by rw [hbp];exact hx))
  rw [hbp]
  exact afk h5 fun x hx=>axc (hk _ (hlt x (by rw [hbp];exact hx)))
 ·rw [hfn,hvars];rfl
 ·simp only [World.frozen?,hk b (hlt _ hp)]
end
theorem avc (p x y:Bool):amg (some (.s (.bool p))) (some (.s (.bool x))) (some (.s (.bool y)))=some (.s (.bool (bif p then x else y))):=by cases p <;> rfl
theorem avb (x y:Option V):amg (some (.s (.bool true))) x y=x:=rfl
theorem aq4 (x y:Option V):amg (some (.s (.bool false))) x y=y:=rfl
theorem acp {fr:List V} {s:Nat} {v:V} (h:s < fr.length):(fr.set s v).getD s .unk=v:=by simp [h]
theorem abx {fr:List V} {s t:Nat} {v:V} (h:s≠t):(fr.set s v).getD t .unk=fr.getD t .unk:=by simp [h]
theorem aab (fr:List V):oq [] fr=fr:=rfl
theorem ada {m:Nat} {fr:List V} {H:Heap} (h:H.length=m):trim m fr H=H:=by
 unfold trim;split
 ·rw [← h];exact a0x
 ·rfl
inductive RI where
 | keep (g:List (Nat × Bool × E)) (e:E)
 | sub (src:Nat) (path slots:List Nat)
 | tt (i:Nat)
 | cc (v:V)
 deriving Inhabited
def ach:List Nat→List Nat→E→List (Nat × Bool × E) × E
 | [],_,e=>([],e)
 | i :: p,ss,.op _ xs=>ach p ss (xs.getD i (.c .unk))
 | 0 :: p,ss,.pick c _ _=>ach p ss c
 | 1 :: p,s :: ss,.pick c a _=>((s,true,c) :: (ach p ss a).1,(ach p ss a).2)
 | 2 :: p,s :: ss,.pick c _ b=>((s,false,c) :: (ach p ss b).1,(ach p ss b).2)
 | _,_,_=>([],.c .unk)
def aei:List RI→List (List (Nat × Bool × E) × E)
 | []=>[]
 | .keep g e :: r=>(g,e) :: aei r
 | _ :: r=>aei r
def frees:List RI→List E
 | []=>[]
 | .keep [] e :: r=>e :: frees r
 | _ :: r=>frees r
def RI.get (S:List E):RI→List (Nat × Bool × E) × E
 | .keep g e=>(g,e)
 | .sub s p ss=>ach p ss (S.getD s (.c .unk))
 | .tt i=>([],.t i)
 | .cc v=>([],.c v)
def ak0 (items:List RI) (os:List (Nat × E)):List (List (Nat × Bool × E) × E):=items.map (RI.get (os.map (·.2) ++ frees items))
theorem a4f {fr:List V} {H:Heap}:∀ {xs:List E} {i:Nat},(anb fr H xs).isSome=true→(evE fr H (xs.getD i (.c .unk))).isSome=true:=by
 intro xs
 induction xs with
 | nil=>intro i _;simp [evE]
 | cons x xs ih=>
   intro i h;simp only [anb] at h;cases hx:evE fr H x with
   | none=>simp [hx] at h
   | some v=>
     cases hs:anb fr H xs with
     | none=>simp [hx,hs] at h
     | some vs=>
       cases i with
       | zero=>simp [hx]
       | succ i=>simpa using ih (i:=i) (by rw [hs];rfl)
theorem agn {fr:List V} {H:Heap}:∀ (p ss:List Nat) (e:E),(evE fr H e).isSome=true→ahq fr H (ach p ss e).1 (ach p ss e).2=true:=by
 intro p
 induction p with
 | nil=>intro ss e h;simp only [ach,ahq];exact h
 | cons i p ih=>
   intro ss e h;cases e with
   | op o xs=>
     simp only [ach];refine ih _ _ (a4f ?_);simp only [evE] at h;cases hs:anb fr H xs with
     | none=>simp [hs] at h
     | some vs=>rfl
   | pick c a b=>
     simp only [evE] at h;cases hc:evE fr H c with
     | none=>simp [hc,amg] at h
     | some v=>
       rw [hc] at h
       match i,ss with
       | 0,ss=>simp only [ach];exact ih _ _ (by rw [hc];rfl)
       | 1,[]=>simp only [ach,ahq,evE];rfl
       | 2,[]=>simp only [ach,ahq,evE];rfl
       | 1,s :: ss=>
         simp only [ach,ahq,hc];unfold amg at h;split at h
         ·rename_i e;cases e;simp only [a1t,ja];exact ih _ _ h
         ·rename_i e;cases e;simp [a1t]
         ·cases h
       | 2,s :: ss=>
         simp only [ach,ahq,hc];unfold amg at h;split at h
         ·rename_i e;cases e;simp [a1t]
         ·rename_i e;cases e;simp only [a1t,ja];exact ih _ _ h
         ·cases h
       | i+3,ss=>simp only [ach,ahq,evE];rfl
   | t j=>simp only [ach,ahq,evE];rfl
   | c v=>simp only [ach,ahq,evE];rfl
theorem an7 {fr:List V} {H:Heap}:∀ {os:List (Nat × E)} {f g:List V},ym fr H os f=some g→∀ p∈os,(evE fr H p.2).isSome=true:=by
 intro os
 induction os with
 | nil=>intro f g _ p hp;cases hp
 | cons q os ih=>
   intro f g h p hp;simp only [ym] at h;cases hq:evE fr H q.2 with
   | none=>simp [hq] at h
   | some v=>
     simp only [hq] at h
     rcases jr.1 hp with rfl | hp
     ·rw [hq];rfl
     ·exact ih h p hp
theorem ayz:∀ {items:List RI} {g:List (Nat × Bool × E)} {e:E},RI.keep g e∈items→(g,e)∈aei items:=by
 intro items
 induction items with
 | nil=>intro g e h;cases h
 | cons x r ih=>
   intro g e h
   rcases jr.1 h with h2 | h2
   ·subst h2;simp [aei]
   ·have h3:=ih h2;clear h
    cases x <;> simp only [aei] <;> first | exact bz _ h3 | exact h3
theorem ayl:∀ {items:List RI} {g:List (Nat × Bool × E)} {e:E},(g,e)∈aei items→RI.keep g e∈items:=by
 intro items
 induction items with
 | nil=>intro g e h;cases h
 | cons x r ih=>
   intro g e h;cases x with
   | keep g' e'=>
     simp only [aei] at h
     rcases jr.1 h with h | h
     ·cases h;exact dn
     ·exact bz _ (ih h)
   | _=>exact bz _ (ih h)
theorem azk:∀ {items:List RI} {e:E},e∈frees items→([],e)∈aei items:=by
 intro items
 induction items with
 | nil=>intro e h;cases h
 | cons x r ih=>
   intro e h;cases x with
   | keep g e'=>
     cases g with
     | nil=>
       simp only [frees] at h;simp only [aei]
       rcases jr.1 h with rfl | h
       ·exact dn
       ·exact bz _ (ih h)
     | cons a g=>simp only [frees] at h;simp only [aei];exact bz _ (ih h)
   | _=>exact ih h
theorem api (m:Nat) (items:List RI) (os:List (Nat × E)) (kill:List Nat) (fr:List V) (H:Heap):
 q9 (some (m,ak0 items os,os)) kill fr H=q9 (some (m,aei items,os)) kill fr H:=by
 simp only [q9];by_cases hm:m≤fr.length
 ·rw [cu hm,cu hm];by_cases hk:(aei items).all (fun r=>ahq fr H r.1 r.2)=true
  ·rw [cu hk];cases hs:ym fr H os (oq kill fr) with
   | none=>split <;> rfl
   | some g=>
     rw [cu];rw [au];intro r hr;unfold ak0 at hr;rw [yc] at hr;obtain ⟨x,hx,rfl⟩:=hr;cases x with
     | keep gg e=>
       rw [au] at hk;exact hk _ (ayz hx)
     | tt i=>rfl
     | cc v=>rfl
     | sub s p ss=>
       simp only [RI.get];by_cases hl:s < (os.map (·.2) ++ frees items).length
       ·have hd:(os.map (·.2) ++ frees items).getD s (.c .unk)=(os.map (·.2) ++ frees items)[s]:=by simp only [List.getD,List.getElem?_eq_getElem hl];rfl
        rw [hd]
        rcases kg.1 (qj hl) with h1 | h1
        ·rw [yc] at h1;obtain ⟨q,hq,e⟩:=h1;rw [← e];exact agn p ss _ (an7 hs q hq)
        ·rw [au] at hk;have h5:=hk _ (azk h1)
         exact agn p ss _ (by simpa [ahq] using h5)
       ·have hd:(os.map (·.2) ++ frees items).getD s (.c .unk)=.c .unk:=by rw [List.getD,List.getElem?_eq_none (Nat.le_of_not_lt hl)];rfl
        rw [hd];exact agn (fr:=fr) (H:=H) p ss _ rfl
  ·rw [dx hk,dx];intro h;apply hk;rw [au] at h ⊢;intro r hr;obtain ⟨g,e⟩:=r;exact h _ (yc.2 ⟨_,ayl hr,rfl⟩)
 ·rw [dx hm,dx hm]
theorem a08 {ops:List AOper} {kill outs:List Nat} {m:Nat} {items:List RI} {os:List (Nat × E)} (h:xx ops kill outs=some (m,ak0 items os,os)) (fr:List V) (H:Heap):
 q9 (xx ops kill outs) kill fr H=q9 (some (m,aei items,os)) kill fr H:=by rw [h,api]
abbrev Env:=List (Nat × V)
def aic:Env→Nat→V
 | [],_=>.unk
 | (k,x) :: e,s=>if s=k then x else aic e s
def a1y (s:Nat) (v:V):Env→Env
 | []=>[(s,v)]
 | (k,x) :: e=>if s=k then (s,v) :: e else if s < k then (s,v) :: (k,x) :: e else (k,x) :: a1y s v e
def zg (ks:List Nat):Env→Env
 | []=>[]
 | (k,x) :: e=>if ks.contains k then zg ks e else (k,x) :: zg ks e
def gq (n:Nat) (en:Env):List V:=(List.range n).map (aic en)
theorem a3s (s t:Nat) (v:V):∀ en:Env,aic (a1y s v en) t=if t=s then v else aic en t:=by
 intro en
 induction en with
 | nil=>rfl
 | cons p e ih=>
   obtain ⟨k,x⟩:=p;simp only [a1y];split
   ·rename_i h;subst h;simp only [aic];split <;> rfl
   ·split
    ·simp only [aic]
    ·rename_i h1 h2;simp only [aic,ih];by_cases h3:t=k
     ·subst h3;rw [cu rfl,dx (fun e=>h1 e.symm),cu rfl]
     ·rw [dx h3,dx h3]
theorem azb (ks:List Nat) (t:Nat):∀ en:Env,aic (zg ks en) t=if ks.contains t then .unk else aic en t:=by
 intro en
 induction en with
 | nil=>simp [zg,aic]
 | cons p e ih=>
   obtain ⟨k,x⟩:=p;simp only [zg];by_cases h1:ks.contains k=true
   ·rw [cu h1,ih];split
    ·rfl
    ·rename_i h2;simp only [aic];rw [dx];rintro rfl;exact h2 h1
   ·rw [dx h1];simp only [aic,ih];by_cases h3:t=k
    ·subst h3;rw [cu rfl,dx h1,cu rfl]
    ·rw [dx h3,dx h3]
theorem qd (n:Nat) (en:Env):(gq n en).length=n:=by simp [gq]
theorem acr {n:Nat} {en:Env} {s:Nat} (h:s < n):(gq n en).getD s .unk=aic en s:=by simp [gq,h]
theorem a9d {n:Nat} {en:Env} {fr:List V} (hl:fr.length=n) (h:∀ s,s < n→fr.getD s .unk=aic en s):fr=gq n en:=by
 refine a0z (by rw [hl,qd]) fun i h1 h2=>?_
 have:=h i (by omega)
 simp only [gq,List.getElem_map,List.getElem_range];rw [← this];simp [h1]
theorem amz (n:Nat) (en:Env) (s:Nat) (v:V):(gq n en).set s v=gq n (a1y s v en):=by
 refine a9d (by rw [dm,qd]) fun t ht=>?_
 rw [a3s];split
 ·rename_i h;subst h;exact acp (by rw [qd];exact ht)
 ·rename_i h;rw [abx (fun e=>h e.symm),acr ht]
theorem aph (n:Nat) (en:Env) (ks:List Nat):oq ks (gq n en)=gq n (zg ks en):=by
 refine a9d (by rw [uj,qd]) fun t ht=>?_
 rw [aap,azb];by_cases h:t∈ks
 ·rw [cu h,cu (by simpa using h)]
 ·rw [dx h,dx (by simpa using h),acr ht]
def qa (n:Nat):List V→Nat→Env
 | [],k=>(List.range' k (n - k)).map fun s=>(s,und)
 | v :: vs,k=>(k,v) :: qa n vs (k+1)
theorem ahd (n:Nat):∀ (vs:List V) (k t:Nat),k≤t→t < n→vs.length+k≤n→aic (qa n vs k) t=if t - k < vs.length then vs.getD (t - k) .unk else und:=by
 intro vs
 induction vs with
 | nil=>
   intro k t h1 h2 _;simp only [qa,ib,Nat.not_lt_zero,mo]
   have:∀ (m j:Nat),j≤t→t < j+m→aic ((List.range' j m).map fun s=>(s,und)) t=und:=by
    intro m
    induction m with
    | zero=>intro j a b;omega
    | succ m ih=>
      intro j a b;simp only [List.range'_succ,ou,aic];split
      ·rfl
      ·exact ih (j+1) (by omega) (by omega)
   exact this _ k h1 (by omega)
 | cons v vs ih=>
   intro k t h1 h2 h3;simp only [qa,aic,bi] at h3 ⊢;split
   ·rename_i h;subst h;simp
   ·rename_i h
    rw [ih (k+1) t (by omega) h2 (by omega)]
    obtain ⟨d,hd⟩:∃ d,t - k=d+1:=⟨t - k - 1,by omega⟩
    have:t - (k+1)=d:=by omega
    rw [hd,this];simp only [Nat.add_lt_add_iff_right,ig]
theorem start_eq {n:Nat} {vs:List V} (h:vs.length≤n):vs ++ List.replicate (n - vs.length) und=gq n (qa n vs 0):=by
 refine a9d (by simp;omega) fun t ht=>?_
 rw [ahd n vs 0 t (jd _) ht (by omega)]
 split
 ·rename_i h1;simp at h1;simp only [List.getD,List.getElem?_append_left h1,bem]
 ·rename_i h1;simp at h1;simp only [List.getD,List.getElem?_append_right h1,List.getElem?_replicate]
  rw [cu (by omega)]
  rfl
theorem a3t (s:Nat):aic [] s=.unk:=rfl
theorem azc (k:Nat) (x:V) (e:Env) (s:Nat):aic ((k,x) :: e) s=if s=k then x else aic e s:=rfl
theorem a1x (s:Nat) (v:V):a1y s v []=[(s,v)]:=rfl
theorem axs (s:Nat) (v:V) (k:Nat) (x:V) (e:Env):a1y s v ((k,x) :: e)=if s=k then (s,v) :: e else if s < k then (s,v) :: (k,x) :: e else (k,x) :: a1y s v e:=rfl
theorem ayy (ks:List Nat):zg ks []=[]:=rfl
theorem avm (ks:List Nat) (k:Nat) (x:V) (e:Env):zg ks ((k,x) :: e)=if ks.contains k then zg ks e else (k,x) :: zg ks e:=rfl
theorem bcx (b:List V→Heap→Option St) (k:List Nat) (m:Nat) (fr:List V) (H:Heap):itW b k m fr H=match b fr H with
 | some (.nrm,fr',H')=>itW b k m (oq k fr') (trim m (oq k fr') H')
 | some (e,fr',H')=>some (e,oq k fr',trim m (oq k fr') H')
 | none=>none:=by
 cases hb:b fr H with
 | none=>
   simp only [];cases hi:itW b k m fr H with
   | none=>rfl
   | some r=>
     obtain ⟨n,hn⟩:=atl hi;cases n with
     | zero=>simp [qy] at hn
     | succ n=>simp [qy,hb] at hn
 | some r=>
   obtain ⟨e,fr',H'⟩:=r;cases e with
   | nrm=>
     simp only [];cases hi:itW b k m (oq k fr') (trim m (oq k fr') H') with
     | some r=>exact bcw hb hi
     | none=>
       cases hj:itW b k m fr H with
       | none=>rfl
       | some r=>
         obtain ⟨n,hn⟩:=atl hj;cases n with
         | zero=>simp [qy] at hn
         | succ n=>
           simp only [qy,hb] at hn;rw [ay4 hn] at hi;cases hi
   | ext id=>exact atj (by simp) hb
   | ret=>exact atj (by simp) hb
noncomputable def agl (call:lc) (it:yo) (base:Nat) (b:ACode):Option St→Option St
 | some (.nrm,fr,H)=>evC call it base b fr H
 | r=>r
def a6b (id:Nat):Option St→Option St
 | some (.ext id',fr,H)=>some (if id'=id then .nrm else .ext id',fr,H)
 | r=>r
noncomputable def condC (call:lc) (it:yo) (base:Nat) (a b:ACode) (fr:List V) (H:Heap):V→Option St
 | .s (.bool p)=>bif p then evC call it base a fr H else evC call it base b fr H
 | _=>none
def rowC (H:Heap):Option (List V)→Option St
 | some fr=>some (.nrm,fr,H)
 | none=>none
def opsK (kill:List Nat) (chk:List V→Bool):Option (List V × Heap)→Option St
 | some (fr,H)=>bif chk fr then some (.nrm,oq kill fr,H) else none
 | none=>none
def ax9 (chk:List (Nat × Nat)) (ops:List AOper) (kill:List Nat):Option (List V × Heap)→Option St
 | some (fr,H)=>bif chk.all (ahj ops fr) then some (.nrm,oq kill fr,H) else none
 | none=>none
section
variable {call:lc} {it:yo} {base:Nat}
theorem a4p (fr:List V) (H:Heap):evC call it base .skip fr H=some (.nrm,fr,H):=rfl
theorem a4r (id:Nat) (fr:List V) (H:Heap):evC call it base (.exit id) fr H=some (.ext id,fr,H):=rfl
theorem a9n (fr:List V) (H:Heap):evC call it base .ret fr H=some (.ret,fr,H):=rfl
theorem a9k (a b:ACode) (fr:List V) (H:Heap):evC call it base (.seq a b) fr H=agl call it base b (evC call it base a fr H):=rfl
theorem azx (id:Nat) (c:ACode) (fr:List V) (H:Heap):evC call it base (.block id c) fr H=a6b id (evC call it base c fr H):=rfl
theorem a4s (c:Opd) (a b:ACode) (fr:List V) (H:Heap):evC call it base (.cond c a b) fr H=condC call it base a b fr H (ev fr c):=by
 simp only [evC];cases ev fr c with
 | s v=>cases v with
   | bool p=>cases p <;> rfl
   | _=>rfl
 | _=>rfl
theorem a4q (kill:List Nat) (c:ACode) (fr:List V) (H:Heap):evC call it base (.loop kill c) fr H=it (evC call it base c) kill H.length (oq kill fr) H:=rfl
theorem a9l (ops:List AOper) (kill outs:List Nat) (fr:List V) (H:Heap):evC call it base (.regionE ops kill outs) fr H=rowC H (q9 (xx ops kill outs) kill fr H):=rfl
theorem evC_ops (ops:List AOper) (kill:List Nat) (fr:List V) (H:Heap):evC call it base (.region ops [] kill) fr H=ax9 [] ops kill (jl call base ops fr H):=by
 simp only [evC];cases jl call base ops fr H with
 | none=>rfl
 | some p=>rfl
theorem atz {ops:List AOper} {chk:List (Nat × Nat)} {kill:List Nat} {fr:List V} {H:Heap} {fr':List V} {H':Heap} (h:jl call base ops fr H=some (fr',H')) (hc:chk.all (aa0 call base ops fr H fr')=true):evC call it base (.region ops chk kill) fr H=some (.nrm,oq kill fr',H'):=by
 simp only [evC,h,hc,ja]
theorem apn {ops:List AOper} {chk:List (Nat × Nat)} {kill:List Nat} {fr:List V} {H:Heap} {fr':List V} {H':Heap} (h:jl call base ops fr H=some (fr',H')) (hc:chk.all (ahj ops fr')=true):evC call it base (.region ops chk kill) fr H=some (.nrm,oq kill fr',H'):=by
 refine atz h ?_;rw [au] at hc ⊢;intro p hp;simp only [aa0,hc p hp,a0s]
theorem an2 (b:ACode) (fr:List V) (H:Heap):agl call it base b (some (.nrm,fr,H))=evC call it base b fr H:=rfl
theorem awr (b:ACode) (i:Nat) (fr:List V) (H:Heap):agl call it base b (some (.ext i,fr,H))=some (.ext i,fr,H):=rfl
theorem awq (b:ACode) (fr:List V) (H:Heap):agl call it base b (some (.ret,fr,H))=some (.ret,fr,H):=rfl
theorem aup (b:ACode):agl call it base b none=none:=rfl
theorem auq (b:ACode) (p:Bool) (x y:Option St):agl call it base b (bif p then x else y)=bif p then agl call it base b x else agl call it base b y:=by cases p <;> rfl
theorem a2h (id:Nat) (fr:List V) (H:Heap):a6b id (some (.nrm,fr,H))=some (.nrm,fr,H):=rfl
theorem a2g (id:Nat) (fr:List V) (H:Heap):a6b id (some (.ret,fr,H))=some (.ret,fr,H):=rfl
theorem a2i (id i:Nat) (fr:List V) (H:Heap):a6b id (some (.ext i,fr,H))=some (if i=id then .nrm else .ext i,fr,H):=rfl
theorem ax4 (id:Nat):a6b id none=none:=rfl
theorem ax5 (id:Nat) (p:Bool) (x y:Option St):a6b id (bif p then x else y)=bif p then a6b id x else a6b id y:=by cases p <;> rfl
theorem av1 (a b:ACode) (fr:List V) (H:Heap) (p:Bool):condC call it base a b fr H (.s (.bool p))=bif p then evC call it base a fr H else evC call it base b fr H:=rfl
theorem axh (H:Heap) (fr:List V):rowC H (some fr)=some (.nrm,fr,H):=rfl
theorem aov (ops:List AOper) (kill:List Nat) (fr:List V) (H:Heap):ax9 [] ops kill (some (fr,H))=some (.nrm,oq kill fr,H):=rfl
end
def a09 (fr:List V) (H:Heap) (os:List (Nat × E)) (kill:List Nat) (r:Bool):Option (List V):=bif r then ym fr H os (oq kill fr) else none
def outE (fr:List V) (H:Heap) (os:List (Nat × E)) (fr':List V) (s:Nat):Option V→Option (List V)
 | some v=>ym fr H os (fr'.set s v)
 | none=>none
theorem ar4 {m:Nat} {R:List (List (Nat × Bool × E) × E)} {os:List (Nat × E)} {kill:List Nat} {fr:List V} {H:Heap} (h:m≤fr.length):q9 (some (m,R,os)) kill fr H=a09 fr H os kill (R.all fun r=>ahq fr H r.1 r.2):=by
 simp only [q9,cu h,a09];cases R.all fun r=>ahq fr H r.1 r.2 <;> rfl
theorem aur (fr:List V) (H:Heap) (os:List (Nat × E)) (kill:List Nat):a09 fr H os kill true=ym fr H os (oq kill fr):=rfl
theorem aqg (fr:List V) (H:Heap) (fr':List V):ym fr H [] fr'=some fr':=rfl
theorem an9 (fr:List V) (H:Heap) (s:Nat) (e:E) (os:List (Nat × E)) (fr':List V):ym fr H ((s,e) :: os) fr'=outE fr H os fr' s (evE fr H e):=rfl
theorem ax3 (fr:List V) (H:Heap) (os:List (Nat × E)) (fr':List V) (s:Nat) (v:V):outE fr H os fr' s (some v)=ym fr H os (fr'.set s v):=rfl
theorem a1s (fr:List V) (H:Heap) (e:E):ahq fr H [] e=(evE fr H e).isSome:=rfl
theorem axn (fr:List V) (H:Heap) (s:Nat) (b:Bool) (x:E) (G:List (Nat × Bool × E)) (e:E):ahq fr H ((s,b,x) :: G) e=a1t (evE fr H x) b (ahq fr H G e):=rfl
theorem axo (p b r:Bool):a1t (some (.s (.bool p))) b r=bif p == b then r else true:=by cases p <;> cases b <;> cases r <;> rfl
def V1 (f:V→Option V):Option V→Option V
 | some x=>f x
 | none=>none
def V2 (f:V→V→Option V):Option V→Option V→Option V
 | some x,some y=>f x y
 | _,_=>none
theorem a94 (f:V→Option V) (x:V):V1 f (some x)=f x:=rfl
theorem a92 (f:V→V→Option V) (x y:V):V2 f (some x) (some y)=f x y:=rfl
theorem evE_t (fr:List V) (H:Heap) (i:Nat):evE fr H (.t i)=some (fr.getD i .unk):=rfl
theorem a9i (fr:List V) (H:Heap) (v:V):evE fr H (.c v)=some v:=rfl
theorem a4g (fr:List V) (H:Heap) (c a b:E):evE fr H (.pick c a b)=amg (evE fr H c) (evE fr H a) (evE fr H b):=rfl
def aar (op:BinOp):V→V→Option V
 | .s a,.s b=>(aek op a b).map .s
 | _,_=>none
def bbl (neg:Bool):V→V→Option V
 | .s (.bool a),.s (.bool b)=>some (bl ((a == b) != neg))
 | _,_=>none
def xEqP (H:Heap) (neg:Bool):V→V→Option V
 | .ref i g _,.ref j h _=>if i=j then none else match getC H i g,getC H j h with
   | some _,some _=>some (bl neg)
   | _,_=>none
 | _,_=>none
def aak (k:NK) (neg:Bool) (x:V):Option V:=(x.isNil k).map fun b=>bl (b != neg)
def afi (neg:Bool) (ls:List Leaf):V→V→Option V
 | .agg xs,.agg ys=>(ny ls xs ys).map fun b=>bl (b != neg)
 | _,_=>none
def xUn (op:UnOp) (x:V):Option V:=match op,x with
 | .not,.s (.bool b)=>some (bl (!b))
 | .neg,.s (.int k n)=>some (.s (.int k (k.wrap (0 - n))))
 | .xor,.s (.int k n)=>(aek .xor (.int k (if k.signed then -1 else k.max)) (.int k n)).map .s
 | _,_=>none
def a6w (k:IntKind):V→Option V
 | .s (.int _ n)=>some (.s (.int k (k.wrap n)))
 | _=>none
def ap4:V→Option V
 | .s (.string b)=>some (.s (.string b))
 | _=>none
def ab0:V→Option V
 | .ref id g off=>some (.ref id g off)
 | .pref cs=>some (.pref cs)
 | .fn f a b=>some (.fn f a b)
 | .yld id=>some (.yld id)
 | _=>none
def xe (off:Nat):V→Option V
 | .ref id g o=>some (.ref id g (o+off))
 | .pref cs=>if off≤cs.length then some (.pref (cs.drop off)) else none
 | _=>none
def anz (g:Bool) (off n:Nat):V→Option V
 | .agg cs=>if ((cs.drop off).take n).length=n then shut g ((cs.drop off).take n) else none
 | _=>none
def kz (sz:Nat):V→V→Option V
 | .sl id g off len sz',.s (.int _ n)=>if 0≤n∧n < len∧sz'=sz then some (.ref id g (off+n.toNat * sz)) else none
 | .psl es sz',.s (.int _ n)=>if 0≤n∧sz'=sz then (es[n.toNat]?).map .pref else none
 | _,_=>none
def zb:V→V→Option V
 | .s (.string b),.s (.int _ n)=>if 0≤n then (b.data.toList[n.toNat]?).map fun c=>.s (.int .u8 c.toNat) else none
 | _,_=>none
def afh (i:Nat):V→Option V
 | .tup vs=>vs[i]?
 | _=>none
def ale (H:Heap):NK→V→Option V
 | .p,.s (.string b)=>some (i64 b.size)
 | .s,.s (.slice none 0 0)=>some (i64 0)
 | .m,.s (.map none)=>some (i64 0)
 | .s,.esl=>some (i64 0)
 | .s,.psl es _=>some (i64 es.length)
 | .s,.sl _ _ _ len _=>some (i64 len)
 | .m,.mp id=>match H[id]? with
   | some (.map es)=>some (i64 es.length)
   | _=>none
 | _,_=>none
def aer (H:Heap) (kind:TypeDesc) (zero:V) (ok:Bool) (m k:V):Option V:=(jf (fun _ _ _ _=>none) 0 [m,k] H (.mapGet kind zero (.t 0) (.t 1) ok)).map (·.1)
def abr (mx:Bool):V→V→Option V
 | .s (.int k a),.s (.int k' b)=>if k=k' then some (.s (.int k (if mx then (if a < b then b else a) else (if b < a then b else a)))) else none
 | _,_=>none
def si (H:Heap) (g:Bool) (n:Nat) (a:V):Option V:=aag H g n a
def acf (H:Heap) (o:AOp):Option (List V)→Option V
 | some vs=>(jf (fun _ _ _ _=>none) 0 vs H o).map (·.1)
 | none=>none
def L1 (x:Option V) (xs:Option (List V)):Option (List V):=match x,xs with
 | some v,some vs=>some (v :: vs)
 | _,_=>none
theorem a98 (v:V) (vs:List V):L1 (some v) (some vs)=some (v :: vs):=rfl
section
variable (fr:List V) (H:Heap) (x y:E)
theorem af1:anb fr H []=some []:=rfl
theorem aac (xs:List E):anb fr H (x :: xs)=L1 (evE fr H x) (anb fr H xs):=by
 simp only [anb];cases evE fr H x <;> cases anb fr H xs <;> rfl
theorem aht (o:AOp) (xs:List E):evE fr H (.op o xs)=acf H o (anb fr H xs):=by
 simp only [evE];cases anb fr H xs with
 | none=>rfl
 | some vs=>simp only [acf];cases jf (fun _ _ _ _=>none) 0 vs H o <;> rfl
theorem op1 {o:AOp} {f:V→Option V} (h:∀ v,acf H o (some [v])=f v):evE fr H (.op o [x])=V1 f (evE fr H x):=by
 rw [aht,aac,af1];cases evE fr H x with
 | none=>rfl
 | some v=>exact h v
theorem op2 {o:AOp} {f:V→V→Option V} (h:∀ v u,acf H o (some [v,u])=f v u):evE fr H (.op o [x,y])=V2 f (evE fr H x) (evE fr H y):=by
 rw [aht,aac,aac,af1];cases evE fr H x with
 | none=>rfl
 | some v=>cases evE fr H y with
   | none=>rfl
   | some u=>exact h v u
theorem a8d {o:AOp} {f:V→V→Option V} {c:V} (h:∀ v,acf H o (some [v,c])=f v c):evE fr H (.op o [x,.c c])=V2 f (evE fr H x) (some c):=by
 rw [aht,aac,aac,af1,a9i];cases evE fr H x with
 | none=>rfl
 | some v=>exact h v
theorem a8c {o:AOp} {f:V→V→Option V} {c:V} (h:∀ v,acf H o (some [c,v])=f c v):evE fr H (.op o [.c c,y])=V2 f (some c) (evE fr H y):=by
 rw [aht,aac,aac,af1,a9i];cases evE fr H y with
 | none=>rfl
 | some v=>exact h v
theorem a9j (op:BinOp):evE fr H (.op (.bin op (.t 0) (.t 1)) [x,y])=V2 (aar op) (evE fr H x) (evE fr H y):=op2 _ _ _ _ fun v u=>by
 cases v <;> first | rfl | (cases u <;> first | rfl | (simp only [acf,jf,ev,gp,ig,aar];cases aek op _ _ <;> rfl))
theorem a4o (op:BinOp) (c:V):evE fr H (.op (.bin op (.t 0) (.c c)) [x,.c c])=V2 (aar op) (evE fr H x) (some c):=a8d _ _ _ fun v=>by
 cases v <;> first | rfl | (cases c <;> first | rfl | (simp only [acf,jf,ev,gp,ig,aar];cases aek op _ _ <;> rfl))
theorem a4n (op:BinOp) (c:V):evE fr H (.op (.bin op (.c c) (.t 1)) [.c c,y])=V2 (aar op) (some c) (evE fr H y):=a8c _ _ _ fun v=>by
 cases c <;> first | rfl | (cases v <;> first | rfl | (simp only [acf,jf,ev,gp,ig,aar];cases aek op _ _ <;> rfl))
theorem a9h (n:Bool):evE fr H (.op (.eqB n (.t 0) (.t 1)) [x,y])=V2 (bbl n) (evE fr H x) (evE fr H y):=op2 _ _ _ _ fun v u=>by
 cases v <;> first | rfl | (rename_i q;cases q <;> first | rfl | (cases u <;> first | rfl | (rename_i p;cases p <;> rfl)))
theorem a4l (n:Bool) (c:V):evE fr H (.op (.eqB n (.t 0) (.c c)) [x,.c c])=V2 (bbl n) (evE fr H x) (some c):=a8d _ _ _ fun v=>by
 cases v <;> first | rfl | (rename_i q;cases q <;> first | rfl | (cases c <;> first | rfl | (rename_i p;cases p <;> rfl)))
theorem a4k (n:Bool) (c:V):evE fr H (.op (.eqB n (.c c) (.t 1)) [.c c,y])=V2 (bbl n) (some c) (evE fr H y):=a8c _ _ _ fun v=>by
 cases c <;> first | rfl | (rename_i q;cases q <;> first | rfl | (cases v <;> first | rfl | (rename_i p;cases p <;> rfl)))
theorem azu (n:Bool) (ls:List Leaf):evE fr H (.op (.eqAgg n ls (.t 0) (.t 1)) [x,y])=V2 (afi n ls) (evE fr H x) (evE fr H y):=op2 _ _ _ _ fun v u=>by
 cases v <;> first | rfl | (cases u <;> first | rfl | (simp only [acf,jf,ev,gp,ig,afi];cases ny ls _ _ <;> rfl))
theorem avx (n:Bool) (ls:List Leaf) (c:V):evE fr H (.op (.eqAgg n ls (.t 0) (.c c)) [x,.c c])=V2 (afi n ls) (evE fr H x) (some c):=a8d _ _ _ fun v=>by
 cases v <;> first | rfl | (cases c <;> first | rfl | (simp only [acf,jf,ev,gp,ig,afi];cases ny ls _ _ <;> rfl))
theorem avw (n:Bool) (ls:List Leaf) (c:V):evE fr H (.op (.eqAgg n ls (.c c) (.t 1)) [.c c,y])=V2 (afi n ls) (some c) (evE fr H y):=a8c _ _ _ fun v=>by
 cases c <;> first | rfl | (cases v <;> first | rfl | (simp only [acf,jf,ev,gp,ig,afi];cases ny ls _ _ <;> rfl))
theorem anf (sz:Nat):evE fr H (.op (.indexAddr sz (.t 0) (.t 1)) [x,y])=V2 (kz sz) (evE fr H x) (evE fr H y):=op2 _ _ _ _ fun v u=>by
 cases v <;> first | rfl | (cases u <;> first | rfl | (rename_i q;cases q <;> first | rfl | (simp only [acf,jf,ev,gp,ig,kz];split <;> first | rfl | (split <;> rename_i e <;> simp [e]))))
theorem akf (sz:Nat) (c:V):evE fr H (.op (.indexAddr sz (.t 0) (.c c)) [x,.c c])=V2 (kz sz) (evE fr H x) (some c):=a8d _ _ _ fun v=>by
 cases v <;> first | rfl | (cases c <;> first | rfl | (rename_i q;cases q <;> first | rfl | (simp only [acf,jf,ev,gp,ig,kz];split <;> first | rfl | (split <;> rename_i e <;> simp [e]))))
theorem ake (sz:Nat) (c:V):evE fr H (.op (.indexAddr sz (.c c) (.t 1)) [.c c,y])=V2 (kz sz) (some c) (evE fr H y):=a8c _ _ _ fun v=>by
 cases c <;> first | rfl | (cases v <;> first | rfl | (rename_i q;cases q <;> first | rfl | (simp only [acf,jf,ev,gp,ig,kz];split <;> first | rfl | (split <;> rename_i e <;> simp [e]))))
theorem apl:evE fr H (.op (.indexStr (.t 0) (.t 1)) [x,y])=V2 (zb) (evE fr H x) (evE fr H y):=op2 _ _ _ _ fun v u=>by
 cases v <;> first | rfl | (rename_i q;cases q <;> first | rfl | (cases u <;> first | rfl | (rename_i p;cases p <;> first | rfl | (simp only [acf,jf,ev,gp,ig,zb];split <;> first | rfl | (split <;> rename_i e <;> simp [e])))))
theorem ane (c:V):evE fr H (.op (.indexStr (.t 0) (.c c)) [x,.c c])=V2 (zb) (evE fr H x) (some c):=a8d _ _ _ fun v=>by
 cases v <;> first | rfl | (rename_i q;cases q <;> first | rfl | (cases c <;> first | rfl | (rename_i p;cases p <;> first | rfl | (simp only [acf,jf,ev,gp,ig,zb];split <;> first | rfl | (split <;> rename_i e <;> simp [e])))))
theorem anc (c:V):evE fr H (.op (.indexStr (.c c) (.t 1)) [.c c,y])=V2 (zb) (some c) (evE fr H y):=a8c _ _ _ fun v=>by
 cases c <;> first | rfl | (rename_i q;cases q <;> first | rfl | (cases v <;> first | rfl | (rename_i p;cases p <;> first | rfl | (simp only [acf,jf,ev,gp,ig,zb];split <;> first | rfl | (split <;> rename_i e <;> simp [e])))))
theorem avu (mx:Bool):evE fr H (.op (.minmax mx (.t 0) (.t 1)) [x,y])=V2 (abr mx) (evE fr H x) (evE fr H y):=op2 _ _ _ _ fun v u=>by
 cases v <;> first | rfl | (rename_i q;cases q <;> first | rfl | (cases u <;> first | rfl | (rename_i p;cases p <;> first | rfl | (simp only [acf,jf,ev,gp,ig,abr];split <;> rfl))))
theorem ar9 (mx:Bool) (c:V):evE fr H (.op (.minmax mx (.t 0) (.c c)) [x,.c c])=V2 (abr mx) (evE fr H x) (some c):=a8d _ _ _ fun v=>by
 cases v <;> first | rfl | (rename_i q;cases q <;> first | rfl | (cases c <;> first | rfl | (rename_i p;cases p <;> first | rfl | (simp only [acf,jf,ev,gp,ig,abr];split <;> rfl))))
theorem ar8 (mx:Bool) (c:V):evE fr H (.op (.minmax mx (.c c) (.t 1)) [.c c,y])=V2 (abr mx) (some c) (evE fr H y):=a8c _ _ _ fun v=>by
 cases c <;> first | rfl | (rename_i q;cases q <;> first | rfl | (cases v <;> first | rfl | (rename_i p;cases p <;> first | rfl | (simp only [acf,jf,ev,gp,ig,abr];split <;> rfl))))
theorem avv (kd:TypeDesc) (z:V) (ok:Bool):evE fr H (.op (.mapGet kd z (.t 0) (.t 1) ok) [x,y])=V2 (aer H kd z ok) (evE fr H x) (evE fr H y):=op2 _ _ _ _ fun v u=>by
 rfl
theorem asb (kd:TypeDesc) (z:V) (ok:Bool) (c:V):evE fr H (.op (.mapGet kd z (.t 0) (.c c) ok) [x,.c c])=V2 (aer H kd z ok) (evE fr H x) (some c):=a8d _ _ _ fun v=>by
 rfl
theorem asa (kd:TypeDesc) (z:V) (ok:Bool) (c:V):evE fr H (.op (.mapGet kd z (.c c) (.t 1) ok) [.c c,y])=V2 (aer H kd z ok) (some c) (evE fr H y):=a8c _ _ _ fun v=>by
 rfl
theorem apk:evE fr H (.op (.nilCheck (.t 0)) [x])=V1 (ab0) (evE fr H x):=op1 _ _ _ fun v=>by
 cases v <;> rfl
theorem azt (k:NK) (n:Bool):evE fr H (.op (.eqNil k n (.t 0)) [x])=V1 (aak k n) (evE fr H x):=op1 _ _ _ fun v=>by
 simp only [acf,jf,ev,gp,aak];cases V.isNil k v <;> rfl
theorem bc5 (op:UnOp):evE fr H (.op (.un op (.t 0)) [x])=V1 (xUn op) (evE fr H x):=op1 _ _ _ fun v=>by
 cases op <;> first | (cases v <;> first | rfl | (rename_i q;cases q <;> first | rfl | (simp only [acf,jf,ev,gp,xUn];cases aek _ _ _ <;> rfl)))
theorem a4m (k:IntKind):evE fr H (.op (.conv k (.t 0)) [x])=V1 (a6w k) (evE fr H x):=op1 _ _ _ fun v=>by
 cases v <;> first | rfl | (rename_i q;cases q <;> rfl)
theorem avy:evE fr H (.op (.convId (.t 0)) [x])=V1 (ap4) (evE fr H x):=op1 _ _ _ fun v=>by
 cases v <;> first | rfl | (rename_i q;cases q <;> rfl)
theorem ang (off:Nat):evE fr H (.op (.fieldAddr off (.t 0)) [x])=V1 (xe off) (evE fr H x):=op1 _ _ _ fun v=>by
 cases v <;> first | rfl | (simp only [acf,jf,ev,gp,xe];split <;> rfl)
theorem azs (g:Bool) (off n:Nat):evE fr H (.op (.field g off n (.t 0)) [x])=V1 (anz g off n) (evE fr H x):=op1 _ _ _ fun v=>by
 cases v <;> first | rfl | (simp only [acf,jf,ev,gp,anz];split <;> first | rfl | (cases shut g _ <;> rfl))
theorem asc (i:Nat):evE fr H (.op (.extract (.t 0) i) [x])=V1 (afh i) (evE fr H x):=op1 _ _ _ fun v=>by
 cases v <;> first | rfl | (simp only [acf,jf,ev,gp,afh];split <;> rename_i e <;> simp [e])
theorem a4j (k:NK):evE fr H (.op (.lenS k (.t 0)) [x])=V1 (ale H k) (evE fr H x):=op1 _ _ _ fun v=>by
 cases k <;> cases v <;> first | rfl | (rename_i q;cases q <;> first | rfl | (rename_i a;cases a <;> rfl) | (rename_i a b c;cases a <;> first | rfl | (cases b <;> first | rfl | (cases c <;> rfl)))) | (rename_i j;simp only [acf,jf,ev,gp,ale];generalize H[j]?=o;cases o <;> first | rfl | (rename_i ob;cases ob <;> rfl))
theorem a4i (g:Bool) (n:Nat):evE fr H (.op (.load g n (.t 0)) [x])=V1 (si H g n) (evE fr H x):=op1 _ _ _ fun v=>by
 simp only [acf,jf,ev,gp,si];cases aag H g n v <;> rfl
theorem azv (z:List V) (p:List (Nat × Nat)) (ps:List (Nat × Opd)) (xs:List E):evE fr H (.op (.build z p ps) xs)=acf H (.build z p ps) (anb fr H xs):=aht _ _ _ _
theorem a4h (f:Nat) (a b:List Opd) (xs:List E):evE fr H (.op (.mkFn f a b) xs)=acf H (.mkFn f a b) (anb fr H xs):=aht _ _ _ _
theorem avt (a:Opd) (lo hi:Option Opd) (xs:List E):evE fr H (.op (.subStr a lo hi) xs)=acf H (.subStr a lo hi) (anb fr H xs):=aht _ _ _ _
theorem azr (sz:Nat) (a:Opd) (lo hi mx:Option Opd) (xs:List E):evE fr H (.op (.subSl sz a lo hi mx) xs)=acf H (.subSl sz a lo hi mx) (anb fr H xs):=aht _ _ _ _
end
theorem ar5 {m:Nat} {os:List (Nat × E)} {kill:List Nat} {fr:List V} {H:Heap} (h:m≤fr.length):q9 (some (m,[],os)) kill fr H=ym fr H os (oq kill fr):=by
 simp only [q9,cu h,jg,ja]
theorem a3y {m:Nat} {os:List (Nat × E)} {kill:List Nat} {n:Nat} {en:Env} {H:Heap} (h:m≤n):q9 (some (m,[],os)) kill (gq n en) H=ym (gq n en) H os (gq n (zg kill en)):=by
 rw [ar5 (by rw [qd];exact h),aph]
theorem a3j {m:Nat} {R:List (List (Nat × Bool × E) × E)} {os:List (Nat × E)} {kill:List Nat} {n:Nat} {en:Env} {H:Heap} (h:m≤n):q9 (some (m,R,os)) kill (gq n en) H=a09 (gq n en) H os kill (R.all fun r=>ahq (gq n en) H r.1 r.2):=by
 rw [ar4 (by rw [qd];exact h)]
noncomputable def stepW (b:List V→Heap→Option St) (k:List Nat) (m:Nat):Option St→Option St
 | some (.nrm,fr',H')=>itW b k m (oq k fr') (trim m (oq k fr') H')
 | some (e,fr',H')=>some (e,oq k fr',trim m (oq k fr') H')
 | none=>none
theorem ma (b:List V→Heap→Option St) (k:List Nat) (m:Nat) (fr:List V) (H:Heap):itW b k m fr H=stepW b k m (b fr H):=by
 rw [bcx];cases b fr H with
 | none=>rfl
 | some r=>obtain ⟨e,f,h⟩:=r;cases e <;> rfl
section
variable (b:List V→Heap→Option St) (k:List Nat) (m:Nat)
theorem ade (fr:List V) (H:Heap):stepW b k m (some (.nrm,fr,H))=itW b k m (oq k fr) (trim m (oq k fr) H):=rfl
theorem an4 (i:Nat) (fr:List V) (H:Heap):stepW b k m (some (.ext i,fr,H))=some (.ext i,oq k fr,trim m (oq k fr) H):=rfl
theorem an3 (fr:List V) (H:Heap):stepW b k m (some (.ret,fr,H))=some (.ret,oq k fr,trim m (oq k fr) H):=rfl
theorem auu (p:Bool) (x y:Option St):stepW b k m (bif p then x else y)=bif p then stepW b k m x else stepW b k m y:=by cases p <;> rfl
end
theorem awo (fr:List V) (H:Heap):trim H.length fr H=H:=ada rfl
def a7i (rs:List ARes):Option St→Option (V × Heap)
 | some (.nrm,fr,H)=>(qc rs fr H).map fun v=>(v,H)
 | some (.ret,fr,H)=>(qc rs fr H).map fun v=>(v,H)
 | _=>none
theorem a1n (rs:List ARes) (fr:List V) (H:Heap):a7i rs (some (.nrm,fr,H))=(qc rs fr H).map fun v=>(v,H):=rfl
theorem a1m (rs:List ARes) (fr:List V) (H:Heap):a7i rs (some (.ret,fr,H))=(qc rs fr H).map fun v=>(v,H):=rfl
theorem axi (rs:List ARes) (p:Bool) (x y:Option St):a7i rs (bif p then x else y)=bif p then a7i rs x else a7i rs y:=by cases p <;> rfl
theorem a1p (t:ARes) (fr:List V) (H:Heap):qc [t] fr H=ahp fr H t:=by
 simp only [qc,lh,aug];cases ahp fr H t <;> rfl
theorem a1o (t u:ARes) (fr:List V) (H:Heap):qc [t,u] fr H=match ahp fr H t,ahp fr H u with | some x,some y=>some (.tup [x,y]) | _,_=>none:=by
 simp only [qc,lh,aug];cases ahp fr H t <;> cases ahp fr H u <;> rfl
theorem a1q (t:Nat) (fr:List V) (H:Heap):ahp fr H (.tmp t)=some (fr.getD t .unk):=rfl
theorem axk (t:Nat) (g:Bool) (n:Nat) (fr:List V) (H:Heap):ahp fr H (.cell t g n)=aag H g n (fr.getD t .unk):=rfl
theorem nz {CP:Nat→Option CFun} {f:Nat} {c:ACFun} (hf:CP f=some (.code c)) {fst args cap:List V} (hl:(fst ++ args ++ cap).length≤c.ntmps) {base:Nat} {H:Heap} {r:V × Heap}
 (h:a7i c.results (evC (fe CP) itW base c.body (gq c.ntmps (qa c.ntmps (fst ++ args ++ cap) 0)) H)=some r):fe CP (.fn f fst cap) args base H=some r:=by
 refine zz ?_;simp only [ve,hf];rw [start_eq hl];cases he:evC (fe CP) itW base c.body (gq c.ntmps (qa c.ntmps (fst ++ args ++ cap) 0)) H with
 | none=>rw [he] at h;cases h
 | some s=>
   rw [he] at h;obtain ⟨e,f2,H2⟩:=s;cases e <;> exact h
theorem aqa (n:Nat) (v:V) (vs:List V) (k:Nat):qa n (v :: vs) k=(k,v) :: qa n vs (k+1):=rfl
def opK (call:lc) (base:Nat) (o:AOper) (os:List AOper) (fr:List V) (H:Heap):Option Bool→Option (List V × Heap)
 | some true=>match jf call base fr H o.op with
   | some (v,H')=>jl call base os (put o.dst v fr) H'
   | none=>none
 | some false=>jl call base os (put o.dst und fr) H
 | none=>none
def bac (call:lc) (base:Nat) (d:Option Nat) (os:List AOper) (fr:List V):Option (V × Heap)→Option (List V × Heap)
 | some (v,H')=>jl call base os (put d v fr) H'
 | none=>none
def awk (b:Bool):V→Option Bool
 | .s (.bool x)=>some (x == b)
 | .s (.tuple _)=>some false
 | _=>none
section
variable {call:lc} {base:Nat}
theorem azo (fr:List V) (H:Heap):jl call base [] fr H=some (fr,H):=rfl
theorem avs (d:Option Nat) (op:AOp) (os:List AOper) (fr:List V) (H:Heap):jl call base (⟨d,op,none⟩ :: os) fr H=bac call base d os fr (jf call base fr H op):=by
 simp only [jl,want];cases jf call base fr H op <;> rfl
theorem ar6 (d:Option Nat) (op:AOp) (t:Nat) (b:Bool) (os:List AOper) (fr:List V) (H:Heap):jl call base (⟨d,op,some (t,b)⟩ :: os) fr H=opK call base ⟨d,op,some (t,b)⟩ os fr H (awk b (fr.getD t .unk)):=by
 have:want ⟨d,op,some (t,b)⟩ fr=awk b (fr.getD t .unk):=by
  simp only [want];cases fr.getD t .unk with
  | s v=>cases v <;> rfl
  | _=>rfl
 simp only [jl,this];cases awk b (fr.getD t .unk) with
 | none=>rfl
 | some p=>cases p <;> rfl
theorem a2s (d:Option Nat) (op:AOp) (g:Option (Nat × Bool)) (os:List AOper) (fr:List V) (H:Heap) (p:Bool):opK call base ⟨d,op,g⟩ os fr H (some p)=bif p then bac call base d os fr (jf call base fr H op) else jl call base os (put d und fr) H:=by
 cases p
 ·rfl
 ·simp only [opK];cases jf call base fr H op <;> rfl
theorem auo (b x:Bool):awk b (.s (.bool x))=some (x == b):=rfl
theorem awj (b:Bool):awk b und=some false:=rfl
theorem axl (d:Option Nat) (os:List AOper) (fr:List V) (v:V) (H:Heap):bac call base d os fr (some (v,H))=jl call base os (put d v fr) H:=rfl
theorem a1v (d:Nat) (v:V) (n:Nat) (en:Env):put (some d) v (gq n en)=gq n (a1y d v en):=amz n en d v
theorem a1w (v:V) (fr:List V):put none v fr=fr:=rfl
theorem axm (d:Option Nat) (os:List AOper) (fr:List V) (p:Bool) (x y:Option (V × Heap)):bac call base d os fr (bif p then x else y)=bif p then bac call base d os fr x else bac call base d os fr y:=by cases p <;> rfl
theorem ax8 (chk:List (Nat × Nat)) (ops:List AOper) (kill:List Nat) (p:Bool) (x y:Option (List V × Heap)):ax9 chk ops kill (bif p then x else y)=bif p then ax9 chk ops kill x else ax9 chk ops kill y:=by cases p <;> rfl
end
theorem ev_t (fr:List V) (i:Nat):ev fr (.t i)=fr.getD i .unk:=rfl
theorem ev_c (fr:List V) (v:V):ev fr (.c v)=v:=rfl
def a7p (H:Heap) (x y:V):V→Option (V × Heap)
 | .s (.bool p)=>bif p then some (x,H) else some (y,H)
 | _=>none
theorem azp (call:lc) (base:Nat) (fr:List V) (H:Heap) (c a b:Opd):jf call base fr H (.pick c a b)=a7p H (ev fr a) (ev fr b) (ev fr c):=by
 simp only [jf];cases ev fr c with
 | s v=>cases v with
   | bool p=>cases p <;> rfl
   | _=>rfl
 | _=>rfl
theorem ava (H:Heap) (x y:V) (p:Bool):a7p H x y (.s (.bool p))=bif p then some (x,H) else some (y,H):=rfl
theorem au9 (H:Heap) (x y:Bool) (p:Bool):a7p H (.s (.bool x)) (.s (.bool y)) (.s (.bool p))=some (.s (.bool (bif p then x else y)),H):=by cases p <;> rfl
def RH (H:Heap):Option V→Option (V × Heap)
 | some v=>some (v,H)
 | none=>none
theorem a96 (H:Heap) (v:V):RH H (some v)=some (v,H):=rfl
def RS:Option Heap→Option (V × Heap)
 | some H=>some (und,H)
 | none=>none
theorem a95 (H:Heap):RS (some H)=some (und,H):=rfl
section
variable (call:lc) (base:Nat) (fr:List V) (H:Heap) (x y:Opd)
theorem bcf (op:BinOp):jf call base fr H (.bin op x y)=RH H (aar op (ev fr x) (ev fr y)):=by
 simp only [jf];generalize ev fr x=v;generalize ev fr y=u
 cases v <;> first | rfl | (cases u <;> first | rfl | (simp only [aar];cases aek op _ _ <;> rfl))
theorem bcd (n:Bool):jf call base fr H (.eqB n x y)=RH H (bbl n (ev fr x) (ev fr y)):=by
 simp only [jf];generalize ev fr x=v;generalize ev fr y=u
 cases v <;> first | rfl | (rename_i q;cases q <;> first | rfl | (cases u <;> first | rfl | (rename_i p;cases p <;> rfl)))
theorem bcc (n:Bool):jf call base fr H (.eqP n x y)=RH H (xEqP H n (ev fr x) (ev fr y)):=by
 simp only [jf];generalize ev fr x=v;generalize ev fr y=u
 cases v <;> first | rfl | (cases u <;> first | rfl | skip)
 rename_i i g _ j h _;simp only [xEqP];split
 ·rfl
 ·cases getC H i g with
  | none=>rfl
  | some c=>cases getC H j h <;> rfl
theorem a2n (n:Bool) (ls:List Leaf):jf call base fr H (.eqAgg n ls x y)=RH H (afi n ls (ev fr x) (ev fr y)):=by
 simp only [jf];generalize ev fr x=v;generalize ev fr y=u
 cases v <;> first | rfl | (cases u <;> first | rfl | (simp only [afi];cases ny ls _ _ <;> rfl))
theorem aow (sz:Nat):jf call base fr H (.indexAddr sz x y)=RH H (kz sz (ev fr x) (ev fr y)):=by
 simp only [jf];generalize ev fr x=v;generalize ev fr y=u
 cases v <;> first | rfl | (cases u <;> first | rfl | (rename_i q;cases q <;> first | rfl | (simp only [kz];split <;> first | rfl | (split <;> rename_i e <;> simp [e,RH]))))
theorem ara:jf call base fr H (.indexStr x y)=RH H (zb (ev fr x) (ev fr y)):=by
 simp only [jf];generalize ev fr x=v;generalize ev fr y=u
 cases v <;> first | rfl | (rename_i q;cases q <;> first | rfl | (cases u <;> first | rfl | (rename_i p;cases p <;> first | rfl | (simp only [zb];split <;> first | rfl | (split <;> rename_i e <;> simp [e,RH])))))
theorem aya (mx:Bool):jf call base fr H (.minmax mx x y)=RH H (abr mx (ev fr x) (ev fr y)):=by
 simp only [jf];generalize ev fr x=v;generalize ev fr y=u
 cases v <;> first | rfl | (rename_i q;cases q <;> first | rfl | (cases u <;> first | rfl | (rename_i p;cases p <;> first | rfl | (simp only [abr];split <;> rfl))))
theorem aq9:jf call base fr H (.nilCheck x)=RH H (ab0 (ev fr x)):=by
 simp only [jf];generalize ev fr x=v;cases v <;> rfl
theorem a2m (k:NK) (n:Bool):jf call base fr H (.eqNil k n x)=RH H (aak k n (ev fr x)):=by
 simp only [jf];generalize ev fr x=v;simp only [aak];cases V.isNil k v <;> rfl
theorem op_un (op:UnOp):jf call base fr H (.un op x)=RH H (xUn op (ev fr x)):=by
 simp only [jf];generalize ev fr x=v
 cases op <;> first | (cases v <;> first | rfl | (rename_i q;cases q <;> first | rfl | (simp only [xUn];cases aek _ _ _ <;> rfl)))
theorem a7x (k:IntKind):jf call base fr H (.conv k x)=RH H (a6w k (ev fr x)):=by
 simp only [jf];generalize ev fr x=v
 cases v <;> first | rfl | (rename_i q;cases q <;> rfl)
theorem ayd:jf call base fr H (.convId x)=RH H (ap4 (ev fr x)):=by
 simp only [jf];generalize ev fr x=v
 cases v <;> first | rfl | (rename_i q;cases q <;> rfl)
theorem aox (off:Nat):jf call base fr H (.fieldAddr off x)=RH H (xe off (ev fr x)):=by
 simp only [jf];generalize ev fr x=v
 cases v <;> first | rfl | (simp only [xe];split <;> rfl)
theorem a2l (g:Bool) (off n:Nat):jf call base fr H (.field g off n x)=RH H (anz g off n (ev fr x)):=by
 simp only [jf];generalize ev fr x=v
 cases v <;> first | rfl | (simp only [anz];split <;> first | rfl | (cases shut g _ <;> rfl))
theorem avf (i:Nat):jf call base fr H (.extract x i)=RH H (afh i (ev fr x)):=by
 simp only [jf];generalize ev fr x=v
 cases v <;> first | rfl | (simp only [afh];split <;> rename_i e <;> simp [e,RH])
theorem a7w (k:NK):jf call base fr H (.lenS k x)=RH H (ale H k (ev fr x)):=by
 cases k <;> (simp only [jf];generalize ev fr x=v;cases v <;> first | rfl | (rename_i q;cases q <;> first | rfl | (rename_i a;cases a <;> rfl) | (rename_i a b c;cases a <;> first | rfl | (cases b <;> first | rfl | (cases c <;> rfl)))) | (rename_i j;simp only [ale];generalize H[j]?=o;cases o <;> first | rfl | (rename_i ob;cases ob <;> rfl)))
theorem a7v (g:Bool) (n:Nat):jf call base fr H (.load g n x)=RH H (si H g n (ev fr x)):=by
 simp only [jf];generalize ev fr x=v;simp only [si];cases aag H g n v <;> rfl
theorem ayb (kd:TypeDesc) (z:V) (ok:Bool):jf call base fr H (.mapGet kd z x y ok)=RH H (aer H kd z ok (ev fr x) (ev fr y)):=by
 have h:∀ r,jf call base fr H (.mapGet kd z x y ok)=some r→r.2=H:=fun r h=>by obtain ⟨v,H'⟩:=r;exact (ahs rfl h).1
 have h2:jf (fun _ _ _ _=>none) 0 [ev fr x,ev fr y] H (.mapGet kd z (.t 0) (.t 1) ok)=jf call base fr H (.mapGet kd z x y ok):=rfl;simp only [aer,h2];cases hr:jf call base fr H (.mapGet kd z x y ok) with
 | none=>rfl
 | some r=>obtain ⟨v,H'⟩:=r;have:=h _ hr;simp only at this;subst this;rfl
theorem a7t:jf call base fr H (.move x)=some (ev fr x,H):=rfl
theorem a2r (z:List V):jf call base fr H (.alloc z)=some (.ref H.length 0 0,H ++ [.cells 0 z]):=rfl
theorem bce:jf call base fr H (.box x)=if (ev fr x).cells.all V.one then some (.ref H.length 0 0,H ++ [.cells 0 (ev fr x).cells]) else none:=rfl
theorem ajd:jf call base fr H .mapNew=some (.mp H.length,H ++ [.map []]):=rfl
theorem a2k (n:Nat):jf call base fr H (.store n x y)=RS (ahn H base n (ev fr y) (ev fr x)):=by
 simp only [jf];cases ahn H base n (ev fr y) (ev fr x) <;> rfl
theorem a7u (f:Nat) (a b:List Opd):jf call base fr H (.mkFn f a b)=some (.fn f (a.map (ev fr)) (b.map (ev fr)),H):=rfl
theorem a7z (sz bytes:Nat):jf call base fr H (.appR sz bytes x y)=oz H H.length sz bytes (ev fr x) (ev fr y):=rfl
theorem aye (sz bytes:Nat):jf call base fr H (.append sz bytes x y)=oz H base sz bytes (ev fr x) (ev fr y):=rfl
theorem a7y (args:List Opd):jf call base fr H (.call x args)=call (ev fr x) (args.map (ev fr)) base H:=rfl
theorem a2p (args:List Opd):jf call base fr H (.callR x args)=call (ev fr x) (args.map (ev fr)) H.length H:=rfl
theorem a2q (z:List V) (places:List (Nat × Nat)) (parts:List (Nat × Opd)):jf call base fr H (.build z places parts)=RH H ((aah (places[·]?) z (parts.map fun p=>(p.1,ev fr p.2))).map .agg):=by
 simp only [jf];cases aah (places[·]?) z (parts.map fun p=>(p.1,ev fr p.2)) <;> rfl
def bcm (H:Heap) (sz len:Nat):Option (List V)→Option (V × Heap)
 | some cs=>some (if len=0 then .esl else .sl H.length 0 0 len sz,H ++ [.cells 0 cs])
 | none=>none
theorem avh (sz len:Nat) (cs:List V):bcm H sz len (some cs)=some (if len=0 then .esl else .sl H.length 0 0 len sz,H ++ [.cells 0 cs]):=rfl
theorem avg (sz len:Nat) (z:List V) (parts:List (Nat × Opd)):jf call base fr H (.buildSl sz len z parts)=bcm H sz len (aah (fun i=>some (i * sz,sz)) z (parts.map fun p=>(p.1,ev fr p.2))):=by
 simp only [jf];cases aah (fun i=>some (i * sz,sz)) z (parts.map fun p=>(p.1,ev fr p.2)) <;> rfl
end
section
variable {call:lc} {it:yo} {base:Nat}
def AgD (D:List Nat) (f g:List V):Prop:=f.length=g.length∧∀ s,s ∉ D→f.getD s .unk=g.getD s .unk
def readsIn (o:AOper) (D:List Nat):Bool:=o.reads.any D.contains
def less (D:List Nat) (d:Option Nat):List Nat:=match d with
 | some d=>D.filter (· != d)
 | none=>D
def ay7:List Nat→List AOper→Option (List Nat)
 | D,[]=>some D
 | D,o :: os=>if readsIn o D then none else ay7 (less D o.dst) os
theorem a5w {D:List Nat} {f g:List V} (h:AgD D f g) (d:Option Nat) (v:V):AgD (less D d) (put d v f) (put d v g):=by
 cases d with
 | none=>exact h
 | some d=>
   refine ⟨by simp only [put,dm];exact h.1,fun s hs=>?_⟩
   simp only [put];by_cases e:s=d
   ·subst e;by_cases hl:s < f.length
    ·rw [acp hl,acp (h.1 ▸ hl)]
    ·rw [abe (by omega),abe (by have:=h.1;omega)]
     simp [List.getD,hl,h.1 ▸ hl]
   ·rw [abx (fun e'=>e e'.symm),abx (fun e'=>e e'.symm)];refine h.2 s fun hD=>hs ?_;simp only [less,List.mem_filter,o5,ne_eq];exact ⟨hD,e⟩
theorem a4e:∀ (ops:List AOper) (D D':List Nat) (f g:List V) (H:Heap),ay7 D ops=some D'→AgD D f g→
 (jl call base ops f H=none∧jl call base ops g H=none)∨∃ f' g' H',jl call base ops f H=some (f',H')∧jl call base ops g H=some (g',H')∧AgD D' f' g':=by
 intro ops
 induction ops with
 | nil=>intro D D' f g H h ha;cases h;exact .inr ⟨f,g,H,rfl,rfl,ha⟩
 | cons o os ih=>
   intro D D' f g H h ha;simp only [ay7] at h;split at h
   ·cases h
   ·rename_i hr
    have hrd:∀ s∈o.reads,f.getD s .unk=g.getD s .unk:=fun s hs=>ha.2 s fun hD=>hr (by
     unfold readsIn;rw [a00];exact ⟨s,hs,by simpa using hD⟩)
    have hw:=ab3 hrd;have hc:jf call base f H o.op=jf call base g H o.op:=aeb _ fun x hx=>adj hx hrd;simp only [jl,hw,hc];cases want o g with
    | none=>exact .inl ⟨rfl,rfl⟩
    | some b=>
      cases b with
      | false=>exact ih _ _ _ _ _ h (a5w ha _ _)
      | true=>
        simp only [];cases jf call base g H o.op with
        | none=>exact .inl ⟨rfl,rfl⟩
        | some r=>obtain ⟨v,H'⟩:=r;exact ih _ _ _ _ _ h (a5w ha _ _)
theorem ayx {D ks:List Nat} {f g:List V} (h:AgD D f g) (hk:D.all ks.contains=true):oq ks f=oq ks g:=by
 refine a0z (by rw [uj,uj,h.1]) fun i h1 h2=>?_
 have e:(oq ks f).getD i .unk=(oq ks g).getD i .unk:=by
  rw [aap,aap];split
  ·rfl
  ·rename_i hi;refine h.2 i fun hD=>hi ?_;rw [au] at hk
   simpa using hk i hD
 simpa [List.getD,h1,h2] using e
def ni (D:List Nat):ACode→Bool
 | .seq a _=>ni D a
 | .region ops [] kill=>match ay7 D ops with
   | some D'=>D'.all kill.contains
   | none=>false
 | .cond c a b=>(c.slots.all fun s=>!D.contains s) && ni D a && ni D b
 | .block _ c=>ni D c
 | .loop kill _=>D.all kill.contains
 | _=>false
theorem zq {D:List Nat}:∀ (c:ACode) {f g:List V} (H:Heap),ni D c=true→AgD D f g→evC call it base c f H=evC call it base c g H:=by
 intro c
 induction c with
 | seq a b iha _=>intro f g H h ha;simp only [evC,iha H h ha]
 | block id c ih=>intro f g H h ha;simp only [evC,ih H h ha]
 | cond o a b iha ihb=>
   intro f g H h ha;simp only [ni,ak] at h
   have:ev f o=ev g o:=by
    cases o with
    | c v=>rfl
    | t s=>exact ha.2 s (by simpa [Opd.slots] using h.1.1)
   simp only [evC,this,iha H h.1.2 ha,ihb H h.2 ha]
 | loop kill c _=>intro f g H h ha;simp only [evC,ayx ha h]
 | region ops chk kill=>
   intro f g H h ha;cases chk with
   | cons _ _=>cases h
   | nil=>
     simp only [ni] at h;split at h
     ·rename_i D' hD
      rcases a4e (call:=call) (base:=base) ops D D' f g H hD ha with ⟨e1,e2⟩ | ⟨f',g',H',e1,e2,ha'⟩
      ·simp only [evC,e1,e2]
      ·simp only [evC,e1,e2,ayx ha' h];rfl
     ·cases h
 | _=>intro f g H h;cases h
end
def yt:List V→Nat→Env
 | [],_=>[]
 | v :: vs,k=>(k,v) :: yt vs (k+1)
theorem auv (k:Nat):yt [] k=[]:=rfl
theorem aqb (v:V) (vs:List V) (k:Nat):yt (v :: vs) k=(k,v) :: yt vs (k+1):=rfl
theorem ajn:∀ (vs:List V) (k t:Nat),k≤t→t < k+vs.length→aic (yt vs k) t=vs.getD (t - k) .unk:=by
 intro vs
 induction vs with
 | nil=>intro k t h1 h2;simp at h2;omega
 | cons v vs ih=>
   intro k t h1 h2;simp only [yt,aic,bi] at h2 ⊢;split
   ·rename_i h;subst h;simp
   ·rw [ih (k+1) t (by omega) (by omega)]
    obtain ⟨d,hd⟩:∃ d,t - k=d+1:=⟨t - k - 1,by omega⟩
    have:t - (k+1)=d:=by omega
    rw [hd,this];rfl
theorem mq {CP:Nat→Option CFun} {f:Nat} {c:ACFun} (hf:CP f=some (.code c)) {fst args cap:List V} {k:Nat} (hk:(fst ++ args ++ cap).length=k) (hl:k≤c.ntmps) (hfirst:ni (List.range' k (c.ntmps - k)) c.body=true) {base:Nat} {H:Heap} {r:V × Heap}
 (h:a7i c.results (evC (fe CP) itW base c.body (gq c.ntmps (yt (fst ++ args ++ cap) 0)) H)=some r):fe CP (.fn f fst cap) args base H=some r:=by
 refine nz hf (by omega) ?_
 rw [zq c.body H hfirst (g:=gq c.ntmps (yt (fst ++ args ++ cap) 0))]
 ·exact h
 ·refine ⟨by rw [qd,qd],fun s hs=>?_⟩
  by_cases hn:s < c.ntmps
  ·rw [acr hn,acr hn]
   have hs':s < k:=by
    apply Nat.lt_of_not_le;intro h;apply hs;rw [List.mem_range']
    exact ⟨s - k,by omega,by omega⟩
   rw [ahd _ _ 0 s (jd _) hn (by omega),cu (by omega),ajn _ 0 s (jd _) (by omega)]
  ·simp [gq,List.getD,hn]
section
variable (call:lc) (it:yo) (base:Nat)
noncomputable def bby (b:List AOper) (kill:List Nat) (H:Heap):Option (List V)→Option St→Option St
 | some f,_=>evC call it base (.region b [] kill) f H
 | none,o=>o
noncomputable def bee (H:Heap):Option (List V)→Option St→Option St
 | some f,_=>some (.nrm,f,H)
 | none,o=>o
noncomputable def ae5 (ops:List AOper) (kill:List Nat) (f:List V) (H:Heap):Option St:=evC call it base (.region ops [] kill) f H
theorem aob (b:List AOper) (kill:List Nat) (H:Heap) (f:List V) (o:Option St):bby call it base b kill H (some f) o=evC call it base (.region b [] kill) f H:=rfl
theorem aoa (H:Heap) (f:List V) (o:Option St):bee H (some f) o=some (.nrm,f,H):=rfl
noncomputable def apr (k:List Nat) (b:List AOper) (kill:List Nat):Bool:=match ay7 k b with
 | some D=>D.all kill.contains
 | none=>false
theorem ajt:∀ (a b:List AOper) (f:List V) (H:Heap),jl call base (a ++ b) f H=match jl call base a f H with
 | some (f',H')=>jl call base b f' H'
 | none=>none:=by
 intro a
 induction a with
 | nil=>intro b f H;rfl
 | cons o os ih=>
   intro b f H;simp only [aj,jl];cases want o f with
   | none=>rfl
   | some p=>
     cases p with
     | false=>exact ih _ _ _
     | true=>
       simp only [];cases jf call base f H o.op with
       | none=>rfl
       | some r=>exact ih _ _ _
theorem a9u (k:List Nat) (f:List V):AgD k f (oq k f):=⟨(uj k f).symm,fun s hs=>by rw [aap,dx hs]⟩
theorem aog {k kill:List Nat} {b:List AOper} (h:apr k b kill=true) (f:List V) (H:Heap):evC call it base (.region b [] kill) f H=evC call it base (.region b [] kill) (oq k f) H:=by
 refine zq (D:=k) (.region b [] kill) H ?_ (a9u k f);unfold apr at h;simp only [ni];exact h
theorem axg (c d:List AOper) {kc kill:List Nat} (h:apr kc d kill=true) (f:List V) (H:Heap):evC call it base (.region (c ++ d) [] kill) f H=agl call it base (.region d [] kill) (evC call it base (.region c [] kc) f H):=by
 have e1:evC call it base (.region (c ++ d) [] kill) f H=match jl call base c f H with
  | some (f',H')=>evC call it base (.region d [] kill) f' H'
  | none=>none:=by
  simp only [evC,ajt];cases jl call base c f H <;> rfl
 rw [e1,evC_ops];cases jl call base c f H with
 | none=>rfl
 | some r=>
   obtain ⟨f',H'⟩:=r;simp only [aov,an2];exact aog call it base h f' H'
theorem axf (a b:List AOper) {ka oa kill:List Nat} (h:apr ka b kill=true) (f:List V) (H:Heap):evC call it base (.region (a ++ b) [] kill) f H=bby call it base b kill H (q9 (xx a ka oa) ka f H) (ae5 call it base (a ++ b) kill f H):=by
 cases ht:q9 (xx a ka oa) ka f H with
 | none=>rfl
 | some f2=>
   obtain ⟨f1,h1,h2⟩:=ab6 (call:=call) (base:=base) ht
   have e1:evC call it base (.region (a ++ b) [] kill) f H=evC call it base (.region b [] kill) f1 H:=by
    simp only [evC,ajt,h1];cases jl call base b f1 H <;> rfl
   rw [e1,aob,← h2,aog call it base h]
theorem a1l (a:List AOper) {oa kill:List Nat} (f:List V) (H:Heap):evC call it base (.region a [] kill) f H=bee H (q9 (xx a kill oa) kill f H) (ae5 call it base a kill f H):=by
 cases ht:q9 (xx a kill oa) kill f H with
 | none=>rfl
 | some f2=>
   obtain ⟨f1,h1,h2⟩:=ab6 (call:=call) (base:=base) ht;simp only [aoa,evC,h1,h2,jg,ja]
theorem alx (ops:List AOper) (kill:List Nat) (f:List V) (H:Heap):evC call it base (.region ops [] kill) f H=ax9 [] ops kill (jl call base ops f H):=evC_ops ops kill f H
end
def Rd (H:Heap) (v:V) (l:List V):Prop:=(∀ b,v≠.s (.string b))∧elems H 1 v=some (l.length,l)
theorem Rd.nil (H:Heap):Rd H nu []:=⟨fun _ h=>(by cases h),rfl⟩
theorem Rd.esl (H:Heap):Rd H .esl []:=⟨fun _ h=>(by cases h),rfl⟩
theorem Rd.psl (H:Heap) (l:List V):Rd H (.psl (l.map fun x=>[x]) 1) l:=by
 refine ⟨fun _ h=>by (cases h),?_⟩
 simp only [elems,ja,zl]
 congr 2
 induction l with
 | nil=>rfl
 | cons x l ih=>simp [ih]
theorem Rd.sl {H:Heap} {id g:Nat} {c:List V} (h:getC H id g=some c) {off n:Nat} (hn:off+n≤c.length):Rd H (.sl id g off n 1) ((c.drop off).take n):=by
 refine ⟨fun _ h=>by (cases h),?_⟩
 have:((c.drop off).take n).length=n:=by simp;omega
 simp only [elems,ja,h,ace,this]
theorem Rd.cases {H:Heap} {v:V} {l:List V} (h:Rd H v l):(l=[]∧(v=nu∨v=.esl))∨(∃ es,v=.psl es 1∧es.flatten=l∧es.length=l.length)∨∃ id g off n c,v=.sl id g off n 1∧getC H id g=some c∧(c.drop off).take n=l∧n=l.length:=by
 obtain ⟨h1,h2⟩:=h;unfold elems at h2;split at h2
 ·simp only [ed,aig] at h2;exact .inl ⟨h2.2.symm,.inl rfl⟩
 ·simp only [ed,aig] at h2;exact .inl ⟨h2.2.symm,.inr rfl⟩
 ·rename_i es sz;split at h2
  ·rename_i hz;subst hz;simp only [ed,aig] at h2;exact .inr (.inl ⟨es,rfl,h2.2,h2.1⟩)
  ·cases h2
 ·rename_i id g off len sz;split at h2
  ·rename_i hz;subst hz;split at h2
   ·rename_i c hc;simp only [ace] at h2;split at h2
    ·simp only [ed,aig] at h2;exact .inr (.inr ⟨id,g,off,len,c,rfl,hc,h2.2,h2.1⟩)
    ·cases h2
   ·cases h2
  ·cases h2
 ·cases h2
theorem Rd.len {H:Heap} {v:V} {l:List V} (h:Rd H v l):ale H .s v=some (.s (.int .i64 l.length)):=by
 rcases h.cases with ⟨rfl,rfl | rfl⟩ | ⟨es,rfl,_,e⟩ | ⟨id,g,off,n,c,rfl,_,_,e⟩
 ·rfl
 ·rfl
 ·simp only [ale,e];rfl
 ·simp only [ale,e];rfl
def apz:V→Prop
 | .psl es _=>∀ e∈es,e.length=1
 | _=>True
theorem ar2 {es:List (List V)} (h:∀ e∈es,e.length=1):∀ {i:Nat} {x:V},es.flatten[i]?=some x→es[i]?=some [x]:=by
 induction es with
 | nil=>intro i x hx;simp at hx
 | cons e es ih=>
   intro i x hx;have he:=h e dn
   match e,he with
   | [y],_=>
     cases i with
     | zero=>simp at hx ⊢;exact hx
     | succ i=>simp at hx ⊢;exact ih (fun e he=>h e (bz _ he)) hx
theorem Rd.at {H:Heap} {v:V} {l:List V} (h:Rd H v l) (hw:apz v) {i:Nat} {x:V} (hx:l[i]?=some x):V1 (si H false 1) (kz 1 v (.s (.int .i64 i)))=some x:=by
 have hi:i < l.length:=(List.getElem?_eq_some_iff.1 hx).1
 have h0:(0:Int)≤(i:Int):=by omega
 rcases h.cases with ⟨rfl,_⟩ | ⟨es,rfl,e1,e2⟩ | ⟨id,g,off,n,c,rfl,hc,e1,e2⟩
 ·simp at hx
 ·have:es[i]?=some [x]:=ar2 hw (by rw [e1];exact hx)
  simp only [kz,h0,afj,ja,mi,this,jo,V1,si,aag];rfl
 ·have hn:((i:Int) < (n:Int)):=by omega
  have hcx:c[off+i]?=some x:=by
   have:((c.drop off).take n)[i]?=some x:=by rw [e1];exact hx
   rw [List.getElem?_take_of_lt (by omega),List.getElem?_drop] at this
   exact this
  have:((c.drop (off+i)).take 1)=[x]:=by
   have hlt:=(List.getElem?_eq_some_iff.1 hcx).1;rw [d9 hlt];have:=(List.getElem?_eq_some_iff.1 hcx).2;simp [this]
  simp only [kz,h0,hn,nk,ja,mi,ace,V1,si,aag,hc,this];rfl
theorem atu {H G:Heap} {id g:Nat} {c:List V} (h:getC H id g=some c):getC (H ++ G) id g=some c:=by
 unfold getC at h ⊢;split at h
 ·rename_i g' c' hh;rw [List.getElem?_append_left (List.getElem?_eq_some_iff.1 hh).1,hh];exact h
 ·cases h
theorem Rd.app {H:Heap} {v:V} {l:List V} (h:Rd H v l) (G:Heap):Rd (H ++ G) v l:=by
 rcases h.cases with ⟨rfl,rfl | rfl⟩ | ⟨es,rfl,e1,e2⟩ | ⟨id,g,off,n,c,rfl,hc,e1,e2⟩
 ·exact Rd.nil _
 ·exact Rd.esl _
 ·exact ⟨h.1,h.2⟩
 ·refine ⟨h.1,?_⟩
  have:((c.drop off).take n).length=n:=by rw [e1,e2]
  simp only [elems,ja,atu hc,ace,this,e1];rw [e2,cu rfl]
theorem att {H:Heap} {id g:Nat} {c c':List V} (h:getC H id g=some c) (g':Nat):getC (H.set id (.cells g' c')) id g'=some c':=by
 have:id < H.length:=by
  unfold getC at h;split at h
  ·rename_i hh;exact (List.getElem?_eq_some_iff.1 hh).1
  ·cases h
 simp [getC,this]
theorem aa1 {H:Heap} {id j g:Nat} (ob:Ob) (h:id≠j):getC (H.set j ob) id g=getC H id g:=by
 unfold getC;rw [List.getElem?_set_ne (p9 h)]
theorem a1h (H:Heap) (id:Nat) (a b:Ob):(H.set id a).set id b=H.set id b:=List.set_set ..
theorem bbk (k:IntKind) (a b:Int):aar .add (.s (.int k a)) (.s (.int k b))=some (.s (.int k (k.wrap (a+b)))):=by simp [aar,aek]
theorem ba7 (k:IntKind) (a b:Int):aar .sub (.s (.int k a)) (.s (.int k b))=some (.s (.int k (k.wrap (a - b)))):=by simp [aar,aek]
theorem bbd (k:IntKind) (a b:Int):aar .mul (.s (.int k a)) (.s (.int k b))=some (.s (.int k (k.wrap (a * b)))):=by simp [aar,aek]
theorem bbi (k:IntKind) (a b:Int):aar .eql (.s (.int k a)) (.s (.int k b))=some (.s (.bool (a == b))):=by simp [aar,aek]
theorem bbc (k:IntKind) (a b:Int):aar .neq (.s (.int k a)) (.s (.int k b))=some (.s (.bool (a != b))):=by simp [aar,aek]
theorem bbe (k:IntKind) (a b:Int):aar .lss (.s (.int k a)) (.s (.int k b))=some (.s (.bool (decide (a < b)))):=by simp [aar,aek]
theorem bbf (k:IntKind) (a b:Int):aar .leq (.s (.int k a)) (.s (.int k b))=some (.s (.bool (decide (a≤b)))):=by simp [aar,aek]
theorem bbg (k:IntKind) (a b:Int):aar .gtr (.s (.int k a)) (.s (.int k b))=some (.s (.bool (decide (a > b)))):=by simp [aar,aek]
theorem bbh (k:IntKind) (a b:Int):aar .geq (.s (.int k a)) (.s (.int k b))=some (.s (.bool (decide (a ≥ b)))):=by simp [aar,aek]
theorem bbj (k:IntKind) (a b:Int):aar .and (.s (.int k a)) (.s (.int k b))=some (.s (.int k (k.wrap (BitVec.ofInt k.bits a &&& BitVec.ofInt k.bits b).toNat))):=by simp [aar,aek]
theorem xb_or (k:IntKind) (a b:Int):aar .or (.s (.int k a)) (.s (.int k b))=some (.s (.int k (k.wrap (BitVec.ofInt k.bits a ||| BitVec.ofInt k.bits b).toNat))):=by simp [aar,aek]
theorem ba6 (k:IntKind) (a b:Int):aar .xor (.s (.int k a)) (.s (.int k b))=some (.s (.int k (k.wrap (BitVec.ofInt k.bits a ^^^ BitVec.ofInt k.bits b).toNat))):=by simp [aar,aek]
theorem awh (k:IntKind) (a b:Int):aar .andNot (.s (.int k a)) (.s (.int k b))=some (.s (.int k (k.wrap (BitVec.ofInt k.bits a &&& ~~~ (BitVec.ofInt k.bits b)).toNat))):=by simp [aar,aek]
theorem bbb (k:IntKind) (a b:Int):aar .quo (.s (.int k a)) (.s (.int k b))=if b=0 then none else some (.s (.int k (k.wrap (a.tdiv b)))):=by by_cases h:b=0 <;> simp [aar,aek,h]
theorem bba (k:IntKind) (a b:Int):aar .rem (.s (.int k a)) (.s (.int k b))=if b=0 then none else some (.s (.int k (a.tmod b))):=by by_cases h:b=0 <;> simp [aar,aek,h]
theorem ba9 (k j:IntKind) (a b:Int):aar .shl (.s (.int k a)) (.s (.int j b))=if b < 0 then none else some (.s (.int k (k.wrap (a * 2 ^ (min b.toNat k.bits))))):=by by_cases h:b < 0 <;> simp [aar,aek,h]
theorem ba8 (k j:IntKind) (a b:Int):aar .shr (.s (.int k a)) (.s (.int j b))=if b < 0 then none else some (.s (.int k (a.fdiv (2 ^ (min b.toNat k.bits))))):=by by_cases h:b < 0 <;> simp [aar,aek,h]
theorem bas (a b:ByteArray):aar .eql (.s (.string a)) (.s (.string b))=some (.s (.bool (a.data.toList == b.data.toList))):=rfl
theorem bao (a b:ByteArray):aar .neq (.s (.string a)) (.s (.string b))=some (.s (.bool (!(a.data.toList == b.data.toList)))):=rfl
theorem bap (a b:ByteArray):aar .lss (.s (.string a)) (.s (.string b))=some (.s (.bool (Op.bytesLess a.data.toList b.data.toList))):=rfl
theorem bat (a b:ByteArray):aar .add (.s (.string a)) (.s (.string b))=if ((a.size+b.size:Nat):Int) > IntKind.i64.max then none else some (.s (.string (a ++ b))):=by by_cases h:((a.size+b.size:Nat):Int) > IntKind.i64.max <;> simp only [aar,aek,h,ja,mo,jo,zk]
theorem xq_b (n a b:Bool):bbl n (.s (.bool a)) (.s (.bool b))=some (.s (.bool ((a == b) != n))):=rfl
theorem xn_pn (n:Bool):aak .p n (.s (.pointer none))=some (.s (.bool (true != n))):=rfl
theorem xn_pr (n:Bool) (i g o:Nat):aak .p n (.ref i g o)=some (.s (.bool (false != n))):=rfl
theorem xn_pp (n:Bool) (cs:List V):aak .p n (.pref cs)=some (.s (.bool (false != n))):=rfl
theorem xn_sn (n:Bool):aak .s n (.s (.slice none 0 0))=some (.s (.bool (true != n))):=rfl
theorem xn_ss (n:Bool) (i g o l z:Nat):aak .s n (.sl i g o l z)=some (.s (.bool (false != n))):=rfl
theorem xn_sp (n:Bool) (es:List (List V)) (z:Nat):aak .s n (.psl es z)=some (.s (.bool (false != n))):=rfl
theorem xn_se (n:Bool):aak .s n (.esl)=some (.s (.bool (false != n))):=rfl
theorem xn_mn (n:Bool):aak .m n (.s (.map none))=some (.s (.bool (true != n))):=rfl
theorem xn_mm (n:Bool) (i:Nat):aak .m n (.mp i)=some (.s (.bool (false != n))):=rfl
theorem xn_fn (n:Bool):aak .f n (.s .nilFunc)=some (.s (.bool (true != n))):=rfl
theorem xn_ff (n:Bool) (i:Nat) (a b:List V):aak .f n (.fn i a b)=some (.s (.bool (false != n))):=rfl
theorem xn_fy (n:Bool) (i:Nat):aak .f n (.yld i)=some (.s (.bool (false != n))):=rfl
theorem xg (n:Bool) (ls:List Leaf) (xs ys:List V):afi n ls (.agg xs) (.agg ys)=(ny ls xs ys).map fun b=>.s (.bool (b != n)):=rfl
theorem bam (b:Bool):xUn .not (.s (.bool b))=some (.s (.bool (!b))):=rfl
theorem ban (k:IntKind) (a:Int):xUn .neg (.s (.int k a))=some (.s (.int k (k.wrap (0 - a)))):=rfl
theorem ba5 (k j:IntKind) (a:Int):a6w k (.s (.int j a))=some (.s (.int k (k.wrap a))):=rfl
theorem xc_id (b:ByteArray):ap4 (.s (.string b))=some (.s (.string b)):=rfl
theorem baz (i g o:Nat):ab0 (.ref i g o)=some (.ref i g o):=rfl
theorem a6u (cs:List V):ab0 (.pref cs)=some (.pref cs):=rfl
theorem xk_fn (f:Nat) (a b:List V):ab0 (.fn f a b)=some (.fn f a b):=rfl
theorem bay (i:Nat):ab0 (.yld i)=some (.yld i):=rfl
theorem a5t (off i g o:Nat):xe off (.ref i g o)=some (.ref i g (o+off)):=rfl
theorem a6v (off:Nat) (cs:List V):xe off (.pref cs)=if off≤cs.length then some (.pref (cs.drop off)) else none:=rfl
theorem ba3 (g:Bool) (off n:Nat) (cs:List V):anz g off n (.agg cs)=if ((cs.drop off).take n).length=n then shut g ((cs.drop off).take n) else none:=rfl
theorem aul (sz i g o l z:Nat) (k:IntKind) (n:Int):kz sz (.sl i g o l z) (.s (.int k n))=if 0≤n∧n < l∧z=sz then some (.ref i g (o+n.toNat * sz)) else none:=rfl
theorem ba2 (sz z:Nat) (es:List (List V)) (k:IntKind) (n:Int):kz sz (.psl es z) (.s (.int k n))=if 0≤n∧z=sz then (es[n.toNat]?).map .pref else none:=rfl
theorem ba0 (b:ByteArray) (k:IntKind) (n:Int):zb (.s (.string b)) (.s (.int k n))=if 0≤n then (b.data.toList[n.toNat]?).map fun c=>.s (.int .u8 c.toNat) else none:=rfl
theorem ba4 (i:Nat) (vs:List V):afh i (.tup vs)=vs[i]?:=rfl
theorem bau (H:Heap) (b:ByteArray):ale H .p (.s (.string b))=some (.s (.int .i64 b.size)):=rfl
theorem baw (H:Heap):ale H .s (.s (.slice none 0 0))=some (.s (.int .i64 0)):=rfl
theorem bax (H:Heap):ale H .s .esl=some (.s (.int .i64 0)):=rfl
theorem bav (H:Heap) (es:List (List V)) (z:Nat):ale H .s (.psl es z)=some (.s (.int .i64 es.length)):=rfl
theorem xl_sl (H:Heap) (i g o l z:Nat):ale H .s (.sl i g o l z)=some (.s (.int .i64 l)):=rfl
theorem a6t (H:Heap):ale H .m (.s (.map none))=some (.s (.int .i64 0)):=rfl
theorem za (H:Heap) (g:Bool) (n i j o:Nat):si H g n (.ref i j o)=match getC H i j with | some c=>(if ((c.drop o).take n).length=n then shut g ((c.drop o).take n) else none) | none=>none:=rfl
theorem a6s (H:Heap) (g:Bool) (n:Nat) (cs:List V):si H g n (.pref cs)=if (cs.take n).length=n then shut g (cs.take n) else none:=rfl
theorem xm (mx:Bool) (k:IntKind) (a b:Int):abr mx (.s (.int k a)) (.s (.int k b))=some (.s (.int k (if mx then (if a < b then b else a) else (if b < a then b else a)))):=by simp [abr]
theorem asy (cs:List V):shut true cs=some (.agg cs):=rfl
theorem asx (x:V):shut false [x]=some x:=rfl
theorem Rd.at' {H:Heap} {v:V} {l:List V} (h:Rd H v l) (hw:apz v) {i:Nat} {x:V} (hx:l[i]?=some x):∃ a,kz 1 v (.s (.int .i64 i))=some a∧si H false 1 a=some x:=by
 have:=h.at hw hx;cases ha:kz 1 v (.s (.int .i64 i)) with
 | none=>rw [ha] at this;cases this
 | some a=>rw [ha] at this;exact ⟨a,rfl,this⟩
def ahh (d:Nat):Option V→Option Int
 | none=>some d
 | some v=>ajm v
theorem a0h (d:Nat):ahh d none=some (d:Int):=rfl
theorem a5g (d:Nat) (k:IntKind) (n:Int):ahh d (some (.s (.int k n)))=some n:=rfl
def a5b (sz id g off len z:Nat):Option Int→Option Int→Option V
 | some l,some h=>if 0≤l∧l≤h∧h≤len∧z=sz then some (.sl id g (off+l.toNat * sz) (h - l).toNat sz) else none
 | _,_=>none
def at5 (sz:Nat) (es:List (List V)) (z:Nat):Option Int→Option Int→Option V
 | some l,some h=>if 0≤l∧l≤h∧h≤es.length∧z=sz then some (.psl ((es.drop l.toNat).take (h - l).toNat) sz) else none
 | _,_=>none
def af6 (v:V):Option Int→Option Int→Option V
 | some l,some h=>if l=0∧h=0 then some v else none
 | _,_=>none
def ac8 (sz:Nat) (v:V) (lo hi:Option V):Option V:=
 match v with
 | .s (.slice none 0 0)=>af6 nu (ahh 0 lo) (ahh 0 hi)
 | .esl=>af6 .esl (ahh 0 lo) (ahh 0 hi)
 | .psl es z=>at5 sz es z (ahh 0 lo) (ahh es.length hi)
 | .sl id g off len z=>a5b sz id g off len z (ahh 0 lo) (ahh len hi)
 | _=>none
theorem auj (sz:Nat) (lo hi:Option V):ac8 sz nu lo hi=af6 nu (ahh 0 lo) (ahh 0 hi):=rfl
theorem auk (sz:Nat) (lo hi:Option V):ac8 sz .esl lo hi=af6 .esl (ahh 0 lo) (ahh 0 hi):=rfl
theorem aui (sz:Nat) (es:List (List V)) (z:Nat) (lo hi:Option V):ac8 sz (.psl es z) lo hi=at5 sz es z (ahh 0 lo) (ahh es.length hi):=rfl
theorem awg (sz id g off len z:Nat) (lo hi:Option V):ac8 sz (.sl id g off len z) lo hi=a5b sz id g off len z (ahh 0 lo) (ahh len hi):=rfl
theorem av0 (sz id g off len z:Nat) (l h:Int):a5b sz id g off len z (some l) (some h)=if 0≤l∧l≤h∧h≤len∧z=sz then some (.sl id g (off+l.toNat * sz) (h - l).toNat sz) else none:=rfl
theorem asg (sz:Nat) (es:List (List V)) (z:Nat) (l h:Int):at5 sz es z (some l) (some h)=if 0≤l∧l≤h∧h≤es.length∧z=sz then some (.psl ((es.drop l.toNat).take (h - l).toNat) sz) else none:=rfl
theorem ash (v:V) (l h:Int):af6 v (some l) (some h)=if l=0∧h=0 then some v else none:=rfl
theorem bc8 (fr:List V) (d:Nat) (o:Option Opd):acw fr d o=ahh d (o.map (ev fr)):=by cases o <;> rfl
theorem atd (call:lc) (base:Nat) (fr:List V) (H:Heap) (sz:Nat) (x:Opd) (lo hi:Option Opd):jf call base fr H (.subSl sz x lo hi none)=RH H (ac8 sz (ev fr x) (lo.map (ev fr)) (hi.map (ev fr))):=by
 simp only [jf,bc8];generalize ev fr x=v;generalize lo.map (ev fr)=lo;generalize hi.map (ev fr)=hi
 cases v <;> first | rfl | skip
 case s v=>
  cases v <;> first | rfl | skip
  rename_i a n m
  cases a <;> first | rfl | skip
  cases n <;> first | rfl | skip
  cases m <;> first | rfl | skip
  simp only [ac8];cases ahh 0 lo with
  | none=>rfl
  | some l=>cases ahh 0 hi with
    | none=>simp only [af6,RH]
    | some h=>
      simp only [af6];by_cases hl:l=0
      ·subst hl;by_cases hh:h=0
       ·subst hh;rfl
       ·simp only [hh,and_false,mo]
        split <;> first | rfl | (rename_i e1 e2;cases e2;exact absurd rfl hh)
      ·simp only [hl,false_and,mo]
       split <;> first | rfl | (rename_i e1 e2;cases e1;exact absurd rfl hl)
 case esl=>
  simp only [ac8];cases ahh 0 lo with
  | none=>rfl
  | some l=>cases ahh 0 hi with
    | none=>simp only [af6,RH]
    | some h=>
      simp only [af6];by_cases hl:l=0
      ·subst hl;by_cases hh:h=0
       ·subst hh;rfl
       ·simp only [hh,and_false,mo]
        split <;> first | rfl | (rename_i e1 e2;cases e2;exact absurd rfl hh)
      ·simp only [hl,false_and,mo]
       split <;> first | rfl | (rename_i e1 e2;cases e1;exact absurd rfl hl)
 case psl es z=>
  simp only [ac8]
  cases ahh 0 lo <;> cases ahh es.length hi <;> first | rfl | (simp only [at5];split <;> rfl)
 case sl id g off len z=>
  simp only [ac8]
  cases ahh 0 lo <;> cases ahh len hi <;> first | rfl | (simp only [a5b];split <;> rfl)
theorem a6r (H:Heap) (sz:Nat) (x:Opd) (lo hi:Option Opd) (vs:List V):acf H (.subSl sz x lo hi none) (some vs)=ac8 sz (ev vs x) (lo.map (ev vs)) (hi.map (ev vs)):=by
 simp only [acf,atd];cases ac8 sz (ev vs x) (lo.map (ev vs)) (hi.map (ev vs)) <;> rfl
def a5u (H:Heap) (base sz:Nat) (zero:List V) (v:V):Option Heap:=
 match v with
 | .s (.slice none 0 0)=>some H
 | .esl=>some H
 | .sl id g off len z=>if len=0 then some H else if base≤id∧z=sz then match getC H id g with
    | some c=>if zero.length=sz∧off+len * sz≤c.length∧zero.all V.one then some (H.set id (.cells g (splice c off (List.replicate len zero).flatten))) else none
    | none=>none
   else none
 | _=>none
theorem a2o (call:lc) (base:Nat) (fr:List V) (H:Heap) (sz:Nat) (zero:List V) (x:Opd):jf call base fr H (.clearSl sz zero x)=RS (a5u H base sz zero (ev fr x)):=by
 simp only [jf];generalize ev fr x=v
 cases v <;> first | rfl | skip
 case s v=>
  cases v <;> first | rfl | skip
  rename_i a n m
  cases a <;> first | rfl | skip
  cases n <;> first | rfl | skip
  cases m <;> rfl
 case sl id g off len z=>
  simp only [a5u];split
  ·rfl
  ·split
   ·cases getC H id g with
    | none=>rfl
    | some c=>simp only [];split <;> rfl
   ·rfl
theorem a0d:((0:Nat):Int)=0:=rfl
theorem bbs:Int.toNat 0=0:=rfl
def Ext (H0 H:Heap):Prop:=∃ G,H=H0 ++ G
theorem Ext.refl (H:Heap):Ext H H:=⟨[],by simp⟩
theorem Ext.trans {A B C:Heap} (h:Ext A B) (k:Ext B C):Ext A C:=by
 obtain ⟨G,rfl⟩:=h;obtain ⟨K,rfl⟩:=k
 exact ⟨G ++ K,by simp⟩
theorem Ext.app (H G:Heap):Ext H (H ++ G):=⟨G,rfl⟩
theorem Ext.le {A B:Heap} (h:Ext A B):A.length≤B.length:=by obtain ⟨G,rfl⟩:=h;simp
theorem Ext.get {A B:Heap} (h:Ext A B) {i:Nat} (hi:i < A.length):B[i]?=A[i]?:=by obtain ⟨G,rfl⟩:=h;exact List.getElem?_append_left hi
theorem Ext.of_get {A B:Heap} (hl:A.length≤B.length) (h:∀ i,i < A.length→B[i]?=A[i]?):Ext A B:=by
 refine ⟨B.drop A.length,?_⟩;refine List.ext_getElem? fun i=>?_;by_cases hi:i < A.length
 ·rw [List.getElem?_append_left hi,h i hi]
 ·rw [List.getElem?_append_right (by omega),List.getElem?_drop]
  congr 1;omega
theorem Ext.take {A B:Heap} (h:Ext A B) {m:Nat} (hm:A.length≤m):Ext A (B.take m):=
 Ext.of_get (by rw [rz];have:=h.le;omega) fun i hi=>by rw [List.getElem?_take_of_lt (by omega),h.get hi]
theorem trim_or (m:Nat) (fr:List V) (H:Heap):trim m fr H=H∨(trim m fr H=H.take m∧∀ v∈fr,ll m 8 v=true):=by
 unfold trim;split
 ·rename_i h;simp only [ak,au] at h;exact .inr ⟨rfl,h.1⟩
 ·exact .inl rfl
theorem Ext.trim {A B:Heap} (h:Ext A B) {m:Nat} (hm:A.length≤m) (fr:List V):Ext A (trim m fr B):=by
 rcases trim_or m fr B with e | ⟨e,_⟩ <;> rw [e]
 ·exact h
 ·exact h.take hm
theorem Rd.ext {H H':Heap} {v:V} {l:List V} (h:Rd H v l) (k:Ext H H'):Rd H' v l:=by obtain ⟨G,rfl⟩:=k;exact h.app G
theorem il {H H':Heap} {id g:Nat} {c:List V} (h:getC H id g=some c) (k:Ext H H'):getC H' id g=some c:=by obtain ⟨G,rfl⟩:=k;exact atu h
theorem ow {H:Heap} {id g:Nat} {c:List V} (h:getC H id g=some c):id < H.length:=by
 unfold getC at h;split at h
 ·rename_i hh;exact (List.getElem?_eq_some_iff.1 hh).1
 ·cases h
theorem jb (H:Heap) (g:Nat) (c:List V):getC (H ++ [.cells g c]) H.length g=some c:=by simp [getC]
theorem atw {n:Nat} {en:Env} {s:Nat} {v:V} (hs:s < n) (h:aic en s=v):v∈gq n en:=by
 unfold gq;rw [yc]
 exact ⟨s,by simpa using hs,h⟩
def obC (g:Nat):Ob→Option (List V)
 | .cells g' c=>if g'=g then some c else none
 | _=>none
theorem aze (A:Heap) (ob:Ob) (id g:Nat):getC (A ++ [ob]) id g=if id=A.length then obC g ob else getC A id g:=by
 by_cases h:id=A.length
 ·subst h;simp only [getC,List.getElem?_concat_length,ja];cases ob <;> rfl
 ·rw [dx h];by_cases hl:id < A.length
  ·simp only [getC,List.getElem?_append_left hl]
  ·have h1:(A ++ [ob])[id]?=none:=List.getElem?_eq_none (by simp;omega)
   have h2:A[id]?=none:=List.getElem?_eq_none (by omega)
   simp only [getC,h1,h2]
theorem a2w (g:Nat) (c:List V):obC g (.cells g c)=some c:=by simp [obC]
theorem qb (A:Heap) (ob x:Ob):(A ++ [ob]).set A.length x=A ++ [x]:=by simp
theorem jk (A:Heap) (ob:Ob):(A ++ [ob]).length=A.length+1:=by simp
theorem bcl (a b:Nat):(a=a+(b+1))=False:=by simp
theorem bc9 (a b:Nat):(a+(b+1)=a)=False:=by simp
theorem Rd.one {H:Heap} {v:V} {l:List V} (h:Rd H v l):v.one=true:=by
 rcases h.cases with ⟨_,rfl | rfl⟩ | ⟨es,rfl,_⟩ | ⟨id,g,off,n,c,rfl,_⟩ <;> rfl
theorem a8h (k:IntKind) (n:Int):V.one (.s (.int k n))=true:=rfl
theorem a8e (b:ByteArray):V.one (.s (.string b))=true:=rfl
theorem a2v (b:Bool):V.one (.s (.bool b))=true:=rfl
theorem a2u:V.one (.s (.slice none 0 0))=true:=rfl
theorem a8f (i g o:Nat):V.one (.ref i g o)=true:=rfl
theorem bcg (i g o l z:Nat):V.one (.sl i g o l z)=true:=rfl
theorem a8g (es:List (List V)) (z:Nat):V.one (.psl es z)=true:=rfl
theorem a8i:V.one .esl=true:=rfl
theorem bci (i:Nat):V.one (.mp i)=true:=rfl
theorem bcj (f:Nat) (a b:List V):V.one (.fn f a b)=true:=rfl
theorem a0c (cs:List V):V.cells (.agg cs)=cs:=rfl
theorem a9q (v:Value):V.cells (.s v)=[.s v]:=rfl
theorem a5d (i g o l z:Nat):V.cells (.sl i g o l z)=[.sl i g o l z]:=rfl
theorem a0a (es:List (List V)) (z:Nat):V.cells (.psl es z)=[.psl es z]:=rfl
theorem az9 (i g o:Nat):V.cells (.ref i g o)=[.ref i g o]:=rfl
theorem a0b:V.cells .esl=[.esl]:=rfl
theorem a5e (i:Nat):V.cells (.mp i)=[.mp i]:=rfl
theorem azm (p:Nat→Option (Nat × Nat)) (c:List V):aah p c []=some c:=rfl
theorem aw7 (A:Heap) (ob x:Ob) (id:Nat):(A ++ [ob]).set id x=if id=A.length then A ++ [x] else A.set id x ++ [ob]:=by
 by_cases h:id=A.length
 ·subst h;simp
 ·rw [dx h];by_cases hl:id < A.length
  ·rw [xn _ _ hl]
  ·rw [abe (by simp;omega),abe (by omega)]
theorem aut (H:Heap) (base n:Nat) (v:V) (id g off:Nat):ahn H base n v (.ref id g off)=if base≤id then (match getC H id g with
 | some c=>if v.cells.length=n∧off+n≤c.length∧v.cells.all V.one then some (H.set id (.cells g (splice c off v.cells))) else none
 | none=>none) else none:=rfl
section
variable {CC:CX} {μ:Mu} {Mt:Nat→Prop} {w w':World} {H:Heap} {P:Program}
theorem aq3:∀ (os:List Obj) (w w':World),HR CC μ Mt w H→w'.heap=w.heap ++ os.toArray→w'.os=w.os→w'.tape=w.tape→w'.output=w.output→Post CC μ Mt w H μ Mt w' H:=by
 intro os
 induction os with
 | nil=>intro w w' h h1 h2 h3 h4;exact afu h (by simpa using h1) h2 h3 h4
 | cons o os ih=>
   intro w w' h h1 h2 h3 h4;have k:Post CC μ Mt w H μ Mt { w with heap:=w.heap.push o } H:=akq h o rfl rfl rfl rfl;refine k.trans (ih _ w' k.hr ?_ h2 h3 h4);rw [h1];apply qp;simp
end
abbrev PXf (fx:Nat→Option (Array Value × TypeId × Nat × Nat)):PX:=⟨fun _=>false,fx⟩
abbrev PX0:PX:=PXf fun _=>none
theorem a5c (lt:List Nat) (P:Program) (fx:Nat→Option (Array Value × TypeId × Nat × Nat)) (k:Nat):ahw lt P (PXf fx) k=ahw lt P PX0 k:=rfl
theorem kw {P:Program} (fx:Nat→Option (Array Value × TypeId × Nat × Nat)) {lt:List Nat} {k:Nat} {c:ACFun} (h:ahw lt P PX0 k=some (false,c.ntmps,c.results,c.body.bare)):abf P (PXf fx) k (.code c):=a3w ((a5c lt P fx k).trans h)
section
variable {CC:CX} {μ:Mu} {Mt:Nat→Prop} {w w':World} {H:Heap} {P:Program}
def insI (x:Int):List Int→List Int
 | []=>[x]
 | y :: l=>if x≤y then x :: y :: l else y :: insI x l
def bbx:List Int→List Int
 | []=>[]
 | x :: l=>insI x (bbx l)
def cR:Value→Option (DataW Unit × List MemPlace):=fun _=>some (.nil,[])
end
def wbits (k:Int) (w:Nat):List Int:=((List.range 64).filter fun b=>w.testBit b).map fun (b:Nat)=>k * 64+(b:Int)
def bc6 (ks:List Int) (f:Int→Nat):List Int:=(bbx ks).flatMap fun k=>wbits k (f k)
structure Wd (ks:List Int) (f:Int→Nat):Prop where
 nd:ks.Nodup
 iff:∀ k,k∈ks↔f k≠0
 lt:∀ k,f k < 2 ^ 64
 nn:∀ k∈ks,0≤k∧k < 2 ^ 57
theorem anx (H:Heap) (f:Nat) (a b:List Opd) (vs:List V):acf H (.mkFn f a b) (some vs)=some (.fn f (a.map (ev vs)) (b.map (ev vs))):=rfl
theorem ap9 {m:Nat} {fr:List V} {H:Heap} (h:m≤H.length):m≤(trim m fr H).length:=by
 rcases trim_or m fr H with e | ⟨e,_⟩ <;> rw [e]
 ·exact h
 ·rw [rz];omega
theorem alh (m:Nat) (fr:List V) (H:Heap):trim m fr H=H∨(trim m fr H=H.take m∧(∀ v∈fr,ll m 8 v=true)∧∀ id g c,id < m→getC H id g=some c→∀ i h o n z,V.sl i h o n z∈c→i < m):=by
 unfold trim;split
 ·rename_i h;simp only [ak,au] at h;refine .inr ⟨rfl,h.1,?_⟩;intro id g c hid hc i h' o n z hx;unfold getC at hc;split at hc
  ·rename_i g' c' hh;split at hc
   ·cases hc
    have hm:Ob.cells g' c∈H.take m:=by
     have:(H.take m)[id]?=some (Ob.cells g' c):=by rw [List.getElem?_take_of_lt hid];exact hh
     exact List.mem_of_getElem? this
    have:=h.2 _ hm;simp only [Ob.under,au] at this;have:=this _ hx
    simpa [ll] using this
   ·cases hc
  ·cases hc
 ·exact .inl rfl
theorem ah3 {m:Nat} {fr:List V} {H:Heap} {id g:Nat} {c:List V} (hc:getC H id g=some c) (hid:id < m):getC (trim m fr H) id g=some c:=by
 rcases alh m fr H with e | ⟨e,_⟩ <;> rw [e]
 ·exact hc
 ·unfold getC at hc ⊢;rw [List.getElem?_take_of_lt hid];exact hc
def ap1 (m:Nat) (H:Heap) (v:V) (l:List V):Prop:=(l=[]∧(v=nu∨v=.esl))∨∃ id g c,v=.sl id g 0 l.length 1∧getC H id g=some c∧l.length≤c.length∧c.take l.length=l∧m≤id
theorem ap1.rd {m:Nat} {H:Heap} {v:V} {l:List V} (h:ap1 m H v l):Rd H v l:=by
 rcases h with ⟨rfl,rfl | rfl⟩ | ⟨id,g,c,rfl,hc,hl,ht,_⟩
 ·exact Rd.nil H
 ·exact Rd.esl H
 ·have:=Rd.sl hc (off:=0) (n:=l.length) (by omega)
  rwa [fq,ht] at this
theorem jv {H:Heap} {id g:Nat} {c c':List V} (h:getC H id g=some c):getC (H.set id (.cells g c')) id g=some c':=att h _
def bV (b:Bool):V:=.s (.bool b)
def a6x (H:Heap) (base:Nat) (kind:TypeDesc) (m k v:V):Option (V × Heap):=
 match m,k with
  | .mp id,.s key=>if base≤id∧adp kind key then match H[id]? with
     | some (.map es)=>match aej kind key es 0 with
       | some (some (i,_))=>some (und,H.set id (.map (es.set i (key,v))))
       | some none=>some (und,H.set id (.map (es ++ [(key,v)])))
       | none=>none
     | _=>none
    else none
  | _,_=>none
theorem ajc (call:lc) (base:Nat) (fr:List V) (H:Heap) (kind:TypeDesc) (m k v:Opd):jf call base fr H (.mapUpd kind m k v)=a6x H base kind (ev fr m) (ev fr k) (ev fr v):=rfl
def delMV (H:Heap) (base:Nat) (kind:TypeDesc) (m k:V):Option (V × Heap):=
 match m,k with
  | .mp id,.s key=>if base≤id∧adp kind key then match H[id]? with
     | some (.map es)=>match aej kind key es 0 with
       | some (some (i,_))=>some (und,H.set id (.map (es.eraseIdx i)))
       | some none=>some (und,H)
       | none=>none
     | _=>none
    else none
  | _,_=>none
theorem ayc (call:lc) (base:Nat) (fr:List V) (H:Heap) (kind:TypeDesc) (m k:Opd):jf call base fr H (.delete kind m k)=delMV H base kind (ev fr m) (ev fr k):=rfl
theorem aqe {H:Heap} {j:Nat} {ob:Ob} (h:H[j]?=some ob):H.set j ob=H:=by
 apply List.ext_getElem?;intro i;by_cases hi:j=i
 ·subst hi;rw [List.getElem?_set_self (List.getElem?_eq_some_iff.1 h).1,h]
 ·rw [List.getElem?_set_ne hi]
def yldE (H:Heap) (id:Nat):Option St→Option (V × Heap)
 | some (e,_,H)=>match H[id]? with
   | some (.loop .busy none t p a b)=>some (bl (e=.nrm),H.set id (.loop (if e=.nrm then .ready else .done) (as8 e) t p a b))
   | _=>none
 | none=>none
theorem aw9 (fr:List V):aqf [] [] fr=some fr:=rfl
theorem au1 (p:Nat) (ps:List Nat) (v:V) (vs:List V) (n:Nat) (en:Env):aqf (p :: ps) (v :: vs) (gq n en)=aqf ps vs (gq n (a1y p v en)):=by
 simp only [aqf,amz]
abbrev WS:=List Int × (Int→Nat)
def el (p:WS):List Int:=bc6 p.1 p.2
def rngC (L:Nat) (fr:List V):Option (V × Heap)→Option St
 | some (_,H')=>match H'[L]? with
   | some (.loop .ready none _ _ _ _)=>some (.nrm,fr,trim L fr (H'.set L .dead))
   | some (.loop .done (some e) _ _ _ _)=>some (e,fr,trim L fr (H'.set L .dead))
   | _=>none
 | none=>none
def rngF (call:lc) (base:Nat) (ps:List Nat) (a b:ACode) (fr:List V) (H:Heap):V→Option St
 | .fn k x y=>rngC H.length fr (call (.fn k x y) [.yld H.length] base (H ++ [.loop .ready none fr ps a b]))
 | _=>none
theorem a9m (call:lc) (it:yo) (base:Nat) (f:Opd) (ps:List Nat) (a b:ACode) (fr:List V) (H:Heap):evC call it base (.rangeFunc f ps a b) fr H=rngF call base ps a b fr H (ev fr f):=by
 simp only [evC];cases ev fr f <;> rfl
theorem a7g (call:lc) (base:Nat) (ps:List Nat) (a b:ACode) (fr:List V) (H:Heap) (k:Nat) (x y:List V):rngF call base ps a b fr H (.fn k x y)=rngC H.length fr (call (.fn k x y) [.yld H.length] base (H ++ [.loop .ready none fr ps a b])):=rfl
def baa (m0 i j:Nat) (H0 H':Heap):Prop:=m0≤H'.length∧∀ id,id < m0→id≠i→id≠j→H'[id]?=H0[id]?
theorem baa.trim {m0 i j:Nat} {H0 H':Heap} (h:baa m0 i j H0 H') {m:Nat} (hm:m0≤m) (fr:List V):baa m0 i j H0 (trim m fr H'):=by
 rcases alh m fr H' with e | ⟨e,_⟩ <;> rw [e]
 ·exact h
 ·exact ⟨by rw [rz];have:=h.1;omega,fun id h1 h2 h3=>by rw [List.getElem?_take_of_lt (by omega)];exact h.2 id h1 h2 h3⟩
def andNot (a b:Nat):Nat:=a &&& (2 ^ 64 - 1 - b)
def ah (m0:Nat) (D:List Nat) (H0 H':Heap):Prop:=m0≤H'.length∧∀ id,id < m0→id ∉ D→H'[id]?=H0[id]?
theorem ah.trim {m0:Nat} {D:List Nat} {H0 H':Heap} (h:ah m0 D H0 H') {m:Nat} (hm:m0≤m) (fr:List V):ah m0 D H0 (trim m fr H'):=by
 rcases alh m fr H' with e | ⟨e,_⟩ <;> rw [e]
 ·exact h
 ·exact ⟨by rw [rz];have:=h.1;omega,fun id h1 h2=>by rw [List.getElem?_take_of_lt (by omega)];exact h.2 id h1 h2⟩
theorem ah.refl (D:List Nat) (H:Heap):ah H.length D H H:=⟨af _,fun _ _ _=>rfl⟩
theorem ah.trans {m0 m1:Nat} {D:List Nat} {A B C:Heap} (h:ah m0 D A B) (k:ah m1 D B C) (hm:m0≤m1):ah m0 D A C:=⟨ji hm k.1,fun id h1 h2=>(k.2 id (by omega) h2).trans (h.2 id h1 h2)⟩
theorem ah.getC {m0:Nat} {D:List Nat} {A B:Heap} (h:ah m0 D A B) {id g:Nat} {c:List V} (hc:getC A id g=some c) (h1:id < m0) (h2:id ∉ D):getC B id g=some c:=by
 unfold Go.AM.getC at hc ⊢;rw [h.2 id h1 h2];exact hc
theorem ah.mono {m0:Nat} {D D':List Nat} {A B:Heap} (h:ah m0 D A B) {m1:Nat} (hm:m1≤m0) (hD:∀ id,id < m1→id∈D→id∈D'):ah m1 D' A B:=⟨by have:=h.1;omega,fun id h1 h2=>h.2 id (by omega) fun hx=>h2 (hD id h1 hx)⟩
theorem Ext.d {A B:Heap} (h:Ext A B) (D:List Nat):ah A.length D A B:=⟨h.le,fun id h1 _=>h.get h1⟩
theorem adw (H:Heap) (z:List V) (p:List (Nat × Nat)) (ps:List (Nat × Opd)) (vs:List V):acf H (.build z p ps) (some vs)=(aah (p[·]?) z (ps.map fun q=>(q.1,ev vs q.2))).map .agg:=by
 simp only [acf,jf];cases aah (p[·]?) z (ps.map fun q=>(q.1,ev vs q.2)) <;> rfl
def amY:=And.intro @ajc (And.intro @ayc (And.intro @aw9 (And.intro @au1 (And.intro @a9m (And.intro @a7g @adw)))))
theorem ad8 {w:Nat}:∀ (R:List (List V)),(∀ r∈R,r.length=w)→R.flatten.length=R.length * w:=by
 intro R
 induction R with
 | nil=>intro _;simp
 | cons r R ih=>
   intro h;rw [ug,bq,ih (fun x hx=>h x (bz _ hx)),h r dn,bi,uk];omega
theorem a1k {w:Nat}:∀ (R:List (List V)),(∀ r∈R,r.length=w)→∀ (i:Nat) (r:List V),R[i]?=some r→(R.flatten.drop (i * w)).take w=r:=by
 intro R
 induction R with
 | nil=>intro _ i r h;simp at h
 | cons s R ih=>
   intro h i r hr;have hs:=h s dn;cases i with
   | zero=>
     simp only [List.getElem?_cons_zero,ed] at hr;subst hr;rw [a0r,fq,ug,← hs,List.take_left]
   | succ i=>
     simp only [List.getElem?_cons_succ] at hr
     rw [ug,show (i+1) * w=s.length+i * w by rw [hs,uk];omega,ac7,og (by omega),dh,Nat.add_sub_cancel_left]
     exact ih (fun x hx=>h x (bz _ hx)) i r hr
structure RdW (w:Nat) (H:Heap) (v:V) (R:List (List V)):Prop where
 el:elems H w v=some (R.length,R.flatten)
 len:ale H .s v=some (.s (.int .i64 R.length))
 one:v.one=true
 at':∀ (i:Nat) (r:List V),R[i]?=some r→∃ a,kz w v (.s (.int .i64 i))=some a∧si H true w a=some (.agg r)∧∀ (o:Nat) (x:V),r[o]?=some x→∃ b,xe o a=some b∧si H false 1 b=some x
theorem RdW.nil (w:Nat) (H:Heap):RdW w H nu []:=⟨rfl,rfl,rfl,fun i r h=>by simp at h⟩
theorem a1a {r:List V} {o:Nat} {x:V} (h:r[o]?=some x):(r.drop o).take 1=[x]:=by
 obtain ⟨ho,rfl⟩:=List.getElem?_eq_some_iff.1 h;rw [d9 ho];rfl
theorem RdW.sl {w:Nat} {H:Heap} {id g:Nat} {R:List (List V)} (hc:getC H id g=some R.flatten) (hR:∀ r∈R,r.length=w):RdW w H (.sl id g 0 R.length w) R:=by
 have hl:=ad8 R hR;refine ⟨?_,rfl,rfl,fun i r h=>?_⟩
 ·simp only [elems,ja,hc,fq,← hl,a0x]
 ·have hr:=hR r (List.mem_of_getElem? h);have hi:=(List.getElem?_eq_some_iff.1 h).1;have hg:=a1k R hR i r h;refine ⟨.ref id g (0+i * w),?_,?_,fun o x hx=>⟨.ref id g (0+i * w+o),rfl,?_⟩⟩
  ·rw [aul,cu ⟨by omega,by omega,rfl⟩,mi]
  ·rw [za,hc,j6];simp only [hg,hr,ja,asy]
  ·have ho:=(List.getElem?_eq_some_iff.1 hx).1
   have e:(R.flatten.drop (0+i * w+o)).take 1=[x]:=by
    have h2:=a1a hx
    rw [← hg,List.drop_take,acx,List.take_take,Nat.min_eq_left (by omega)] at h2
    rw [j6];exact h2
   rw [za,hc];simp only [e,az,ja,asx]
def pu (m w:Nat) (H:Heap) (v:V) (R:List (List V)):Prop:=(∀ r∈R,r.length=w)∧((R=[]∧v=nu)∨∃ id g,v=.sl id g 0 R.length w∧getC H id g=some R.flatten∧m≤id)
theorem pu.start (m w:Nat) (H:Heap):pu m w H nu []:=⟨fun r h=>by simp at h,.inl ⟨rfl,rfl⟩⟩
theorem pu.rd {m w:Nat} {H:Heap} {v:V} {R:List (List V)} (h:pu m w H v R):RdW w H v R:=by
 obtain ⟨hR,⟨rfl,rfl⟩ | ⟨id,g,rfl,hc,_⟩⟩:=h
 ·exact RdW.nil w H
 ·exact RdW.sl hc hR
theorem pu.keep {m w:Nat} {H H':Heap} {v:V} {R:List (List V)} (h:pu m w H v R) (hk:∀ id g n,v=.sl id g 0 n w→H'[id]?=H[id]?):pu m w H' v R:=by
 obtain ⟨hR,h | ⟨id,g,rfl,hc,hm⟩⟩:=h
 ·exact ⟨hR,.inl h⟩
 ·refine ⟨hR,.inr ⟨id,g,rfl,?_,hm⟩⟩;unfold getC at hc ⊢;rw [hk id g _ rfl];exact hc
theorem pu.lt {m w:Nat} {H:Heap} {v:V} {R:List (List V)} (h:pu m w H v R):∀ id g n,v=.sl id g 0 n w→id < H.length:=by
 obtain ⟨_,⟨_,rfl⟩ | ⟨id,g,rfl,hc,hm⟩⟩:=h
 ·intro id g n e;cases e
 ·intro id' g' n e;cases e;exact ow hc
theorem pu.d {m w:Nat} {H H':Heap} {v:V} {R:List (List V)} (h:pu m w H v R) (k:ah H.length [] H H'):pu m w H' v R:=h.keep fun id g n e=>k.2 id (h.lt id g n e) (by simp)
theorem pu.append {m w:Nat} {H:Heap} {v:V} {R:List (List V)} (h:pu m w H v R) {base bytes:Nat} (hb:base≤m) (hm:m≤H.length) {S:List (List V)} (hS:∀ r∈S,r.length=w) (h0:S≠[]) {x:V} (hx:elems H w x=some (S.length,S.flatten)) (ho:S.flatten.all V.one=true) (hs:(R.length+S.length) * bytes≤2 ^ 47):
 ∃ v' H',oz H base w bytes v x=some (v',H')∧pu m w H' v' (R ++ S)∧H.length≤H'.length∧(∀ id,id < H.length→(∀ g n,v≠.sl id g 0 n w)→H'[id]?=H[id]?):=by
 have hn:¬ S.length=0:=fun e=>h0 (dw e);have hRS:∀ r∈R ++ S,r.length=w→r.length=w:=fun _ _ e=>e
 obtain ⟨hR,⟨rfl,rfl⟩ | ⟨id,g,rfl,hc,hid⟩⟩:=h
 ·have hs':S.length * bytes≤2 ^ 47:=by simpa using hs
  refine ⟨.sl H.length 0 0 S.length w,H ++ [.cells 0 S.flatten],?_,⟨?_,.inr ⟨H.length,0,by simp,?_,hm⟩⟩,by simp,fun id hid _=>List.getElem?_append_left hid⟩
  ·simp only [oz,hx,ho,ja,nu,hn,mo,hs']
  ·simpa using hS
  ·rw [dh];exact jb H 0 _
 ·have hlt:=ow hc
  have hbi:base≤id:=by omega
  have hl:=ad8 R hR
  refine ⟨.sl id (g+1) 0 (R.length+S.length) w,H.set id (.cells (g+1) (R.flatten ++ S.flatten)),?_,⟨?_,.inr ⟨id,g+1,by simp,?_,hid⟩⟩,by simp,fun id' hid' hne=>?_⟩
  ·have h2:0+R.length * w≤R.flatten.length:=by omega
   simp only [oz,hx,ho,ja,afj,hbi,hc,h2,hn,mo,hs,fq]
   rw [ab8 (by omega)]
  ·intro r hr
   rcases kg.1 hr with hr | hr
   ·exact hR r hr
   ·exact hS r hr
  ·rw [qo];exact att hc _
  ·rw [List.getElem?_set_ne];rintro rfl;exact hne g _ rfl
theorem pu.trim_eq {m w L:Nat} {H:Heap} {v:V} {R:List (List V)} (h:pu m w H v R) (h0:R≠[]) (hL:L≤m) {fr:List V} (hv:v∈fr):trim L fr H=H:=by
 obtain ⟨_,⟨rfl,_⟩ | ⟨id,g,rfl,hc,hid⟩⟩:=h
 ·exact absurd rfl h0
 ·rcases trim_or L fr H with e | ⟨_,hu⟩
  ·exact e
  ·have:=hu _ hv;simp only [ll,jw] at this;omega
theorem pu.trim_or {m w L:Nat} {H:Heap} {v:V} {R:List (List V)} (h:pu m w H v R) (hL:L≤m) {fr:List V} (hv:v∈fr):R=[]∧v=nu∨trim L fr H=H:=by
 obtain ⟨_,h | ⟨id,g,rfl,hc,hid⟩⟩:=h
 ·exact .inl h
 ·rcases Go.AM.trim_or L fr H with e | ⟨_,hu⟩
  ·exact .inr e
  ·have:=hu _ hv;simp only [ll,jw] at this;omega
theorem awp (m:Nat) (fr:List V) (H:Heap) {id:Nat} (h:id < m):(trim m fr H)[id]?=H[id]?:=by
 rcases Go.AM.trim_or m fr H with e | ⟨e,_⟩
 ·rw [e]
 ·rw [e,List.getElem?_take_of_lt h]
theorem akk (m:Nat) (fr:List V) (H:Heap):trim m fr H=H∨(trim m fr H=H.take m∧(∀ v∈fr,ll m 8 v=true)∧∀ id g c,id < m→getC H id g=some c→∀ v∈c,ll m 8 v=true):=by
 unfold trim;split
 ·rename_i h;rw [ak,au,au] at h;refine .inr ⟨rfl,h.1,fun id g c hid hc v hv=>?_⟩;unfold getC at hc;cases ho:H[id]? with
  | none=>rw [ho] at hc;cases hc
  | some o=>
    rw [ho] at hc
    have hm:o∈H.take m:=List.mem_of_getElem? (i:=id) (by rw [List.getElem?_take_of_lt hid];exact ho)
    have:=h.2 o hm;cases o with
    | cells g2 c2=>
      dsimp only at hc;split at hc
      ·cases hc;simp only [Ob.under,au] at this;exact this v hv
      ·cases hc
    | map _=>cases hc
    | loop _ _ _ _ _ _=>cases hc
    | dead=>cases hc
    | bytes _ _=>cases hc
 ·exact .inl rfl
theorem ati {S T:Type} (n:Nat) (P:Nat→S→Prop) (X:Nat→S→T) (step:∀ i s,i < n→P i s→∃ s',X i s=X (i+1) s'∧P (i+1) s'):∀ i s,i≤n→P i s→∃ s',X i s=X n s'∧P n s':=by
 have key:∀ d i s,i+d=n→P i s→∃ s',X i s=X n s'∧P n s':=by
  intro d
  induction d with
  | zero=>
    intro i s hi hp
    obtain rfl:i=n:=by omega
    exact ⟨s,rfl,hp⟩
  | succ d ih=>
    intro i s hi hp
    obtain ⟨s1,h1,h2⟩:=step i s (by omega) hp
    obtain ⟨s2,h3,h4⟩:=ih (i+1) s1 (by omega) h2
    exact ⟨s2,h1.trans h3,h4⟩
 exact fun i s hi hp=>key (n - i) i s (by omega) hp
theorem bcv {T:Type} (n:Nat) (X:Nat→T) (step:∀ i,i < n→X i=X (i+1)):∀ i,i≤n→X i=X n:=by
 intro i hi;obtain ⟨_,h,_⟩:=ati (S:=Unit) n (fun _ _=>True) (fun i _=>X i) (fun i s h _=>⟨(),step i h,trivial⟩) i () hi trivial;exact h
theorem an5 {α:Type} {l:List α} {k:Nat} (h:k < l.length) (d:α):l[k]?=some (l.getD k d):=by rw [List.getD,List.getElem?_eq_getElem h];rfl
section
variable {κ:Type} [DecidableEq κ]
end
theorem w64 {n:Nat} (h:n < 2 ^ 62):IntKind.i64.wrap ((n:Int)+1)=((n+1:Nat):Int):=by rw [IntKind.wrap_i64];omega
theorem a1j (a b:ByteArray):Instr.sameNow .string (.string a) (.string b)=some (decide (a=b)):=by
 have h:(a == b)=decide (a=b):=by
  by_cases e:a=b
  ·subst e;rw [agh rfl,beq_toListBytes];simp
  ·rw [abo e,beq_toListBytes];rw [fu];exact fun h=>e (toList_inj h)
 simp only [Instr.sameNow,h]
theorem afg {H H':Heap} (k:Ext H H') {b:V} {g:Bool} {n:Nat} {x:V} (hx:si H g n b=some x):si H' g n b=some x:=by
 cases b with
 | ref i j o=>
   rw [za] at hx ⊢;cases hc:getC H i j with
   | none=>rw [hc] at hx;cases hx
   | some c=>rw [hc] at hx;rw [il hc k];exact hx
 | _=>exact hx
theorem RdW.ext2 {w:Nat} {H H':Heap} {v:V} {R:List (List V)} (h:RdW w H v R) (k:Ext H H'):RdW w H' v R:=by
 refine ⟨?_,?_,h.one,?_⟩
 ·have he:=h.el;unfold elems at he ⊢;split <;> simp only at he ⊢
  all_goals first | exact he | skip
  all_goals
   split at he
   ·rename_i e;rw [cu e];cases hc:getC H _ _ with
    | none=>rw [hc] at he;cases he
    | some c=>rw [hc] at he;rw [il hc k];exact he
   ·cases he
 ·have hl:=h.len;have he:=h.el;unfold elems at he
  split at he <;> simp only [ale] at hl ⊢ <;> first | exact hl | cases he
 ·intro i r hr;obtain ⟨a,h1,h2,h3⟩:=h.at' i r hr
  have ld:∀ (b:V) (g:Bool) (n:Nat) (x:V),si H g n b=some x→si H' g n b=some x:=by
   intro b g n x hx;cases b with
   | ref i j o=>
     rw [za] at hx ⊢;cases hc:getC H i j with
     | none=>rw [hc] at hx;cases hx
     | some c=>rw [hc] at hx;rw [il hc k];exact hx
   | _=>exact hx
  exact ⟨a,h1,ld _ _ _ _ h2,fun o x hx=>by obtain ⟨b,b1,b2⟩:=h3 o x hx;exact ⟨b,b1,ld _ _ _ _ b2⟩⟩
section
variable {κ:Type} [DecidableEq κ]
end
end Go.AM
set_option maxRecDepth 100000
namespace Go.Proofs.YtbocmenkkjbigaaDoor
open Go.AM
abbrev Sb (b:ByteArray):V:=.s (.string b)
abbrev Iz (n:Int):V:=.s (.int .i64 n)
structure InsD where
 op:Int
 d:ByteArray
 a:ByteArray
 b:ByteArray
 k:Int
 f:ByteArray
 xs:List ByteArray
 ls:List ByteArray
structure BlkD where
 label:ByteArray
 code:List InsD
structure FunD where
 name:ByteArray
 ps:List ByteArray
 blocks:List BlkD
def atp:InsD:=⟨0,⟨#[]⟩,⟨#[]⟩,⟨#[]⟩,0,⟨#[]⟩,[],[]⟩
def bai:FunD:=⟨⟨#[]⟩,[],[]⟩
def ah2 (v:V):Prop:=∀ es z,v≠.psl es z
theorem ah2.w {v:V} (h:ah2 v):apz v:=by
 cases v <;> first | trivial | exact absurd rfl (h _ _)
theorem ap1.wide2 {m:Nat} {H:Heap} {v:V} {l:List V} (h:ap1 m H v l):ah2 v:=by
 rcases h with ⟨_,rfl | rfl⟩ | ⟨_,_,_,rfl,_⟩ <;> exact fun _ _ e=>by cases e
structure RdX (w:Nat) (H:Heap) (v:V) (R:List (List V)):Prop extends RdW w H v R where
 np:ah2 v
theorem RdX.ext2 {w:Nat} {H H':Heap} {v:V} {R:List (List V)} (h:RdX w H v R) (k:Ext H H'):RdX w H' v R:=⟨h.toRdW.ext2 k,h.np⟩
theorem pu.rx {m w:Nat} {H:Heap} {v:V} {R:List (List V)} (h:pu m w H v R):RdX w H v R:=⟨h.rd,by
 obtain ⟨_,⟨_,rfl⟩ | ⟨_,_,rfl,_⟩⟩:=h <;> exact fun _ _ e=>by cases e⟩
def uz (x:InsD) (av lv:V):List V:=[.s (.int .u8 x.op),Sb x.d,Sb x.a,Sb x.b,.s (.int .i64 x.k),Sb x.f,av,lv]
def ac6 (H:Heap) (r:List V) (x:InsD):Prop:=∃ av lv,r=uz x av lv∧Rd H av (x.xs.map Sb)∧ah2 av∧Rd H lv (x.ls.map Sb)∧ah2 lv∧x.xs.length < 2 ^ 63∧x.ls.length < 2 ^ 63
def RdL {α:Type} (w:Nat) (P:Heap→List V→α→Prop) (H:Heap) (v:V) (l:List α):Prop:=∃ R:List (List V),RdX w H v R∧R.length=l.length∧l.length < 2 ^ 63∧∀ (i:Nat) (x:α),l[i]?=some x→∃ r:List V,R[i]?=some r∧P H r x
def aga (H:Heap) (r:List V) (b:BlkD):Prop:=∃ cv,r=[Sb b.label,cv]∧RdL 8 ac6 H cv b.code
def akh (H:Heap) (r:List V) (f:FunD):Prop:=∃ pv bv,r=[Sb f.name,pv,bv]∧Rd H pv (f.ps.map Sb)∧ah2 pv∧f.ps.length < 2 ^ 63∧RdL 2 aga H bv f.blocks
abbrev abb:Heap→V→List FunD→Prop:=RdL 3 akh
theorem ac6.ext {H H':Heap} {r:List V} {x:InsD} (h:ac6 H r x) (k:Ext H H'):ac6 H' r x:=by
 obtain ⟨av,lv,h1,h2,h3,h4,h5,h6⟩:=h;exact ⟨av,lv,h1,h2.ext k,h3,h4.ext k,h5,h6⟩
theorem RdL.ext {α:Type} {w:Nat} {P:Heap→List V→α→Prop} (hP:∀ {H H' r x},P H r x→Ext H H'→P H' r x) {H H':Heap} {v:V} {l:List α} (h:RdL w P H v l) (k:Ext H H'):RdL w P H' v l:=by
 obtain ⟨R,h1,h2,h3,h4⟩:=h
 exact ⟨R,h1.ext2 k,h2,h3,fun i x hx=>by obtain ⟨r,r1,r2⟩:=h4 i x hx;exact ⟨r,r1,hP r2 k⟩⟩
theorem aga.ext {H H':Heap} {r:List V} {b:BlkD} (h:aga H r b) (k:Ext H H'):aga H' r b:=by
 obtain ⟨cv,h1,h2⟩:=h;exact ⟨cv,h1,RdL.ext (P:=ac6) ac6.ext h2 k⟩
theorem akh.ext {H H':Heap} {r:List V} {f:FunD} (h:akh H r f) (k:Ext H H'):akh H' r f:=by
 obtain ⟨pv,bv,h1,h2,h3,h4,h5⟩:=h;exact ⟨pv,bv,h1,h2.ext k,h3,h4,RdL.ext (P:=aga) aga.ext h5 k⟩
theorem abb.ext {H H':Heap} {v:V} {fs:List FunD} (h:abb H v fs) (k:Ext H H'):abb H' v fs:=RdL.ext (P:=akh) akh.ext h k
theorem RdL.len {α:Type} {w:Nat} {P:Heap→List V→α→Prop} {H:Heap} {v:V} {l:List α} (h:RdL w P H v l):ale H .s v=some (.s (.int .i64 l.length)):=by
 obtain ⟨R,h1,h2,_⟩:=h;rw [h1.len,h2]
theorem RdL.one {α:Type} {w:Nat} {P:Heap→List V→α→Prop} {H:Heap} {v:V} {l:List α} (h:RdL w P H v l):v.one=true:=by
 obtain ⟨R,h1,_⟩:=h;exact h1.one
theorem RdL.at2 {α:Type} {w:Nat} {P:Heap→List V→α→Prop} {H:Heap} {v:V} {l:List α} (h:RdL w P H v l) {i:Nat} {x:α} (hx:l[i]?=some x):∃ a r,kz w v (.s (.int .i64 i))=some a∧P H r x∧(∀ H',Ext H H'→si H' true w a=some (.agg r))∧∀ (o:Nat) (y:V),r[o]?=some y→∃ b,xe o a=some b∧∀ H',Ext H H'→si H' false 1 b=some y:=by
 obtain ⟨R,h1,h2,h3,h4⟩:=h;obtain ⟨r,r1,r2⟩:=h4 i x hx;obtain ⟨a,a1,a2,a3⟩:=h1.at' i r r1
 exact ⟨a,r,a1,r2,fun H' k=>afg k a2,fun o y hy=>by obtain ⟨b,b1,b2⟩:=a3 o y hy;exact ⟨b,b1,fun H' k=>afg k b2⟩⟩
theorem bdh {H:Heap} {v:V} {l:List ByteArray} (h:Rd H v (l.map Sb)) (hw:ah2 v) {k:Nat} (hk:k < l.length):∃ a,kz 1 v (.s (.int .i64 k))=some a∧si H false 1 a=some (.s (.string (l.getD k ⟨#[]⟩))):=
 h.at' hw.w (by rw [List.getElem?_map,an5 hk ⟨#[]⟩];rfl)
theorem aud {H:Heap} {v:V} {l:List ByteArray} (h:Rd H v (l.map Sb)):ale H .s v=some (.s (.int .i64 l.length)):=by
 have:=h.len
 rwa [zl] at this
end Go.Proofs.YtbocmenkkjbigaaDoor
namespace Go.AM.Tok
def far (p:UInt8→Bool):List UInt8→Nat
 | []=>0
 | c :: l=>if p c then far p l+1 else 0
theorem far_le (p:UInt8→Bool):∀ l,far p l≤l.length
 | []=>af _
 | c :: l=>by
   unfold far;split
   ·exact Nat.succ_le_succ (far_le p l)
   ·exact jd _
def blank (c:UInt8):Bool:=c == 32 || c == 9 || c == 13 || c == 10
def letter (c:UInt8):Bool:=decide (97≤c.toNat) && decide (c.toNat≤122) || decide (65≤c.toNat) && decide (c.toNat≤90) || c == 95
def digit (c:UInt8):Bool:=decide (48≤c.toNat) && decide (c.toNat≤57)
def within (c:UInt8):Bool:=letter c || digit c || c == 46
def other (c:UInt8):Bool:=c != 10
def sign (c:UInt8):Bool:=c == 61 || c == 44 || c == 58 || c == 40 || c == 41 || c == 123 || c == 125 || c == 91 || c == 93
structure T where
 kind:Nat
 text:List UInt8
 n:Nat
 line:Nat
 col:Nat
 deriving DecidableEq,Inhabited
inductive Out where
 | done (ts:List T)
 | bad (e line col:Nat)
 deriving DecidableEq,Inhabited
def Out.cons (t:T):Out→Out
 | .done ts=>.done (t :: ts)
 | .bad e a b=>.bad e a b
def val (l:List UInt8):Nat:=l.foldl (fun n c=>n * 10+(c.toNat - 48)) 0
def lex (l:List UInt8) (ln cl:Nat):Out:=
 match l with
 | []=>.done [⟨4,[],0,ln,cl⟩]
 | c :: l=>
   if blank c then (if c=10 then lex l (ln+1) 1 else lex l ln (cl+1))
   else if c=59 then lex (l.drop (far other l)) ln (cl+(far other l+1))
   else if letter c then (lex (l.drop (far within l)) ln (cl+(far within l+1))).cons ⟨1,c :: l.take (far within l),0,ln,cl⟩
   else if digit c then
    if 9 < far digit l+1∨(1 < far digit l+1∧c=48)∨far digit l < far within l then .bad 31 ln cl
    else (lex (l.drop (far digit l)) ln (cl+(far digit l+1))).cons ⟨2,c :: l.take (far digit l),val (c :: l.take (far digit l)),ln,cl⟩
   else if sign c then (lex l ln (cl+1)).cons ⟨3,[c],0,ln,cl⟩
   else .bad 30 ln cl
termination_by l.length
decreasing_by all_goals simp only [bi,gu];omega
theorem lex_nil (ln cl:Nat):lex [] ln cl=.done [⟨4,[],0,ln,cl⟩]:=by rw [lex]
theorem lex_cons (c:UInt8) (l:List UInt8) (ln cl:Nat):lex (c :: l) ln cl=
 if blank c then (if c=10 then lex l (ln+1) 1 else lex l ln (cl+1))
 else if c=59 then lex (l.drop (far other l)) ln (cl+(far other l+1))
 else if letter c then (lex (l.drop (far within l)) ln (cl+(far within l+1))).cons ⟨1,c :: l.take (far within l),0,ln,cl⟩
 else if digit c then
  if 9 < far digit l+1∨(1 < far digit l+1∧c=48)∨far digit l < far within l then .bad 31 ln cl
  else (lex (l.drop (far digit l)) ln (cl+(far digit l+1))).cons ⟨2,c :: l.take (far digit l),val (c :: l.take (far digit l)),ln,cl⟩
 else if sign c then (lex l ln (cl+1)).cons ⟨3,[c],0,ln,cl⟩
 else .bad 30 ln cl:=by rw [lex]
def T.down (k:Nat) (t:T):T:={ t with line:=t.line+k }
def Out.down (k:Nat):Out→Out
 | .done ts=>.done (ts.map (T.down k))
 | .bad e a b=>.bad e (a+k) b
theorem ajz (k:Nat) (t:T) (o:Out):(Out.cons t o).down k=Out.cons (t.down k) (o.down k):=by cases o <;> simp [Out.down,Out.cons]
theorem beg (k:Nat):∀ (n:Nat) (l:List UInt8) (ln cl:Nat),l.length≤n→lex l (ln+k) cl=(lex l ln cl).down k:=by
 intro n
 induction n with
 | zero=>
   intro l ln cl h
   obtain rfl:l=[]:=dw (by omega)
   rw [lex_nil,lex_nil];rfl
 | succ n ih=>
   intro l ln cl h;cases l with
   | nil=>rw [lex_nil,lex_nil];rfl
   | cons c l=>
     have hl:l.length≤n:=by simpa using h
     have hd:∀ m,(l.drop m).length≤n:=fun m=>by rw [gu];omega
     rw [lex_cons,lex_cons];split
     ·split
      ·rw [show ln+k+1=ln+1+k by omega];exact ih _ _ _ hl
      ·exact ih _ _ _ hl
     ·split
      ·exact ih _ _ _ (hd _)
      ·split
       ·rw [ih _ _ _ (hd _),ajz];rfl
       ·split
        ·split
         ·rfl
         ·rw [ih _ _ _ (hd _),ajz];rfl
        ·split
         ·rw [ih _ _ _ hl,ajz];rfl
         ·rfl
theorem aro:∀ (n:Nat) (l:List UInt8) (ln cl:Nat),l.length≤n→lex l ln cl≠.done []:=by
 intro n
 induction n with
 | zero=>
   intro l ln cl h
   obtain rfl:l=[]:=dw (by omega)
   rw [lex_nil];simp
 | succ n ih=>
   intro l ln cl h;cases l with
   | nil=>rw [lex_nil];simp
   | cons c l=>
     have hl:l.length≤n:=by simpa using h
     have hd:∀ m,(l.drop m).length≤n:=fun m=>by rw [gu];omega
     have hc:∀ t o,Out.cons t o≠.done []:=by intro t o;cases o <;> simp [Out.cons]
     rw [lex_cons];split
     ·split
      ·exact ih _ _ _ hl
      ·exact ih _ _ _ hl
     ·split
      ·exact ih _ _ _ (hd _)
      ·split
       ·exact hc _ _
       ·split
        ·split
         ·simp
         ·exact hc _ _
        ·split
         ·exact hc _ _
         ·simp
def spotL:List UInt8→Nat × Nat→Nat × Nat
 | [],p=>p
 | c :: l,p=>spotL l (if c=10 then (p.1+1,1) else (p.1,p.2+1))
theorem aat:∀ (a b:List UInt8) (p:Nat × Nat),spotL (a ++ b) p=spotL b (spotL a p)
 | [],_,_=>rfl
 | c :: a,b,p=>by simp only [aj,spotL,aat a b]
theorem spotL_flat:∀ (l:List UInt8) (p:Nat × Nat),(∀ c∈l,c≠10)→spotL l p=(p.1,p.2+l.length)
 | [],p,_=>rfl
 | c :: l,p,h=>by
   simp only [spotL,h c dn,mo];rw [spotL_flat l _ fun x hx=>h x (bz _ hx)];simp only [bi];rw [vz,Nat.add_comm 1]
theorem far_take (p:UInt8→Bool):∀ (l:List UInt8),∀ c∈l.take (far p l),p c=true
 | []=>by simp
 | x :: l=>by
   intro c hc;unfold far at hc;split at hc
   ·rename_i hx;rw [bu,jr] at hc
    rcases hc with rfl | hc
    ·exact hx
    ·exact far_take p l c hc
   ·simp at hc
theorem am8 (p:UInt8→Bool):∀ (l:List UInt8) {c:UInt8} {m:List UInt8},l.drop (far p l)=c :: m→p c=false
 | [],c,m,h=>by simp at h
 | x :: l,c,m,h=>by
   unfold far at h;split at h
   ·rw [dz] at h;exact am8 p l h
   ·rename_i hx;rw [fq] at h;cases h
    simpa using hx
theorem am9 (p:UInt8→Bool):∀ (a b:List UInt8),(∀ c∈a,p c=true)→far p (a ++ b)=a.length+far p b
 | [],b,_=>by simp
 | c :: a,b,h=>by
   simp only [aj,far,h c dn,ja,bi];rw [am9 p a b fun x hx=>h x (bz _ hx)];omega
theorem far_len (p:UInt8→Bool) (l:List UInt8):(l.take (far p l)).length=far p l:=by rw [rz,Nat.min_eq_left (far_le p l)]
theorem len_ne {c:UInt8} (p:UInt8→Bool) (hp:p 10=false) (l:List UInt8) (hc:c≠10):∀ x∈c :: l.take (far p l),x≠10:=by
 intro x hx
 rcases jr.1 hx with rfl | hx
 ·exact hc
 ·rintro rfl;rw [far_take p l _ hx] at hp;cases hp
def gap:Bool→List UInt8→Bool
 | _,[]=>true
 | cm,c :: l=>
   let a:=if c=59 then true else cm
   let b:=if c=10 then false else a
   (b || blank c) && gap b l
theorem ajo:∀ (a b:List UInt8),(∀ c∈a,c≠10)→gap true (a ++ b)=gap true b
 | [],b,_=>rfl
 | c :: a,b,h=>by
   have h10:=h c dn;simp only [aj,gap,h10,mo]
   have:(if c=59 then true else true)=true:=by split <;> rfl
   simp only [this,a0s,o8];exact ajo a b fun x hx=>h x (bz _ hx)
theorem a9a (b:List UInt8):gap true (10 :: b)=gap false (10 :: b):=by simp [gap]
inductive Cov:List UInt8→Nat × Nat→List T→Prop
 | last (g:List UInt8) (p:Nat × Nat):gap false g=true→Cov g p [⟨4,[],0,(spotL g p).1,(spotL g p).2⟩]
 | word (g r:List UInt8) (p:Nat × Nat) (t:T) (ts:List T):gap false g=true→(t.line,t.col)=spotL g p→t.kind≠4→t.text≠[]→Cov r (spotL t.text (spotL g p)) ts→Cov (g ++ (t.text ++ r)) p (t :: ts)
theorem Cov.blank' {c:UInt8} {l:List UInt8} {p:Nat × Nat} {ts:List T} (hb:blank c=true) (h:Cov l (if c=10 then (p.1+1,1) else (p.1,p.2+1)) ts):Cov (c :: l) p ts:=by
 have h59:c≠59:=by rintro rfl;revert hb;decide
 have hg:∀ g,gap false (c :: g)=gap false g:=by
  intro g;simp only [gap,h59,mo]
  have:(if c=10 then false else false)=false:=by split <;> rfl
  simp only [this,hb,bes,o8]
 generalize hq:(if c=10 then (p.1+1,1) else (p.1,p.2+1))=q at h
 cases h with
 | last g _ h=>
   have:=Cov.last (c :: l) p (by rw [hg];exact h)
   rw [spotL,hq] at this;exact this
 | word g r _ t ts h1 h2 h3 h4 h5=>
   have:=Cov.word (c :: g) r p t ts (by rw [hg];exact h1) (by rw [spotL,hq];exact h2) h3 h4 (by rw [spotL,hq];exact h5)
   rw [aj] at this;exact this
theorem Cov.comm {a l:List UInt8} {p:Nat × Nat} {ts:List T} (ha:∀ x∈a,x≠10) (hl:l=[]∨∃ m,l=10 :: m) (h:Cov l (spotL (59 :: a) p) ts):Cov (59 :: (a ++ l)) p ts:=by
 have hg:∀ g,(g=[]∨∃ m,g=10 :: m)→gap false (59 :: (a ++ g))=gap false g:=by
  intro g hg
  have:gap false (59 :: (a ++ g))=gap true (a ++ g):=by simp [gap]
  rw [this,ajo a g ha]
  rcases hg with rfl | ⟨m,rfl⟩
  ·rfl
  ·exact a9a m
 generalize hq:spotL (59 :: a) p=q at h
 have hs:∀ g,spotL (59 :: (a ++ g)) p=spotL g q:=by
  intro g;rw [show 59 :: (a ++ g)=(59 :: a) ++ g from rfl,aat,hq]
 cases h with
 | last g _ h=>
   have:=Cov.last (59 :: (a ++ l)) p (by rw [hg _ hl];exact h)
   rw [hs] at this;exact this
 | word g r _ t ts h1 h2 h3 h4 h5=>
   have hg2:g=[]∨∃ m,g=10 :: m:=by
    cases g with
    | nil=>exact .inl rfl
    | cons x g=>
      rcases hl with hl | ⟨m,hl⟩
      ·cases hl
      ·cases hl;exact .inr ⟨g,rfl⟩
   have:=Cov.word (59 :: (a ++ g)) r p t ts (by rw [hg _ hg2];exact h1) (by rw [hs];exact h2) h3 h4 (by rw [hs];exact h5)
   rw [show 59 :: (a ++ g) ++ (t.text ++ r)=59 :: (a ++ (g ++ (t.text ++ r))) by simp] at this
   exact this
theorem cons_done {t:T} {o:Out} {ts:List T} (h:Out.cons t o=.done ts):∃ us,o=.done us∧ts=t :: us:=by
 cases o with
 | done us=>cases h;exact ⟨us,rfl,rfl⟩
 | bad=>cases h
theorem ani {t:T} {o:Out} {e a b:Nat} (h:Out.cons t o=.bad e a b):o=.bad e a b:=by
 cases o with
 | done us=>cases h
 | bad=>cases h;rfl
theorem Cov.next {c:UInt8} {l x:List UInt8} {k n:Nat} {p:Nat × Nat} {us:List T} (hk:k≠4) (hc:∀ y∈c :: x,y≠10) (h:Cov l (p.1,p.2+(x.length+1)) us):Cov (c :: (x ++ l)) p (⟨k,c :: x,n,p.1,p.2⟩ :: us):=by
 have:=Cov.word [] l p ⟨k,c :: x,n,p.1,p.2⟩ us rfl rfl hk (by simp) (by rw [spotL_flat _ _ hc];exact h)
 simpa using this
theorem not_ten:∀ {c:UInt8},(letter c=true∨digit c=true∨sign c=true)→c≠10:=by
 rintro c h rfl;revert h;decide
theorem lex_cov:∀ (n:Nat) (l:List UInt8) (p:Nat × Nat) (ts:List T),l.length≤n→lex l p.1 p.2=.done ts→Cov l p ts:=by
 intro n
 induction n with
 | zero=>
   intro l p ts h e
   obtain rfl:l=[]:=dw (by omega)
   rw [lex_nil] at e;cases e;exact Cov.last [] p rfl
 | succ n ih=>
   intro l p ts h e;cases l with
   | nil=>
     rw [lex_nil] at e;cases e;exact Cov.last [] p rfl
   | cons c l=>
     have hl:l.length≤n:=by simpa using h
     have hd:∀ m,(l.drop m).length≤n:=fun m=>by rw [gu];omega
     rw [lex_cons] at e;split at e
     ·rename_i hb;refine Cov.blank' hb ?_;split at e
      ·rename_i h10;rw [cu h10];exact ih _ (p.1+1,1) _ hl e
      ·rename_i h10;rw [dx h10];exact ih _ (p.1,p.2+1) _ hl e
     ·split at e
      ·rename_i h59;subst h59;have:=ih _ (p.1,p.2+(far other l+1)) _ (hd _) e;rw [← ol (far other l) l]
       have hn:=len_ne (c:=59) other (by decide) l (by decide)
       refine Cov.comm (fun x hx=>hn x (bz _ hx)) ?_ ?_
       ·cases hx:l.drop (far other l) with
        | nil=>exact .inl rfl
        | cons c m=>
          have:=am8 other l hx
          exact .inr ⟨m,by rw [show c=10 by simpa [other] using this]⟩
       ·rw [spotL_flat _ _ hn,bi,far_len];exact this
      ·split at e
       ·rename_i hb h59 hlt;obtain ⟨us,e1,rfl⟩:=cons_done e;have:=ih _ (p.1,p.2+(far within l+1)) _ (hd _) e1
        have h2:=Cov.next (c:=c) (x:=l.take (far within l)) (k:=1) (n:=0) (p:=p) (by decide) (len_ne within (by decide) l (not_ten (.inl hlt))) (by rw [far_len];exact this)
        rwa [ol] at h2
       ·split at e
        ·rename_i hb h59 hlt hdg;split at e
         ·cases e
         ·obtain ⟨us,e1,rfl⟩:=cons_done e;have:=ih _ (p.1,p.2+(far digit l+1)) _ (hd _) e1
          have h2:=Cov.next (c:=c) (x:=l.take (far digit l)) (k:=2) (n:=val (c :: l.take (far digit l))) (p:=p) (by decide) (len_ne digit (by decide) l (not_ten (.inr (.inl hdg)))) (by rw [far_len];exact this)
          rwa [ol] at h2
        ·split at e
         ·rename_i hb h59 hlt hdg hs;obtain ⟨us,e1,rfl⟩:=cons_done e;have:=ih _ (p.1,p.2+1) _ hl e1
          exact Cov.next (c:=c) (x:=[]) (k:=3) (n:=0) (p:=p) (by decide) (by simpa using not_ten (.inr (.inr hs))) this
         ·cases e
theorem ar3 (p:UInt8→Bool):∀ (l u v:List UInt8),l.drop (far p l)=u ++ v→far p (l.take (far p l) ++ u)=far p l:=by
 intro l u v h;rw [am9 p _ _ (far_take p l),far_len];cases u with
 | nil=>rfl
 | cons c u=>
   have:=am8 p l (by rw [h];rfl)
   simp [far,this]
theorem aty (p:UInt8→Bool):∀ (a b:List UInt8),far p a≤far p (a ++ b)
 | [],b=>jd _
 | c :: a,b=>by
   simp only [aj,far];split
   ·exact Nat.succ_le_succ (aty p a b)
   ·exact jd _
def Out.ok:Out→Bool
 | .done _=>true
 | .bad _ _ _=>false
theorem arc (t:T) (o:Out):(Out.cons t o).ok=o.ok:=by cases o <;> rfl
theorem a6c (ln cl:Nat):(lex [] ln cl).ok=true:=by rw [lex_nil];rfl
def Ahead (l:List UInt8) (p:Nat × Nat) (e a b:Nat):Prop:=(e=30∨e=31)∧∃ u v,l=u ++ v∧v≠[]∧(lex u p.1 p.2).ok=true∧(a,b)=spotL u p
theorem lex_ahead:∀ (n:Nat) (l:List UInt8) (p:Nat × Nat) (e a b:Nat),l.length≤n→lex l p.1 p.2=.bad e a b→Ahead l p e a b:=by
 intro n
 induction n with
 | zero=>
   intro l p e a b h he
   obtain rfl:l=[]:=dw (by omega)
   rw [lex_nil] at he;cases he
 | succ n ih=>
   intro l p e a b h he;cases l with
   | nil=>rw [lex_nil] at he;cases he
   | cons c l=>
     have hl:l.length≤n:=by simpa using h
     have hd:∀ m,(l.drop m).length≤n:=fun m=>by rw [gu];omega
     have hh:=he;rw [lex_cons] at he;split at he
     ·rename_i hb;split at he
      ·rename_i h10;obtain ⟨h1,u,v,rfl,h3,h4,h5⟩:=ih _ (p.1+1,1) _ _ _ hl he
       exact ⟨h1,c :: u,v,rfl,h3,by rw [lex_cons,cu hb,cu h10];exact h4,by rw [h5,spotL,cu h10]⟩
      ·rename_i h10;obtain ⟨h1,u,v,rfl,h3,h4,h5⟩:=ih _ (p.1,p.2+1) _ _ _ hl he
       exact ⟨h1,c :: u,v,rfl,h3,by rw [lex_cons,cu hb,dx h10];exact h4,by rw [h5,spotL,dx h10]⟩
     ·rename_i hb;split at he
      ·rename_i h59;obtain ⟨h1,u,v,h2,h3,h4,h5⟩:=ih _ (p.1,p.2+(far other l+1)) _ _ _ (hd _) he;have hf:=ar3 other l u v h2;refine ⟨h1,c :: (l.take (far other l) ++ u),v,?_,h3,?_,?_⟩
       ·rw [aj,gy,← h2,ol]
       ·rw [lex_cons,dx hb,cu h59,hf];rw [aeo (far_len other l)];exact h4
       ·rw [h5,← aj,aat,spotL_flat (c :: l.take (far other l)) p (len_ne other (by decide) l (by rw [h59];decide)),bi,far_len]
      ·rename_i h59
       have hdrop:∀ (q:UInt8→Bool) (u:List UInt8),(l.take (far q l) ++ u).drop (far q l)=u:=by
        exact fun q u=>aeo (far_len q l)
       split at he
       ·rename_i hlt;obtain ⟨h1,u,v,h2,h3,h4,h5⟩:=ih _ (p.1,p.2+(far within l+1)) _ _ _ (hd _) (ani he);have hf:=ar3 within l u v h2;have hdr:=hdrop within u;refine ⟨h1,c :: (l.take (far within l) ++ u),v,?_,h3,?_,?_⟩
        ·rw [aj,gy,← h2,ol]
        ·rw [lex_cons,dx hb,dx h59,cu hlt,hf,hdr,arc];exact h4
        ·rw [h5,← aj,aat,spotL_flat (c :: l.take (far within l)) p (len_ne within (by decide) l (not_ten (.inl hlt))),bi,far_len]
       ·rename_i hlt;split at he
        ·rename_i hdg;split at he
         ·rename_i hcond;cases he
          exact ⟨.inr rfl,[],c :: l,rfl,by simp,a6c _ _,rfl⟩
         ·rename_i hcond;obtain ⟨h1,u,v,h2,h3,h4,h5⟩:=ih _ (p.1,p.2+(far digit l+1)) _ _ _ (hd _) (ani he);have hf:=ar3 digit l u v h2;have hdr:=hdrop digit u
          have hm:far within (l.take (far digit l) ++ u)≤far within l:=by
           have:=aty within (l.take (far digit l) ++ u) v;rw [gy,← h2,ol] at this;exact this
          refine ⟨h1,c :: (l.take (far digit l) ++ u),v,?_,h3,?_,?_⟩
          ·rw [aj,gy,← h2,ol]
          ·rw [lex_cons,dx hb,dx h59,dx hlt,cu hdg,dx (fun hx=>hcond (by rw [hf] at hx;exact hx.imp id (Or.imp id fun h=>by omega))),hf,hdr,arc];exact h4
          ·rw [h5,← aj,aat,spotL_flat (c :: l.take (far digit l)) p (len_ne digit (by decide) l (not_ten (.inr (.inl hdg)))),bi,far_len]
        ·rename_i hdg;split at he
         ·rename_i hs;obtain ⟨h1,u,v,rfl,h3,h4,h5⟩:=ih _ (p.1,p.2+1) _ _ _ hl (ani he);refine ⟨h1,c :: u,v,rfl,h3,?_,?_⟩
          ·rw [lex_cons,dx hb,dx h59,dx hlt,dx hdg,cu hs,arc];exact h4
          ·rw [h5,spotL,dx (not_ten (.inr (.inr hs)))]
         ·cases he
          exact ⟨.inl rfl,[],c :: l,rfl,by simp,a6c _ _,rfl⟩
end Go.AM.Tok
set_option maxRecDepth 100000
namespace Go.Proofs.YtbocmenkkjbigaaDoor
open Go.AM
structure Vw where
 kind:Nat→Nat
 text:Nat→List UInt8
 num:Nat→Nat
 same:Nat→Bool
def tkE:Tok.T:=⟨4,[],0,0,0⟩
def Vw.of (ts:List Tok.T):Vw where
 kind a:=(ts.getD a tkE).kind
 text a:=(ts.getD a tkE).text
 num a:=(ts.getD a tkE).n
 same a:=decide (a > 0) && (ts.getD (a - 1) tkE).line == (ts.getD a tkE).line
abbrev Rx (α:Type):=Nat→Except Nat (α × Nat)
def Rx.bind {α β:Type} (f:Rx α) (g:α→Rx β):Rx β:=fun a=>match f a with
 | .error e=>.error e
 | .ok (x,b)=>g x b
section
variable (V:Vw) (N:Nat)
def bOf (l:List UInt8):ByteArray:=⟨l.toArray⟩
def isT (s:List UInt8) (a:Nat):Bool:=V.same a && V.kind a == 3 && V.text a == s
def oh:Rx ByteArray:=fun a=>if (V.same a && V.kind a == 1)=true then .ok (bOf (V.text a),a+1) else .error a
def ru:Rx Nat:=fun a=>if (V.same a && V.kind a == 2)=true then .ok (V.num a,a+1) else .error a
def rq (s:List UInt8):Rx Unit:=fun a=>if isT V s a=true then .ok ((),a+1) else .error a
def begT (a:Nat):Bool:=V.same a && V.kind a != 4
def bej:Rx Unit:=fun a=>if begT V a=true then .error a else .ok ((),a)
def secT (s:List UInt8) (a:Nat):Bool:=V.kind a == 1 && (V.kind (a+1) == 3 && V.text (a+1) == s && V.same (a+1))
def ab4:Nat→List ByteArray→Rx (List ByteArray)
 | 0,_,a=>.error a
 | n+1,acc,a=>if isT V [41] a=true then .ok (acc,a) else
   if acc.length > 0 then (rq V [44]).bind (fun _=>(oh V).bind fun x=>ab4 n (acc ++ [x])) a
   else (oh V).bind (fun x=>ab4 n (acc ++ [x])) a
def listT:Rx (List ByteArray):=(rq V [40]).bind fun _=>(ab4 V N []).bind fun l=>(rq V [41]).bind fun _ a=>.ok (l,a)
def aq5:Nat→List ByteArray→List ByteArray→Rx (List ByteArray × List ByteArray)
 | 0,_,_,a=>.error a
 | n+1,ls,xs,a=>(oh V).bind (fun l=>(rq V [58]).bind fun _=>(oh V).bind fun x b=>
   if isT V [44] b=true then (rq V [44]).bind (fun _=>aq5 n (ls ++ [l]) (xs ++ [x])) b else .ok ((ls ++ [l],xs ++ [x]),b)) a
def opT:Nat→InsD→Rx InsD
 | 1,x | 2,x=>(ru V).bind fun n a=>.ok ({ x with k:=n },a)
 | 3,x=>fun a=>.ok (x,a)
 | 4,x=>(oh V).bind fun s a=>.ok ({ x with f:=s },a)
 | 5,x | 8,x=>(oh V).bind fun s a=>.ok ({ x with a:=s },a)
 | 6,x=>(rq V [91]).bind fun _=>(aq5 V N x.ls x.xs).bind fun p=>(rq V [93]).bind fun _ a=>.ok ({ x with ls:=p.1,xs:=p.2 },a)
 | 7,x=>(oh V).bind fun s=>(ru V).bind fun n a=>.ok ({ x with a:=s,k:=n },a)
 | 9,x=>(oh V).bind fun s=>(rq V [44]).bind fun _=>(oh V).bind fun t a=>.ok ({ x with a:=s,b:=t },a)
 | 10,x=>(oh V).bind fun s=>(listT V N).bind fun l a=>.ok ({ x with f:=s,xs:=l },a)
 | 11,x=>(oh V).bind fun s=>(listT V N).bind fun l a=>.ok ({ x with a:=s,xs:=l },a)
 | 12,x=>(oh V).bind fun s=>(oh V).bind fun t a=>.ok ({ x with ls:=[s,t] },a)
 | 13,x=>(oh V).bind fun s a=>.ok ({ x with ls:=[s] },a)
 | 14,x=>fun a=>if (V.same a && V.kind a == 1)=true then (oh V).bind (fun s a=>.ok ({ x with a:=s },a)) a else .ok (x,a)
 | _,_=>fun a=>.error a
def an6:List (List UInt8 × Nat):=[([97,108,108,111,99,97],1),([109,97,108,108,111,99],2),([110,117,108,108],3),([97,100,100,114],4),([99,111,112,121],5),([108,111,97,100],8),([102,105,101,108,100],7),([112,104,105],6),([99,97,108,108],10),([105,99,97,108,108],11)]
def asf:List (List UInt8 × Nat):=[([115,116,111,114,101],9),([99,97,108,108],10),([105,99,97,108,108],11),([98,114],12),([103,111,116,111],13),([114,101,116],14)]
def arj (l:List (List UInt8 × Nat)) (s:List UInt8):Option Nat:=(l.find? fun p=>p.1 == s).map (·.2)
def avo (d:ByteArray) (l:List (List UInt8 × Nat)):Rx InsD:=fun b=>match arj l (V.text b) with
 | none=>if d.data.toList=[] then .error (b+1) else .error b
 | some o=>if V.kind b=1 then opT V N o { atp with op:=o,d:=d } (b+1) else .error b
def adq:Rx InsD:=fun a=>
 if secT V [61] a=true then (if V.same (a+2)=true then avo V N (bOf (V.text a)) an6 (a+2) else .error (a+2))
 else avo V N ⟨#[]⟩ asf a
def addI (bs:List BlkD) (x:InsD):List BlkD:=bs.dropLast ++ (bs.getLast?.toList.map fun b=>{ b with code:=b.code ++ [x] })
def asl (nm:ByteArray) (ps:List ByteArray):Nat→List BlkD→Rx FunD
 | 0,_,a=>.error a
 | n+1,bs,a=>
   if begT V a=true then .error a
   else if (V.kind a == 3 && V.text a == [125])=true then (if begT V (a+1)=true then .error (a+1) else .ok (⟨nm,ps,bs⟩,a+1))
   else if secT V [58] a=true then asl nm ps n (bs ++ [⟨bOf (V.text a),[]⟩]) (a+2)
   else if (V.kind a != 1 || bs.length == 0)=true then (if V.kind a=1 then .error (a+1) else .error a)
   else (adq V N).bind (fun x=>asl nm ps n (addI bs x)) a
def awd:Rx FunD:=fun a=>(oh V).bind (fun nm=>(listT V N).bind fun ps=>(rq V [123]).bind fun _=>asl V N nm ps N []) (a+1)
def aoo:Nat→List FunD→Rx (List FunD)
 | 0,_,a=>.error a
 | n+1,fs,a=>if V.kind a=4 then .ok (fs,a) else
   if (V.kind a != 1 || V.text a != [102,117,110,99])=true then .error a
   else (awd V N).bind (fun f=>aoo n (fs ++ [f])) a
end
def bae (ts:List Tok.T):Except Nat (List FunD):=match aoo (Vw.of ts) (ts.length+1) (ts.length+1) [] 0 with
 | .error e=>.error e
 | .ok (fs,_)=>.ok fs
end Go.Proofs.YtbocmenkkjbigaaDoor
namespace Go.AM
def am0:=And.intro @a4p (And.intro @a4r (And.intro @a9n (And.intro @a9k (And.intro @azx (And.intro @a4s (And.intro @a4q (And.intro @a9l (And.intro @an2 (And.intro @awr (And.intro @awq (And.intro @aup (And.intro @auq (And.intro @a2h (And.intro @a2g (And.intro @a2i (And.intro @ax4 (And.intro @ax5 (And.intro @av1 (And.intro @axh (And.intro @aov (And.intro @Bool.not_true (And.intro @Bool.not_false (And.intro @acy (And.intro @uf (And.intro @aur (And.intro @aqg (And.intro @an9 (And.intro @ax3 (And.intro @a1s (And.intro @axn (And.intro @axo (And.intro @iw (And.intro @o8 (And.intro @a94 (And.intro @a92 (And.intro @evE_t (And.intro @a9i (And.intro @a4g (@avc)))))))))))))))))))))))))))))))))))))))
def am1:=And.intro @avb (And.intro @aq4 (And.intro @a9j (And.intro @a4o (And.intro @a4n (And.intro @a9h (And.intro @a4l (And.intro @a4k (And.intro @azu (And.intro @avx (And.intro @avw (And.intro @anf (And.intro @akf (And.intro @ake (And.intro @apl (And.intro @ane (And.intro @anc (And.intro @avu (And.intro @ar9 (And.intro @ar8 (And.intro @avv (And.intro @asb (And.intro @asa (And.intro @apk (And.intro @azt (And.intro @bc5 (And.intro @a4m (And.intro @avy (And.intro @ang (And.intro @azs (And.intro @asc (And.intro @a4j (And.intro @a4i (And.intro @azv (And.intro @a4h (And.intro @avt (And.intro @azr (And.intro @af1 (And.intro @aac (@a98)))))))))))))))))))))))))))))))))))))))
def am2:=And.intro @acr (And.intro @amz (And.intro @aph (And.intro @azc (And.intro @a3t (And.intro @axs (And.intro @a1x (And.intro @avm (And.intro @ayy (And.intro @aqa (And.intro @awc (And.intro @not_false_eq_true (And.intro @aed (And.intro @auh (And.intro @bes (And.intro @a0s (And.intro @ko (And.intro @aaq (And.intro @aa5 (And.intro @mi (And.intro @Int.natCast_nonneg (And.intro @Bool.cond_true_left (And.intro @Bool.cond_false_right (And.intro @Bool.cond_false_left (And.intro @Bool.cond_true_right (And.intro @a3y (And.intro @a3j (And.intro @ade (And.intro @an4 (And.intro @an3 (And.intro @auu (And.intro @awo (And.intro @a1n (And.intro @a1m (And.intro @axi (And.intro @a1p (And.intro @a1o (And.intro @a1q (And.intro @axk (@azo)))))))))))))))))))))))))))))))))))))))
def am3:=And.intro @avs (And.intro @ar6 (And.intro @a2s (And.intro @auo (And.intro @awj (And.intro @axl (And.intro @a1v (And.intro @a1w (And.intro @axm (And.intro @ax8 (And.intro @ev_t (And.intro @ev_c (And.intro @beq_true (And.intro @beq_false (And.intro @bcf (And.intro @bcd (And.intro @a2n (And.intro @aow (And.intro @ara (And.intro @aya (And.intro @aq9 (And.intro @a2m (And.intro @op_un (And.intro @a7x (And.intro @ayd (And.intro @aox (And.intro @a2l (And.intro @avf (And.intro @a7w (And.intro @a7v (And.intro @ayb (And.intro @a7t (And.intro @a2r (And.intro @bce (And.intro @ajd (And.intro @a2k (And.intro @a7u (And.intro @aye (And.intro @a7y (@a2p)))))))))))))))))))))))))))))))))))))))
def am4:=And.intro @a2q (And.intro @avg (And.intro @avh (And.intro @a96 (And.intro @a95 (And.intro @azp (And.intro @ava (And.intro @au9 (And.intro @Bool.bne_false (And.intro @Bool.bne_true (And.intro @bbk (And.intro @ba7 (And.intro @bbd (And.intro @bbi (And.intro @bbc (And.intro @bbe (And.intro @bbf (And.intro @bbg (And.intro @bbh (And.intro @bbj (And.intro @xb_or (And.intro @ba6 (And.intro @awh (And.intro @bbb (And.intro @bba (And.intro @ba9 (And.intro @ba8 (And.intro @bas (And.intro @bao (And.intro @bap (And.intro @bat (And.intro @xq_b (And.intro @xn_pn (And.intro @xn_pr (And.intro @xn_pp (And.intro @xn_sn (And.intro @xn_ss (And.intro @xn_sp (And.intro @xn_se (@xn_mn)))))))))))))))))))))))))))))))))))))))
def am5:=And.intro @xn_mm (And.intro @xn_fn (And.intro @xn_ff (And.intro @xn_fy (And.intro @xg (And.intro @bam (And.intro @ban (And.intro @ba5 (And.intro @xc_id (And.intro @baz (And.intro @a6u (And.intro @xk_fn (And.intro @bay (And.intro @a5t (And.intro @a6v (And.intro @ba3 (And.intro @aul (And.intro @ba2 (And.intro @ba0 (And.intro @ba4 (And.intro @bau (And.intro @baw (And.intro @bax (And.intro @bav (And.intro @xl_sl (And.intro @a6t (And.intro @za (And.intro @a6s (And.intro @xm (And.intro @asy (And.intro @asx (And.intro @af (And.intro @nk (And.intro @and_true (And.intro @afj (And.intro @j6 (And.intro @ace (And.intro @vk (And.intro @a1h (@a0h)))))))))))))))))))))))))))))))))))))))
def am6:=And.intro @a5g (And.intro @auj (And.intro @auk (And.intro @aui (And.intro @awg (And.intro @av0 (And.intro @asg (And.intro @ash (And.intro @atd (And.intro @a6r (And.intro @a2o (And.intro @Int.sub_zero (And.intro @Int.le_refl (And.intro @a0d (And.intro @bbs (And.intro @aze (And.intro @a2w (And.intro @jk (And.intro @bcl (And.intro @bc9 (And.intro @a8h (And.intro @a8e (And.intro @a2v (And.intro @a2u (And.intro @a8f (And.intro @bcg (And.intro @a8g (And.intro @a8i (And.intro @bci (And.intro @bcj (And.intro @a0c (And.intro @a9q (And.intro @a5d (And.intro @a0a (And.intro @az9 (And.intro @a0b (And.intro @a5e (And.intro @azm (And.intro @auv (@aqb)))))))))))))))))))))))))))))))))))))))
def am7:=And.intro @aob (And.intro @aoa (And.intro @aw7 (And.intro @aut (@vz))))
def al0:=@Bool.cond_self
def al1:=@ic
def al2:=@jg
def al3:=@di
def al4:=@jo
def al5:=@ne_eq
def al6:=@mo
def al7:=@ja
def al8:=@age
def al9:=@awe
def al10:=@cond_true
def al11:=@cond_false
def al12:=@dh
def al13:=@zm
def al14:=@aj
def al15:=@ou
def al16:=@ac0
def al17:=@jq
def al18:=@bne_self_eq_false
def al19:=@List.getElem?_cons_zero
def al20:=@List.getElem?_cons_succ
def al21:=@fq
def al22:=@dz
def al23:=@bu
def al24:=@eu
def al25:=@List.take_nil
def al26:=@List.drop_nil
def al27:=@bi
def al28:=@ib
def al29:=@zk
def al30:=@gp
def al31:=@ig
def al32:=@dm
def al33:=@List.set_cons_zero
def al34:=@List.set_cons_succ
theorem hT (R:List AOper) (K O:List Nat) (m:Nat) (kp:List (List (Nat × Bool × E) × E)) (os:List (Nat × E)) (items:List RI) (h:xx R K O=some (m,ak0 items os,os):=by kernel_rfl) (hk:aei items=kp:=by kernel_rfl):∀ (fr:List V) (H:Heap),q9 (xx R K O) K fr H=q9 (some (m,kp,os)) K fr H:=fun fr H=>by rw [← hk];exact a08 h fr H
theorem hO (R P T:List AOper) (KC K:List Nat) (lit:List AOper) (e:R=P ++ T:=by exact rfl) (e2:P=lit:=by exact rfl) (h:apr KC T K=true:=by kernel_rfl):∀ (call:lc) (it:yo) (base:Nat) (f:List V) (H:Heap),evC call it base (.region R [] K) f H=agl call it base (.region T [] K) (ax9 [] P KC (jl call base lit f H)):=fun call it base f H=>by
 subst e;subst e2
 exact (axg call it base P T (kc:=KC) h f H).trans (by rw [alx])
theorem hS (R:List AOper) (ka oa K:List Nat) {P T:List AOper} (e:R=P ++ T:=by exact rfl) (h:apr ka T K=true:=by kernel_rfl):∀ (call:lc) (it:yo) (base:Nat) (f:List V) (H:Heap),evC call it base (.region R [] K) f H=bby call it base T K H (q9 (xx P ka oa) ka f H) (ae5 call it base R K f H):=fun call it base f H=>by
 subst e;exact axf call it base P T h f H
theorem hU (R:List AOper) (ka oa K:List Nat) (m:Nat) (kp:List (List (Nat × Bool × E) × E)) (os:List (Nat × E)) (items:List RI) {P T:List AOper} (e:R=P ++ T:=by exact rfl) (h:apr ka T K=true:=by kernel_rfl) (h2:xx P ka oa=some (m,ak0 items os,os):=by kernel_rfl) (hk:aei items=kp:=by kernel_rfl):(∀ (fr:List V) (H:Heap),q9 (xx P ka oa) ka fr H=q9 (some (m,kp,os)) ka fr H)∧∀ (call:lc) (it:yo) (base:Nat) (f:List V) (H:Heap),evC call it base (.region R [] K) f H=bby call it base T K H (q9 (xx P ka oa) ka f H) (ae5 call it base R K f H):=⟨hT P ka oa m kp os items h2 hk,hS R ka oa K e h⟩
theorem hL (R:List AOper) (K O:List Nat):∀ (call:lc) (it:yo) (base:Nat) (f:List V) (H:Heap),evC call it base (.region R [] K) f H=bee H (q9 (xx R K O) K f H) (ae5 call it base R K f H):=fun call it base f H=>a1l call it base R f H
theorem hV (R:List AOper) (K O:List Nat) (m:Nat) (kp:List (List (Nat × Bool × E) × E)) (os:List (Nat × E)) (items:List RI) (h:xx R K O=some (m,ak0 items os,os):=by kernel_rfl) (hk:aei items=kp:=by kernel_rfl):(∀ (fr:List V) (H:Heap),q9 (xx R K O) K fr H=q9 (some (m,kp,os)) K fr H)∧∀ (call:lc) (it:yo) (base:Nat) (f:List V) (H:Heap),evC call it base (.region R [] K) f H=bee H (q9 (xx R K O) K f H) (ae5 call it base R K f H):=⟨hT R K O m kp os items h hk,hL R K O⟩
theorem hX (R:List AOper) (K:List Nat) {a:AOper} (e:R=[a]:=by exact rfl):∀ (call:lc) (it:yo) (base:Nat) (f:List V) (H:Heap),evC call it base (.region R [] K) f H=ax9 [] R K (jl call base [a] f H):=fun call it base f H=>by
 subst e;exact alx call it base [a] K f H
theorem hE (c b:ACode) (e:c=b:=by exact rfl):∀ (call:lc) (it:yo) (base:Nat) (fr:List V) (H:Heap),evC call it base c fr H=evC call it base b fr H:=fun _ _ _ _ _=>by rw [e]
theorem hP (R:List AOper) (KC K:List Nat) {T:List AOper} {a:AOper} (e:R=a :: T:=by exact rfl) (h:apr KC T K=true:=by kernel_rfl):∀ (call:lc) (it:yo) (base:Nat) (f:List V) (H:Heap),evC call it base (.region R [] K) f H=agl call it base (.region T [] K) (ax9 [] [a] KC (jl call base [a] f H)):=hO R [a] T KC K [a] e rfl h
def q (d:Nat) (o:AOp):AOper:=⟨some d,o,none⟩
def qg (d:Nat) (o:AOp) (n:Nat) (b:Bool):AOper:=⟨some d,o,some (n,b)⟩
abbrev LO:=List AOper
def oL (d n:Nat):AOper:=⟨some d,.load false 1 (.t n),none⟩
def gL (d n g:Nat) (b:Bool):AOper:=⟨some d,.load false 1 (.t n),some (g,b)⟩
def oF (d k n:Nat):AOper:=⟨some d,.fieldAddr k (.t n),none⟩
def gF (d k n g:Nat) (b:Bool):AOper:=⟨some d,.fieldAddr k (.t n),some (g,b)⟩
def oM (d n:Nat):AOper:=⟨some d,.move (.t n),none⟩
def gM (d n g:Nat) (b:Bool):AOper:=⟨some d,.move (.t n),some (g,b)⟩
abbrev eL (x:E):E:=.op (.load false 1 (.t 0)) [x]
abbrev eF (k:Nat) (x:E):E:=.op (.fieldAddr k (.t 0)) [x]
def sb (l:List Nat):RI:=.sub 0 l []
theorem hQ (l:List Nat) (n:Nat) (h:l.contains n=true:=by kernel_rfl):l.contains n=true:=h
theorem hK (l:List Nat) (n:Nat) (h:l.contains n=false:=by kernel_rfl):l.contains n=false:=h
theorem ai {a b:Prop} (h:a) (k:b):a∧b:=⟨h,k⟩
def aa:=ai @a7z (ai @amY (ai @bcc (ai @bl.eq_1 (ai @i64.eq_1 (ai @splice.eq_1 (ai @aah.eq_1 (ai @aah.eq_2 (ai @am0 (ai @am1 (ai @am2 (ai @am3 (ai @am4 (ai @am5 (ai @am6 (ai @am7 (ai @al0.{1} (ai @al1.{0} (ai @al2.{0} (ai @al3.{0} (ai @al4.{0,0} (ai @al5.{1} (ai @al6.{1} (ai @al7.{1} (ai @al8.{0} (ai @al9.{0} (ai @al10.{1} (ai @al11.{1} (ai @al12.{0} (ai @al13.{0} (ai @al14.{0} (ai @al15.{0,0} (ai @al16.{0,0} (ai @al17.{0} (ai @al18.{0} (ai @al19.{0} (ai @al20.{0} (ai @al21.{0} (ai @al22.{0} (ai @al23.{0} (ai @al24.{0} (ai @al25.{0} (ai @al26.{0} (ai @al27.{0} (ai @al28.{0} (ai @al29.{0,0} (ai @al30.{0} (ai @al31.{0} (ai @al32.{0} (ai @al33.{0} (@al34.{0}))))))))))))))))))))))))))))))))))))))))))))))))))
open Go.RowKit
abbrev aae:=TypeId × V × Heap
abbrev aue:=V→List V→Nat→Heap→aae→Prop
def aj3 (call:lc) (base:Nat):Nat→List AOper→List V→Heap→Option (V × List V × Heap)
 | _,[],_,_=>none
 | 0,o :: _,fr,H=>match want o fr with
   | some true=>match o.op with
     | .call f xs=>some (ev fr f,xs.map (ev fr),H)
     | _=>none
   | _=>none
 | n+1,o :: os,fr,H=>match want o fr with
   | none=>none
   | some false=>aj3 call base n os (put o.dst und fr) H
   | some true=>match jf call base fr H o.op with
     | some (v,H')=>aj3 call base n os (put o.dst v fr) H'
     | none=>none
def yx (u:V):lc:=fun _ _ _ H=>some (u,H)
abbrev aca:=List AOper→List V→Prop
def bdi (call:lc) (pan:aue) (base:Nat) (C:aca) (ops:List AOper) (chk:List (Nat × Nat)) (fr:List V) (H:Heap) (r:aae):Prop:=
 C ops fr∧(∃ i v args H1,aj3 call base i ops fr H=some (v,args,H1)∧pan v args base H1 r)∧
 ∃ u fr' H',jl (yx u) base ops fr H=some (fr',H')∧chk.all (aa0 (yx u) base ops fr H fr')=true
inductive PanL (b:List V→Heap→Option St) (x:List V→Heap→aae→Prop) (kill:List Nat) (m:Nat):List V→Heap→aae→Prop
 | here {fr:List V} {H:Heap} {r:aae} (h:x fr H r):PanL b x kill m fr H r
 | next {fr fr':List V} {H H':Heap} {r:aae} (h:b fr H=some (.nrm,fr',H')) (k:PanL b x kill m (oq kill fr') (trim m (oq kill fr') H') r):PanL b x kill m fr H r
def abd (call:lc) (pan:aue) (it:yo) (base:Nat) (C:aca):ACode→List V→Heap→aae→Prop
 | .region ops chk _,fr,H,r=>bdi call pan base C ops chk fr H r
 | .seq a b,fr,H,r=>abd call pan it base C a fr H r∨∃ fr1 H1,evC call it base a fr H=some (.nrm,fr1,H1)∧abd call pan it base C b fr1 H1 r
 | .cond c a b,fr,H,r=>(ev fr c=.s (.bool true)∧abd call pan it base C a fr H r)∨(ev fr c=.s (.bool false)∧abd call pan it base C b fr H r)
 | .block _ c,fr,H,r=>abd call pan it base C c fr H r
 | .loop kill c,fr,H,r=>PanL (fun fr H=>evC call it base c fr H) (fun fr H r=>abd call pan it base C c fr H r) kill H.length (oq kill fr) H r
 | _,_,_,_=>False
def ae9 (o:Oper):Bool:=
 match o.op with
 | .call { callee:=.value _,.. }=>true
 | _=>false
def arb (ops:Array Oper):Bool:=(List.range ops.size).all fun i=>(List.range ops.size).all fun j=>!(ae9 (ops.getD i default) && ae9 (ops.getD j default)) || i == j
def amj:Code→Bool
 | .region _ ops draw=>!draw || arb ops
 | .seq a b=>amj a && amj b
 | .cond _ a b=>amj a && amj b
 | .block _ c=>amj c
 | .loop c=>amj c
 | .rangeFunc _ _ a b=>amj a && amj b
 | _=>true
def bec (ops:Array Oper):Prop:=∀ (i j:Nat) (o o':Oper),ops[i]?=some o→ops[j]?=some o'→ae9 o=true→ae9 o'=true→i=j
theorem ayf {ops:Array Oper} (h:arb ops=true):bec ops:=by
 intro i j o o' hi hj h1 h2;unfold arb at h;have li:=(Array.getElem?_eq_some_iff.1 hi).1;have lj:=(Array.getElem?_eq_some_iff.1 hj).1
 have:=au.1 (au.1 h i (by simpa using li)) j (by simpa using lj)
 have e1:ops.getD i default=o:=by rw [Array.getD_eq_getD_getElem?,hi];rfl
 have e2:ops.getD j default=o':=by rw [Array.getD_eq_getD_getElem?,hj];rfl
 rw [e1,e2,h1,h2] at this
 simpa using this
theorem bec.perm {ops:Array Oper} {π:List Nat} (hp:PermOk π ops) (h:bec ops):bec (qx π ops):=by
 intro i j o o' hi hj h1 h2
 have get:∀ (i:Nat) (o:Oper),(qx π ops)[i]?=some o→∃ k o0,π[i]?=some k∧ops[k]?=some o0∧o=adi π o0:=fun i o hi=>by
  have li:i < π.length:=by rw [← adn (ops:=ops)];exact (Array.getElem?_eq_some_iff.1 hi).1
  have hk:π[i]?=some π[i]:=List.getElem?_eq_getElem li;have hl:=hp.lt _ (qj li);have ho:ops[π[i]]?=some ops[π[i]]:=Array.getElem?_eq_getElem hl;have:=aaw hk ho;rw [hi] at this;exact ⟨_,_,hk,ho,gm this⟩
 obtain ⟨k,o0,k1,k2,rfl⟩:=get i o hi;obtain ⟨k',o0',k1',k2',rfl⟩:=get j o' hj;have:=h k k' o0 o0' k2 k2' h1 h2;subst this;have e1:=amf hp.nd k1;have e2:=amf hp.nd k1';omega
section
variable {CC:CX} {μ μ':Mu} {Mt Mt':Nat→Prop} {w w':World} {H H':Heap} {P:Program} {pure':PX} {call:lc} {pan:aue}
def baj (CC:CX) (μ:Mu) (Mt:Nat→Prop) (w:World) (H:Heap) (r:aae) (ch:List PanicEntry) (w':World):Prop:=
 ∃ c μ' Mt',ch=[{ v:=.iface r.1 c,recovered:=false }]∧VR μ' Mt' w' r.2.1 c∧Post CC μ Mt w H μ' Mt' w' r.2.2
def a99 (l:List AOper) (fr frx:List V):Prop:=∀ s,(∀ o∈l,o.dst≠some s)→frx.getD s .unk=fr.getD s .unk
def a0v (CC:CX) (C:aca) (μ:Mu) (Mt:Nat→Prop) (w:World) (H:Heap) (ds:List Deferred) (r:aae) (ch:List PanicEntry) (a':Act) (w':World):Prop:=
 ∃ c μ' Mt' l fr frx,ch=[{ v:=.iface r.1 c,recovered:=false }]∧VR μ' Mt' w' r.2.1 c∧Post CC μ Mt w H μ' Mt' w' r.2.2∧Marks w.heap.size μ' w' a'.defers ds∧C l fr∧a99 l fr frx∧FR μ' Mt' w' frx a'.tmps
def ass (CC:CX) (μ:Mu) (Mt:Nat→Prop) (w:World) (H:Heap) (r:aae) (ch:List PanicEntry) (l:List AOper) (fr:List V) (a':Act) (w':World):Prop:=
 ∃ c μ' Mt' frx,ch=[{ v:=.iface r.1 c,recovered:=false }]∧VR μ' Mt' w' r.2.1 c∧Post CC μ Mt w H μ' Mt' w' r.2.2∧a99 l fr frx∧FR μ' Mt' w' frx a'.tmps
structure SimPan (P:Program) (CC:CX) (pan:aue):Prop where
 fn:∀ (f:Nat) (fst cap args:List V) (base:Nat) (H:Heap) (r:aae),pan (.fn f fst cap) args base H r→
  (∀ xs w,(callFunc f xs).run P w=.ok (.enter f xs) w)∧
  ∀ (μ:Mu) (Mt:Nat→Prop) (w:World) (cs:List Value),HR CC μ Mt w H→VRs μ Mt w (fst ++ args ++ cap) cs→∀ n,CallsIn Fence.wide n P f cs.toArray w (fun e w'=>∃ ch,e=.panicked ch∧baj CC μ Mt w H r ch w')
 only:∀ v args base H r,pan v args base H r→∃ f fst cap,v=.fn f fst cap
 floor:∀ v args base H r,pan v args base H r→Floor base H r.2.2
theorem a0v.trans {C:aca} {μ1:Mu} {Mt1:Nat→Prop} {w1:World} {H1:Heap} {ds ds1:List Deferred} {r:aae} {ch:List PanicEntry} {a':Act} (hp:Post CC μ Mt w H μ1 Mt1 w1 H1) (hm:Marks w.heap.size μ1 w1 ds1 ds) (h:a0v CC C μ1 Mt1 w1 H1 ds1 r ch a' w'):a0v CC C μ Mt w H ds r ch a' w':=by
 obtain ⟨c,μ2,Mt2,l,fr,frx,e,v,p,m,x⟩:=h;exact ⟨c,μ2,Mt2,l,fr,frx,e,v,hp.trans p,hm.trans p hp.tr.size m,x⟩
theorem ass.trans {μ1:Mu} {Mt1:Nat→Prop} {w1:World} {H1:Heap} {r:aae} {ch:List PanicEntry} {l:List AOper} {fr:List V} {a':Act} (hp:Post CC μ Mt w H μ1 Mt1 w1 H1) (h:ass CC μ1 Mt1 w1 H1 r ch l fr a' w'):ass CC μ Mt w H r ch l fr a' w':=by
 obtain ⟨c,μ2,Mt2,frx,e,v,p,x⟩:=h;exact ⟨c,μ2,Mt2,frx,e,v,hp.trans p,x⟩
theorem ass.e {C:aca} {r:aae} {ch:List PanicEntry} {l:List AOper} {fr:List V} {a':Act} (hc:C l fr) (h:ass CC μ Mt w H r ch l fr a' w'):a0v CC C μ Mt w H a'.defers r ch a' w':=by
 obtain ⟨c,μ2,Mt2,frx,e,v,p,k,f⟩:=h;exact ⟨c,μ2,Mt2,l,fr,frx,e,v,p,Marks.refl _ _ _ _,hc,k,f⟩
theorem baj.g (h0:HR CC μ Mt w H) {r:aae} {ch:List PanicEntry} {l:List AOper} {fr frx:List V} {a':Act} (h:baj CC μ Mt w H r ch w') (hk:a99 l fr frx) (hf:FR μ Mt w frx a'.tmps):ass CC μ Mt w H r ch l fr a' w':=by
 obtain ⟨c,μ2,Mt2,e,v,p⟩:=h;exact ⟨c,μ2,Mt2,frx,e,v,p,hk,hf.post h0 p⟩
theorem atc (hx:SimPan P CC pan) (h:HR CC μ Mt w H) {a:Act} {fr:List V} (hf:FR μ Mt w fr a.tmps) {o:Oper} {f:Opd} {xs:List Opd} (hc:ast P pure' o (.call f xs)) {base:Nat} {r:aae}
 (hp:pan (ev fr f) (xs.map (ev fr)) base H r) {ro:Option Nat} {n:Nat} {next:Act→World→Prop} {Q:Exit→Act→World→Prop} (hQ:∀ ch w',baj CC μ Mt w H r ch w'→Q (.panic ch) a w'):o.wpIn (Fw ro) n P a w next Q:=by
 rcases hc with hc | ⟨f',xs',hc,e⟩ | ⟨k,xs',hc,e⟩ | ⟨_,_,_,_,hc,e⟩ | e
 case inr.inl=>cases e
 case inr.inr.inl=>cases e
 case inr.inr.inr.inl=>cases e
 case inr.inr.inr.inr=>cases e
 rcases p8 hc with ⟨g,args,ats,xs',y,ho,hxs,hy,⟨k,_,e⟩ | e⟩ | ⟨_,hnc,_⟩
 ·cases e
 ·cases e;refine ⟨fun _ _=>trivial,?_⟩
  rw [Oper.semAt_eq _ _ _ (by simp [ho])]
  have hexec:execOp a.eval o=(do let d ← resolve a.eval { callee:=.value g,args,argTypes:=ats } o.type;invoke d.target d.args):=by
   unfold execOp;rw [ho]
  rw [hexec];obtain ⟨k,x,z,ek⟩:=hx.only _ _ _ _ _ hp;have hv:=jm hf hy;rw [ek] at hv hp;generalize hfc:a.eval g=fc at hv;cases hv with
  | fn _ _ _ fst' cap' h1 h2 h3 h4=>
    obtain ⟨hent,hcall⟩:=hx.fn k x z _ base H r hp;have ha:=ag8 hf hxs
    have hvs:VRs μ Mt w (x ++ xs.map (ev fr) ++ z) (fst' ++ args.map a.eval ++ cap').toList:=by
     have hx':VRs μ Mt w x fst'.toList:=⟨by simpa using h1,fun i p q hp hq=>h3 i p q hp (by simpa using hq)⟩
     have hy':VRs μ Mt w z cap'.toList:=⟨by simpa using h2,fun i p q hp hq=>h4 i p q hp (by simpa using hq)⟩
     simpa using (hx'.append ha).append hy'
    have hrun:(do let d ← resolve a.eval { callee:=.value g,args,argTypes:=ats } o.type;invoke d.target d.args:Sem Next).run P w=.ok (.enter k (fst' ++ args.map a.eval ++ cap')) w:=by
     simp only [resolve,hfc,Deferred.ofValue,Sem.run_bind,Sem.run_pure,Result.andThen_ok,invoke,hent]
    rw [hrun];have hc:=hcall μ Mt w _ h hvs (n - 1);simp only [qf] at hc
    refine ⟨fun h=>by simp [Fw] at h,hc.mono ?_⟩
    rintro e w1 ⟨ch,rfl,hq⟩;exact hQ ch w1 hq
 ·simp [AOp.isCall] at hnc
theorem aou {base:Nat}:∀ (l:List AOper) (i:Nat) {fr:List V} {H:Heap} {v:V} {args:List V} {H1:Heap},aj3 call base i l fr H=some (v,args,H1)→
 ∃ o f xs fr1,l[i]?=some o∧o.op=.call f xs∧jl call base (l.take i) fr H=some (fr1,H1)∧want o fr1=some true∧v=ev fr1 f∧args=xs.map (ev fr1):=by
 intro l
 induction l with
 | nil=>intro i fr H v args H1 h;cases i <;> cases h
 | cons o l ih=>
   intro i fr H v args H1 h;cases i with
   | zero=>
     simp only [aj3] at h;split at h
     ·rename_i hw;split at h
      ·rename_i f xs ho;cases h;exact ⟨o,f,xs,fr,rfl,ho,rfl,hw,rfl,rfl⟩
      ·cases h
     ·cases h
   | succ i=>
     simp only [aj3] at h;split at h
     ·cases h
     ·rename_i hw;obtain ⟨o',f,xs,fr1,h1,h2,h3,h4⟩:=ih i h
      refine ⟨o',f,xs,fr1,by simpa using h1,h2,?_,h4⟩
      simp only [bu,jl,hw];exact h3
     ·rename_i hw;split at h
      ·rename_i u H2 he;obtain ⟨o',f,xs,fr1,h1,h2,h3,h4⟩:=ih i h
       refine ⟨o',f,xs,fr1,by simpa using h1,h2,?_,h4⟩
       simp only [bu,jl,hw,he];exact h3
      ·cases h
theorem ad1 {d:Option Nat} {v:V} {fr:List V} {s:Nat} (h:d≠some s):(put d v fr).getD s .unk=fr.getD s .unk:=by
 by_cases hs:s < fr.length
 ·rw [ad2 _ _ _ _ hs,dx h]
 ·have h1:(put d v fr)[s]?=none:=List.getElem?_eq_none (by rw [zo];omega)
  have h2:fr[s]?=none:=List.getElem?_eq_none (by omega)
  simp [List.getD,h1,h2]
theorem ass.put {r:aae} {ch:List PanicEntry} {l:List AOper} {fr:List V} {a':Act} {o:AOper} {v:V} (ho:o∈l) (h:ass CC μ Mt w H r ch l (Go.AM.put o.dst v fr) a' w'):ass CC μ Mt w H r ch l fr a' w':=by
 obtain ⟨c,μ2,Mt2,frx,e,u,p,k,f⟩:=h;exact ⟨c,μ2,Mt2,frx,e,u,p,fun s hs=>(k s hs).trans (ad1 (hs o ho)),f⟩
theorem axp (hs:SimCall P CC call) [BtOk CC P] (hx:SimPan P CC pan) {ops:Array Oper} {l:List AOper} (hr:ap0 P pure' ops l) {base:Nat} {ro:Option Nat} {n:Nat} {Q:Exit→Act→World→Prop} {v:V} {args:List V} {H1:Heap} {r:aae}:
 ∀ (i k:Nat) (fr:List V) (H:Heap) (a:Act) (w:World) (μ:Mu) (Mt:Nat→Prop),HR CC μ Mt w H→FR μ Mt w fr a.tmps→aj3 call base i (l.drop k) fr H=some (v,args,H1)→pan v args base H1 r→
   (∀ ch a' w',a'.defers=a.defers→ass CC μ Mt w H r ch l fr a' w'→Q (.panic ch) a' w')→wpOpsIn (Fw ro) n P ops Q ((List.range ops.size).drop k) a w:=by
 intro i
 induction i with
 | zero=>
   intro k fr H a w μ Mt h hf hev hp hQ
   have hlt:k < l.length:=by
    refine agi fun hc=>?_
    rw [ul (by omega)] at hev
    cases hev
   have hlo:k < ops.size:=by rw [← hr.1];exact hlt
   have e1:(List.range ops.size).drop k=k :: (List.range ops.size).drop (k+1):=by
    rw [d9 (by simpa using hlo)];simp
   rw [e1];rw [d9 hlt] at hev;have ho:ops[k]?=some ops[k]:=Array.getElem?_eq_getElem hlo;obtain ⟨hd,hc,hg⟩:=hr.2 k ops[k] l[k] ho (List.getElem?_eq_getElem hlt);rw [wpOpsIn_cons];unfold wpOpIn;simp only [ho];simp only [aj3] at hev;split at hev
   ·rename_i hw;rw [yf hg hf hw];simp only [ja];split at hev
    ·rename_i f xs hop;cases hev;rw [hop] at hc;exact atc hx h hf hc hp fun ch w' hq=>hQ ch a w' rfl (hq.g h (fun _ _=>rfl) hf)
    ·cases hev
   ·cases hev
 | succ i ih=>
   intro k fr H a w μ Mt h hf hev hp hQ
   have hlt:k < l.length:=by
    refine agi fun hc=>?_
    rw [ul (by omega)] at hev
    cases hev
   have hlo:k < ops.size:=by rw [← hr.1];exact hlt
   have e1:(List.range ops.size).drop k=k :: (List.range ops.size).drop (k+1):=by
    rw [d9 (by simpa using hlo)];simp
   rw [e1];rw [d9 hlt] at hev;have ho:ops[k]?=some ops[k]:=Array.getElem?_eq_getElem hlo;obtain ⟨hd,hc,hg⟩:=hr.2 k ops[k] l[k] ho (List.getElem?_eq_getElem hlt);rw [wpOpsIn_cons];unfold wpOpIn;simp only [ho];simp only [aj3] at hev;split at hev
   ·cases hev
   ·rename_i hw;rw [yf hg hf hw];simp only [ko,mo];refine ⟨fun _ _=>trivial,?_⟩;refine ih (k+1) _ H _ w μ Mt h (hd ▸ hf.put _ (.s _)) hev hp (fun ch a' w' hd' hq=>hQ ch a' w' ?_ (ass.put (qj hlt) hq));rw [hd',put_defers]
   ·rename_i hw;rw [yf hg hf hw];simp only [ja];split at hev
    ·rename_i u H2 hop;refine abw hs h hf hc hop ?_;rintro q w1 ⟨c,μ1,Mt1,e,hv,hpp⟩;cases e;refine ih (k+1) _ H2 _ w1 μ1 Mt1 hpp.hr (hd ▸ (hf.post h hpp).put _ hv) hev hp (fun ch a' w' hd' hq=>hQ ch a' w' ?_ ((ass.put (qj hlt) hq).trans hpp));rw [hd',put_defers]
    ·cases hev
theorem ajv {c c':lc} {base:Nat} {fr:List V} {H:Heap} {op:AOp} (h:op.isCall=false):jf c base fr H op=jf c' base fr H op:=by
 cases op <;> first | rfl | (simp [AOp.isCall] at h;done)
theorem apt (u:V):∀ v args base H r H',yx u v args base H=some (r,H')→H.length≤H'.length∧∀ id,id < base→id < H.length→H'[id]?=H[id]?:=by
 intro v args base H r H' h;cases h;exact ⟨af _,fun _ _ _=>rfl⟩
theorem ak5 {o:Oper} {ao:AOp} (h:ast P pure' o ao) (hc:ao.isCall=true):ae9 o=true:=by
 have key:∀ ao',xw P pure' o=some ao'→ao'.isCall=true→ae9 o=true:=fun ao' h2 hc2=>by
  rcases p8 h2 with ⟨g,args,ats,xs',y,ho,_⟩ | ⟨_,hnc,_⟩
  ·unfold ae9;rw [ho]
  ·rw [hnc] at hc2;cases hc2
 rcases h with h | ⟨f',xs',h,e⟩ | ⟨k,xs',h,e⟩ | ⟨_,_,_,_,h,e⟩ | e
 ·exact key _ h hc
 ·exact key _ h rfl
 ·exact key _ h rfl
 ·rw [e] at hc;cases hc
 ·rw [e] at hc;cases hc
theorem as2 (hs:SimCall P CC call) [BtOk CC P] (hx:SimPan P CC pan) {ops:Array Oper} {l:List AOper} {chk:List (Nat × Nat)} (hr:ap0 P pure' ops l) (hd:aeh (Region.before ops).toList chk l=true∧ac5 ops=true) (hone:bec ops)
 {base:Nat} {ro:Option Nat} {n:Nat} {Q:Exit→Act→World→Prop} {fr:List V} {H:Heap} {r:aae} {C:aca} (hev:bdi call pan base C l chk fr H r) {a:Act} {w:World} {μ:Mu} {Mt:Nat→Prop} (h:HR CC μ Mt w H) (hf:FR μ Mt w fr a.tmps)
 (hQ:∀ ch a' w',a'.defers=a.defers→ass CC μ Mt w H r ch l fr a' w'→Q (.panic ch) a' w'):wpAnyIn (Fw ro) n P .any ops Q ops.size (Array.replicate ops.size false) a { w with drawn:=w.drawn+1 }:=by
 obtain ⟨_,⟨i,v,args,H1,hX,hp⟩,u,frE,HE,hE,hchk⟩:=hev;obtain ⟨o,f,xs,fr1,h1,h2,h3,h4,rfl,rfl⟩:=aou l i hX;have hil:i < l.length:=(List.getElem?_eq_some_iff.1 h1).1;have hgi:l.getD i default=o:=ze h1
 have hno:∀ k,k < l.length→k≠i→(l.getD k default).op.isCall=false:=by
  intro k hk hne;cases hc:(l.getD k default).op.isCall with
  | false=>rfl
  | true=>
    exfalso
    have hk':k < ops.size:=by rw [← hr.1];exact hk
    have hi':i < ops.size:=by rw [← hr.1];exact hil
    have gk:l[k]?=some (l.getD k default):=by rw [List.getElem?_eq_getElem hk,ze (List.getElem?_eq_getElem hk)]
    have ck:=(hr.2 k ops[k] _ (Array.getElem?_eq_getElem hk') gk).2.1;have ci:=(hr.2 i ops[i] _ (Array.getElem?_eq_getElem hi') h1).2.1
    exact hne (hone k i _ _ (Array.getElem?_eq_getElem hk') (Array.getElem?_eq_getElem hi') (ak5 ck hc) (ak5 ci (by rw [h2];rfl)))
 have hoA:aaz (Region.before ops).toList chk l=true:=by
  cases e:aaz (Region.before ops).toList chk l with
  | true=>rfl
  | false=>
    exfalso;have h5:=hd.1;unfold aeh at h5;rw [e,auh,ak] at h5;have h6:=h5.2;unfold ad5 at h6;simp only [ak,au] at h6;have h7:=h6.1.2 o (List.mem_of_getElem? h1);rw [h2] at h7;simp [avl,AOp.cls,AOp.isCall,AOp.isNew,AOp.isSt,AOp.isCR] at h7
 obtain ⟨F,G,val,a1,a2,a3,a4,a5⟩:=ajr _ _ _ _ _ hE;have R:Row P pure' (yx u) base ops l chk fr frE H HE F G val:=⟨hr,hoA,hd.2,a1,a2,a3,a4,a5,hchk,apt u⟩
 have pre:∀ k,k≤i→jl call base (l.take k) fr H=some (F k,G k):=by
  intro k
  induction k with
  | zero=>intro _;rw [eu,a1,a2];rfl
  | succ k ih=>
    intro hk
    have hkl:k < l.length:=by omega
    have hg:l[k]?=some (l.getD k default):=by rw [List.getElem?_eq_getElem hkl,ze (List.getElem?_eq_getElem hkl)]
    rw [List.take_add_one,hg,adr,ih (by omega)]
    obtain ⟨t1,t2⟩:=a5 k _ hg;simp only [agb,jl]
    rcases t2 with ⟨hw,hv,hG⟩ | ⟨hw,hop⟩
    ·rw [hw,t1,hv,hG]
    ·rw [hw];simp only
     rw [ajv (c':=yx u) (hno k hkl (by omega)),hop,t1]
 have hpi:=pre i (af _);rw [h3] at hpi;cases hpi
 have hM:(l.getD i default).op.isM=true:=by rw [hgi,h2];rfl
 have hrep:∀ k,(Array.replicate ops.size false).getD k false=false:=by
  intro k;by_cases hk:k < ops.size <;> simp [hk]
 have p1:Post CC μ Mt w H μ Mt { w with drawn:=w.drawn+1 } H:=afu h rfl rfl rfl rfl
 refine as4 R h (some i) (fun j e=>by cases e;exact hil) (fun k ok hok hkl hne hc frX μ1 Mt1 w1 a1' p vv K next hh hff he hn=>?_) (fun j oj e hoj hc=>?_) ops.size _ a _ μ Mt 0 (by simp [hr.1]) ?_ ?_ (fun j _=>hrep j) (jd _) (fun k hk=>by omega) (fun k _ _ _=>hrep k) (by rw [a2];exact p1) ?_ rfl (fun e=>by cases e)
 ·have hnc:=hno k hkl (fun e=>hne (by rw [e]))
  rw [ajv (c':=call) hnc] at he;exact abw hs hh hff hc he hn
 ·cases e
  refine ⟨hM,by rw [hgi];exact h4,fun frX μ1 Mt1 w1 a1' next hpp hff hrd hkp hds=>?_⟩
  rw [hgi,h2] at hc
  have hev':ev frX f=ev (F i) f∧xs.map (ev frX)=xs.map (ev (F i)):=by
   have hop:∀ x∈(AOp.call f xs).opds,ev frX x=ev (F i) x:=fun x hx=>adj (o:=o) (by rw [h2];exact hx) (by rw [← hgi];exact hrd)
   exact ⟨hop f dn,pg fun x hx=>hop x (bz _ hx)⟩
  refine atc hx hpp.hr hff hc (by rw [hev'.1,hev'.2];exact hp) fun ch w' hq=>hQ ch a1' w' hds ((hq.g hpp.hr (fun s hs=>hkp s fun k hk=>?_) hff).trans hpp)
  have gk:l[k]?=some (l.getD k default):=by rw [List.getElem?_eq_getElem hk,ze (List.getElem?_eq_getElem hk)]
  exact hs _ (List.mem_of_getElem? gk)
 ·unfold su;refine ji alb ?_;simp [hr.1]
 ·intro j hj
  exact absurd ((hrep j).symm.trans hj) (by simp)
 ·have:(SF (qm l) val fr l.length fun k=>(Array.replicate ops.size false).getD k false)=fr:=by
   refine abm o9 fun s hs=>?_;rw [o9] at hs;rw [aaj,cu hs,abl (i:=0) l.length fun k _ _=>?_]
   ·simp [lw]
   ·rw [hrep k];simp
  rw [this];exact hf.post h p1
def bdg (P:Program) (CC:CX) (C:aca) (ro:Option Nat) (n:Nat) (c:Code) (X:List V→Heap→aae→Prop):Prop:=
 ∀ (fr:List V) (H:Heap) (r:aae),X fr H r→∀ (μ:Mu) (Mt:Nat→Prop) (w:World) (a:Act) (Q:Exit→Act→World→Prop),HR CC μ Mt w H→FR μ Mt w fr a.tmps→(∀ l,ro=some l→∃ r,w.heap[l]?=some (.loop r))→
   (∀ ch a' w',a0v CC C μ Mt w H a.defers r ch a' w'→Q (.panic ch) a' w')→c.wpIn (Fw ro) n P Q a w
theorem ayn {C:aca} {ro:Option Nat} {n:Nat} {c:Code} {b:List V→Heap→Option St} {x:List V→Heap→aae→Prop} (hb:bek P CC ro n c b) (hxx:bdg P CC C ro n c x) (kill:List Nat) (m:Nat) {fr:List V} {H:Heap} {r:aae} (hl:PanL b x kill m fr H r):
 ∀ (μ:Mu) (Mt:Nat→Prop) (w:World) (a:Act) (Q:Exit→Act→World→Prop) (μ0:Mu) (Mt0:Nat→Prop) (w0:World) (H0:Heap) (ds:List Deferred),HR CC μ0 Mt0 w0 H0→H0.length≤m→m≤H.length→
   Post CC μ0 Mt0 w0 H0 μ Mt w H→Marks w0.heap.size μ w a.defers ds→FR μ Mt w fr a.tmps→(∀ l,ro=some l→∃ r,w.heap[l]?=some (.loop r))→
   (∀ ch a' w',a0v CC C μ0 Mt0 w0 H0 ds r ch a' w'→Q (.panic ch) a' w')→∃ k,Code.roundsIn (Fw ro) n P c Q k a w:=by
 induction hl with
 | here h=>
   intro μ Mt w a Q μ0 Mt0 w0 H0 ds h0 hm0 hm hp hmk hf hro hQ;refine ⟨1,?_⟩;rw [roundsIn_succ];refine hxx _ _ _ h μ Mt w a _ hp.hr hf hro fun ch a' w' hq=>hQ ch a' w' (a0v.trans hp hmk hq)
 | next h k ih=>
   rename_i fr1 fr2 H1 H2 r1;intro μ Mt w a Q μ0 Mt0 w0 H0 ds h0 hm0 hm hp hmk hf hro hQ;have key:∀ (l:List V) (K:Heap) (q:aae),PanL b x kill m l K q→∃ N,∀ (μ:Mu) (Mt:Nat→Prop) (w:World) (a:Act) (Q:Exit→Act→World→Prop) (μ0:Mu) (Mt0:Nat→Prop) (w0:World) (H0:Heap) (ds:List Deferred),HR CC μ0 Mt0 w0 H0→H0.length≤m→m≤K.length→
    Post CC μ0 Mt0 w0 H0 μ Mt w K→Marks w0.heap.size μ w a.defers ds→FR μ Mt w l a.tmps→(∀ l,ro=some l→∃ r,w.heap[l]?=some (.loop r))→
    (∀ ch a' w',a0v CC C μ0 Mt0 w0 H0 ds q ch a' w'→Q (.panic ch) a' w')→Code.roundsIn (Fw ro) n P c Q N a w:=by
    intro l K q hq
    induction hq with
    | here h=>
      refine ⟨1,fun μ Mt w a Q μ0 Mt0 w0 H0 ds h0 hm0 hm hp hmk hf hro hQ=>?_⟩;rw [roundsIn_succ];exact hxx _ _ _ h μ Mt w a _ hp.hr hf hro fun ch a' w' hq=>hQ ch a' w' (a0v.trans hp hmk hq)
    | next h k ih=>
      obtain ⟨N,hN⟩:=ih;refine ⟨N+1,fun μ Mt w a Q μ0 Mt0 w0 H0 ds h0 hm0 hm hp hmk hf hro hQ=>?_⟩;rw [roundsIn_succ];refine hb _ _ .nrm _ _ h μ Mt w a _ hp.hr hf hro ?_;rintro a1 w1 ⟨μ1,Mt1,p1,f1,m1⟩;have hpp:=hp.trans p1;obtain ⟨μ2,p2,f2,s2,l2⟩:=afl hpp h0.dom hm0 (ji hm p1.len) (f1.kill kill);have mk2:=(hmk.trans p1 hp.tr.size m1).sub s2;refine hN μ2 Mt1 w1 a1 Q μ0 Mt0 w0 H0 ds h0 hm0 l2 p2 mk2 f2 (fun l hl=>?_) hQ;obtain ⟨r,hr⟩:=hro l hl;exact p1.tr.loops l r hr
   obtain ⟨N,hN⟩:=key _ _ _ (.next h k)
   exact ⟨N,hN μ Mt w a Q μ0 Mt0 w0 H0 ds h0 hm0 hm hp hmk hf hro hQ⟩
theorem as9 (hs:SimCall P (CR P pure') call) (hx:SimPan P (CR P pure') pan) (hmix:P.follows .mixedOrders=true) (nn base:Nat) {C:aca} {c:Code} {ac:ACode} (hc:CodeR P pure' c ac) (hone:amj c=true):
 ∀ (ro:Option Nat) (n:Nat),bdg P (CR P pure') C ro n c (abd call pan (fun b k m=>qy b k m nn) base C ac):=by
 induction hc with
 | skip=>intro ro n fr H r h;exact h.elim
 | label l=>intro ro n fr H r h;exact h.elim
 | exit id=>intro ro n fr H r h;exact h.elim
 | ret=>intro ro n fr H r h;exact h.elim
 | regionE=>intro ro n fr H r h;exact h.elim
 | regionPE=>intro ro n fr H r h;exact h.elim
 | rangeFunc=>intro ro n fr H r h;exact h.elim
 | region id ops draw l chk kill hr hd=>
   intro ro n fr H r hev μ Mt w a Q h hf hro hQ;have hev:bdi call pan base C l chk fr H r:=hev
   have hq:∀ ch a' w',a'.defers=a.defers→ass (CR P pure') μ Mt w H r ch l fr a' w'→Q (.panic ch) a' w':=fun ch a' w' hd' hq=>hQ ch a' w' (by rw [← hd'];exact hq.e (C:=C) hev.1)
   cases draw with
   | false=>
     obtain ⟨_,⟨i,v,args,H1,hX,hp⟩,_⟩:=hev;refine wpIn_region ?_
     have:=axp (Q:=Q) (ro:=ro) (n:=n) hs hx hr i 0 fr H a w μ Mt h hf (by simpa using hX) hp hq
     simpa using this
   | true=>exact wpIn_region_any hmix (as2 hs hx hr (hd rfl) (ayf (by simpa [amj] using hone)) hev h hf hq)
 | regionP id ops π l chk kill hp hr hd=>
   intro ro n fr H r hev μ Mt w a Q h hf hro hQ
   have hq:∀ ch a' w',a'.defers=a.defers→ass (CR P pure') μ Mt w H r ch l fr a' w'→Q (.panic ch) a' w':=fun ch a' w' hd' hq=>hQ ch a' w' (by rw [← hd'];exact hq.e (C:=C) hev.1)
   exact wpIn_region_any hmix (aas hp (as2 hs hx hr hd ((ayf (by simpa [amj] using hone)).perm (aol hp)) hev h hf hq))
 | seq x y ax ay hcx _ ihx ihy=>
   intro ro n fr H r hev μ Mt w a Q h hf hro hQ;simp only [amj,ak] at hone;refine wpIn_seq ?_
   rcases hev with hev | ⟨fr1,H1,h1,h2⟩
   ·exact ihx hone.1 ro n _ _ _ hev μ Mt w a _ h hf hro fun ch a' w' hq=>hQ ch a' w' hq
   ·refine ahf hs hmix nn base hcx ro n _ _ _ _ _ h1 μ Mt w a _ h hf hro ?_;rintro a1 w1 ⟨μ1,Mt1,p1,f1,m1⟩;refine ihy hone.2 ro n _ _ _ h2 μ1 Mt1 w1 a1 Q p1.hr f1 (fun l hl=>?_) (fun ch a2 w2 hq=>hQ ch a2 w2 (a0v.trans p1 m1 hq));obtain ⟨q,hq⟩:=hro l hl;exact p1.tr.loops l q hq
 | cond c o x y ax ay hco _ _ ihx ihy=>
   intro ro n fr H r hev μ Mt w a Q h hf hro hQ;simp only [amj,ak] at hone;have hv:=jm hf hco
   rcases hev with ⟨he,hev⟩ | ⟨he,hev⟩
   ·rw [he] at hv;exact wpIn_cond_true (yg hv) (ihx hone.1 ro n _ _ _ hev μ Mt w a Q h hf hro hQ)
   ·rw [he] at hv;exact wpIn_cond_false (yg hv) (ihy hone.2 ro n _ _ _ hev μ Mt w a Q h hf hro hQ)
 | block id c x _ ih=>
   intro ro n fr H r hev μ Mt w a Q h hf hro hQ;refine wpIn_block ?_;exact ih hone ro n _ _ _ hev μ Mt w a _ h hf hro fun ch a' w' hq=>hQ ch a' w' hq
 | loop c kill x hcx ih=>
   intro ro n fr H r hev μ Mt w a Q h hf hro hQ;obtain ⟨k,hk⟩:=ayn (ahf hs hmix nn base hcx ro n) (ih hone ro n) kill H.length hev μ Mt w a Q μ Mt w H a.defers h (af _) (af _) (Post.refl h) (Marks.refl _ _ _ _) (hf.kill kill) hro hQ;exact wpIn_loop_rounds k hk
theorem ave {base:Nat} (hfl:∀ v args base H r H',call v args base H=some (r,H')→H.length≤H'.length∧∀ id,id < base→id < H.length→H'[id]?=H[id]?) {i:Nat} {l:List AOper} {fr:List V} {H:Heap} {v:V} {args:List V} {H1:Heap} (h:aj3 call base i l fr H=some (v,args,H1)):Floor base H H1:=by
 obtain ⟨o,f,xs,fr1,_,_,h3,_⟩:=aou l i h;exact afb hfl _ h3
theorem aks (hfl:∀ v args base H r H',call v args base H=some (r,H')→H.length≤H'.length∧∀ id,id < base→id < H.length→H'[id]?=H[id]?) (hpf:∀ v args base H r,pan v args base H r→Floor base H r.2.2) (nn base:Nat) {C:aca}:∀ (ac:ACode) {fr:List V} {H:Heap} {r:aae},abd call pan (fun b k m=>qy b k m nn) base C ac fr H r→Floor base H r.2.2:=by
 intro ac
 induction ac with
 | region ops chk kill=>
   intro fr H r he;obtain ⟨_,⟨i,v,args,H1,h1,h2⟩,_⟩:=he;exact (ave hfl h1).trans (hpf _ _ _ _ _ h2)
 | seq a b iha ihb=>
   intro fr H r he
   rcases he with he | ⟨fr1,H1,h1,h2⟩
   ·exact iha he
   ·exact (uo hfl nn a h1).trans (ihb h2)
 | cond o a b iha ihb=>
   intro fr H r he
   rcases he with ⟨_,h2⟩ | ⟨_,h2⟩
   ·exact iha h2
   ·exact ihb h2
 | block id a ih=>intro fr H r he;exact ih (fr:=fr) he
 | loop kill a ih=>
   intro fr H r he;have he:PanL (fun fr H=>evC call (fun b k m=>qy b k m nn) base a fr H) (fun fr H r=>abd call pan (fun b k m=>qy b k m nn) base C a fr H r) kill H.length (oq kill fr) H r:=he
   suffices h:∀ (m:Nat) fr K r,PanL (fun fr H=>evC call (fun b k m=>qy b k m nn) base a fr H) (fun fr H r=>abd call pan (fun b k m=>qy b k m nn) base C a fr H r) kill m fr K r→m≤K.length→m≤r.2.2.length∧∀ id,id < base→id < m→r.2.2[id]?=K[id]? by
    obtain ⟨h1,h2⟩:=h _ _ _ _ he (af _);exact ⟨h1,h2⟩
   intro m fr K r hl
   induction hl with
   | here h=>
     intro hm;have f:=ih h;exact ⟨ji hm f.1,fun id h1 h2=>f.2 id h1 (ik h2 hm)⟩
   | next h _ ih2=>
     intro hm;have f:=uo hfl nn a h;rename_i fr1 fr' K1 K' r1 _;obtain ⟨t1,t2⟩:=afm (fr:=oq kill fr') (ji hm f.1);obtain ⟨r1,r2⟩:=ih2 t1;exact ⟨r1,fun id h1 h2=>(r2 id h1 h2).trans ((t2 id h2).trans (f.2 id h1 (ik h2 hm)))⟩
 | _=>intro fr H r he;exact he.elim
end
open Go.RowKit
def a0t (CP:Nat→Option CFun) (PP:Nat→List V→Nat→Heap→aae→Prop) (X:Nat→Bool):Nat→aue
 | 0=>fun _ _ _ _ _=>False
 | n+1=>fun v args base H r=>∃ f fst cap,v=.fn f fst cap∧
    ((X f=true∧∃ c,CP f=some (.code c)∧abd (xc CP n) (a0t CP PP X n) (fun b k m=>qy b k m n) base (fun _ _=>True) c.body (fst ++ args ++ cap ++ List.replicate (c.ntmps - (fst ++ args ++ cap).length) und) H r)∨PP f (fst ++ args ++ cap) base H r)
section
variable {CC:CX} {μ μ':Mu} {Mt Mt':Nat→Prop} {w w':World} {H H':Heap} {P:Program} {pure':PX}
theorem amm {μ0:Mu} {Mt0:Nat→Prop} {w0:World} {H0:Heap} {fn:Func} {tmps:Array Value} {x:V} {c:Value} {R:Ending→World→Prop} {n:Nat} {ch:List PanicEntry}
 (hfin:∀ w',Post CC μ0 Mt0 w0 H0 μ Mt w' H→VR μ Mt w' x c→R (.panicked ch) w'):
 ∀ (L:List Nat) (w:World),Post CC μ0 Mt0 w0 H0 μ Mt w H→VR μ Mt w x c→L.Nodup→(∀ D∈L,w0.heap.size≤D∧w.heap[D]?=some (.deferred (some []))∧∀ id g b,μ id g≠some (D,b))→
   LeavesInM Fence.wide n P fn tmps R (L.map atf) (.panicking ch) w:=by
 intro L
 induction L with
 | nil=>intro w hp hf _ _;exact hfin w hp hf
 | cons D L ih=>
   intro w hp hf hnd hL;obtain ⟨h1,h2,h3⟩:=hL D dn
   refine ⟨by simp,.inl ⟨D,_,rfl,run_takeDeferred h2,?_⟩⟩
   obtain ⟨p1,hv⟩:=aja (y:=none) hp h1 h2 h3;refine ih _ p1 (hv hf) (abq.1 hnd).2 (fun E hE=>?_);obtain ⟨k1,k2,k3⟩:=hL E (bz _ hE)
   have hne:E≠D:=fun e=>by subst e;exact (abq.1 hnd).1 hE
   exact ⟨k1,(World.putObj_heap_other hne).trans k2,k3⟩
def a97 (P:Program) (pure':PX) (PP:Nat→List V→Nat→Heap→aae→Prop):Prop:=
 ∀ k vs base H r,PP k vs base H r→Floor base H r.2.2∧(∀ xs w,(callFunc k xs).run P w=.ok (.enter k xs) w)∧
   ∀ μ Mt w cs,HR (CR P pure') μ Mt w H→VRs μ Mt w vs cs→∀ n,CallsIn Fence.wide n P k cs.toArray w (fun e w'=>∃ ch,e=.panicked ch∧baj (CR P pure') μ Mt w H r ch w')
variable {CP:Nat→Option CFun} {PP:Nat→List V→Nat→Heap→aae→Prop} {X:Nat→Bool}
theorem a2d (hmix:P.follows .mixedOrders=true) (hCP:∀ k c,CP k=some c→abf P pure' k c) (hone:∀ k fn body,X k=true→P.funcs[k]?=some fn→fn.body=some body→amj body=true) (hPP:a97 P pure' PP):∀ n,SimPan P (CR P pure') (a0t CP PP X n):=by
 intro n
 induction n with
 | zero=>exact ⟨fun _ _ _ _ _ _ _ h=>h.elim,fun _ _ _ _ _ h=>h.elim,fun _ _ _ _ _ h=>h.elim⟩
 | succ n ih=>
   refine ⟨fun f fst cap args base H r h=>?_,fun v args base H r h=>by obtain ⟨f,fst,cap,e,_⟩:=h;exact ⟨f,fst,cap,e⟩,fun v args base H r h=>by
    obtain ⟨f,fst,cap,e,⟨_,c,_,hpan⟩ | hpan⟩:=h
    ·exact aks (aa6 hmix hCP n).floor ih.floor n base c.body hpan
    ·exact (hPP _ _ _ _ _ hpan).1⟩
   obtain ⟨f',fst',cap',e,h⟩:=h;cases e
   rcases h with ⟨hX,c,hc,hpan⟩ | h
   ·obtain ⟨fn,body,h1,h2,h3,h4,h5,h6⟩:=hCP f _ hc;refine ⟨Go.Proofs.enters_of h1 h3 h2,fun μ Mt w cs hh hvs m=>?_⟩;refine callsIn_of_wp_marks h1 h2 trivial ?_
    have hf0:FR μ Mt w (fst ++ args ++ cap ++ List.replicate (c.ntmps - (fst ++ args ++ cap).length) und) (cs.toArray ++ Array.replicate (fn.ntmps - cs.toArray.size) Go.undef):=by
     unfold FR;have:=hvs.append (aaa (μ:=μ) (Mt:=Mt) (w:=w) (c.ntmps - (fst ++ args ++ cap).length));simp only [aep,acb,mh,h5];rw [hvs.1] at this ⊢;exact this
    refine as9 (aa6 hmix hCP n) ih hmix n base h4 (hone _ _ _ hX h1 h2) none m _ H r hpan μ Mt w { tmps:=cs.toArray ++ Array.replicate (fn.ntmps - cs.toArray.size) Go.undef,defers:=[] } _ hh hf0 (fun l hl=>by cases hl) ?_
    rintro ch a' w' ⟨cv,μ1,Mt1,_,_,_,e1,v1,p1,⟨L,hL,hnd,hLs⟩,_⟩;show LeavesInM Fence.wide m P fn a'.tmps _ a'.defers (.panicking ch) w';rw [hL,zm];exact amm (μ:=μ1) (Mt:=Mt1) (x:=r.2.1) (c:=cv) (fun w2 p2 v2=>⟨ch,rfl,cv,μ1,Mt1,e1,v2,p2⟩) L w' p1 v1 hnd hLs
   ·exact (hPP f _ base H r h).2
end
section
variable {CP:Nat→Option CFun} {PP:Nat→List V→Nat→Heap→aae→Prop} {X:Nat→Bool}
def PLe (p p':aue):Prop:=∀ v args base H r,p v args base H r→p' v args base H r
theorem aq7 {c c':lc} (h:Le c c') {base:Nat}:∀ (i:Nat) (l:List AOper) {fr:List V} {H:Heap} {r:V × List V × Heap},aj3 c base i l fr H=some r→aj3 c' base i l fr H=some r:=by
 intro i
 induction i with
 | zero=>intro l fr H r he;cases l <;> exact he
 | succ i ih=>
   intro l fr H r he;cases l with
   | nil=>exact he
   | cons o l=>
     simp only [aj3] at he ⊢;split at he
     ·cases he
     ·exact ih l he
     ·split at he
      ·rename_i v H1 h1;rw [ana h h1];exact ih l he
      ·cases he
theorem a7f {C:aca} {c c':lc} {p p':aue} (h:Le c c') (k:PLe p p') {base:Nat} {ops:List AOper} {chk:List (Nat × Nat)} {fr:List V} {H:Heap} {r:aae} (he:bdi c p base C ops chk fr H r):bdi c' p' base C ops chk fr H r:=by
 obtain ⟨h0,⟨i,v,args,H1,h1,h2⟩,h3⟩:=he;exact ⟨h0,⟨i,v,args,H1,aq7 h i ops h1,k _ _ _ _ _ h2⟩,h3⟩
theorem ax1 {b b':List V→Heap→Option St} {x x':List V→Heap→aae→Prop} (hb:∀ fr H r,b fr H=some r→b' fr H=some r) (hx:∀ fr H r,x fr H r→x' fr H r) {kill:List Nat} {m:Nat} {fr:List V} {H:Heap} {r:aae} (h:PanL b x kill m fr H r):PanL b' x' kill m fr H r:=by
 induction h with
 | here h=>exact .here (hx _ _ _ h)
 | next h _ ih=>exact .next (hb _ _ _ h) ih
theorem ami {C:aca} {c c':lc} {p p':aue} (h:Le c c') (k:PLe p p') {n n':Nat} (hn:n≤n') {base:Nat}:∀ (ac:ACode) {fr:List V} {H:Heap} {r:aae},abd c p (itN n) base C ac fr H r→abd c' p' (itN n') base C ac fr H r:=by
 intro ac
 induction ac with
 | region ops chk kill=>intro fr H r he;exact a7f h k he
 | seq a b iha ihb=>
   intro fr H r he
   rcases he with he | ⟨fr1,H1,h1,h2⟩
   ·exact .inl (iha he)
   ·exact .inr ⟨fr1,H1,ahu h hn a h1,ihb h2⟩
 | cond o a b iha ihb=>
   intro fr H r he
   rcases he with ⟨h1,h2⟩ | ⟨h1,h2⟩
   ·exact .inl ⟨h1,iha h2⟩
   ·exact .inr ⟨h1,ihb h2⟩
 | block id a ih=>intro fr H r he;exact ih (fr:=fr) he
 | loop kill a ih=>intro fr H r he;exact ax1 (fun fr H r e=>ahu h hn a e) (fun fr H r e=>ih e) he
 | _=>intro fr H r he;exact he.elim
theorem ax0:∀ n,PLe (a0t CP PP X n) (a0t CP PP X (n+1)):=by
 intro n
 induction n with
 | zero=>intro v args base H r h;exact h.elim
 | succ n ih=>
   intro v args base H r h;obtain ⟨f,fst,cap,e,h⟩:=h;refine ⟨f,fst,cap,e,?_⟩
   rcases h with ⟨hX,c,hc,h⟩ | h
   ·exact .inl ⟨hX,c,hc,ami (ahg n) ih (aih n) c.body h⟩
   ·exact .inr h
theorem amh {n m:Nat} (h:n≤m):PLe (a0t CP PP X n) (a0t CP PP X m):=by
 induction h with
 | refl=>exact fun _ _ _ _ _ h=>h
 | step _ ih=>exact fun v args base H r h=>ax0 _ _ _ _ _ _ (ih _ _ _ _ _ h)
def anq (CP:Nat→Option CFun) (PP:Nat→List V→Nat→Heap→aae→Prop) (X:Nat→Bool):aue:=fun v args base H r=>∃ n,a0t CP PP X n v args base H r
theorem ax7 {base:Nat}:∀ (i:Nat) (l:List AOper) {fr:List V} {H:Heap} {r:V × List V × Heap},aj3 (fe CP) base i l fr H=some r→∃ n,aj3 (xc CP n) base i l fr H=some r:=by
 intro i
 induction i with
 | zero=>intro l fr H r he;refine ⟨0,?_⟩;cases l <;> exact he
 | succ i ih=>
   intro l fr H r he;cases l with
   | nil=>exact ⟨0,he⟩
   | cons o l=>
     simp only [aj3] at he;split at he
     ·cases he
     ·rename_i hw;obtain ⟨n,hn⟩:=ih l he;refine ⟨n,?_⟩;simp only [aj3,hw];exact hn
     ·rename_i hw;split at he
      ·rename_i v H1 h1;obtain ⟨n1,hn1⟩:=apj h1;obtain ⟨n2,hn2⟩:=ih l he;refine ⟨max n1 n2,?_⟩;simp only [aj3,hw];rw [ana (vg (o7 n1 n2)) hn1];exact aq7 (vg (kr n1 n2)) i l hn2
      ·cases he
theorem aos {C:aca} {base:Nat}:∀ (ac:ACode) {fr:List V} {H:Heap} {r:aae},abd (fe CP) (anq CP PP X) itW base C ac fr H r→∃ n,abd (xc CP n) (a0t CP PP X n) (itN n) base C ac fr H r:=by
 intro ac
 induction ac with
 | region ops chk kill=>
   intro fr H r he;obtain ⟨h0,⟨i,v,args,H1,h1,n2,h2⟩,h3⟩:=he;obtain ⟨n1,hn1⟩:=ax7 i ops h1;exact ⟨max n1 n2,h0,⟨i,v,args,H1,aq7 (vg (o7 n1 n2)) i ops hn1,amh (kr n1 n2) _ _ _ _ _ h2⟩,h3⟩
 | seq a b iha ihb=>
   intro fr H r he
   rcases he with he | ⟨fr1,H1,h1,h2⟩
   ·obtain ⟨n,hn⟩:=iha he;exact ⟨n,.inl hn⟩
   ·obtain ⟨n1,hn1⟩:=yh a h1;obtain ⟨n2,hn2⟩:=ihb h2;exact ⟨max n1 n2,.inr ⟨fr1,H1,yw (o7 n1 n2) hn1,ami (vg (kr n1 n2)) (amh (kr n1 n2)) (kr n1 n2) b hn2⟩⟩
 | cond o a b iha ihb=>
   intro fr H r he
   rcases he with ⟨h1,h2⟩ | ⟨h1,h2⟩
   ·obtain ⟨n,hn⟩:=iha h2;exact ⟨n,.inl ⟨h1,hn⟩⟩
   ·obtain ⟨n,hn⟩:=ihb h2;exact ⟨n,.inr ⟨h1,hn⟩⟩
 | block id a ih=>intro fr H r he;exact ih (fr:=fr) he
 | loop kill a ih=>
   intro fr H r he;have he:PanL (fun fr H=>evC (fe CP) itW base a fr H) (fun fr H r=>abd (fe CP) (anq CP PP X) itW base C a fr H r) kill H.length (oq kill fr) H r:=he
   suffices h:∀ m fr H r,PanL (fun fr H=>evC (fe CP) itW base a fr H) (fun fr H r=>abd (fe CP) (anq CP PP X) itW base C a fr H r) kill m fr H r→∃ n,PanL (fun fr H=>evC (xc CP n) (itN n) base a fr H) (fun fr H r=>abd (xc CP n) (a0t CP PP X n) (itN n) base C a fr H r) kill m fr H r from h _ _ _ _ he
   intro m fr H r he
   induction he with
   | here h=>obtain ⟨n,hn⟩:=ih h;exact ⟨n,.here hn⟩
   | next h _ ih2=>
     obtain ⟨n1,hn1⟩:=yh a h;obtain ⟨n2,hn2⟩:=ih2
     refine ⟨max n1 n2,.next (yw (o7 n1 n2) hn1) (ax1 (fun fr H r e=>?_) (fun fr H r e=>?_) hn2)⟩
     ·exact yw (kr n1 n2) e
     ·exact ami (vg (kr n1 n2)) (amh (kr n1 n2)) (kr n1 n2) a e
 | _=>intro fr H r he;exact he.elim
theorem aax {f:Nat} {c:ACFun} (hX:X f=true) (hf:CP f=some (.code c)) {fst args cap:List V} (hl:(fst ++ args ++ cap).length≤c.ntmps) {base:Nat} {H:Heap} {r:aae}
 (h:abd (fe CP) (anq CP PP X) itW base (fun _ _=>True) c.body (gq c.ntmps (qa c.ntmps (fst ++ args ++ cap) 0)) H r):anq CP PP X (.fn f fst cap) args base H r:=by
 obtain ⟨n,hn⟩:=aos c.body h;refine ⟨n+1,f,fst,cap,rfl,.inl ⟨hX,c,hf,?_⟩⟩;rw [start_eq hl];exact hn
theorem axz {f:Nat} {fst args cap:List V} {base:Nat} {H:Heap} {r:aae} (h:PP f (fst ++ args ++ cap) base H r):anq CP PP X (.fn f fst cap) args base H r:=⟨1,f,fst,cap,rfl,.inr h⟩
theorem fo {C:aca} {call:lc} {pan:aue} {it:yo} {base:Nat} {a b:ACode} {fr fr1:List V} {H H1:Heap} {r:aae} (h:evC call it base a fr H=some (.nrm,fr1,H1)) (k:abd call pan it base C b fr1 H1 r):abd call pan it base C (.seq a b) fr H r:=.inr ⟨_,_,h,k⟩
theorem l8 {C:aca} {call:lc} {pan:aue} {it:yo} {base:Nat} {a b:ACode} {fr:List V} {H:Heap} {r:aae} (h:abd call pan it base C a fr H r):abd call pan it base C (.seq a b) fr H r:=.inl h
end
open Go.RowKit
section
variable {P:Program} {pure':PX} {CP:Nat→Option CFun}
theorem acg {F:Fence} {n:Nat} {ops:Array Oper} {Q:Exit→Act→World→Prop} {i:Nat} {rest:List Nat} {a:Act} {w:World} {o:Oper} (ho:ops[i]?=some o) (hg:o.guard=none) (h:o.wpIn F n P a w (wpOpsIn F n P ops Q rest) Q):wpOpsIn F n P ops Q (i :: rest) a w:=by
 rw [wpOpsIn_cons];unfold wpOpIn;simp only [ho]
 rw [cu (by simp [Region.wanted,hg])]
 exact h
theorem a6d {μ:Mu} {Mt:Nat→Prop} {w:World} {fr:List V} {t:Array Value} (h:FR μ Mt w fr t):t.size=fr.length:=by
 have:=h.1
 simpa using this.symm
theorem amy {CC:CX} {μ μ':Mu} {Mt Mt':Nat→Prop} {w w':World} {H H':Heap} {a:Act} {o:Oper} {d:Nat} {v:V} {r:Value} {fr:List V} (h:HR CC μ Mt w H) (p:Post CC μ Mt w H μ' Mt' w' H') (hf:FR μ Mt w fr a.tmps) (hd:o.dst=some d) (hv:VR μ' Mt' w' v r):FR μ' Mt' w' (put (some d) v fr) (a.put o.dst r).tmps:=by
 rw [hd];exact (hf.post h p).put (some d) hv
theorem a4c (hmix:P.follows .mixedOrders=true) (hCP:∀ k c,CP k=some c→abf P pure' k c) {k kn m id:Nat} {fn:Func} {o0 o1 o2 o3 o4:Oper} {Tf:TypeId} {z:List V}
 (hf : P.funcs[k]? = some fn) (hb : fn.body = some (.region id #[o0, o1, o2, o3, o4] false)) (hnm : (fn.name == "runtime.NumGoroutine") = false) (hnt : fn.ntmps = 6)
 (c0:xw P pure'.b o0=some (.move (.t 0))) (d0:o0.dst=some 2) (g0:o0.guard=none)
 (c1:xw P pure'.b o1=some (.call (.c (.fn kn [] [])) [.t 2])) (d1:o1.dst=some 3) (g1:o1.guard=none)
 (c2:xw P pure'.b o2=some (.build z [(0,m)] [(0,.t 3)])) (hz:z.length=m) (d2:o2.dst=some 4) (g2:o2.guard=none)
 (e3:o3.op=.makeInterface Tf (.tmp 4)) (d3:o3.dst=some 5) (g3:o3.guard=none) (hTf:P.concrete Tf=true)
 (e4:o4.op=.panic (.tmp 5)) (g4:o4.guard=none):
 ∀ (vs:List V) (base:Nat) (H:Heap) (r:aae),(∃ v cs H1 n,vs=[v]∧xc CP n (.fn kn [] []) [v] base H=some (.agg cs,H1)∧cs.length=m∧cs.all V.one=true∧r=(Tf,.agg cs,H1))→
   Floor base H r.2.2∧(∀ xs w,(callFunc k xs).run P w=.ok (.enter k xs) w)∧
   ∀ μ Mt w cs,HR (CR P pure') μ Mt w H→VRs μ Mt w vs cs→∀ n,CallsIn Fence.wide n P k cs.toArray w (fun e w'=>∃ ch,e=.panicked ch∧baj (CR P pure') μ Mt w H r ch w'):=by
 rintro vs base H r ⟨v,cs,H1,n,rfl,hcall,hlen,hall,rfl⟩;have hs:=aa6 hmix hCP n;refine ⟨hs.floor _ _ _ _ _ _ hcall,Go.Proofs.enters_of hf hnm hb,fun μ Mt w cvs h hvs nn=>?_⟩
 obtain ⟨cv,rfl⟩:∃ cv,cvs=[cv]:=by
  have:=hvs.1
  match cvs,this with
  | [x],_=>exact ⟨x,rfl⟩
 refine callsIn_of_wp_marks hf hb trivial (wpIn_region ?_);have hv0:VR μ Mt w v cv:=hvs.2 0 v cv rfl rfl;obtain ⟨a0,ha0⟩:∃ a0:Act,{ tmps:=[cv].toArray ++ Array.replicate (fn.ntmps - [cv].toArray.size) Go.undef,defers:=[] }=a0:=⟨_,rfl⟩
 have hf0:FR μ Mt w [v,und,und,und,und,und] a0.tmps:=by
  unfold FR;have:=hvs.append (aaa (μ:=μ) (Mt:=Mt) (w:=w) 5);rw [← ha0,hnt]
  simpa using this
 have hd0:a0.defers=[]:=by rw [← ha0]
 rw [ha0];show wpOpsIn (Fw none) nn P #[o0,o1,o2,o3,o4] _ [0,1,2,3,4] a0 w;refine acg (o:=o0) rfl g0 (abw hs h hf0 (.inl c0) (base:=base) (v:=v) (H':=H) rfl ?_);rintro r0 w0 ⟨q0,μ0,Mt0,E0,V0,p0⟩;cases E0;have f1:FR μ0 Mt0 w0 [v,und,v,und,und,und] (a0.put o0.dst r0).tmps:=amy h p0 hf0 d0 V0;obtain ⟨a1,ha1⟩:∃ a1,a0.put o0.dst r0=a1:=⟨_,rfl⟩;rw [ha1] at f1 ⊢;refine acg (o:=o1) rfl g1 (abw hs p0.hr f1 (.inl c1) (base:=base) (v:=.agg cs) (H':=H1) hcall ?_);rintro r1 w1 ⟨q1,μ1,Mt1,E1,V1,p1⟩;cases E1;have f2:FR μ1 Mt1 w1 [v,und,v,.agg cs,und,und] (a1.put o1.dst r1).tmps:=amy p0.hr p1 f1 d1 V1;obtain ⟨a2,ha2⟩:∃ a2,a1.put o1.dst r1=a2:=⟨_,rfl⟩;rw [ha2] at f2 ⊢
 have hbd:jf (xc CP n) base [v,und,v,.agg cs,und,und] H1 (.build z [(0,m)] [(0,.t 3)])=some (.agg cs,H1):=by
  have hsp:splice z 0 cs=cs:=by
   unfold splice
   rw [eu,dh,og (by omega),zm]
  simp only [jf,ou,ac0,aah,ev,ig,gp,List.getElem?_cons_zero,V.cells,hlen,hz,hall,j6,af,nk,ja,hsp]
 refine acg (o:=o2) rfl g2 (abw hs p1.hr f2 (.inl c2) (base:=base) (v:=.agg cs) (H':=H1) hbd ?_);rintro r2 w2 ⟨q2,μ2,Mt2,E2,V2,p2⟩;cases E2;have f3:FR μ2 Mt2 w2 [v,und,v,.agg cs,.agg cs,und] (a2.put o2.dst r2).tmps:=amy p1.hr p2 f2 d2 V2;obtain ⟨a3,ha3⟩:∃ a3,a2.put o2.dst r2=a3:=⟨_,rfl⟩;rw [ha3] at f3 ⊢
 have hd3:a3.defers=[]:=by rw [← ha3,put_defers,← ha2,put_defers,← ha1,put_defers,hd0]
 refine acg (o:=o3) rfl g3 ⟨fun _ _=>trivial,?_⟩
 rw [Oper.semAt_eq _ _ _ (by simp [e3])]
 have hx3:∀ (a:Act) (w:World),(execOp a.eval o3).run P w=.ok (.value (.iface Tf (a.eval (.tmp 4)))) w:=by
  intro a w;unfold execOp;simp only [e3,Sem.run_bind,run_makeInterface w Tf _ hTf,Result.andThen_ok,Sem.run_pure]
 rw [hx3];show wpOpsIn (Fw none) nn P #[o0,o1,o2,o3,o4] _ [4] (a3.put o3.dst _) w2;refine acg (o:=o4) rfl g4 ⟨fun _ _=>trivial,?_⟩
 rw [Oper.semAt_eq _ _ _ (by simp [e4])]
 have hx4:∀ (a:Act) (w:World) (T:TypeId) (x:Value),a.eval (.tmp 5)=.iface T x→(execOp a.eval o4).run P w=.halt (.panic (.iface T x)) w:=by
  intro a w T x hx;unfold execOp;simp only [e4,hx,Sem.run_bind,run_panic_iface];rfl
 have hsz:=a6d f3;simp only [bi,ib] at hsz
 rw [hx4 _ _ Tf (a3.eval (.tmp 4)) (by rw [d3];simp [Act.eval,Act.put,hsz])]
 show LeavesInM Fence.wide nn P fn _ _ (a3.put o3.dst _).defers _ w2;rw [put_defers,hd3];exact ⟨_,rfl,_,μ2,Mt2,rfl,f3.getD 4,(p0.trans p1).trans p2⟩
end
open Go.RowKit
section
variable {CC:CX} {μ μ':Mu} {Mt Mt':Nat→Prop} {w w':World} {H H':Heap} {P:Program} {pure':PX} {call:lc}
def afa:Code→Bool
 | .skip=>true
 | .label _=>true
 | .region _ _ _=>true
 | .seq a b=>afa a && afa b
 | .cond _ a b=>afa a && afa b
 | .ret=>true
 | .exit _=>true
 | _=>false
theorem ant.kill {ds:List Deferred} {fr':List V} {a':Act} (kill:List Nat) (h:ant CC μ Mt w H ds fr' H' a' w'):ant CC μ Mt w H ds (oq kill fr') H' a' w':=by
 obtain ⟨μ',Mt',h1,h2,h3⟩:=h;exact ⟨μ',Mt',h1,h2.kill kill,h3⟩
theorem ant.trans {μ1:Mu} {Mt1:Nat→Prop} {w1:World} {H1:Heap} {ds ds1:List Deferred} {fr':List V} {a':Act} (hp:Post CC μ Mt w H μ1 Mt1 w1 H1) (hd:ds1=ds) (h:ant CC μ1 Mt1 w1 H1 ds1 fr' H' a' w'):ant CC μ Mt w H ds fr' H' a' w':=by
 obtain ⟨μ',Mt',h1,h2,h3⟩:=h;exact ⟨μ',Mt',hp.trans h1,h2,h3.trans hd⟩
theorem af3 (hs:SimCall P (CR P pure') call) (hmix:P.follows .mixedOrders=true) (nn base:Nat) {c:Code} {ac:ACode} (hc:CodeR P pure' c ac) (hfl:afa c=true):
 ∀ (ro:Option Nat) (n:Nat) (fr:List V) (H:Heap) (e:Ex) (fr':List V) (H':Heap),evC call (fun b k m=>qy b k m nn) base ac fr H=some (e,fr',H')→∀ (μ:Mu) (Mt:Nat→Prop) (w:World) (a:Act) (Q:Exit→Act→World→Prop),HR (CR P pure') μ Mt w H→FR μ Mt w fr a.tmps→
   (∀ a' w',ant (CR P pure') μ Mt w H a.defers fr' H' a' w'→Q (bei e) a' w')→c.wpIn (Fw ro) n P Q a w:=by
 induction hc with
 | skip=>
   intro ro n fr H e fr' H' hev μ Mt w a Q h hf hQ;simp only [evC] at hev;cases hev;exact wpIn_skip (hQ a w ⟨μ,Mt,Post.refl h,hf,rfl⟩)
 | label l=>
   intro ro n fr H e fr' H' hev μ Mt w a Q h hf hQ;simp only [evC] at hev;cases hev;exact wpIn_label (hQ a w ⟨μ,Mt,Post.refl h,hf,rfl⟩)
 | exit id=>
   intro ro n fr H e fr' H' hev μ Mt w a Q h hf hQ;simp only [evC] at hev;cases hev;exact wpIn_exit (hQ a w ⟨μ,Mt,Post.refl h,hf,rfl⟩)
 | ret=>
   intro ro n fr H e fr' H' hev μ Mt w a Q h hf hQ;simp only [evC] at hev;cases hev;exact wpIn_ret (hQ a w ⟨μ,Mt,Post.refl h,hf,rfl⟩)
 | block=>cases hfl
 | loop=>cases hfl
 | rangeFunc=>cases hfl
 | region id ops draw l chk kill hr hd=>
   intro ro n fr H e fr' H' hev μ Mt w a Q h hf hQ;simp only [evC] at hev;split at hev
   ·rename_i fr1 H1 h1;split at hev
    ·rename_i hchk;cases hev;cases draw with
     | false=>
       refine wpIn_region ?_
       have:=ama (Q:=Q) (ro:=ro) (n:=n) hs hr ops.size 0 fr H a w μ Mt (by omega) h hf (by simpa using h1) (fun a' w' hq=>hQ a' w' (hq.kill kill))
       simpa using this
     | true=>exact wpIn_region_any hmix (ai8 hs hr (hd rfl) h1 hchk h hf fun a' w' hq=>hQ a' w' (hq.kill kill))
    ·cases hev
   ·cases hev
 | regionE id ops draw l kill outs hr hd=>
   intro ro n fr H e fr' H' hev μ Mt w a Q h hf hQ;simp only [evC] at hev;split at hev
   ·rename_i f2 h2;cases hev;obtain ⟨f1,h1,rfl⟩:=ab6 (call:=call) (base:=base) h2;cases draw with
    | false=>
      refine wpIn_region ?_
      have:=ama (Q:=Q) (ro:=ro) (n:=n) hs hr ops.size 0 fr H a w μ Mt (by omega) h hf (by simpa using h1) (fun a' w' hq=>hQ a' w' (hq.kill kill))
      simpa using this
    | true=>exact wpIn_region_any hmix (ai8 hs hr (hd rfl) h1 rfl h hf fun a' w' hq=>hQ a' w' (hq.kill kill))
   ·cases hev
 | regionP id ops π l chk kill hp hr hd=>
   intro ro n fr H e fr' H' hev μ Mt w a Q h hf hQ;simp only [evC] at hev;split at hev
   ·rename_i fr1 H1 h1;split at hev
    ·rename_i hchk;cases hev;exact wpIn_region_any hmix (aas hp (ai8 hs hr hd h1 hchk h hf fun a' w' hq=>hQ a' w' (hq.kill kill)))
    ·cases hev
   ·cases hev
 | regionPE id ops π l kill outs hp hr hd=>
   intro ro n fr H e fr' H' hev μ Mt w a Q h hf hQ;simp only [evC] at hev;split at hev
   ·rename_i f2 h2;cases hev;obtain ⟨f1,h1,rfl⟩:=ab6 (call:=call) (base:=base) h2;exact wpIn_region_any hmix (aas hp (ai8 hs hr hd h1 rfl h hf fun a' w' hq=>hQ a' w' (hq.kill kill)))
   ·cases hev
 | seq x y ax ay _ _ ihx ihy=>
   intro ro n fr H e fr' H' hev μ Mt w a Q h hf hQ;simp only [afa,ak] at hfl;simp only [evC] at hev;split at hev
   ·rename_i fr1 H1 h1;refine wpIn_seq (ihx hfl.1 ro n _ _ _ _ _ h1 μ Mt w a _ h hf ?_);rintro a1 w1 ⟨μ1,Mt1,p1,f1,d1⟩;exact ihy hfl.2 ro n _ _ _ _ _ hev μ1 Mt1 w1 a1 Q p1.hr f1 fun a2 w2 hq=>hQ a2 w2 (ant.trans p1 d1 hq)
   ·rename_i hne;refine wpIn_seq (ihx hfl.1 ro n _ _ _ _ _ hev μ Mt w a _ h hf ?_);intro a1 w1 h1;have:=hQ a1 w1 h1;cases e with
    | nrm=>exact (hne _ _ hev).elim
    | ext id=>exact this
    | ret=>exact this
 | cond c o x y ax ay hco _ _ ihx ihy=>
   intro ro n fr H e fr' H' hev μ Mt w a Q h hf hQ;simp only [afa,ak] at hfl;simp only [evC] at hev;have hv:=jm hf hco;split at hev
   ·rename_i he;rw [he] at hv;exact wpIn_cond_true (yg hv) (ihx hfl.1 ro n _ _ _ _ _ hev μ Mt w a Q h hf hQ)
   ·rename_i he;rw [he] at hv;exact wpIn_cond_false (yg hv) (ihy hfl.2 ro n _ _ _ _ _ hev μ Mt w a Q h hf hQ)
   ·cases hev
theorem bca [BtOk CC P] (h:HR CC μ Mt w H) {a:Act} {fr:List V} (hf:FR μ Mt w fr a.tmps) {o:Oper} {ao:AOp} {base:Nat} {v:V} (hc:ast P pure' o ao) (hnc:ao.isCall=false) (hev:jf call base fr H ao=some (v,H')):
 ∃ cv w1,((execOp a.eval o).run P w=.ok (.value cv) w1∨((execOp a.eval o).run P w=.ok .skip w1∧cv=Go.undef))∧ann CC μ Mt w H v H' (.returned cv) w1:=by
 have key:∀ (ao':AOp) (b:Nat),xw P pure' o=some ao'→ao'.isCall=false→jf call b fr H ao'=some (v,H')→∃ cv w1,((execOp a.eval o).run P w=.ok (.value cv) w1∨((execOp a.eval o).run P w=.ok .skip w1∧cv=Go.undef))∧ann CC μ Mt w H v H' (.returned cv) w1:=by
  intro ao' b h2 hn he
  rcases p8 h2 with ⟨g,args,ats,xs',y,ho,_,_,⟨k,_,e⟩ | e⟩ | ⟨hc',hn',hnd⟩
  ·rw [e] at hn;cases hn
  ·rw [e] at hn;cases hn
  ·obtain ⟨cv,w1,μ1,Mt1,hr,hvr,hp⟩:=ajb h hf hc' hn' he
   rcases hr with hr | ⟨hr,rfl⟩
   ·exact ⟨cv,w1,.inl hr,cv,μ1,Mt1,rfl,hvr,hp⟩
   ·exact ⟨_,w1,.inr ⟨hr,rfl⟩,_,μ1,Mt1,rfl,hvr,hp⟩
 rcases hc with hc | ⟨f',xs',hc,e⟩ | ⟨k,xs',hc,e⟩ | ⟨sz,b,s,x,hc,e⟩ | e
 ·exact key _ base hc hnc hev
 ·rw [e] at hnc;cases hnc
 ·rw [e] at hnc;cases hnc
 ·subst e;exact key (.append sz b s x) H.length hc rfl hev
 ·subst e;cases hev
theorem a2j [BtOk CC P] {ops:Array Oper} {l:List AOper} (hr:ap0 P pure' ops l) {base n:Nat} {Q:Exit→Act→List Frame→World→Prop} {cs:List Frame} {fr':List V} {H':Heap}:
 ∀ (j k:Nat) (fr:List V) (H:Heap) (a:Act) (w:World) (μ:Mu) (Mt:Nat→Prop),j+k=ops.size→(∀ i,k≤i→i < l.length→(l.getD i default).op.isCall=false)→HR CC μ Mt w H→FR μ Mt w fr a.tmps→jl call base (l.drop k) fr H=some (fr',H')→
   (∀ a' w',ant CC μ Mt w H a.defers fr' H' a' w'→Q .normal a' cs w')→wpOpsSIn Fence.wide n P ops Q ((List.range ops.size).drop k) a cs w:=by
 intro j
 induction j with
 | zero=>
   intro k fr H a w μ Mt hk _ h hf hev hQ
   have hk':k=ops.size:=by omega
   subst hk'
   rw [ul (by simp)]
   rw [ul (by rw [hr.1];exact af _)] at hev
   cases hev;exact hQ a w ⟨μ,Mt,Post.refl h,hf,rfl⟩
 | succ j ih=>
   intro k fr H a w μ Mt hk hno h hf hev hQ
   have hlt:k < ops.size:=by omega
   have hltl:k < l.length:=by rw [hr.1];exact hlt
   have e1:(List.range ops.size).drop k=k :: (List.range ops.size).drop (k+1):=by
    rw [d9 (by simpa using hlt)];simp
   rw [e1];rw [d9 hltl] at hev;have ho:ops[k]?=some ops[k]:=Array.getElem?_eq_getElem hlt;obtain ⟨hd,hc,hg⟩:=hr.2 k ops[k] l[k] ho (List.getElem?_eq_getElem hltl)
   have hnk:l[k].op.isCall=false:=by
    have:=hno k (af _) hltl
    rwa [ze (List.getElem?_eq_getElem hltl)] at this
   simp only [wpOpsSIn,ho];refine ⟨fun _ _=>trivial,?_⟩;simp only [jl] at hev;split at hev
   ·cases hev
   ·rename_i hw;rw [yf hg hf hw];simp only [ko,mo]
    refine ih (k+1) _ H _ w μ Mt (by omega) (fun i h1 h2=>hno i (by omega) h2) h (hd ▸ hf.put _ (.s _)) hev (fun a' w' hq=>hQ a' w' ?_)
    rw [put_defers] at hq;exact hq
   ·rename_i hw;rw [yf hg hf hw];simp only [ja];split at hev
    ·rename_i v H1 hop;obtain ⟨cv,w1,hrun,c',μ1,Mt1,e,hv,hp⟩:=bca (call:=call) h hf hc hnk hop;cases e
     have next:wpOpsSIn Fence.wide n P ops Q ((List.range ops.size).drop (k+1)) (a.put ops[k].dst cv) cs w1:=by
      refine ih (k+1) _ H1 _ w1 μ1 Mt1 (by omega) (fun i h1 h2=>hno i (by omega) h2) hp.hr (hd ▸ (hf.post h hp).put _ hv) hev (fun a' w' hq=>hQ a' w' ?_)
      rw [put_defers] at hq;exact ant.trans hp rfl hq
     rcases hrun with hrun | ⟨hrun,rfl⟩
     ·rw [hrun];exact next
     ·rw [hrun];exact next
    ·cases hev
inductive RecC (Tf:TypeId) (z:V) (μ:Mu) (Mt:Nat→Prop) (w:World):FrameMode→FrameMode→V→Prop
 | pan (x:V) (c:Value) (h:VR μ Mt w x c):RecC Tf z μ Mt w (.panicking [{ v:=.iface Tf c,recovered:=false }]) (.panicking [{ v:=.iface Tf c,recovered:=true }]) (.tup [x,.s (.bool true)])
 | nil:RecC Tf z μ Mt w .returning .returning (.tup [z,.s (.bool false)])
variable {CP:Nat→Option CFun}
theorem a7k (hmix:P.follows .mixedOrders=true) (hCP:∀ k c,CP k=some c→abf P pure' k c) {k id0 r0 r1 N:Nat} {fn:Func} {c2:Code} {ac2:ACode} {ops0:Array Oper} {l0:List AOper} {xT Tf:TypeId} {oR oA:Oper} {ats:Array TypeId}
 (hf:P.funcs[k]?=some fn) (hb:fn.body=some (.seq (.region id0 ops0 false) c2)) (hres:fn.results=#[]) (hnt:fn.ntmps=N)
 (hreg:ap0 P pure' ops0 l0) (hc2:CodeR P pure' c2 ac2) (hfl:afa c2=true) (hno:∀ i,2≤i→i < l0.length→(l0.getD i default).op.isCall=false)
 (hR:ops0[0]?=some oR) (eR:oR.op=.call { callee:=.builtin .recover,args:=#[],argTypes:=ats }) (dR:oR.dst=some r0) (gR:oR.guard=none)
 (hA:ops0[1]?=some oA) (eA:oA.op=.typeAssert (.tmp r0) xT Tf true) (dA:oA.dst=some r1) (gA:oA.guard=none) (hr0:r0 < N)
 (hok:∀ (v:Value) (w:World),(Instr.typeAssert (.iface Tf v) xT Tf true).run P w=.ok (.tuple #[v,.bool true]) w)
 {z:V} {zv:Value} (hnil:∀ (w:World),(Instr.typeAssert .nilIface xT Tf true).run P w=.ok (.tuple #[zv,.bool false]) w) (hz:∀ (μ:Mu) (Mt:Nat→Prop) (w:World),VR μ Mt w z zv)
 {u u':FrameMode} {y:V} {μ:Mu} {Mt:Nat→Prop} {w:World} {H:Heap} (h:HR (CR P pure') μ Mt w H) {vs:List V} {cs:List Value} (hvs:VRs μ Mt w vs cs) (hvl:vs.length≤N) (hu:RecC Tf z μ Mt w u u' y)
 {n base:Nat} {fr3 fr4:List V} {H3 H4:Heap} (h3:jl (xc CP n) base (l0.drop 2) (put (some r1) y (put (some r0) .unk (vs ++ List.replicate (N - vs.length) und))) H=some (fr3,H3))
 (h4:evC (xc CP n) (fun b k m=>qy b k m n) base ac2 fr3 H3=some (.nrm,fr4,H4)) {m:Nat} {R:Ending→FrameMode→World→Prop} (hQ:∀ v μ' Mt' w',Post (CR P pure') μ Mt w H μ' Mt' w' H4→R (.returned v) u' w'):
 CallsDIn Fence.wide m P k cs.toArray u w R:=by
 have hs:=aa6 hmix hCP n;refine callsDIn_of_wpSIn hf hb trivial fun c0 cs0 hc0=>wpSIn_seq (wpSIn_region ?_);obtain ⟨a0,ha0⟩:∃ a0:Act,{ tmps:=cs.toArray ++ Array.replicate (fn.ntmps - cs.toArray.size) Go.undef,defers:=[] }=a0:=⟨_,rfl⟩
 have hd0:a0.defers=[]:=by rw [← ha0]
 have hf0:FR μ Mt w (vs ++ List.replicate (N - vs.length) und) a0.tmps:=by
  unfold FR;have:=hvs.append (aaa (μ:=μ) (Mt:=Mt) (w:=w) (N - vs.length));rw [← ha0,hnt];simp only [aep,acb,mh];rw [hvs.1] at this ⊢;exact this
 rw [ha0];have hlA:1 < ops0.size:=(Array.getElem?_eq_some_iff.1 hA).1;have hlA2:2≤ops0.size:=hlA
 have er:List.range ops0.size=0 :: 1 :: (List.range ops0.size).drop 2:=by
  have e1:List.range ops0.size=(List.range ops0.size).drop 0:=rfl
  rw [d9 (by simp;omega),d9 (by simp;omega)] at e1
  simpa using e1
 rw [er]
 have hrun0:∀ (a:Act) (w:World),(execOp a.eval oR).run P w=.ok .recover w:=by
  intro a w;unfold execOp;simp only [eR,resolve,Sem.run_bind,Sem.run_pure,Result.andThen_ok,invoke,Go.builtin]
 have tail:∀ (v0:Value) (y0:Value) (cs1:List Frame),cs1={ c0 with mode:=u' } :: cs0→VR μ Mt w y y0→wpOpsSIn Fence.wide m P ops0 (Exit.thenS (c2.wpSIn Fence.wide m P (bodyPostS P fn c0 cs0 R)) (bodyPostS P fn c0 cs0 R)) ((List.range ops0.size).drop 2) ((a0.put oR.dst v0).put oA.dst y0) cs1 w:=by
  intro v0 y0 cs1 hcs hy
  have hfr:FR μ Mt w (put (some r1) y (put (some r0) .unk (vs ++ List.replicate (N - vs.length) und))) ((a0.put oR.dst v0).put oA.dst y0).tmps:=by
   rw [dR,dA];exact (hf0.put (some r0) (.unk _)).put (some r1) hy
  refine a2j (call:=xc CP n) hreg (ops0.size - 2) 2 _ H _ w μ Mt (by omega) hno h hfr h3 ?_
  rintro a1 w1 ⟨μ1,Mt1,p1,f1,d1⟩;rw [put_defers,put_defers,hd0] at d1;refine wpSIn_of_wpIn rfl ?_;refine af3 hs hmix n base hc2 hfl none m _ _ _ _ _ h4 μ1 Mt1 w1 a1 _ p1.hr f1 ?_;rintro a2 w2 ⟨μ2,Mt2,p2,f2,d2⟩
  obtain ⟨rv,hrv,_⟩:=acl (fn:=fn) (ars:=[]) (r:=.tup []) p2.hr f2 (by rw [hres];rfl) rfl
  exact ⟨by rw [d2,d1],u',hcs,rv,hrv,hQ rv μ2 Mt2 w2 (p1.trans p2)⟩
 have hx1:∀ (v0 y0:Value) (a:Act),a.tmps.size=N→(Instr.typeAssert v0 xT Tf true).run P w=.ok y0 w→(execOp (a.put oR.dst v0).eval oA).run P w=.ok (.value y0) w:=by
  intro v0 y0 a hsz hrun
  have hev:(a.put oR.dst v0).eval (.tmp r0)=v0:=by
   rw [dR];simp [Act.eval,Act.put,hsz,hr0]
  unfold execOp;simp only [eA,hev,Sem.run_bind,hrun,Result.andThen_ok,Sem.run_pure]
 have hsz:a0.tmps.size=N:=by
  rw [a6d hf0,bq,List.length_replicate];omega
 simp only [wpOpsSIn,hR,hA];refine ⟨fun _ _=>trivial,?_⟩
 rw [cu (by simp [Region.wanted,gR]),hrun0]
 cases hu with
 | pan x c hx=>
   have hrec:recoverD (c0 :: cs0)=some (.iface Tf c,{ c0 with mode:=.panicking [{ v:=.iface Tf c,recovered:=true }] } :: cs0):=by
    simp only [recoverD,hc0]
   simp only [hrec];refine ⟨fun _ _=>trivial,?_⟩
   rw [cu (by simp [Region.wanted,gA]),hx1 _ _ _ hsz (hok c w)]
   refine tail _ _ _ rfl (.tup _ _ rfl fun i p q hp hq=>?_)
   match i with
   | 0=>simp at hp hq;subst hp;subst hq;exact hx
   | 1=>simp at hp hq;subst hp;subst hq;exact .s _
   | i+2=>simp at hp
 | nil=>
   have hrec:recoverD (c0 :: cs0)=none:=by
    simp only [recoverD,hc0]
   simp only [hrec];refine ⟨fun _ _=>trivial,?_⟩
   rw [cu (by simp [Region.wanted,gA]),hx1 _ _ _ hsz (hnil w)]
   refine tail _ _ _ (by rw [← hc0]) (.tup _ _ rfl fun i p q hp hq=>?_)
   match i with
   | 0=>simp at hp hq;subst hp;subst hq;exact hz _ _ _
   | 1=>simp at hp hq;subst hp;subst hq;exact .s _
   | i+2=>simp at hp
end
open Go.RowKit
section
variable {CC:CX} {μ μ':Mu} {Mt Mt':Nat→Prop} {w w':World} {H H':Heap} {P:Program} {pure':PX} {CP:Nat→Option CFun} {PP:Nat→List V→Nat→Heap→aae→Prop} {X:Nat→Bool}
theorem afx {μ0:Mu} {Mt0:Nat→Prop} {w0:World} {H0:Heap} {fn:Func} {tmps:Array Value} {x:V} {c:Value} {frx:List V} {R:Ending→World→Prop} {n:Nat} {u:FrameMode} {ds:List Deferred} (hu:u≠.run)
 (hfin:∀ w',Post CC μ0 Mt0 w0 H0 μ Mt w' H→FR μ Mt w' frx tmps→VR μ Mt w' x c→LeavesInM Fence.wide n P fn tmps R ds u w'):
 ∀ (L:List Nat) (w:World),Post CC μ0 Mt0 w0 H0 μ Mt w H→FR μ Mt w frx tmps→VR μ Mt w x c→L.Nodup→(∀ D∈L,w0.heap.size≤D∧w.heap[D]?=some (.deferred (some []))∧∀ id g b,μ id g≠some (D,b))→
   LeavesInM Fence.wide n P fn tmps R (L.map atf ++ ds) u w:=by
 intro L
 induction L with
 | nil=>intro w hp hf hv _ _;exact hfin w hp hf hv
 | cons D L ih=>
   intro w hp hf hv hnd hL;obtain ⟨h1,h2,h3⟩:=hL D dn;refine ⟨hu,.inl ⟨D,_,rfl,run_takeDeferred h2,?_⟩⟩;obtain ⟨p1,hk⟩:=aja (y:=none) hp h1 h2 h3;refine ih _ p1 ⟨hf.1,fun i a b ha hb=>hk (hf.2 i a b ha hb)⟩ (hk hv) (abq.1 hnd).2 (fun E hE=>?_);obtain ⟨k1,k2,k3⟩:=hL E (bz _ hE)
   have hne:E≠D:=fun e=>by subst e;exact (abq.1 hnd).1 hE
   exact ⟨k1,(World.putObj_heap_other hne).trans k2,k3⟩
def bdj (P:Program) (pure':PX) (CP:Nat→Option CFun) (k r0 r1 N:Nat) (Tf:TypeId) (z:V) (l0:List AOper) (ac2:ACode):Prop:=
 (∀ xs w,(callFunc k xs).run P w=.ok (.enter k xs) w)∧
 ∀ {u u':FrameMode} {y:V} {μ:Mu} {Mt:Nat→Prop} {w:World} {H:Heap},HR (CR P pure') μ Mt w H→∀ {vs:List V} {cs:List Value},VRs μ Mt w vs cs→vs.length≤N→RecC Tf z μ Mt w u u' y→
   ∀ {n base:Nat} {fr3 fr4:List V} {H3 H4:Heap},jl (xc CP n) base (l0.drop 2) (put (some r1) y (put (some r0) .unk (vs ++ List.replicate (N - vs.length) und))) H=some (fr3,H3)→
   evC (xc CP n) (fun b k m=>qy b k m n) base ac2 fr3 H3=some (.nrm,fr4,H4)→∀ {m:Nat} {R:Ending→FrameMode→World→Prop},(∀ v μ' Mt' w',Post (CR P pure') μ Mt w H μ' Mt' w' H4→R (.returned v) u' w')→CallsDIn Fence.wide m P k cs.toArray u w R
structure DefF where
 N:Nat
 A0:ACode
 A1:ACode
 A2:ACode
 AR:ACode
 a:Nat
 b:Nat
 c:Nat
 d:Nat
 k1:Nat
 r0:Nat
 r1:Nat
 N1:Nat
 Tf:TypeId
 z:V
 l0:List AOper
 ac2:ACode
 rs:List ARes
def DefF.cond (D:DefF) (g0 g1 g2:V):aca:=fun l fr=>(fr.getD D.a .unk=g0∧fr.getD D.b .unk=g1∧fr.getD D.c .unk=g2)∧∀ o∈l,o.dst≠some D.a∧o.dst≠some D.b∧o.dst≠some D.c
def DefF.recR (D:DefF) (call:lc) (it:yo) (base:Nat) (y g0 g1 g2:V) (H H':Heap):Prop:=
 ∃ f3 H3 f4,jl call base (D.l0.drop 2) (put (some D.r1) y (put (some D.r0) .unk ([g0,g1,g2] ++ List.replicate (D.N1 - 3) und))) H=some (f3,H3)∧evC call it base D.ac2 f3 H3=some (.nrm,f4,H')
def DefF.ans (D:DefF) (call:lc) (it:yo) (pan:aue) (vs:List V) (base:Nat) (H:Heap) (v:V) (H':Heap):Prop:=
 ∃ fr1 H1 fr2 H2,evC call it base D.A0 (vs ++ List.replicate (D.N - vs.length) und) H=some (.nrm,fr1,H1)∧evC call it base D.A1 fr1 H1=some (.nrm,fr2,H2)∧
 ((∃ fr3,evC call it base D.A2 fr2 H2=some (.ret,fr3,H')∧qc D.rs fr3 H'=some v)∨
  ∃ fr3 H3 g0 g1 g2,evC call it base D.A2 fr2 H2=some (.nrm,fr3,H3)∧D.d < fr3.length∧fr3.getD D.a .unk=g0∧fr3.getD D.b .unk=g1∧fr3.getD D.c .unk=g2∧
   ((∃ e fr5 H5,(e=.nrm∨e=.ret)∧evC call it base D.AR (put (some D.d) (.fn D.k1 [] [g0,g1,g2]) fr3) H3=some (e,fr5,H5)∧D.recR call it base (.tup [D.z,.s (.bool false)]) g0 g1 g2 H5 H'∧qc D.rs fr5 H'=some v)∨
    ∃ x Hp,abd call pan it base (D.cond g0 g1 g2) D.AR (put (some D.d) (.fn D.k1 [] [g0,g1,g2]) fr3) H3 (D.Tf,x,Hp)∧D.recR call it base (.tup [x,.s (.bool true)]) g0 g1 g2 Hp H'∧qc D.rs (put (some D.d) (.fn D.k1 [] [g0,g1,g2]) fr3) H'=some v))
theorem DefF.recR_le {D:DefF} {c c':lc} (h:Le c c') {n n':Nat} (hn:n≤n') {base:Nat} {y g0 g1 g2:V} {H H':Heap} (k:D.recR c (itN n) base y g0 g1 g2 H H'):D.recR c' (itN n') base y g0 g1 g2 H H':=by
 obtain ⟨f3,H3,f4,h1,h2⟩:=k;exact ⟨f3,H3,f4,af0 h _ h1,ahu h hn _ h2⟩
theorem DefF.recR_cont {D:DefF} {base:Nat} {y g0 g1 g2:V} {H H':Heap} (k:D.recR (fe CP) itW base y g0 g1 g2 H H'):∃ n,D.recR (xc CP n) (itN n) base y g0 g1 g2 H H':=by
 obtain ⟨f3,H3,f4,h1,h2⟩:=k;obtain ⟨n1,e1⟩:=ak1 _ h1;obtain ⟨n2,e2⟩:=yh _ h2;exact ⟨max n1 n2,f3,H3,f4,af0 (vg (o7 n1 n2)) _ e1,yw (kr n1 n2) e2⟩
theorem DefF.ans_cont {D:DefF} {vs:List V} {base:Nat} {H:Heap} {v:V} {H':Heap} (h:D.ans (fe CP) itW (anq CP PP X) vs base H v H'):∃ n,D.ans (xc CP n) (itN n) (a0t CP PP X n) vs base H v H':=by
 obtain ⟨fr1,H1,fr2,H2,h1,h2,h⟩:=h;obtain ⟨n1,e1⟩:=yh _ h1;obtain ⟨n2,e2⟩:=yh _ h2
 rcases h with ⟨fr3,h3,hr⟩ | ⟨fr3,H3,g0,g1,g2,h3,hd,k0,k1,k2,h⟩
 ·obtain ⟨n3,e3⟩:=yh _ h3
  refine ⟨max n1 (max n2 n3),fr1,H1,fr2,H2,yw (by omega) e1,yw (by omega) e2,.inl ⟨fr3,yw (by omega) e3,hr⟩⟩
 ·obtain ⟨n3,e3⟩:=yh _ h3
  rcases h with ⟨e,fr5,H5,he,h5,hrec,hr⟩ | ⟨x,Hp,hp,hrec,hr⟩
  ·obtain ⟨n4,e4⟩:=yh _ h5;obtain ⟨n5,e5⟩:=DefF.recR_cont hrec
   exact ⟨max (max n1 n2) (max n3 (max n4 n5)),fr1,H1,fr2,H2,yw (by omega) e1,yw (by omega) e2,.inr ⟨fr3,H3,g0,g1,g2,yw (by omega) e3,hd,k0,k1,k2,.inl ⟨e,fr5,H5,he,yw (by omega) e4,DefF.recR_le (vg (by omega)) (by omega) e5,hr⟩⟩⟩
  ·obtain ⟨n4,e4⟩:=aos _ hp;obtain ⟨n5,e5⟩:=DefF.recR_cont hrec
   exact ⟨max (max n1 n2) (max n3 (max n4 n5)),fr1,H1,fr2,H2,yw (by omega) e1,yw (by omega) e2,.inr ⟨fr3,H3,g0,g1,g2,yw (by omega) e3,hd,k0,k1,k2,.inr ⟨x,Hp,ami (vg (by omega)) (amh (by omega)) (by omega) _ e4,DefF.recR_le (vg (by omega)) (by omega) e5,hr⟩⟩⟩
theorem aly {rs:List ARes} {fr fr':List V} {H:Heap} (h:∀ r∈rs,fr.getD r.slot .unk=fr'.getD r.slot .unk):qc rs fr H=qc rs fr' H:=by
 have key:∀ rs:List ARes,(∀ r∈rs,fr.getD r.slot .unk=fr'.getD r.slot .unk)→rs.mapM (ahp fr H)=rs.mapM (ahp fr' H):=by
  intro rs
  induction rs with
  | nil=>intro _;rfl
  | cons r rs ih=>
    intro h
    have e:ahp fr H r=ahp fr' H r:=by
     have:=h r dn;cases r <;> simp only [ahp,ARes.slot] at this ⊢ <;> rw [this]
    simp only [lh,e,ih fun q hq=>h q (bz _ hq)]
 unfold qc;rw [key rs h]
theorem a9p (hmix:P.follows .mixedOrders=true) (hCP:∀ k c,CP k=some c→abf P pure' k c) (hone:∀ k fn body,X k=true→P.funcs[k]?=some fn→fn.body=some body→amj body=true) (hPP:a97 P pure' PP)
 {D:DefF} {k idD:Nat} {fn:Func} {m0 m1 m2 mR:Code} {oF oD:Oper} {ats:Array TypeId}
 (hf : P.funcs[k]? = some fn) (hb : fn.body = some (.seq m0 (.seq m1 (.seq m2 (.seq (.region idD #[oF, oD] false) mR))))) (hnm : (fn.name == "runtime.NumGoroutine") = false) (hnt : fn.ntmps = D.N)
 (c0:CodeR P pure' m0 D.A0) (f0:afa m0=true) (c1:CodeR P pure' m1 D.A1) (f1:afa m1=true) (c2:CodeR P pure' m2 D.A2) (f2:afa m2=true) (cR:CodeR P pure' mR D.AR) (oR:amj mR=true)
 (cF:xw P pure'.b oF=some (.mkFn D.k1 [] [.t D.a,.t D.b,.t D.c])) (dF:oF.dst=some D.d) (gF:oF.guard=none)
 (eD:oD.op=.defer { callee:=.value (.tmp D.d),args:=#[],argTypes:=ats }) (dD:oD.dst=none) (gD:oD.guard=none) (hdN:D.d≠D.a∧D.d≠D.b∧D.d≠D.c)
 (hrs:fn.results.toList.mapM (afc P)=some D.rs) (hrs2:∀ r∈D.rs,r.slot=D.a∨r.slot=D.b∨r.slot=D.c) (hN1:3≤D.N1)
 (hrec:bdj P pure' CP D.k1 D.r0 D.r1 D.N1 D.Tf D.z D.l0 D.ac2) {g:List V→Nat→Heap→Option (V × Heap)} (hg:∀ vs base H r H',g vs base H=some (r,H')→D.ans (fe CP) itW (anq CP PP X) vs base H r H'):abf P pure' k (.prim g):=by
 refine ⟨Go.Proofs.enters_of hf hnm hb,fun vs base H r H' hgr=>?_⟩;obtain ⟨n,hn⟩:=DefF.ans_cont (hg _ _ _ _ _ hgr);have hs:=aa6 hmix hCP n;have hx:=a2d (PP:=PP) (X:=X) hmix hCP hone hPP n;obtain ⟨fr1,H1,fr2,H2,h1,h2,hn⟩:=hn;have F1:=(uo hs.floor n _ h1).trans (uo hs.floor n _ h2)
 have recFloor:∀ {y g0 g1 g2:V} {K K':Heap},D.recR (xc CP n) (itN n) base y g0 g1 g2 K K'→Floor base K K':=fun h=>by
  obtain ⟨f3,H3,f4,q1,q2⟩:=h;exact (afb hs.floor _ q1).trans (uo hs.floor n _ q2)
 refine ⟨?_,fun μ Mt w cs h hvs m=>?_⟩
 ·rcases hn with ⟨fr3,h3,_⟩ | ⟨fr3,H3,g0,g1,g2,h3,_,_,_,_,⟨e,fr5,H5,_,h5,hr,_⟩ | ⟨x,Hp,hp,hr,_⟩⟩
  ·exact F1.trans (uo hs.floor n _ h3)
  ·exact (F1.trans (uo hs.floor n _ h3)).trans ((uo hs.floor n _ h5).trans (recFloor hr))
  ·exact (F1.trans (uo hs.floor n _ h3)).trans ((aks hs.floor hx.floor n base _ hp).trans (recFloor hr))
 ·refine callsIn_of_wp_marks hf hb trivial ?_;obtain ⟨a0,ha0⟩:∃ a0:Act,{ tmps:=cs.toArray ++ Array.replicate (fn.ntmps - cs.toArray.size) Go.undef,defers:=[] }=a0:=⟨_,rfl⟩
  have hd0:a0.defers=[]:=by rw [← ha0]
  have hf0:FR μ Mt w (vs ++ List.replicate (D.N - vs.length) und) a0.tmps:=by
   unfold FR;have:=hvs.append (aaa (μ:=μ) (Mt:=Mt) (w:=w) (D.N - vs.length));rw [← ha0,hnt];simp only [aep,acb,mh];rw [hvs.1] at this ⊢;exact this
  rw [ha0];refine wpIn_seq (af3 hs hmix n base c0 f0 none m _ _ _ _ _ h1 μ Mt w a0 _ h hf0 ?_);rintro a1 w1 ⟨μ1,Mt1,p1,q1,d1⟩;rw [hd0] at d1;refine wpIn_seq (af3 hs hmix n base c1 f1 none m _ _ _ _ _ h2 μ1 Mt1 w1 a1 _ p1.hr q1 ?_);rintro a2 w2 ⟨μ2,Mt2,p2,q2,d2⟩;rw [d1] at d2
  have leave:∀ {frx:List V} {ax:Act} {wx:World} {μx:Mu} {Mtx:Nat→Prop} {Hx:Heap},Post (CR P pure') μ Mt w H μx Mtx wx Hx→FR μx Mtx wx frx ax.tmps→qc D.rs frx Hx=some r→Hx=H'→LeavesInM Fence.wide m P fn ax.tmps (ann (CR P pure') μ Mt w H r H') [] .returning wx:=fun pp ff hr hH=>by
   subst hH;obtain ⟨cv,k1,k2⟩:=acl pp.hr ff hrs hr;exact ⟨cv,k1,cv,_,_,rfl,k2,pp⟩
  rcases hn with ⟨fr3,h3,hres⟩ | ⟨fr3,H3,g0,g1,g2,h3,hdl,e0,e1,e2,hn⟩
  ·refine wpIn_seq (af3 hs hmix n base c2 f2 none m _ _ _ _ _ h3 μ2 Mt2 w2 a2 _ p2.hr q2 ?_);rintro a3 w3 ⟨μ3,Mt3,p3,q3,d3⟩;rw [d2] at d3;show LeavesInM Fence.wide m P fn a3.tmps _ a3.defers .returning w3;rw [d3];exact leave ((p1.trans p2).trans p3) q3 hres rfl
  ·refine wpIn_seq (af3 hs hmix n base c2 f2 none m _ _ _ _ _ h3 μ2 Mt2 w2 a2 _ p2.hr q2 ?_);rintro a3 w3 ⟨μ3,Mt3,p3,q3,d3⟩;rw [d2] at d3;have pp3:=(p1.trans p2).trans p3;refine wpIn_seq (wpIn_region ?_);show wpOpsIn (Fw none) m P #[oF,oD] _ [0,1] a3 w3
   refine acg (o:=oF) rfl gF (abw hs p3.hr q3 (.inl cF) (base:=base) (v:=.fn D.k1 [] [g0,g1,g2]) (H':=H3) (by simp only [jf,ou,ac0,ev,e0,e1,e2]) ?_)
   rintro rF w4 ⟨qF,μ4,Mt4,E4,V4,p4⟩;cases E4;have q4:FR μ4 Mt4 w4 (put (some D.d) (.fn D.k1 [] [g0,g1,g2]) fr3) (a3.put oF.dst rF).tmps:=amy p3.hr p4 q3 dF V4;obtain ⟨a4,ha4⟩:∃ a4,a3.put oF.dst rF=a4:=⟨_,rfl⟩
   have d4:a4.defers=[]:=by rw [← ha4,put_defers,d3]
   rw [ha4] at q4 ⊢;have pp4:=pp3.trans p4
   have hval:VR μ4 Mt4 w4 (.fn D.k1 [] [g0,g1,g2]) (a4.eval (.tmp D.d)):=by
    have hg:=q4.getD D.d;rw [ad2 _ _ _ _ hdl,cu rfl] at hg;exact hg
   obtain ⟨fst',cap',hfv,hfs,hvg⟩:∃ (fst' cap':Array Value),a4.eval (.tmp D.d)=.func (.func D.k1) fst' cap'∧fst'=#[]∧VRs μ4 Mt4 w4 [g0,g1,g2] cap'.toList:=by
    generalize a4.eval (.tmp D.d)=fv at hval;cases hval with
    | fn _ _ _ fst' cap' k1 k2 k3 k4=>exact ⟨fst',cap',rfl,ac1 (by simpa using k1.symm),by simpa using k2,fun i p q hp hq=>k4 i p q hp (by simpa using hq)⟩
   subst hfs;refine acg (o:=oD) rfl gD ⟨fun _ _=>trivial,?_⟩
   have hxD:(Oper.semAt none a4.eval oD).run P w4=.ok (.defer { target:=.fn (.func D.k1) cap',args:=#[] }) w4:=by
    rw [Oper.semAt_none];unfold execOp;simp only [eD,resolve,hfv,Deferred.ofValue,Sem.run_bind,Sem.run_pure,Result.andThen_ok];simp
   show Oper.uponIn (Fw none) m P oD a4 _ _ ((Oper.semAt none a4.eval oD).run P w4);rw [hxD];simp only [Oper.uponIn,wpOpsIn];rw [dD,d4];show Code.wpIn (Fw none) m P mR _ { a4 with defers:=[{ target:=.fn (.func D.k1) cap',args:=#[] }] } w4
   have hinv:∀ w,(invoke (.fn (.func D.k1) cap') #[]).run P w=.ok (.enter D.k1 cap') w:=fun w=>by
    simp only [invoke,hrec.1];rw [Array.empty_append]
   have leaveD:∀ {u u':FrameMode} {y:V} {frx:List V} {tx:Array Value} {wx:World} {μx:Mu} {Mtx:Nat→Prop} {Hx:Heap},u≠.run→settle u'=.returning→Post (CR P pure') μ4 Mt4 w4 H3 μx Mtx wx Hx→FR μx Mtx wx frx tx→RecC D.Tf D.z μx Mtx wx u u' y→D.recR (xc CP n) (itN n) base y g0 g1 g2 Hx H'→qc D.rs frx H'=some r→
    LeavesInM Fence.wide m P fn tx (ann (CR P pure') μ Mt w H r H') [{ target:=.fn (.func D.k1) cap',args:=#[] }] u wx:=fun {u u' y frx tx wx μx Mtx Hx} hu hu' pp ff hc hr hres=>by
    obtain ⟨f3,K3,f4,r1,r2⟩:=hr
    refine ⟨hu,.inr ⟨fun h=>by simp [Fence.wide] at h,.func D.k1,cap',D.k1,cap',rfl,hinv wx,fun _ _=>trivial,?_⟩⟩
    have hcd:=hrec.2 (m:=m - 1) pp.hr (pp.vrs p4.hr hvg) (show [g0,g1,g2].length≤D.N1 from hN1) hc (n:=n) (base:=base) r1 r2 (R:=fun e u' w'=>∃ v,e=.returned v∧LeavesInM Fence.wide m P fn tx (ann (CR P pure') μ Mt w H r H') [] (settle u') w') (fun v μy Mty wy py=>by
     refine ⟨v,rfl,?_⟩;rw [hu'];obtain ⟨cv,k1,k2⟩:=acl py.hr (ff.post pp.hr py) hrs hres;exact ⟨cv,k1,cv,_,_,rfl,k2,(pp4.trans pp).trans py⟩)
    rw [qf] at hcd;refine hcd.mono ?_;rintro e1 u1 wz ⟨v,rfl,hh⟩;exact hh
   rcases hn with ⟨e,fr5,H5,he,h5,hr,hres⟩ | ⟨x,Hp,hp,hr,hres⟩
   ·refine ahf hs hmix n base cR none m _ _ _ _ _ h5 μ4 Mt4 w4 { a4 with defers:=[{ target:=.fn (.func D.k1) cap',args:=#[] }] } _ p4.hr q4 (fun l hl=>by cases hl) ?_
    rintro a5 w5 ⟨μ5,Mt5,p5,q5,L,hL,hnd,hLs⟩
    have fin:LeavesInM Fence.wide m P fn a5.tmps (ann (CR P pure') μ Mt w H r H') a5.defers .returning w5:=by
     rw [hL]
     exact afx (by simp) (x:=und) (c:=Go.undef) (fun w6 p6 q6 _=>leaveD (by simp) rfl p6 q6 .nil hr hres) L w5 p5 q5 (.s _) hnd hLs
    rcases he with rfl | rfl
    ·exact fin
    ·exact fin
   ·refine as9 hs hx hmix n base cR oR none m _ _ _ hp μ4 Mt4 w4 { a4 with defers:=[{ target:=.fn (.func D.k1) cap',args:=#[] }] } _ p4.hr q4 (fun l hl=>by cases hl) ?_
    rintro ch a5 w5 ⟨cv,μ5,Mt5,lx,frl,frx,rfl,hvx,p5,⟨L,hL,hnd,hLs⟩,hC,hK,q5⟩;show LeavesInM Fence.wide m P fn a5.tmps _ a5.defers _ w5;rw [hL];obtain ⟨⟨b0,b1,b2⟩,hdst⟩:=hC
    have hres':qc D.rs frx H'=some r:=by
     rw [← hres];refine aly fun q hq=>?_
     rcases hrs2 q hq with h | h | h <;> rw [h]
     ·rw [hK _ (fun o ho=>(hdst o ho).1),b0,ad1 (fun e=>hdN.1 (gm e)),e0]
     ·rw [hK _ (fun o ho=>(hdst o ho).2.1),b1,ad1 (fun e=>hdN.2.1 (gm e)),e1]
     ·rw [hK _ (fun o ho=>(hdst o ho).2.2),b2,ad1 (fun e=>hdN.2.2 (gm e)),e2]
    exact afx (by simp) (fun w6 p6 q6 v6=>leaveD (by simp) rfl p6 q6 (.pan x cv v6) hr hres') L w5 p5 q5 hvx hnd hLs
end
end Go.AM
