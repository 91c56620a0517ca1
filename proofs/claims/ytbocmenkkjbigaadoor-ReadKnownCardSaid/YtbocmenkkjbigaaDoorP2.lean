/- Texts of the proof: Am20, Am21, Am22, Am23, AmS, AmT, AmF, AmG, AmL, AmQ0, AmQ, AmW, AmB, BitsP, AmM, AmN, AmO, AmY, AmZ, AmI, AmU, AmU2, AmH, RdnA1, TokP, TokP2, TokP3, RdP1, AmP, AmPk, AmPn, AmPn2, AmPr, AmPr2, AmPr3. -/
import Derived.Test.YtbocmenkkjbigaaDoorP0
import Derived.Test.YtbocmenkkjbigaaDoorP1
import Derived.ProofKit
import Derived.ReadAgain
import Derived.Laws.BitsLemmas
import Derived.Shelf.Sort.Plain
import Derived.Shelf.SlIterI.Nil
import Derived.Shelf.SlMaps.Clone
import Derived.Shelf.Spec.TrailingZeros
import Derived.KernelRfl
import Derived.RecoverIn
import Derived.Laws.Build
import Derived.WalkSmall
set_option linter.all false
namespace Go.AM
open Go.RowKit
section
variable {μ μ':Mu} {Mt Mt':Nat→Prop} {w w':World} {H H':Heap} {P:Program} {pure':PX} {call:ku}
def aba (P:Program) (pure':PX) (k:Nat):CFun→Prop
 | .code c => ∃ fn body, P.funcs[k]? = some fn ∧ fn.body = some body ∧ (fn.name == "runtime.NumGoroutine") = false ∧ CodeR P pure' body c.body ∧ fn.ntmps = c.ntmps ∧ fn.results.toList.mapM (ae2 P) = some c.results
 | .prim g=>(∀ xs w,(callFunc k xs).run P w=.ok (.enter k xs) w)∧∀ vs base H r H',g vs base H=some (r,H')→Floor base H H'∧
    ∀ μ Mt w cs,HR (CR P pure') μ Mt w H→VRs μ Mt w vs cs→∀ n,CallsIn Fence.wide n P k cs.toArray w (ane (CR P pure') μ Mt w H r H')
theorem awg:∀ (ps:List Nat) (vs:List V) (cs:List Value) {fr fr':List V} {t:Array Value},ap1 ps vs fr=some fr'→VRs μ Mt w vs cs→FR μ Mt w fr t→
 ps.length=cs.length∧FR μ Mt w fr' ((ps.zip cs).foldl (fun t p=>t.setIfInBounds p.1 p.2) t):=by
 intro ps
 induction ps with
 | nil=>
   intro vs cs fr fr' t h hv hf;cases vs with
   | nil=>
     cases h
     have:cs=[]:=by have:=hv.1;cases cs <;> simp at this ⊢
     subst this;exact ⟨rfl,hf⟩
   | cons v vs=>cases h
 | cons p ps ih=>
   intro vs cs fr fr' t h hv hf;cases vs with
   | nil=>cases h
   | cons v vs=>
     cases cs with
     | nil=>have:=hv.1;simp at this
     | cons c cs=>
       have hv':VRs μ Mt w vs cs:=⟨by have:=hv.1;simpa using this,fun i a b ha hb=>hv.2 (i+1) a b (by simpa using ha) (by simpa using hb)⟩
       have hf':FR μ Mt w (fr.set p v) (t.setIfInBounds p c):=by
        have:=VRs.set hf p (hv.2 0 v c rfl rfl)
        simpa [FR] using this
       obtain ⟨h1,h2⟩:=ih vs cs h hv' hf'
       exact ⟨by simp [h1],by simpa using h2⟩
theorem z8 (n:Nat):VRs μ Mt w (List.replicate n und) (List.replicate n Go.undef):=
 ⟨by simp,fun i a b ha hb=>by
  have h1:=List.mem_of_getElem? ha;have h2:=List.mem_of_getElem? hb;rw [af4] at h1 h2;rw [h1.2,h2.2];exact .s _⟩
variable {CP:Nat→Option CFun}
theorem ao7 (hs:SimCall P (CR P pure') call) (hmix:P.follows .mixedOrders=true) (nn:Nat) (hCP:∀ k c,CP k=some c→aba P pure' k c)
 {f:Nat} {fst cap args:List V} {base:Nat} {r:V} (hev:uz CP call (fun b k m=>qx b k m nn) (.fn f fst cap) args base H=some (r,H')):
 (∀ xs w,(callFunc f xs).run P w=.ok (.enter f xs) w)∧Floor base H H'∧
 ∀ (μ:Mu) (Mt:Nat→Prop) (w:World) (cs:List Value),HR (CR P pure') μ Mt w H→VRs μ Mt w (fst ++ args ++ cap) cs→∀ n,CallsIn Fence.wide n P f cs.toArray w (ane (CR P pure') μ Mt w H r H'):=by
 simp only [uz] at hev;split at hev
 ·rename_i c hc;obtain ⟨fn,body,h1,h2,h3,h4,h5,h6⟩:=hCP f _ hc;have fin:∀ (e:Ex) (fr':List V) (H1:Heap),(e=.nrm∨e=.ret)→evC call (fun b k m=>qx b k m nn) base c.body (fst ++ args ++ cap ++ List.replicate (c.ntmps - (fst ++ args ++ cap).length) und) H=some (e,fr',H1)→
   (qb c.results fr' H1).map (fun v=>(v,H1))=some (r,H')→(∀ xs w,(callFunc f xs).run P w=.ok (.enter f xs) w)∧Floor base H H'∧
   ∀ (μ:Mu) (Mt:Nat→Prop) (w:World) (cs:List Value),HR (CR P pure') μ Mt w H→VRs μ Mt w (fst ++ args ++ cap) cs→∀ n,CallsIn Fence.wide n P f cs.toArray w (ane (CR P pure') μ Mt w H r H'):=by
   intro e fr' H1 he hb hres;rw [af] at hres;obtain ⟨v,hv,e1⟩:=hres;cases e1;refine ⟨Go.Proofs.enters_of h1 h3 h2,uo hs.floor nn _ hb,fun μ Mt w cs h hvs n=>?_⟩;refine callsIn_of_wp_marks h1 h2 trivial ?_
   have hf0:FR μ Mt w (fst ++ args ++ cap ++ List.replicate (c.ntmps - (fst ++ args ++ cap).length) und) (cs.toArray ++ Array.replicate (fn.ntmps - cs.toArray.size) Go.undef):=by
    unfold FR;have:=hvs.append (z8 (μ:=μ) (Mt:=Mt) (w:=w) (c.ntmps - (fst ++ args ++ cap).length));simp only [aeh,ab5,mr,h5];rw [hvs.1] at this ⊢;exact this
   refine ag4 hs hmix nn base h4 none n _ H e fr' H' hb μ Mt w { tmps:=cs.toArray ++ Array.replicate (fn.ntmps - cs.toArray.size) Go.undef,defers:=[] } _ h hf0 (fun l hl=>by cases hl) ?_
   rintro a' w' ⟨μ1,Mt1,p1,f1,L,hL,hnd,hLs⟩
   have key:LeavesInM Fence.wide n P fn a'.tmps (ane (CR P pure') μ Mt w H r H') a'.defers .returning w':=by
    rw [hL,abm];refine aoq (μ:=μ1) (Mt:=Mt1) (fr:=fr') (fun w2 p2 f2=>?_) L w' p1 f1 hnd hLs;obtain ⟨cv,k1,k2⟩:=acf p2.hr f2 h6 hv;exact ⟨cv,k1,cv,μ1,Mt1,rfl,k2,p2⟩
   rcases he with rfl | rfl
   ·exact key
   ·exact key
  split at hev
  ·rename_i fr' H1 hb;exact fin .nrm fr' H1 (.inl rfl) hb hev
  ·rename_i fr' H1 hb;exact fin .ret fr' H1 (.inr rfl) hb hev
  ·cases hev
 ·rename_i g hc;obtain ⟨h1,h2⟩:=hCP f _ hc;obtain ⟨h3,h4⟩:=h2 _ _ _ _ _ hev;exact ⟨h1,h3,h4⟩
 ·cases hev
theorem aky (hs:SimCall P (CR P pure') call) (hmix:P.follows .mixedOrders=true) (nn:Nat)
 {id:Nat} {args:List V} {base:Nat} {r:V} (hev:uz CP call (fun b k m=>qx b k m nn) (.yld id) args base H=some (r,H')):
 Floor base H H'∧∀ (μ:Mu) (Mt:Nat→Prop) (w:World) (cs:List Value) (B:Nat),HR (CR P pure') μ Mt w H→VRs μ Mt w args cs→μ id 0=some (B,0)→
  ∃ f tmps assign body,(Instr.yield B cs.toArray).run P w=.ok (.round B f tmps assign body) w∧∀ n,RoundIn Fence.wide n P B f tmps assign body w (ane (CR P pure') μ Mt w H r H'):=by
 simp only [uz] at hev;split at hev
 case isFalse=>cases hev
 rename_i hbase;split at hev
 case h_2=>cases hev
 rename_i tmps params assign body hH;split at hev
 case h_2=>cases hev
 rename_i fr0 hset;split at hev
 case h_2=>cases hev
 rename_i fr1 H1 hasg;split at hev
 case h_2=>cases hev
 rename_i t1 ps1 as1 b1 hH1;split at hev
 case h_2=>cases hev
 rename_i e fr2 H3 hbody;split at hev
 case h_2=>cases hev
 rename_i t3 ps3 as3 b3 hH3;cases hev
 have setF:∀ (G:Heap) (o:Ob),Floor base G (G.set id o):=fun G o=>⟨by simp,fun i h1 _=>by rw [List.getElem?_set_ne (by omega)]⟩
 refine ⟨(uo hs.floor nn _ hasg).trans ((setF _ _).trans ((uo hs.floor nn _ hbody).trans (setF _ _))),?_⟩;intro μ Mt w cs B h hvs hm;obtain ⟨o,ho,hr⟩:=h.objs _ _ 0 _ _ hH rfl hm
 cases o <;> first | exact hr.elim | skip
 rename_i rec;obtain ⟨_,q1,q2,q3,q4,q5,q6⟩:=hr;obtain ⟨hlen,hf0⟩:=awg params args cs hset hvs (t:=rec.tmps) q3
 have hsz:cs.toArray.size=rec.params.size:=by
  rw [← q4] at hlen;simpa using hlen.symm
 have hfold:(rec.params.zip cs.toArray).foldl (fun tmps (t,a)=>tmps.setIfInBounds t a) rec.tmps=(params.zip cs).foldl (fun t p=>t.setIfInBounds p.1 p.2) rec.tmps:=by
  rw [← af6,Array.toList_zip,q4]
 refine ⟨_,_,_,_,run_yield ho hsz,fun n=>?_⟩;refine roundIn_of_wpIn (F:=Fence.wide) trivial ?_;rw [hfold]
 refine ag4 hs hmix nn base q5 (some B) n fr0 H .nrm fr1 H1 hasg μ Mt w { tmps:=(params.zip cs).foldl (fun t p=>t.setIfInBounds p.1 p.2) rec.tmps,defers:=[] } _ h hf0 (fun l hl=>by cases hl;exact ⟨rec,ho⟩) ?_
 rintro a1 w1 ⟨μ1,Mt1,p1,f1,_⟩;have hm1:=p1.ext _ _ _ hm;obtain ⟨o1,ho1,hr1⟩:=p1.hr.objs _ _ 0 _ _ hH1 rfl hm1
 cases o1 <;> first | exact hr1.elim | skip
 rename_i rec1;obtain ⟨_,s1,s2,s3,s4,s5,s6⟩:=hr1
 have hwf1:ObW H1.length (.loop .busy none t1 ps1 as1 b1):=by have:=p1.hr.wfn hH1 rfl hm1;exact this
 have p2:Post (CR P pure') μ1 Mt1 w1 H1 (ajy μ1 id 0 (B,0)) Mt1 (w1.putObj B (.loop { rec1 with state:=.busy })) (H1.set id (.loop .busy none t1 ps1 as1 b1)):=by
  refine ads p1.hr 0 0 hH1 rfl hm1 ho1 (fun _ _ _ e=>by cases e) (fun _ _=>⟨_,rfl⟩) (.inl ⟨rfl,rfl⟩) (fun j hj=>hj) (fun _ _ e=>by cases e) rfl rfl rfl rfl hwf1 ?_
  intro _ μ' Mt' hμ hM;have hne:∀ K,K≠B→(w1.putObj B (.loop { rec1 with state:=.busy })).heap[K]?=w1.heap[K]?:=fun K hK=>World.putObj_heap_other hK;refine ⟨rfl,rfl,trivial,?_,s4,s5,s6⟩;refine VRs.mono hμ (fun K hK hm=>(hM K hK).1 hm) (fun K _ hn=>hne K (fun e=>hn (e ▸ (p1.hr.isMut _ _ _ _ hm1).1))) (fun K a0 e0 fr0 hK=>?_) s3
  have:K≠B:=fun e=>by subst e;rw [ho1] at hK;cases hK
  exact ⟨a0,_,(hne K this).trans hK,rfl⟩
 refine ⟨_,run_beginRound ho1 s1,?_⟩;have pp:=p1.trans p2;have hB2:∃ r,(w1.putObj B (.loop { rec1 with state:=.busy })).heap[B]?=some (.loop r):=⟨_,World.putObj_heap_same (lt_of_some ho1)⟩
 refine ag4 hs hmix nn base q6 (some B) n fr1 _ e fr2 H3 ?_ _ _ _ a1 _ p2.hr (f1.post p1.hr p2) (fun l hl=>by cases hl;exact hB2) ?_
 ·exact hbody
 ·rintro a3 w3 ⟨μ3,Mt3,p3,_,_⟩;have hm3:μ3 id 0=some (B,0):=p3.ext _ _ _ (ny _ _ _ _);obtain ⟨o3,ho3,hr3⟩:=p3.hr.objs _ _ 0 _ _ hH3 rfl hm3
  cases o3 <;> first | exact hr3.elim | skip
  rename_i rec3;obtain ⟨_,u1,u2,u3,u4,u5,u6⟩:=hr3
  have hwf3:∀ st pe,ObW H3.length (.loop st pe t3 ps3 as3 b3):=fun _ _=>by have:=p3.hr.wfn hH3 rfl hm3;exact this
  have fin:∀ (jump:Option Code),ah8 (if e=.nrm then .ready else .done) (ass e) jump→jump.isNone=decide (e=.nrm)→(if jump.isNone then LoopState.ready else .done)=(if e=.nrm then .ready else .done)→
   ∃ v w',(Instr.endRound B jump).run P w3=.ok v w'∧ane (CR P pure') μ Mt w H (bl (decide (e=.nrm))) (H3.set id (.loop (if e=.nrm then .ready else .done) (ass e) t3 ps3 as3 b3)) (.returned v) w':=by
   intro jump hok hj hst
   refine ⟨_,_,run_endRound jump ho3,_,_,_,rfl,by rw [hj];exact .s _,(pp.trans p3).trans (ads (g':=0) (b':=0) p3.hr hH3 rfl hm3 ho3 (fun _ _ _ e=>by cases e) (fun _ _=>⟨_,rfl⟩) (.inl ⟨rfl,rfl⟩) (fun j hj=>hj) (fun _ _ e=>by cases e) rfl rfl rfl rfl (hwf3 _ _) ?_)⟩
   intro _ μ' Mt' hμ hM
   have hne:∀ K,K≠B→(w3.putObj B (.loop { rec3 with state:=if jump.isNone then .ready else .done,pending:=jump })).heap[K]?=w3.heap[K]?:=fun K hK=>World.putObj_heap_other hK
   refine ⟨rfl,hst,hok,?_,u4,u5,u6⟩;refine VRs.mono hμ (fun K hK hm=>(hM K hK).1 hm) (fun K _ hn=>hne K (fun e=>hn (e ▸ (p3.hr.isMut _ _ _ _ hm3).1))) (fun K a0 e0 fr0 hK=>?_) u3
   have:K≠B:=fun e=>by subst e;rw [ho3] at hK;cases hK
   exact ⟨a0,_,(hne K this).trans hK,rfl⟩
  cases e with
  | nrm=>exact fin none rfl rfl rfl
  | ext i=>exact fin (some (.exit i)) rfl rfl rfl
  | ret=>exact fin (some .ret) rfl rfl rfl
theorem avd (hs:SimCall P (CR P pure') call) (hmix:P.follows .mixedOrders=true) (nn:Nat) (hCP:∀ k c,CP k=some c→aba P pure' k c):SimCall P (CR P pure') (uz CP call (fun b k m=>qx b k m nn)) where
 fn f fst cap args base H r H' h:=by
  obtain ⟨h1,_,h3⟩:=ao7 hs hmix nn hCP h;exact ⟨h1,h3⟩
 yld id args base H r H' h:=(aky hs hmix nn h).2
 other v args base H h1 h2:=by
  cases v <;> first | rfl | exact absurd rfl (h1 _ _ _) | exact absurd rfl (h2 _)
 floor v args base H r H' h:=by
  by_cases h1:∃ f a b,v=.fn f a b
  ·obtain ⟨f,a,b,rfl⟩:=h1;exact (ao7 hs hmix nn hCP h).2.1
  ·by_cases h2:∃ id,v=.yld id
   ·obtain ⟨id,rfl⟩:=h2;exact (aky hs hmix nn h).1
   ·exfalso
    cases v <;> first | exact h1 ⟨_,_,_,rfl⟩ | exact h2 ⟨_,rfl⟩ | (simp [uz] at h;done)
theorem aa3 (hmix:P.follows .mixedOrders=true) (hCP:∀ k c,CP k=some c→aba P pure' k c):∀ n,SimCall P (CR P pure') (w9 CP n)
 | 0=>⟨fun _ _ _ _ _ _ _ _ h=>(by cases h),fun _ _ _ _ _ _ h=>(by cases h),fun _ _ _ _ _ _=>rfl,fun _ _ _ _ _ _ h=>(by cases h)⟩
 | n+1=>avd (aa3 hmix hCP n) hmix n hCP
theorem ar5 (hmix:P.follows .mixedOrders=true) (hCP:∀ k c,CP k=some c→aba P pure' k c) {n k:Nat} {args:List V} {r:V} (h:w9 CP n (.fn k [] []) args 0 []=some (r,H')) {w:World} {cs:Array Value}
 (hargs:VRs (fun _ _=>none) (fun _=>False) w args cs.toList) (hfx:∀ (B:Nat) (o:Array Value × TypeId × Nat × Nat),pure'.fx B=some o→w.heap[B]?=some (.cells o.1 o.2.1 o.2.2)):
 Calls P k cs w fun e w'=>∃ c μ' Mt',e=.returned c∧VR μ' Mt' w' r c∧(∀ B,B < w.heap.size→w'.heap[B]?=w.heap[B]?)∧Tr (fun _ _=>none) w w':=by
 have h0:HR (CR P pure') (fun _ _=>none) (fun _=>False) w []:=⟨fun _ _ _ h=>by simp at h,fun _ _ _ _ h=>by simp at h,fun _ _ _ _ _ h=>by simp at h,fun _ _ _ _ _ _ _ h=>by simp at h,fun _ _ _ _ _ h=>by simp at h,fun _ _ _ _ h=>by simp at h,fun B o e=>⟨hfx B o e,fun h=>h⟩,fun _ _ _ h=>by simp at h⟩
 have:=((aa3 hmix hCP n).fn k [] [] args 0 [] r H' h).2 _ _ w cs.toList h0 (by simpa using hargs) 0
 simp only [qd] at this;refine callsIn_wide.1 (CallsIn.mono this ?_);rintro e w' ⟨c,μ',Mt',rfl,hv,hp⟩
 exact ⟨c,μ',Mt',rfl,hv,fun B hB=>hp.tr.keep B hB (fun _ _ _ h=>by simp at h),hp.tr⟩
end
section
variable {P:Program} {pure':PX}
theorem axy {α β:Type} {f:α→Option β}:∀ {l:List α} {us:List β},l.mapM f=some us→us.length=l.length∧∀ (i:Nat) (v:α) (u:β),l[i]?=some v→us[i]?=some u→f v=some u:=by
 intro l
 induction l with
 | nil=>intro us h;simp at h;subst h;exact ⟨rfl,fun i v u h=>by simp at h⟩
 | cons x l ih=>
   intro us h;simp only [lc,bz,bg,ae] at h;obtain ⟨v,hv,us',hus,e⟩:=h;cases e;obtain ⟨h1,h2⟩:=ih hus
   refine ⟨by simp [h1],fun i a u ha hu=>?_⟩
   cases i with
   | zero=>simp at ha hu;subst ha;subst hu;exact hv
   | succ i=>exact h2 i a u (by simpa using ha) (by simpa using hu)
theorem akg {lt:List Nat} {bf:List Nat} {l:List AOper} {i:Nat} {a:AOper} (h:(wo lt bf l)[i]?=some a):∃ b,l[i]?=some b∧(a=b∨(∃ f xs,b.op=.call f xs∧a={ b with op:=.callR f xs })∨∃ k xs,b.op=.callP k xs∧a={ b with op:=.callQ k xs }):=by
 unfold wo at h
 have hi:i < l.length:=by have:=(List.getElem?_eq_some_iff.1 h).1;simpa using this
 have hg:l[i]?=some l[i]:=List.getElem?_eq_getElem hi;refine ⟨l[i],hg,?_⟩;rw [List.getElem?_map,List.getElem?_range hi] at h;have hd:l.getD i default=l[i]:=za hg;simp only [jl,hd,dw] at h;split at h
 ·rename_i f xs hop;split at h
  ·exact .inl h.symm
  ·exact .inr (.inl ⟨f,xs,hop,h.symm⟩)
 ·rename_i f xs hop;split at h
  ·exact .inl h.symm
  ·exact .inr (.inr ⟨f,xs,hop,h.symm⟩)
 ·exact .inl h.symm
theorem alg {l:List AOper} {i:Nat} {a:AOper} (h:(aby l)[i]?=some a):∃ b,l[i]?=some b∧(a=b∨∃ sz n s x,b.op=.append sz n s x∧a={ b with op:=.appR sz n s x }):=by
 unfold aby at h;rw [List.getElem?_map,af] at h;obtain ⟨b,hb,e⟩:=h;refine ⟨b,hb,?_⟩;split at e
 ·rename_i sz n s x hop;exact .inr ⟨sz,n,s,x,hop,e.symm⟩
 ·exact .inl e.symm
theorem ahr (l:List AOper):(aby l).length=l.length:=by simp [aby]
theorem aff {lt:List Nat} {bf:List Nat} {l:List AOper}:(wo lt bf l).length=l.length:=by simp [wo]
theorem acl {lt:List Nat} {ops:Array Oper} {draw:Bool} {l:List AOper} {chk:List (Nat × Nat)} (h:acm P lt pure' ops draw=some (l,chk)):
 apk P pure' ops l∧(draw=true→ad7 (Region.before ops).toList chk l=true∧acw ops=true):=by
 unfold acm at h;simp only [bg,ae] at h;obtain ⟨l0,hl0,h⟩:=h;obtain ⟨h1,h2⟩:=axy hl0
 have one:∀ (i:Nat) (o:Oper) (a:AOper),ops[i]?=some o→l0[i]?=some a→a.dst=o.dst∧(xu P pure' o=some a.op∨a.op=.stuck)∧adk ops o.guard=some a.guard:=by
  intro i o a ho ha
  have:=h2 i o a (by simpa using ho) ha
  unfold ath at this;simp only [bg,ae,bz,dw] at this;obtain ⟨g,hg,e⟩:=this;subst e;refine ⟨rfl,?_,hg⟩;cases hop:xu P pure' o with
  | none=>exact .inr rfl
  | some op=>exact .inl rfl
 split at h
 ·rename_i hd
  have fin:∀ c,ad7 (Region.before ops).toList c (wo lt (Region.before ops).toList l0)=true→acw ops=true→apk P pure' ops (wo lt (Region.before ops).toList l0)∧(draw=true→ad7 (Region.before ops).toList c (wo lt (Region.before ops).toList l0)=true∧acw ops=true):=by
   intro c hok hbk
   refine ⟨⟨by rw [aff,h1];simp,fun i o a ho ha=>?_⟩,fun _=>⟨hok,hbk⟩⟩
   obtain ⟨b,hb,e⟩:=akg ha;obtain ⟨k1,k2,k3⟩:=one i o b ho hb
   rcases e with rfl | ⟨f,xs,hop,rfl⟩ | ⟨f,xs,hop,rfl⟩
   ·exact ⟨k1,k2.imp id fun h=>.inr (.inr (.inr h)),k3⟩
   ·exact ⟨k1,.inr (.inl ⟨f,xs,by rw [← hop];exact k2.resolve_right (by rw [hop];intro h;cases h),rfl⟩),k3⟩
   ·exact ⟨k1,.inr (.inr (.inl ⟨f,xs,by rw [← hop];exact k2.resolve_right (by rw [hop];intro h;cases h),rfl⟩)),k3⟩
  split at h
  ·rename_i hok;simp only [au] at hok;simp only [bz,dw] at h;cases h
   exact fin _ (by simp [ad7,hok.1]) hok.2
  ·split at h
   ·rename_i hok;simp only [au] at hok;simp only [bz,dw] at h;cases h
    exact fin _ (by simp [ad7,hok.1]) hok.2
   ·split at h
    ·rename_i hok;simp only [au] at hok;simp only [bz,dw] at h;cases h
     refine ⟨⟨by rw [ahr,aff,h1];simp,fun i o a ho ha=>?_⟩,fun _=>⟨by simp [ad7,hok.1],hok.2⟩⟩
     obtain ⟨b0,hb0,e0⟩:=alg ha;obtain ⟨b,hb,e⟩:=akg hb0;obtain ⟨k1,k2,k3⟩:=one i o b ho hb
     rcases e0 with rfl | ⟨sz,n,s,x,hop,rfl⟩
     ·rcases e with rfl | ⟨f,xs,hop,rfl⟩ | ⟨f,xs,hop,rfl⟩
      ·exact ⟨k1,k2.imp id fun h=>.inr (.inr (.inr h)),k3⟩
      ·exact ⟨k1,.inr (.inl ⟨f,xs,by rw [← hop];exact k2.resolve_right (by rw [hop];intro h;cases h),rfl⟩),k3⟩
      ·exact ⟨k1,.inr (.inr (.inl ⟨f,xs,by rw [← hop];exact k2.resolve_right (by rw [hop];intro h;cases h),rfl⟩)),k3⟩
     ·rcases e with rfl | ⟨f,xs,hop',rfl⟩ | ⟨f,xs,hop',rfl⟩
      ·exact ⟨k1,.inr (.inr (.inr (.inl ⟨sz,n,s,x,by rw [← hop];exact k2.resolve_right (by rw [hop];intro h;cases h),rfl⟩))),k3⟩
      ·cases hop
      ·cases hop
    ·cases h
 ·rename_i hd;simp only [bz,dw] at h;cases h
  refine ⟨⟨by rw [h1];simp,fun i o a ho ha=>?_⟩,fun e=>absurd e hd⟩
  obtain ⟨k1,k2,k3⟩:=one i o a ho ha;exact ⟨k1,k2.imp id fun h=>.inr (.inr (.inr h)),k3⟩
theorem zo {lt:List Nat}:∀ (c:Code) (ac:ACode),wu P lt pure' c=some ac.bare→CodeR P pure' c ac:=by
 intro c
 induction c with
 | skip=>intro ac h;simp only [wu,dw] at h;cases ac <;> simp only [ACode.bare] at h <;> first | exact .skip | cases h
 | exit id=>intro ac h;simp only [wu,dw] at h;cases ac <;> simp only [ACode.bare] at h <;> first | (cases h;done) | (cases h;exact .exit _)
 | label l=>intro ac h;simp only [wu,dw] at h;cases ac <;> simp only [ACode.bare] at h <;> first | exact .label _ | cases h
 | ret=>intro ac h;simp only [wu,dw] at h;cases ac <;> simp only [ACode.bare] at h <;> first | exact .ret | cases h
 | scope c=>intro ac h;simp [wu] at h
 | goto l=>intro ac h;simp [wu] at h
 | refuse w=>intro ac h;simp [wu] at h
 | region id ops draw=>
   intro ac h;simp only [wu] at h;split at h
   ·rename_i q hr;obtain ⟨l,chk⟩:=q;simp only [dw] at h;obtain ⟨h1,h2⟩:=acl hr;have e:=h
    cases ac <;> simp only [ACode.bare] at e <;> first | (cases e;done) | (cases e;exact .region _ _ _ _ _ _ h1 h2) | (cases e;exact .regionE _ _ _ _ _ _ h1 h2)
   ·split at h
    ·rename_i hdp;rw [au] at hdp;obtain ⟨rfl,hp⟩:=hdp;rw [af] at h;obtain ⟨⟨l,chk⟩,hr,e⟩:=h;obtain ⟨h1,h2⟩:=acl hr
     cases ac <;> simp only [ACode.bare] at e <;> first | (cases e;done) | (cases e;exact .regionP _ _ _ _ _ _ hp h1 (h2 rfl)) | (cases e;exact .regionPE _ _ _ _ _ _ hp h1 (h2 rfl))
    ·cases h
 | seq a b iha ihb=>
   intro ac h;simp only [wu,bg,ae,bz,dw] at h;obtain ⟨x,hx,y,hy,e⟩:=h
   cases ac <;> simp only [ACode.bare] at e <;> first | (cases e;done) | (cases e;exact .seq _ _ _ _ (iha _ hx) (ihb _ hy))
 | cond c a b iha ihb=>
   intro ac h;simp only [wu,bg,ae,bz,dw] at h;obtain ⟨o,ho,x,hx,y,hy,e⟩:=h
   cases ac <;> simp only [ACode.bare] at e <;> first | (cases e;done) | (cases e;exact .cond _ _ _ _ _ _ ho (iha _ hx) (ihb _ hy))
 | block id c ih=>
   intro ac h;simp only [wu,bg,ae,bz,dw] at h;obtain ⟨x,hx,e⟩:=h
   cases ac <;> simp only [ACode.bare] at e <;> first | (cases e;done) | (cases e;exact .block _ _ _ (ih _ hx))
 | loop c ih=>
   intro ac h;simp only [wu,bg,ae,bz,dw] at h;obtain ⟨x,hx,e⟩:=h
   cases ac <;> simp only [ACode.bare] at e <;> first | (cases e;done) | (cases e;exact .loop _ _ _ (ih _ hx))
 | rangeFunc f ps a b iha ihb=>
   intro ac h;simp only [wu,bg,ae,bz,dw] at h;obtain ⟨o,ho,x,hx,y,hy,e⟩:=h
   cases ac <;> simp only [ACode.bare] at e <;> first | (cases e;done) | (cases e;exact .rangeFunc _ _ _ _ _ _ _ ho (iha _ hx) (ihb _ hy))
def ahl (lt:List Nat) (P:Program) (pure':PX) (k:Nat):Option (Bool × Nat × List ARes × ACode):=
 match P.funcs[k]? with
 | some fn=>match fn.body with
   | some body=>match wu P lt pure' body,fn.results.toList.mapM (ae2 P) with
     | some a, some rs => some (fn.name == "runtime.NumGoroutine", fn.ntmps, rs, a)
     | _,_=>none
   | none=>none
 | none=>none
abbrev wh (P:Program) (pure':PX) (k:Nat):Option (Bool × Nat × List ARes × ACode):=ahl [] P pure' k
theorem a2w {lt:List Nat} {k:Nat} {c:ACFun} (h:ahl lt P pure' k=some (false,c.ntmps,c.results,c.body.bare)):aba P pure' k (.code c):=by
 unfold ahl at h;split at h
 ·rename_i fn hfn;split at h
  ·rename_i body hb;split at h
   ·rename_i a rs ha hrs;simp only [dw,aia] at h;obtain ⟨h1,h2,h3,h4⟩:=h
    exact ⟨fn,body,hfn,hb,h1,zo _ _ (by rw [ha,h4]),h2,by rw [hrs,h3]⟩
   ·cases h
  ·cases h
 ·cases h
end
def Le (c c':ku):Prop:=∀ v args base H r,c v args base H=some r→c' v args base H=some r
theorem amu {c c':ku} (h:Le c c') {base:Nat} {fr:List V} {H:Heap} {op:AOp} {r:V × Heap} (he:je c base fr H op=some r):je c' base fr H op=some r:=by
 cases op
 case call f xs=>exact h _ _ _ _ _ he
 case callR f xs=>exact h _ _ _ _ _ he
 case callP f xs=>
  simp only [je] at he ⊢;split at he
  ·rename_i us hus;split at he
   ·rename_i v H' hc;rw [h _ _ _ _ _ hc];exact he
   ·cases he
  ·cases he
 case callQ f xs=>
  simp only [je] at he ⊢;split at he
  ·rename_i hp;rw [fe hp];split at he
   ·rename_i v H' hc;rw [h _ _ _ _ _ hc];exact he
   ·cases he
  ·cases he
 all_goals exact he
theorem afs {c c':ku} (h:Le c c') {base:Nat}:∀ (l:List AOper) {fr:List V} {H:Heap} {r:List V × Heap},ji c base l fr H=some r→ji c' base l fr H=some r:=by
 intro l
 induction l with
 | nil=>intro fr H r he;exact he
 | cons o l ih=>
   intro fr H r he;simp only [ji] at he ⊢;split at he
   ·cases he
   ·exact ih he
   ·split at he
    ·rename_i v H1 h1;rw [amu h h1];exact ih he
    ·cases he
theorem ajo {c:ku} {base:Nat}:∀ (l:List AOper) {fr:List V} {H:Heap} {r:List V × Heap},ji c base l fr H=some r→∀ k,∃ r',ji c base (l.take k) fr H=some r':=by
 intro l fr H r h k;rw [← pu k l,adi] at h;cases he:ji c base (l.take k) fr H with
 | none=>rw [he] at h;cases h
 | some r'=>exact ⟨r',rfl⟩
theorem aou {c c':ku} (h:Le c c') {base:Nat} {l:List AOper} {fr fr':List V} {H:Heap} {r:List V × Heap} (he:ji c base l fr H=some r):aay c' base l fr H fr'=aay c base l fr H fr':=by
 have hk:∀ k,ji c' base (l.take k) fr H=ji c base (l.take k) fr H:=fun k=>by
  obtain ⟨r',hr⟩:=ajo l he k;rw [hr];exact afs h _ hr
 funext p
 simp only [aay,aa4,hk]
theorem afr {b b':List V→Heap→Option St} (hb:∀ fr H r,b fr H=some r→b' fr H=some r) {kill:List Nat} {m:Nat}:∀ {n n':Nat},n≤n'→∀ {fr:List V} {H:Heap} {r:St},qx b kill m n fr H=some r→qx b' kill m n' fr H=some r:=by
 intro n
 induction n with
 | zero=>intro n' _ fr H r h;simp [qx] at h
 | succ n ih=>
   intro n' hn fr H r h
   obtain ⟨k,rfl⟩:∃ k,n'=k+1:=⟨n' - 1,by omega⟩
   simp only [qx] at h ⊢;split at h
   ·rename_i fr1 H1 h1;rw [hb _ _ _ h1]
    exact ih (by omega) h
   ·rename_i e fr1 H1 hne h1;rw [hb _ _ _ h1];split
    ·rename_i e' ;cases e';exact (hne rfl).elim
    ·rename_i e';cases e';exact h
    ·rename_i e';cases e'
   ·cases h
abbrev itN (n:Nat):yj:=fun b k m=>qx b k m n
theorem ahk {c c':ku} (h:Le c c') {n n':Nat} (hn:n≤n') {base:Nat}:∀ (ac:ACode) {fr:List V} {H:Heap} {r:St},evC c (itN n) base ac fr H=some r→evC c' (itN n') base ac fr H=some r:=by
 intro ac
 induction ac with
 | skip=>intro fr H r he;exact he
 | regionE ops kill outs=>intro fr H r he;exact he
 | region ops chk kill=>
   intro fr H r he;simp only [evC] at he ⊢;split at he
   ·rename_i fr1 H1 h1;rw [afs h ops h1];simp only [aou h h1];exact he
   ·cases he
 | seq a b iha ihb=>
   intro fr H r he;simp only [evC] at he ⊢;split at he
   ·rename_i fr1 H1 h1;rw [iha h1];exact ihb he
   ·rename_i hne;have:=iha he;rw [this];split
    ·rename_i e;cases e;exact (hne _ _ he).elim
    ·rfl
 | cond o a b iha ihb=>
   intro fr H r he;simp only [evC] at he ⊢;split at he
   ·exact iha he
   ·exact ihb he
   ·cases he
 | block id a ih=>
   intro fr H r he;simp only [evC] at he ⊢;split at he
   ·rename_i id' fr1 H1 h1;rw [ih h1];exact he
   ·rename_i hne;rw [ih he];split
    ·rename_i e;cases e;exact (hne _ _ _ he).elim
    ·rfl
 | loop kill a ih=>
   intro fr H r he;simp only [evC] at he ⊢;exact afr (fun fr H r=>ih) hn he
 | rangeFunc f ps a b _ _=>
   intro fr H r he;simp only [evC] at he ⊢;split at he
   ·split at he
    ·rename_i v H2 hc;rw [h _ _ _ _ _ hc];exact he
    ·cases he
   ·cases he
 | exit id=>intro fr H r he;exact he
 | ret=>intro fr H r he;exact he
theorem aza {CP:Nat→Option CFun} {c c':ku} (h:Le c c') {n n':Nat} (hn:n≤n'):Le (uz CP c (itN n)) (uz CP c' (itN n')):=by
 intro v args base H r he
 cases v <;> simp only [uz] at he ⊢ <;> first | (cases he;done) | skip
 case fn f x y=>
  split at he
  ·rename_i cf hcf;split at he
   ·rename_i fr1 H1 h1;rw [ahk h hn _ h1];exact he
   ·rename_i fr1 H1 h1;rw [ahk h hn _ h1];exact he
   ·cases he
  ·exact he
  ·cases he
 case yld id=>
  split at he
  case isFalse=>cases he
  rename_i hb;rw [fe hb];split at he
  case h_2=>cases he
  split at he
  case h_2=>cases he
  split at he
  case h_2=>cases he
  rename_i h1;rw [ahk h hn _ h1];simp only [];split at he
  case h_2=>cases he
  split at he
  case h_2=>cases he
  rename_i h2;rw [ahk h hn _ h2];exact he
theorem ag5 {CP:Nat→Option CFun}:∀ n,Le (w9 CP n) (w9 CP (n+1))
 | 0=>fun _ _ _ _ _ h=>by cases h
 | n+1=>aza (ag5 n) (Nat.le_succ n)
theorem ve {CP:Nat→Option CFun} {n m:Nat} (h:n≤m):Le (w9 CP n) (w9 CP m):=by
 induction m with
 | zero=>have:n=0:=by omega
         subst this;exact fun _ _ _ _ _ h=>h
 | succ m ih=>
   by_cases hn:n=m+1
   ·subst hn;exact fun _ _ _ _ _ h=>h
   ·exact fun v a b H r hr=>ag5 m v a b H r (ih (by omega) v a b H r hr)
open Classical in
noncomputable def dn (CP:Nat→Option CFun):ku:=fun v args base H=>if h:∃ r n,w9 CP n v args base H=some r then some h.choose else none
open Classical in
noncomputable def itW:yj:=fun b k m fr H=>if h:∃ r n,qx b k m n fr H=some r then some h.choose else none
variable {CP:Nat→Option CFun}
theorem ati {n:Nat} {v:V} {args:List V} {base:Nat} {H:Heap} {r:V × Heap} (h:w9 CP n v args base H=some r):dn CP v args base H=some r:=by
 have hx:∃ r n,w9 CP n v args base H=some r:=⟨r,n,h⟩;unfold dn;rw [dif_pos hx];obtain ⟨m,hm⟩:=hx.choose_spec;have h1:=ve (oq n m) _ _ _ _ _ h;have h2:=ve (j6 n m) _ _ _ _ _ hm;rw [h1] at h2;exact h2.symm
theorem acn {v:V} {args:List V} {base:Nat} {H:Heap} {r:V × Heap} (h:dn CP v args base H=some r):∃ n,w9 CP n v args base H=some r:=by
 unfold dn at h;split at h
 ·rename_i hx;obtain ⟨m,hm⟩:=hx.choose_spec;exact ⟨m,hm.trans h⟩
 ·cases h
theorem ayl {b:List V→Heap→Option St} {k:List Nat} {m n:Nat} {fr:List V} {H:Heap} {r:St} (h:qx b k m n fr H=some r):itW b k m fr H=some r:=by
 have hx:∃ r n,qx b k m n fr H=some r:=⟨r,n,h⟩;unfold itW;rw [dif_pos hx];obtain ⟨j,hj⟩:=hx.choose_spec;have h1:=afr (fun _ _ _ h=>h) (oq n j) h;have h2:=afr (fun _ _ _ h=>h) (j6 n j) hj;rw [h1] at h2;exact h2.symm
theorem as2 {b:List V→Heap→Option St} {k:List Nat} {m:Nat} {fr:List V} {H:Heap} {r:St} (h:itW b k m fr H=some r):∃ n,qx b k m n fr H=some r:=by
 unfold itW at h;split at h
 ·rename_i hx;obtain ⟨j,hj⟩:=hx.choose_spec;exact ⟨j,hj.trans h⟩
 ·cases h
theorem ao4 {base:Nat} {fr:List V} {H:Heap} {op:AOp} {r:V × Heap} (he:je (dn CP) base fr H op=some r):∃ n,je (w9 CP n) base fr H op=some r:=by
 cases op
 case call f xs=>exact acn he
 case callR f xs=>exact acn he
 case callP f xs=>
  simp only [je] at he;split at he
  ·rename_i us hus;split at he
   ·rename_i v H' hc;obtain ⟨n,hn⟩:=acn hc;refine ⟨n,?_⟩;simp only [je,hus,hn];exact he
   ·cases he
  ·cases he
 case callQ f xs=>
  simp only [je] at he;split at he
  ·rename_i hp;split at he
   ·rename_i v H' hc;obtain ⟨n,hn⟩:=acn hc;refine ⟨n,?_⟩;simp only [je,fe hp,hn];exact he
   ·cases he
  ·cases he
 all_goals exact ⟨0,he⟩
theorem akw {base:Nat}:∀ (l:List AOper) {fr:List V} {H:Heap} {r:List V × Heap},ji (dn CP) base l fr H=some r→∃ n,ji (w9 CP n) base l fr H=some r:=by
 intro l
 induction l with
 | nil=>intro fr H r he;exact ⟨0,he⟩
 | cons o l ih=>
   intro fr H r he;simp only [ji] at he;split at he
   ·cases he
   ·rename_i hw;obtain ⟨n,hn⟩:=ih he
    exact ⟨n,by simp only [ji,hw,hn]⟩
   ·rename_i hw;split at he
    ·rename_i v H1 h1;obtain ⟨n1,hn1⟩:=ao4 h1;obtain ⟨n2,hn2⟩:=ih he;refine ⟨max n1 n2,?_⟩;simp only [ji,hw,amu (ve (oq n1 n2)) hn1];exact afs (ve (j6 n1 n2)) l hn2
    ·cases he
theorem au2 {bW:List V→Heap→Option St} {b:Nat→List V→Heap→Option St} (hmono:∀ n m,n≤m→∀ fr H r,b n fr H=some r→b m fr H=some r) (hb:∀ fr H r,bW fr H=some r→∃ n,b n fr H=some r) {kill:List Nat} {m:Nat}:
 ∀ (k:Nat) {fr:List V} {H:Heap} {r:St},qx bW kill m k fr H=some r→∃ n,qx (b n) kill m k fr H=some r:=by
 intro k
 induction k with
 | zero=>intro fr H r h;simp [qx] at h
 | succ k ih=>
   intro fr H r h;simp only [qx] at h;split at h
   ·rename_i fr1 H1 h1;obtain ⟨n1,hn1⟩:=hb _ _ _ h1;obtain ⟨n2,hn2⟩:=ih h;refine ⟨max n1 n2,?_⟩;simp only [qx,hmono _ _ (oq n1 n2) _ _ _ hn1];exact afr (hmono _ _ (j6 n1 n2)) (ag _) hn2
   ·rename_i e fr1 H1 hne h1;obtain ⟨n1,hn1⟩:=hb _ _ _ h1;refine ⟨n1,?_⟩;simp only [qx,hn1];cases e with
    | nrm=>exact (hne rfl).elim
    | ext id=>exact h
    | ret=>exact h
   ·cases h
noncomputable def evN (CP:Nat→Option CFun) (base:Nat) (ac:ACode) (n:Nat):List V→Heap→Option St:=evC (w9 CP n) (itN n) base ac
theorem yo {base:Nat} {ac:ACode} {n m:Nat} (h:n≤m) {fr:List V} {H:Heap} {r:St} (he:evN CP base ac n fr H=some r):evN CP base ac m fr H=some r:=ahk (ve h) h ac he
theorem yc {base:Nat}:∀ (ac:ACode) {fr:List V} {H:Heap} {r:St},evC (dn CP) itW base ac fr H=some r→∃ n,evN CP base ac n fr H=some r:=by
 intro ac
 induction ac with
 | skip=>intro fr H r he;exact ⟨0,he⟩
 | regionE ops kill outs=>intro fr H r he;exact ⟨0,he⟩
 | region ops chk kill=>
   intro fr H r he;simp only [evC] at he;split at he
   ·rename_i fr1 H1 h1;obtain ⟨n,hn⟩:=akw ops h1;have hl:Le (w9 CP n) (dn CP):=fun _ _ _ _ _ h=>ati h;refine ⟨n,?_⟩;simp only [evN,evC,hn];simp only [aou hl hn] at he;exact he
   ·cases he
 | seq a b iha ihb=>
   intro fr H r he;simp only [evC] at he;split at he
   ·rename_i fr1 H1 h1;obtain ⟨n1,hn1⟩:=iha h1;obtain ⟨n2,hn2⟩:=ihb he;refine ⟨max n1 n2,?_⟩;have k1:=yo (oq n1 n2) hn1;have k2:=yo (j6 n1 n2) hn2;simp only [evN,evC] at k1 ⊢;rw [k1];exact k2
   ·rename_i hne;obtain ⟨n,hn⟩:=iha he;refine ⟨n,?_⟩;simp only [evN,evC] at hn ⊢;rw [hn];split
    ·rename_i e;cases e;exact (hne _ _ he).elim
    ·rfl
 | cond o a b iha ihb=>
   intro fr H r he;simp only [evC] at he;split at he
   ·rename_i hc;obtain ⟨n,hn⟩:=iha he
    exact ⟨n,by simp only [evN,evC,hc];exact hn⟩
   ·rename_i hc;obtain ⟨n,hn⟩:=ihb he
    exact ⟨n,by simp only [evN,evC,hc];exact hn⟩
   ·cases he
 | block id a ih=>
   intro fr H r he;simp only [evC] at he;split at he
   ·rename_i id' fr1 H1 h1;obtain ⟨n,hn⟩:=ih h1
    exact ⟨n,by simp only [evN,evC] at hn ⊢;rw [hn];exact he⟩
   ·rename_i hne;obtain ⟨n,hn⟩:=ih he;refine ⟨n,?_⟩;simp only [evN,evC] at hn ⊢;rw [hn];split
    ·rename_i e;cases e;exact (hne _ _ _ he).elim
    ·rfl
 | loop kill a ih=>
   intro fr H r he;simp only [evC] at he;obtain ⟨k,hk⟩:=as2 he;obtain ⟨n,hn⟩:=au2 (b:=evN CP base a) (fun n m h fr H r=>yo h) (fun fr H r=>ih) k hk;refine ⟨max n k,?_⟩;simp only [evN,evC];exact afr (fun fr H r h=>yo (oq n k) h) (j6 n k) hn
 | rangeFunc f ps a b _ _=>
   intro fr H r he;simp only [evC] at he;split at he
   ·rename_i k x y hf;split at he
    ·rename_i v H2 hc;obtain ⟨n,hn⟩:=acn hc;refine ⟨n,?_⟩;simp only [evN,evC,hf,hn];exact he
    ·cases he
   ·cases he
 | exit id=>intro fr H r he;exact ⟨0,he⟩
 | ret=>intro fr H r he;exact ⟨0,he⟩
theorem arz {v:V} {args:List V} {base:Nat} {H:Heap} {r:V × Heap} (he:uz CP (dn CP) itW v args base H=some r):∃ n,uz CP (w9 CP n) (itN n) v args base H=some r:=by
 cases v <;> simp only [uz] at he ⊢ <;> first | (cases he;done) | skip
 case fn f x y=>
  split at he
  ·rename_i cf hcf;split at he
   ·rename_i fr1 H1 h1;obtain ⟨n,hn⟩:=yc _ h1;refine ⟨n,?_⟩;simp only [evN] at hn;simp only [hn];exact he
   ·rename_i fr1 H1 h1;obtain ⟨n,hn⟩:=yc _ h1;refine ⟨n,?_⟩;simp only [evN] at hn;simp only [hn];exact he
   ·cases he
  ·rename_i g hg;exact ⟨0,he⟩
  ·cases he
 case yld id=>
  split at he
  case isFalse=>cases he
  rename_i hb;split at he
  case h_2=>cases he
  rename_i hH;split at he
  case h_2=>cases he
  rename_i hset;split at he
  case h_2=>cases he
  rename_i h1;split at he
  case h_2=>cases he
  rename_i hH1;split at he
  case h_2=>cases he
  rename_i h2;obtain ⟨n1,hn1⟩:=yc _ h1;obtain ⟨n2,hn2⟩:=yc _ h2;have k1:=yo (oq n1 n2) hn1;have k2:=yo (j6 n1 n2) hn2;refine ⟨max n1 n2,?_⟩;simp only [evN] at k1 k2;simp only [hb,ja,hset,k1,hH1,k2];exact he
theorem zx {v:V} {args:List V} {base:Nat} {H:Heap} {r:V × Heap} (he:uz CP (dn CP) itW v args base H=some r):dn CP v args base H=some r:=by
 obtain ⟨n,hn⟩:=arz he;exact ati (n:=n+1) hn
theorem bb7 {b:List V→Heap→Option St} {k:List Nat} {m:Nat} {fr fr':List V} {H H':Heap} {r:St} (h1:b fr H=some (.nrm,fr',H')) (h2:itW b k m (nz k fr') (trim m (nz k fr') H')=some r):itW b k m fr H=some r:=by
 obtain ⟨n,hn⟩:=as2 h2;refine ayl (n:=n+1) ?_;simp only [qx,h1];exact hn
theorem as0 {b:List V→Heap→Option St} {k:List Nat} {m:Nat} {fr fr':List V} {H H':Heap} {e:Ex} (hne:e≠.nrm) (h1:b fr H=some (e,fr',H')):itW b k m fr H=some (e,nz k fr',trim m (nz k fr') H'):=by
 refine ayl (n:=1) ?_;simp only [qx,h1]
open Go.RowKit Go.ChangeShapes Go.WideShapes Go.ChangeAt
section
variable {P:Program} {pure':PX} {CP:Nat→Option CFun} {H:Type} {enc:TypeId × Value→H}
theorem a7m {w w':World} {may:MemPlace→Prop} (hk:∀ B,B < w.heap.size→w'.heap[B]?=w.heap[B]?) (ht:Tr (fun _ _=>none) w w'):w.keptBut w' may:=by
 refine ⟨ht.os,ht.output,fun i hi=>?_⟩;rw [hk i hi];cases w.heap[i]? with
 | none=>rfl
 | some o=>cases o <;> simp
theorem aw3 {f:Func} {s:ChangeSpec} {again:Bool} {W W':World} {args:Array Value} {v:Value} {ds gs:List (DataW H)} {before:List MemPlace}
 (hW:DataW.Whole enc P f.params.toList s.vars false W args.toList ds gs before) {pa pv:List MemPlace}
 (hres:∀ (b:Nat) (sp:Nat→Bool) (hd:Bool),DataW.TrodAll enc P W' b sp hd f.resultTypes.toList (v.resultList f.resultTypes.size) (s.fn H (ds ++ gs)).results [])
 (hargs:∀ sp:Nat→Bool,(∀ p∈before,sp p.block=true)→DataW.TrodAll enc P W' 0 sp true f.params.toList args.toList (s.fn H (ds ++ gs)).args pa)
 (hvars:∀ sp:Nat→Bool,(∀ p∈before,sp p.block=true)→DataW.TrodVars enc P W' sp s.vars (s.fn H (ds ++ gs)).vars pv)
 (hps:before=pa ++ pv) (hk:W.keptBut W' (·∈before)) (hfz:∀ b off,MemPlace.cell b off∈before→W'.frozen? ⟨b,off,none⟩=W.frozen? ⟨b,off,none⟩)
 (hok:∀ (j:Nat) (t:TypeId) (r:Value),f.resultTypes[j]?=some t→(v.resultList f.resultTypes.size)[j]?=some r→Value.okWide P W' .any 0 t r):
 s.post enc P f false true false again W args v W':=by
 have old:∀ p∈before,(fun b=>decide (b < W.heap.size)) p.block=true:=fun p hp=>by simpa using hW.lt p hp
 refine ⟨ds,gs,before,[],pa,pv,hW,hres _ _ _,hargs _ old,hvars _ old,World.keptBut_mono (fun p hp=>⟨hp,?_⟩) hk,fun _=>?_⟩
 ·rw [hps,jr] at hp;exact .inr hp
 ·obtain ⟨_,_,_,_,_,hz,_⟩:=hW
  refine ⟨hok,_,_,([] ++ pa) ++ pv,⟨[] ++ pa,pv,trodAll_append (hargs _ fun _ _=>rfl) (hres _ _ _),hvars _ fun _ _=>rfl,rfl,fun b off hp=>?_,fun h=>by cases h⟩,fun p hp _=>by rw [hps];simpa using hp⟩
  have hb:MemPlace.cell b off∈before:=by rw [hps];simpa using hp
  rw [hfz b off hb];exact hz b off hb
theorem afb {w w':World} {base:Nat} {sp:Nat→Bool} {held:Bool}:∀ {ts:List TypeId} {vs:List Value} {ds:List (DataW H)} {ps:List MemPlace},DataW.TrodAll enc P w base sp held ts vs ds ps→(∀ p∈ps,w.sameAt w' p)→DataW.TrodAll enc P w' base sp held ts vs ds ps
 | [],[],[],_,h,_=>h
 | _ :: _,_ :: _,_ :: _,_,⟨p,q,⟨n,h1⟩,h2,e⟩,hs=>⟨p,q,⟨n,DataW.trod_carry n _ _ _ h1 (fun x hx=>hs x (by rw [e];exact jd _ hx))⟩,afb h2 (fun x hx=>hs x (by rw [e];exact lq _ hx)),e⟩
theorem trodAll_length {w:World} {base:Nat} {sp:Nat→Bool} {held:Bool}:∀ {ts:List TypeId} {vs:List Value} {ds:List (DataW H)} {ps:List MemPlace},DataW.TrodAll enc P w base sp held ts vs ds ps→ds.length=ts.length
 | [],[],[],_,_=>rfl
 | _ :: _,_ :: _,_ :: _,_,⟨_,_,_,h2,_⟩=>by simp [trodAll_length h2]
theorem awk {w w':World} {p:MemPlace} (h:w'.heap[p.block]?=w.heap[p.block]?):w.sameAt w' p:=by
 cases p with
 | cell b off=>
   show w'.cell? ⟨b,off,none⟩=w.cell? ⟨b,off,none⟩;have h:w'.heap[b]?=w.heap[b]?:=h;simp only [World.cell?,h]
 | map b=>exact h
theorem aot (hmix:P.follows .mixedOrders=true) (hCP:∀ k c,CP k=some c→aba P pure' k c) (hl:laidOutB P=true) (hm:mapsRowed P=true)
 (hz:((List.range P.types.size).all fun t=>match P.underlying t with | some (.slice e)=>decide (0 < P.cellsOf e) | _=>true)=true)
 {k:Nat} {fn:Func} {s:ChangeSpec} {tb:TypeId} (hvars:s.vars=[]) (hres:fn.resultTypes=#[tb]) (htb:P.underlying tb=some .bool) (hpar:∀ t∈fn.params.toList,t < P.types.size)
 (hspec:∀ ds:List (DataW H),ds.length=fn.params.toList.length→s.fn H ds={ results:=[.lit (.bool true)],args:=ds })
 {W:World} {args:Array Value} {ds gs:List (DataW H)} {before:List MemPlace} (hW:DataW.Whole enc P fn.params.toList s.vars false W args.toList ds gs before)
 (hv:∃ vs,VRs (fun _ _=>none) (fun _=>False) W vs args.toList∧∃ n H',w9 CP n (.fn k [] []) vs 0 []=some (bl true,H')) (hfx:∀ (B:Nat) (o:Array Value × TypeId × Nat × Nat),pure'.fx B=some o→W.heap[B]?=some (.cells o.1 o.2.1 o.2.2)):
 Calls P k args W fun e W'=>∃ v,e=.returned v∧s.post enc P fn false true false false W args v W':=by
 obtain ⟨vs,hvs,n,H',hc⟩:=hv;refine (ar5 hmix hCP hc hvs hfx).mono ?_;rintro e W' ⟨c,μ',Mt',rfl,hr,hk,htr⟩;have hcv:c=.bool true:=x9 hr;subst hcv;have hlt:=hW.lt;have hW0:=hW;obtain ⟨p,q,h1,h2,e1,h3,h4⟩:=hW;rw [hvars] at h2
 obtain ⟨rfl,rfl⟩:gs=[]∧q=[]:=by
  cases gs with
  | nil=>exact ⟨rfl,h2⟩
  | cons g gs=>exact h2.elim
 have hbp:before=p:=by simpa using e1
 have hds:=trodAll_length h1
 have hfn:s.fn H (ds ++ [])={ results:=[.lit (.bool true)],args:=ds }:=by rw [abm];exact hspec ds hds
 refine ⟨_,rfl,aw3 (pa:=before) (pv:=[]) hW0 (fun b sp hd=>?_) (fun sp hsp=>?_) (fun sp _=>?_) (by simp) (a7m hk htr) (fun b off hp=>?_) (ok_one hres rfl (okWide_bool_mk htb true))⟩
 ·rw [hfn,hres]
  exact ⟨[],[],⟨1,by simp [DataW.trod,Value.cells,htb]⟩,rfl,rfl⟩
 ·rw [hfn]
  have h5:=DataW.TrodAll.respare (kids_rows hl hm) (fun t e ht he=>slices_full_of P hz t e ht he) hpar h1 (spare':=sp) (fun x hx=>hsp x (by rw [hbp];exact hx))
  rw [hbp]
  exact afb h5 fun x hx=>awk (hk _ (hlt x (by rw [hbp];exact hx)))
 ·rw [hfn,hvars];rfl
 ·simp only [World.frozen?,hk b (hlt _ hp)]
end
theorem aur (p x y:Bool):alz (some (.s (.bool p))) (some (.s (.bool x))) (some (.s (.bool y)))=some (.s (.bool (bif p then x else y))):=by cases p <;> rfl
theorem auq (x y:Option V):alz (some (.s (.bool true))) x y=x:=rfl
theorem aqp (x y:Option V):alz (some (.s (.bool false))) x y=y:=rfl
theorem acj {fr:List V} {s:Nat} {v:V} (h:s < fr.length):(fr.set s v).getD s .unk=v:=by simp [h]
theorem abt {fr:List V} {s t:Nat} {v:V} (h:s≠t):(fr.set s v).getD t .unk=fr.getD t .unk:=by simp [h]
theorem aaa (fr:List V):nz [] fr=fr:=rfl
theorem ac0 {m:Nat} {fr:List V} {H:Heap} (h:H.length=m):trim m fr H=H:=by
 unfold trim;split
 ·rw [← h];exact ajw
 ·rfl
inductive RI where
 | keep (g:List (Nat × Bool × E)) (e:E)
 | sub (src:Nat) (path slots:List Nat)
 | tt (i:Nat)
 | cc (v:V)
 deriving Inhabited
def aca:List Nat→List Nat→E→List (Nat × Bool × E) × E
 | [],_,e=>([],e)
 | i :: p,ss,.op _ xs=>aca p ss (xs.getD i (.c .unk))
 | 0 :: p,ss,.pick c _ _=>aca p ss c
 | 1 :: p,s :: ss,.pick c a _=>((s,true,c) :: (aca p ss a).1,(aca p ss a).2)
 | 2 :: p,s :: ss,.pick c _ b=>((s,false,c) :: (aca p ss b).1,(aca p ss b).2)
 | _,_,_=>([],.c .unk)
def ad9:List RI→List (List (Nat × Bool × E) × E)
 | []=>[]
 | .keep g e :: r=>(g,e) :: ad9 r
 | _ :: r=>ad9 r
def frees:List RI→List E
 | []=>[]
 | .keep [] e :: r=>e :: frees r
 | _ :: r=>frees r
def RI.get (S:List E):RI→List (Nat × Bool × E) × E
 | .keep g e=>(g,e)
 | .sub s p ss=>aca p ss (S.getD s (.c .unk))
 | .tt i=>([],.t i)
 | .cc v=>([],.c v)
def akv (items:List RI) (os:List (Nat × E)):List (List (Nat × Bool × E) × E):=items.map (RI.get (os.map (·.2) ++ frees items))
theorem a3f {fr:List V} {H:Heap}:∀ {xs:List E} {i:Nat},(amv fr H xs).isSome=true→(evE fr H (xs.getD i (.c .unk))).isSome=true:=by
 intro xs
 induction xs with
 | nil=>intro i _;simp [evE]
 | cons x xs ih=>
   intro i h;simp only [amv] at h;cases hx:evE fr H x with
   | none=>simp [hx] at h
   | some v=>
     cases hs:amv fr H xs with
     | none=>simp [hx,hs] at h
     | some vs=>
       cases i with
       | zero=>simp [hx]
       | succ i=>simpa using ih (i:=i) (by rw [hs];rfl)
theorem agd {fr:List V} {H:Heap}:∀ (p ss:List Nat) (e:E),(evE fr H e).isSome=true→ahf fr H (aca p ss e).1 (aca p ss e).2=true:=by
 intro p
 induction p with
 | nil=>intro ss e h;simp only [aca,ahf];exact h
 | cons i p ih=>
   intro ss e h;cases e with
   | op o xs=>
     simp only [aca];refine ih _ _ (a3f ?_);simp only [evE] at h;cases hs:amv fr H xs with
     | none=>simp [hs] at h
     | some vs=>rfl
   | pick c a b=>
     simp only [evE] at h;cases hc:evE fr H c with
     | none=>simp [hc,alz] at h
     | some v=>
       rw [hc] at h
       match i,ss with
       | 0,ss=>simp only [aca];exact ih _ _ (by rw [hc];rfl)
       | 1,[]=>simp only [aca,ahf,evE];rfl
       | 2,[]=>simp only [aca,ahf,evE];rfl
       | 1,s :: ss=>
         simp only [aca,ahf,hc];unfold alz at h;split at h
         ·rename_i e;cases e;simp only [a01,ja];exact ih _ _ h
         ·rename_i e;cases e;simp [a01]
         ·cases h
       | 2,s :: ss=>
         simp only [aca,ahf,hc];unfold alz at h;split at h
         ·rename_i e;cases e;simp [a01]
         ·rename_i e;cases e;simp only [a01,ja];exact ih _ _ h
         ·cases h
       | i+3,ss=>simp only [aca,ahf,evE];rfl
   | t j=>simp only [aca,ahf,evE];rfl
   | c v=>simp only [aca,ahf,evE];rfl
theorem anu {fr:List V} {H:Heap}:∀ {os:List (Nat × E)} {f g:List V},yg fr H os f=some g→∀ p∈os,(evE fr H p.2).isSome=true:=by
 intro os
 induction os with
 | nil=>intro f g _ p hp;cases hp
 | cons q os ih=>
   intro f g h p hp;simp only [yg] at h;cases hq:evE fr H q.2 with
   | none=>simp [hq] at h
   | some v=>
     simp only [hq] at h
     rcases og.1 hp with rfl | hp
     ·rw [hq];rfl
     ·exact ih h p hp
theorem ayf:∀ {items:List RI} {g:List (Nat × Bool × E)} {e:E},RI.keep g e∈items→(g,e)∈ad9 items:=by
 intro items
 induction items with
 | nil=>intro g e h;cases h
 | cons x r ih=>
   intro g e h
   rcases og.1 h with h2 | h2
   ·subst h2;simp [ad9]
   ·have h3:=ih h2;clear h
    cases x <;> simp only [ad9] <;> first | exact di _ h3 | exact h3
theorem axw:∀ {items:List RI} {g:List (Nat × Bool × E)} {e:E},(g,e)∈ad9 items→RI.keep g e∈items:=by
 intro items
 induction items with
 | nil=>intro g e h;cases h
 | cons x r ih=>
   intro g e h;cases x with
   | keep g' e'=>
     simp only [ad9] at h
     rcases og.1 h with h | h
     ·cases h;exact fo
     ·exact di _ (ih h)
   | _=>exact di _ (ih h)
theorem ayx:∀ {items:List RI} {e:E},e∈frees items→([],e)∈ad9 items:=by
 intro items
 induction items with
 | nil=>intro e h;cases h
 | cons x r ih=>
   intro e h;cases x with
   | keep g e'=>
     cases g with
     | nil=>
       simp only [frees] at h;simp only [ad9]
       rcases og.1 h with rfl | h
       ·exact fo
       ·exact di _ (ih h)
     | cons a g=>simp only [frees] at h;simp only [ad9];exact di _ (ih h)
   | _=>exact ih h
theorem ao3 (m:Nat) (items:List RI) (os:List (Nat × E)) (kill:List Nat) (fr:List V) (H:Heap):
 q9 (some (m,akv items os,os)) kill fr H=q9 (some (m,ad9 items,os)) kill fr H:=by
 simp only [q9];by_cases hm:m≤fr.length
 ·rw [fe hm,fe hm];by_cases hk:(ad9 items).all (fun r=>ahf fr H r.1 r.2)=true
  ·rw [fe hk];cases hs:yg fr H os (nz kill fr) with
   | none=>split <;> rfl
   | some g=>
     rw [fe];rw [ah];intro r hr;unfold akv at hr;rw [zi] at hr;obtain ⟨x,hx,rfl⟩:=hr;cases x with
     | keep gg e=>
       rw [ah] at hk;exact hk _ (ayf hx)
     | tt i=>rfl
     | cc v=>rfl
     | sub s p ss=>
       simp only [RI.get];by_cases hl:s < (os.map (·.2) ++ frees items).length
       ·have hd:(os.map (·.2) ++ frees items).getD s (.c .unk)=(os.map (·.2) ++ frees items)[s]:=by simp only [List.getD,List.getElem?_eq_getElem hl];rfl
        rw [hd]
        rcases jr.1 (qj hl) with h1 | h1
        ·rw [zi] at h1;obtain ⟨q,hq,e⟩:=h1;rw [← e];exact agd p ss _ (anu hs q hq)
        ·rw [ah] at hk;have h5:=hk _ (ayx h1)
         exact agd p ss _ (by simpa [ahf] using h5)
       ·have hd:(os.map (·.2) ++ frees items).getD s (.c .unk)=.c .unk:=by rw [List.getD,List.getElem?_eq_none (Nat.le_of_not_lt hl)];rfl
        rw [hd];exact agd (fr:=fr) (H:=H) p ss _ rfl
  ·rw [ic hk,ic];intro h;apply hk;rw [ah] at h ⊢;intro r hr;obtain ⟨g,e⟩:=r;exact h _ (zi.2 ⟨_,axw hr,rfl⟩)
 ·rw [ic hm,ic hm]
theorem a0g {ops:List AOper} {kill outs:List Nat} {m:Nat} {items:List RI} {os:List (Nat × E)} (h:xw ops kill outs=some (m,akv items os,os)) (fr:List V) (H:Heap):
 q9 (xw ops kill outs) kill fr H=q9 (some (m,ad9 items,os)) kill fr H:=by rw [h,ao3]
abbrev Env:=List (Nat × V)
def ah4:Env→Nat→V
 | [],_=>.unk
 | (k,x) :: e,s=>if s=k then x else ah4 e s
def a06 (s:Nat) (v:V):Env→Env
 | []=>[(s,v)]
 | (k,x) :: e=>if s=k then (s,v) :: e else if s < k then (s,v) :: (k,x) :: e else (k,x) :: a06 s v e
def ze (ks:List Nat):Env→Env
 | []=>[]
 | (k,x) :: e=>if ks.contains k then ze ks e else (k,x) :: ze ks e
def fq (n:Nat) (en:Env):List V:=(List.range n).map (ah4 en)
theorem a2r (s t:Nat) (v:V):∀ en:Env,ah4 (a06 s v en) t=if t=s then v else ah4 en t:=by
 intro en
 induction en with
 | nil=>rfl
 | cons p e ih=>
   obtain ⟨k,x⟩:=p;simp only [a06];split
   ·rename_i h;subst h;simp only [ah4];split <;> rfl
   ·split
    ·simp only [ah4]
    ·rename_i h1 h2;simp only [ah4,ih];by_cases h3:t=k
     ·subst h3;rw [fe rfl,ic (fun e=>h1 e.symm),fe rfl]
     ·rw [ic h3,ic h3]
theorem ays (ks:List Nat) (t:Nat):∀ en:Env,ah4 (ze ks en) t=if ks.contains t then .unk else ah4 en t:=by
 intro en
 induction en with
 | nil=>simp [ze,ah4]
 | cons p e ih=>
   obtain ⟨k,x⟩:=p;simp only [ze];by_cases h1:ks.contains k=true
   ·rw [fe h1,ih];split
    ·rfl
    ·rename_i h2;simp only [ah4];rw [ic];rintro rfl;exact h2 h1
   ·rw [ic h1];simp only [ah4,ih];by_cases h3:t=k
    ·subst h3;rw [fe rfl,ic h1,fe rfl]
    ·rw [ic h3,ic h3]
theorem qc (n:Nat) (en:Env):(fq n en).length=n:=by simp [fq]
theorem ack {n:Nat} {en:Env} {s:Nat} (h:s < n):(fq n en).getD s .unk=ah4 en s:=by simp [fq,h]
theorem a8f {n:Nat} {en:Env} {fr:List V} (hl:fr.length=n) (h:∀ s,s < n→fr.getD s .unk=ah4 en s):fr=fq n en:=by
 refine az9 (by rw [hl,qc]) fun i h1 h2=>?_
 have:=h i (by omega)
 simp only [fq,List.getElem_map,List.getElem_range];rw [← this];simp [h1]
theorem ams (n:Nat) (en:Env) (s:Nat) (v:V):(fq n en).set s v=fq n (a06 s v en):=by
 refine a8f (by rw [cz,qc]) fun t ht=>?_
 rw [a2r];split
 ·rename_i h;subst h;exact acj (by rw [qc];exact ht)
 ·rename_i h;rw [abt (fun e=>h e.symm),ack ht]
theorem ao2 (n:Nat) (en:Env) (ks:List Nat):nz ks (fq n en)=fq n (ze ks en):=by
 refine a8f (by rw [ui,qc]) fun t ht=>?_
 rw [aao,ays];by_cases h:t∈ks
 ·rw [fe h,fe (by simpa using h)]
 ·rw [ic h,ic (by simpa using h),ack ht]
def pg (n:Nat):List V→Nat→Env
 | [],k=>(List.range' k (n - k)).map fun s=>(s,und)
 | v :: vs,k=>(k,v) :: pg n vs (k+1)
theorem ag2 (n:Nat):∀ (vs:List V) (k t:Nat),k≤t→t < n→vs.length+k≤n→ah4 (pg n vs k) t=if t - k < vs.length then vs.getD (t - k) .unk else und:=by
 intro vs
 induction vs with
 | nil=>
   intro k t h1 h2 _;simp only [pg,ed,Nat.not_lt_zero,mh]
   have:∀ (m j:Nat),j≤t→t < j+m→ah4 ((List.range' j m).map fun s=>(s,und)) t=und:=by
    intro m
    induction m with
    | zero=>intro j a b;omega
    | succ m ih=>
      intro j a b;simp only [List.range'_succ,ou,ah4];split
      ·rfl
      ·exact ih (j+1) (by omega) (by omega)
   exact this _ k h1 (by omega)
 | cons v vs ih=>
   intro k t h1 h2 h3;simp only [pg,ah4,bq] at h3 ⊢;split
   ·rename_i h;subst h;simp
   ·rename_i h
    rw [ih (k+1) t (by omega) h2 (by omega)]
    obtain ⟨d,hd⟩:∃ d,t - k=d+1:=⟨t - k - 1,by omega⟩
    have:t - (k+1)=d:=by omega
    rw [hd,this];simp only [Nat.add_lt_add_iff_right,ik]
theorem start_eq {n:Nat} {vs:List V} (h:vs.length≤n):vs ++ List.replicate (n - vs.length) und=fq n (pg n vs 0):=by
 refine a8f (by simp;omega) fun t ht=>?_
 rw [ag2 n vs 0 t (jh _) ht (by omega)]
 split
 ·rename_i h1;simp at h1;simp only [List.getD,List.getElem?_append_left h1,bdx]
 ·rename_i h1;simp at h1;simp only [List.getD,List.getElem?_append_right h1,List.getElem?_replicate]
  rw [fe (by omega)]
  rfl
theorem a2s (s:Nat):ah4 [] s=.unk:=rfl
theorem ayt (k:Nat) (x:V) (e:Env) (s:Nat):ah4 ((k,x) :: e) s=if s=k then x else ah4 e s:=rfl
theorem a05 (s:Nat) (v:V):a06 s v []=[(s,v)]:=rfl
theorem aw2 (s:Nat) (v:V) (k:Nat) (x:V) (e:Env):a06 s v ((k,x) :: e)=if s=k then (s,v) :: e else if s < k then (s,v) :: (k,x) :: e else (k,x) :: a06 s v e:=rfl
theorem aye (ks:List Nat):ze ks []=[]:=rfl
theorem au1 (ks:List Nat) (k:Nat) (x:V) (e:Env):ze ks ((k,x) :: e)=if ks.contains k then ze ks e else (k,x) :: ze ks e:=rfl
theorem bb8 (b:List V→Heap→Option St) (k:List Nat) (m:Nat) (fr:List V) (H:Heap):itW b k m fr H=match b fr H with
 | some (.nrm,fr',H')=>itW b k m (nz k fr') (trim m (nz k fr') H')
 | some (e,fr',H')=>some (e,nz k fr',trim m (nz k fr') H')
 | none=>none:=by
 cases hb:b fr H with
 | none=>
   simp only [];cases hi:itW b k m fr H with
   | none=>rfl
   | some r=>
     obtain ⟨n,hn⟩:=as2 hi;cases n with
     | zero=>simp [qx] at hn
     | succ n=>simp [qx,hb] at hn
 | some r=>
   obtain ⟨e,fr',H'⟩:=r;cases e with
   | nrm=>
     simp only [];cases hi:itW b k m (nz k fr') (trim m (nz k fr') H') with
     | some r=>exact bb7 hb hi
     | none=>
       cases hj:itW b k m fr H with
       | none=>rfl
       | some r=>
         obtain ⟨n,hn⟩:=as2 hj;cases n with
         | zero=>simp [qx] at hn
         | succ n=>
           simp only [qx,hb] at hn;rw [ayl hn] at hi;cases hi
   | ext id=>exact as0 (by simp) hb
   | ret=>exact as0 (by simp) hb
noncomputable def agc (call:ku) (it:yj) (base:Nat) (b:ACode):Option St→Option St
 | some (.nrm,fr,H)=>evC call it base b fr H
 | r=>r
def a5b (id:Nat):Option St→Option St
 | some (.ext id',fr,H)=>some (if id'=id then .nrm else .ext id',fr,H)
 | r=>r
noncomputable def condC (call:ku) (it:yj) (base:Nat) (a b:ACode) (fr:List V) (H:Heap):V→Option St
 | .s (.bool p)=>bif p then evC call it base a fr H else evC call it base b fr H
 | _=>none
def rowC (H:Heap):Option (List V)→Option St
 | some fr=>some (.nrm,fr,H)
 | none=>none
def opsK (kill:List Nat) (chk:List V→Bool):Option (List V × Heap)→Option St
 | some (fr,H)=>bif chk fr then some (.nrm,nz kill fr,H) else none
 | none=>none
def axk (chk:List (Nat × Nat)) (ops:List AOper) (kill:List Nat):Option (List V × Heap)→Option St
 | some (fr,H)=>bif chk.all (ag8 ops fr) then some (.nrm,nz kill fr,H) else none
 | none=>none
section
variable {call:ku} {it:yj} {base:Nat}
theorem a3p (fr:List V) (H:Heap):evC call it base .skip fr H=some (.nrm,fr,H):=rfl
theorem a3r (id:Nat) (fr:List V) (H:Heap):evC call it base (.exit id) fr H=some (.ext id,fr,H):=rfl
theorem a8p (fr:List V) (H:Heap):evC call it base .ret fr H=some (.ret,fr,H):=rfl
theorem a8m (a b:ACode) (fr:List V) (H:Heap):evC call it base (.seq a b) fr H=agc call it base b (evC call it base a fr H):=rfl
theorem azb (id:Nat) (c:ACode) (fr:List V) (H:Heap):evC call it base (.block id c) fr H=a5b id (evC call it base c fr H):=rfl
theorem a3s (c:Opd) (a b:ACode) (fr:List V) (H:Heap):evC call it base (.cond c a b) fr H=condC call it base a b fr H (ev fr c):=by
 simp only [evC];cases ev fr c with
 | s v=>cases v with
   | bool p=>cases p <;> rfl
   | _=>rfl
 | _=>rfl
theorem a3q (kill:List Nat) (c:ACode) (fr:List V) (H:Heap):evC call it base (.loop kill c) fr H=it (evC call it base c) kill H.length (nz kill fr) H:=rfl
theorem a8n (ops:List AOper) (kill outs:List Nat) (fr:List V) (H:Heap):evC call it base (.regionE ops kill outs) fr H=rowC H (q9 (xw ops kill outs) kill fr H):=rfl
theorem evC_ops (ops:List AOper) (kill:List Nat) (fr:List V) (H:Heap):evC call it base (.region ops [] kill) fr H=axk [] ops kill (ji call base ops fr H):=by
 simp only [evC];cases ji call base ops fr H with
 | none=>rfl
 | some p=>rfl
theorem atd {ops:List AOper} {chk:List (Nat × Nat)} {kill:List Nat} {fr:List V} {H:Heap} {fr':List V} {H':Heap} (h:ji call base ops fr H=some (fr',H')) (hc:chk.all (aay call base ops fr H fr')=true):evC call it base (.region ops chk kill) fr H=some (.nrm,nz kill fr',H'):=by
 simp only [evC,h,hc,ja]
theorem ao8 {ops:List AOper} {chk:List (Nat × Nat)} {kill:List Nat} {fr:List V} {H:Heap} {fr':List V} {H':Heap} (h:ji call base ops fr H=some (fr',H')) (hc:chk.all (ag8 ops fr')=true):evC call it base (.region ops chk kill) fr H=some (.nrm,nz kill fr',H'):=by
 refine atd h ?_;rw [ah] at hc ⊢;intro p hp;simp only [aay,hc p hp,az3]
theorem anq (b:ACode) (fr:List V) (H:Heap):agc call it base b (some (.nrm,fr,H))=evC call it base b fr H:=rfl
theorem avy (b:ACode) (i:Nat) (fr:List V) (H:Heap):agc call it base b (some (.ext i,fr,H))=some (.ext i,fr,H):=rfl
theorem avx (b:ACode) (fr:List V) (H:Heap):agc call it base b (some (.ret,fr,H))=some (.ret,fr,H):=rfl
theorem atx (b:ACode):agc call it base b none=none:=rfl
theorem aty (b:ACode) (p:Bool) (x y:Option St):agc call it base b (bif p then x else y)=bif p then agc call it base b x else agc call it base b y:=by cases p <;> rfl
theorem a1m (id:Nat) (fr:List V) (H:Heap):a5b id (some (.nrm,fr,H))=some (.nrm,fr,H):=rfl
theorem a1l (id:Nat) (fr:List V) (H:Heap):a5b id (some (.ret,fr,H))=some (.ret,fr,H):=rfl
theorem a1n (id i:Nat) (fr:List V) (H:Heap):a5b id (some (.ext i,fr,H))=some (if i=id then .nrm else .ext i,fr,H):=rfl
theorem axf (id:Nat):a5b id none=none:=rfl
theorem axg (id:Nat) (p:Bool) (x y:Option St):a5b id (bif p then x else y)=bif p then a5b id x else a5b id y:=by cases p <;> rfl
theorem avf (a b:ACode) (fr:List V) (H:Heap) (p:Bool):condC call it base a b fr H (.s (.bool p))=bif p then evC call it base a fr H else evC call it base b fr H:=rfl
theorem awp (H:Heap) (fr:List V):rowC H (some fr)=some (.nrm,fr,H):=rfl
theorem aof (ops:List AOper) (kill:List Nat) (fr:List V) (H:Heap):axk [] ops kill (some (fr,H))=some (.nrm,nz kill fr,H):=rfl
end
def a0h (fr:List V) (H:Heap) (os:List (Nat × E)) (kill:List Nat) (r:Bool):Option (List V):=bif r then yg fr H os (nz kill fr) else none
def outE (fr:List V) (H:Heap) (os:List (Nat × E)) (fr':List V) (s:Nat):Option V→Option (List V)
 | some v=>yg fr H os (fr'.set s v)
 | none=>none
theorem aro {m:Nat} {R:List (List (Nat × Bool × E) × E)} {os:List (Nat × E)} {kill:List Nat} {fr:List V} {H:Heap} (h:m≤fr.length):q9 (some (m,R,os)) kill fr H=a0h fr H os kill (R.all fun r=>ahf fr H r.1 r.2):=by
 simp only [q9,fe h,a0h];cases R.all fun r=>ahf fr H r.1 r.2 <;> rfl
theorem atz (fr:List V) (H:Heap) (os:List (Nat × E)) (kill:List Nat):a0h fr H os kill true=yg fr H os (nz kill fr):=rfl
theorem ap2 (fr:List V) (H:Heap) (fr':List V):yg fr H [] fr'=some fr':=rfl
theorem anw (fr:List V) (H:Heap) (s:Nat) (e:E) (os:List (Nat × E)) (fr':List V):yg fr H ((s,e) :: os) fr'=outE fr H os fr' s (evE fr H e):=rfl
theorem axe (fr:List V) (H:Heap) (os:List (Nat × E)) (fr':List V) (s:Nat) (v:V):outE fr H os fr' s (some v)=yg fr H os (fr'.set s v):=rfl
theorem a00 (fr:List V) (H:Heap) (e:E):ahf fr H [] e=(evE fr H e).isSome:=rfl
theorem awv (fr:List V) (H:Heap) (s:Nat) (b:Bool) (x:E) (G:List (Nat × Bool × E)) (e:E):ahf fr H ((s,b,x) :: G) e=a01 (evE fr H x) b (ahf fr H G e):=rfl
theorem aww (p b r:Bool):a01 (some (.s (.bool p))) b r=bif p == b then r else true:=by cases p <;> cases b <;> cases r <;> rfl
def V1 (f:V→Option V):Option V→Option V
 | some x=>f x
 | none=>none
def V2 (f:V→V→Option V):Option V→Option V→Option V
 | some x,some y=>f x y
 | _,_=>none
theorem a9c (f:V→Option V) (x:V):V1 f (some x)=f x:=rfl
theorem a9b (f:V→V→Option V) (x y:V):V2 f (some x) (some y)=f x y:=rfl
theorem evE_t (fr:List V) (H:Heap) (i:Nat):evE fr H (.t i)=some (fr.getD i .unk):=rfl
theorem a8k (fr:List V) (H:Heap) (v:V):evE fr H (.c v)=some v:=rfl
theorem a3g (fr:List V) (H:Heap) (c a b:E):evE fr H (.pick c a b)=alz (evE fr H c) (evE fr H a) (evE fr H b):=rfl
def aaq (op:BinOp):V→V→Option V
 | .s a,.s b=>(aeb op a b).map .s
 | _,_=>none
def bau (neg:Bool):V→V→Option V
 | .s (.bool a),.s (.bool b)=>some (bl ((a == b) != neg))
 | _,_=>none
def xEqP (H:Heap) (neg:Bool):V→V→Option V
 | .ref i g _,.ref j h _=>if i=j then none else match getC H i g,getC H j h with
   | some _,some _=>some (bl neg)
   | _,_=>none
 | _,_=>none
def aai (k:NK) (neg:Bool) (x:V):Option V:=(x.isNil k).map fun b=>bl (b != neg)
def ae8 (neg:Bool) (ls:List Leaf):V→V→Option V
 | .agg xs,.agg ys=>(mi ls xs ys).map fun b=>bl (b != neg)
 | _,_=>none
def xUn (op:UnOp) (x:V):Option V:=match op,x with
 | .not,.s (.bool b)=>some (bl (!b))
 | .neg,.s (.int k n)=>some (.s (.int k (k.wrap (0 - n))))
 | .xor,.s (.int k n)=>(aeb .xor (.int k (if k.signed then -1 else k.max)) (.int k n)).map .s
 | _,_=>none
def a5w (k:IntKind):V→Option V
 | .s (.int _ n)=>some (.s (.int k (k.wrap n)))
 | _=>none
def apq:V→Option V
 | .s (.string b)=>some (.s (.string b))
 | _=>none
def abx:V→Option V
 | .ref id g off=>some (.ref id g off)
 | .pref cs=>some (.pref cs)
 | .fn f a b=>some (.fn f a b)
 | .yld id=>some (.yld id)
 | _=>none
def yl (off:Nat):V→Option V
 | .ref id g o=>some (.ref id g (o+off))
 | .pref cs=>if off≤cs.length then some (.pref (cs.drop off)) else none
 | _=>none
def ann (g:Bool) (off n:Nat):V→Option V
 | .agg cs=>if ((cs.drop off).take n).length=n then shut g ((cs.drop off).take n) else none
 | _=>none
def mq (sz:Nat):V→V→Option V
 | .sl id g off len sz',.s (.int _ n)=>if 0≤n∧n < len∧sz'=sz then some (.ref id g (off+n.toNat * sz)) else none
 | .psl es sz',.s (.int _ n)=>if 0≤n∧sz'=sz then (es[n.toNat]?).map .pref else none
 | _,_=>none
def y5:V→V→Option V
 | .s (.string b),.s (.int _ n)=>if 0≤n then (b.data.toList[n.toNat]?).map fun c=>.s (.int .u8 c.toNat) else none
 | _,_=>none
def ae7 (i:Nat):V→Option V
 | .tup vs=>vs[i]?
 | _=>none
def akc (H:Heap):NK→V→Option V
 | .p,.s (.string b)=>some (i64 b.size)
 | .s,.s (.slice none 0 0)=>some (i64 0)
 | .m,.s (.map none)=>some (i64 0)
 | .s,.esl=>some (i64 0)
 | .s,.psl es _=>some (i64 es.length)
 | .s,.sl _ _ _ len _=>some (i64 len)
 | .m,.mp id=>match H[id]? with
   | some (.map es)=>some (i64 es.length)
   | _=>none
 | _,_=>none
def aej (H:Heap) (kind:TypeDesc) (zero:V) (ok:Bool) (m k:V):Option V:=(je (fun _ _ _ _=>none) 0 [m,k] H (.mapGet kind zero (.t 0) (.t 1) ok)).map (·.1)
def abn (mx:Bool):V→V→Option V
 | .s (.int k a),.s (.int k' b)=>if k=k' then some (.s (.int k (if mx then (if a < b then b else a) else (if b < a then b else a)))) else none
 | _,_=>none
def xc (H:Heap) (g:Bool) (n:Nat) (a:V):Option V:=zm H g n a
def ab8 (H:Heap) (o:AOp):Option (List V)→Option V
 | some vs=>(je (fun _ _ _ _=>none) 0 vs H o).map (·.1)
 | none=>none
def L1 (x:Option V) (xs:Option (List V)):Option (List V):=match x,xs with
 | some v,some vs=>some (v :: vs)
 | _,_=>none
theorem a9h (v:V) (vs:List V):L1 (some v) (some vs)=some (v :: vs):=rfl
section
variable (fr:List V) (H:Heap) (x y:E)
theorem aft:amv fr H []=some []:=rfl
theorem aab (xs:List E):amv fr H (x :: xs)=L1 (evE fr H x) (amv fr H xs):=by
 simp only [amv];cases evE fr H x <;> cases amv fr H xs <;> rfl
theorem ahj (o:AOp) (xs:List E):evE fr H (.op o xs)=ab8 H o (amv fr H xs):=by
 simp only [evE];cases amv fr H xs with
 | none=>rfl
 | some vs=>simp only [ab8];cases je (fun _ _ _ _=>none) 0 vs H o <;> rfl
theorem op1 {o:AOp} {f:V→Option V} (h:∀ v,ab8 H o (some [v])=f v):evE fr H (.op o [x])=V1 f (evE fr H x):=by
 rw [ahj,aab,aft];cases evE fr H x with
 | none=>rfl
 | some v=>exact h v
theorem op2 {o:AOp} {f:V→V→Option V} (h:∀ v u,ab8 H o (some [v,u])=f v u):evE fr H (.op o [x,y])=V2 f (evE fr H x) (evE fr H y):=by
 rw [ahj,aab,aab,aft];cases evE fr H x with
 | none=>rfl
 | some v=>cases evE fr H y with
   | none=>rfl
   | some u=>exact h v u
theorem a7a {o:AOp} {f:V→V→Option V} {c:V} (h:∀ v,ab8 H o (some [v,c])=f v c):evE fr H (.op o [x,.c c])=V2 f (evE fr H x) (some c):=by
 rw [ahj,aab,aab,aft,a8k];cases evE fr H x with
 | none=>rfl
 | some v=>exact h v
theorem a6z {o:AOp} {f:V→V→Option V} {c:V} (h:∀ v,ab8 H o (some [c,v])=f c v):evE fr H (.op o [.c c,y])=V2 f (some c) (evE fr H y):=by
 rw [ahj,aab,aab,aft,a8k];cases evE fr H y with
 | none=>rfl
 | some v=>exact h v
theorem a8l (op:BinOp):evE fr H (.op (.bin op (.t 0) (.t 1)) [x,y])=V2 (aaq op) (evE fr H x) (evE fr H y):=op2 _ _ _ _ fun v u=>by
 cases v <;> first | rfl | (cases u <;> first | rfl | (simp only [ab8,je,ev,gq,ik,aaq];cases aeb op _ _ <;> rfl))
theorem a3o (op:BinOp) (c:V):evE fr H (.op (.bin op (.t 0) (.c c)) [x,.c c])=V2 (aaq op) (evE fr H x) (some c):=a7a _ _ _ fun v=>by
 cases v <;> first | rfl | (cases c <;> first | rfl | (simp only [ab8,je,ev,gq,ik,aaq];cases aeb op _ _ <;> rfl))
theorem a3n (op:BinOp) (c:V):evE fr H (.op (.bin op (.c c) (.t 1)) [.c c,y])=V2 (aaq op) (some c) (evE fr H y):=a6z _ _ _ fun v=>by
 cases c <;> first | rfl | (cases v <;> first | rfl | (simp only [ab8,je,ev,gq,ik,aaq];cases aeb op _ _ <;> rfl))
theorem a8j (n:Bool):evE fr H (.op (.eqB n (.t 0) (.t 1)) [x,y])=V2 (bau n) (evE fr H x) (evE fr H y):=op2 _ _ _ _ fun v u=>by
 cases v <;> first | rfl | (rename_i q;cases q <;> first | rfl | (cases u <;> first | rfl | (rename_i p;cases p <;> rfl)))
theorem a3l (n:Bool) (c:V):evE fr H (.op (.eqB n (.t 0) (.c c)) [x,.c c])=V2 (bau n) (evE fr H x) (some c):=a7a _ _ _ fun v=>by
 cases v <;> first | rfl | (rename_i q;cases q <;> first | rfl | (cases c <;> first | rfl | (rename_i p;cases p <;> rfl)))
theorem a3k (n:Bool) (c:V):evE fr H (.op (.eqB n (.c c) (.t 1)) [.c c,y])=V2 (bau n) (some c) (evE fr H y):=a6z _ _ _ fun v=>by
 cases c <;> first | rfl | (rename_i q;cases q <;> first | rfl | (cases v <;> first | rfl | (rename_i p;cases p <;> rfl)))
theorem ay8 (n:Bool) (ls:List Leaf):evE fr H (.op (.eqAgg n ls (.t 0) (.t 1)) [x,y])=V2 (ae8 n ls) (evE fr H x) (evE fr H y):=op2 _ _ _ _ fun v u=>by
 cases v <;> first | rfl | (cases u <;> first | rfl | (simp only [ab8,je,ev,gq,ik,ae8];cases mi ls _ _ <;> rfl))
theorem avb (n:Bool) (ls:List Leaf) (c:V):evE fr H (.op (.eqAgg n ls (.t 0) (.c c)) [x,.c c])=V2 (ae8 n ls) (evE fr H x) (some c):=a7a _ _ _ fun v=>by
 cases v <;> first | rfl | (cases c <;> first | rfl | (simp only [ab8,je,ev,gq,ik,ae8];cases mi ls _ _ <;> rfl))
theorem ava (n:Bool) (ls:List Leaf) (c:V):evE fr H (.op (.eqAgg n ls (.c c) (.t 1)) [.c c,y])=V2 (ae8 n ls) (some c) (evE fr H y):=a6z _ _ _ fun v=>by
 cases c <;> first | rfl | (cases v <;> first | rfl | (simp only [ab8,je,ev,gq,ik,ae8];cases mi ls _ _ <;> rfl))
theorem amy (sz:Nat):evE fr H (.op (.indexAddr sz (.t 0) (.t 1)) [x,y])=V2 (mq sz) (evE fr H x) (evE fr H y):=op2 _ _ _ _ fun v u=>by
 cases v <;> first | rfl | (cases u <;> first | rfl | (rename_i q;cases q <;> first | rfl | (simp only [ab8,je,ev,gq,ik,mq];split <;> first | rfl | (split <;> rename_i e <;> simp [e]))))
theorem aka (sz:Nat) (c:V):evE fr H (.op (.indexAddr sz (.t 0) (.c c)) [x,.c c])=V2 (mq sz) (evE fr H x) (some c):=a7a _ _ _ fun v=>by
 cases v <;> first | rfl | (cases c <;> first | rfl | (rename_i q;cases q <;> first | rfl | (simp only [ab8,je,ev,gq,ik,mq];split <;> first | rfl | (split <;> rename_i e <;> simp [e]))))
theorem aj9 (sz:Nat) (c:V):evE fr H (.op (.indexAddr sz (.c c) (.t 1)) [.c c,y])=V2 (mq sz) (some c) (evE fr H y):=a6z _ _ _ fun v=>by
 cases c <;> first | rfl | (cases v <;> first | rfl | (rename_i q;cases q <;> first | rfl | (simp only [ab8,je,ev,gq,ik,mq];split <;> first | rfl | (split <;> rename_i e <;> simp [e]))))
theorem ao6:evE fr H (.op (.indexStr (.t 0) (.t 1)) [x,y])=V2 (y5) (evE fr H x) (evE fr H y):=op2 _ _ _ _ fun v u=>by
 cases v <;> first | rfl | (rename_i q;cases q <;> first | rfl | (cases u <;> first | rfl | (rename_i p;cases p <;> first | rfl | (simp only [ab8,je,ev,gq,ik,y5];split <;> first | rfl | (split <;> rename_i e <;> simp [e])))))
theorem amx (c:V):evE fr H (.op (.indexStr (.t 0) (.c c)) [x,.c c])=V2 (y5) (evE fr H x) (some c):=a7a _ _ _ fun v=>by
 cases v <;> first | rfl | (rename_i q;cases q <;> first | rfl | (cases c <;> first | rfl | (rename_i p;cases p <;> first | rfl | (simp only [ab8,je,ev,gq,ik,y5];split <;> first | rfl | (split <;> rename_i e <;> simp [e])))))
theorem amw (c:V):evE fr H (.op (.indexStr (.c c) (.t 1)) [.c c,y])=V2 (y5) (some c) (evE fr H y):=a6z _ _ _ fun v=>by
 cases c <;> first | rfl | (rename_i q;cases q <;> first | rfl | (cases v <;> first | rfl | (rename_i p;cases p <;> first | rfl | (simp only [ab8,je,ev,gq,ik,y5];split <;> first | rfl | (split <;> rename_i e <;> simp [e])))))
theorem au8 (mx:Bool):evE fr H (.op (.minmax mx (.t 0) (.t 1)) [x,y])=V2 (abn mx) (evE fr H x) (evE fr H y):=op2 _ _ _ _ fun v u=>by
 cases v <;> first | rfl | (rename_i q;cases q <;> first | rfl | (cases u <;> first | rfl | (rename_i p;cases p <;> first | rfl | (simp only [ab8,je,ev,gq,ik,abn];split <;> rfl))))
theorem arv (mx:Bool) (c:V):evE fr H (.op (.minmax mx (.t 0) (.c c)) [x,.c c])=V2 (abn mx) (evE fr H x) (some c):=a7a _ _ _ fun v=>by
 cases v <;> first | rfl | (rename_i q;cases q <;> first | rfl | (cases c <;> first | rfl | (rename_i p;cases p <;> first | rfl | (simp only [ab8,je,ev,gq,ik,abn];split <;> rfl))))
theorem aru (mx:Bool) (c:V):evE fr H (.op (.minmax mx (.c c) (.t 1)) [.c c,y])=V2 (abn mx) (some c) (evE fr H y):=a6z _ _ _ fun v=>by
 cases c <;> first | rfl | (rename_i q;cases q <;> first | rfl | (cases v <;> first | rfl | (rename_i p;cases p <;> first | rfl | (simp only [ab8,je,ev,gq,ik,abn];split <;> rfl))))
theorem au9 (kd:TypeDesc) (z:V) (ok:Bool):evE fr H (.op (.mapGet kd z (.t 0) (.t 1) ok) [x,y])=V2 (aej H kd z ok) (evE fr H x) (evE fr H y):=op2 _ _ _ _ fun v u=>by
 rfl
theorem arx (kd:TypeDesc) (z:V) (ok:Bool) (c:V):evE fr H (.op (.mapGet kd z (.t 0) (.c c) ok) [x,.c c])=V2 (aej H kd z ok) (evE fr H x) (some c):=a7a _ _ _ fun v=>by
 rfl
theorem arw (kd:TypeDesc) (z:V) (ok:Bool) (c:V):evE fr H (.op (.mapGet kd z (.c c) (.t 1) ok) [.c c,y])=V2 (aej H kd z ok) (some c) (evE fr H y):=a6z _ _ _ fun v=>by
 rfl
theorem ao5:evE fr H (.op (.nilCheck (.t 0)) [x])=V1 (abx) (evE fr H x):=op1 _ _ _ fun v=>by
 cases v <;> rfl
theorem ay7 (k:NK) (n:Bool):evE fr H (.op (.eqNil k n (.t 0)) [x])=V1 (aai k n) (evE fr H x):=op1 _ _ _ fun v=>by
 simp only [ab8,je,ev,gq,aai];cases V.isNil k v <;> rfl
theorem bcc (op:UnOp):evE fr H (.op (.un op (.t 0)) [x])=V1 (xUn op) (evE fr H x):=op1 _ _ _ fun v=>by
 cases op <;> first | (cases v <;> first | rfl | (rename_i q;cases q <;> first | rfl | (simp only [ab8,je,ev,gq,xUn];cases aeb _ _ _ <;> rfl)))
theorem a3m (k:IntKind):evE fr H (.op (.conv k (.t 0)) [x])=V1 (a5w k) (evE fr H x):=op1 _ _ _ fun v=>by
 cases v <;> first | rfl | (rename_i q;cases q <;> rfl)
theorem avc:evE fr H (.op (.convId (.t 0)) [x])=V1 (apq) (evE fr H x):=op1 _ _ _ fun v=>by
 cases v <;> first | rfl | (rename_i q;cases q <;> rfl)
theorem amz (off:Nat):evE fr H (.op (.fieldAddr off (.t 0)) [x])=V1 (yl off) (evE fr H x):=op1 _ _ _ fun v=>by
 cases v <;> first | rfl | (simp only [ab8,je,ev,gq,yl];split <;> rfl)
theorem ay6 (g:Bool) (off n:Nat):evE fr H (.op (.field g off n (.t 0)) [x])=V1 (ann g off n) (evE fr H x):=op1 _ _ _ fun v=>by
 cases v <;> first | rfl | (simp only [ab8,je,ev,gq,ann];split <;> first | rfl | (cases shut g _ <;> rfl))
theorem ary (i:Nat):evE fr H (.op (.extract (.t 0) i) [x])=V1 (ae7 i) (evE fr H x):=op1 _ _ _ fun v=>by
 cases v <;> first | rfl | (simp only [ab8,je,ev,gq,ae7];split <;> rename_i e <;> simp [e])
theorem a3j (k:NK):evE fr H (.op (.lenS k (.t 0)) [x])=V1 (akc H k) (evE fr H x):=op1 _ _ _ fun v=>by
 cases k <;> cases v <;> first | rfl | (rename_i q;cases q <;> first | rfl | (rename_i a;cases a <;> rfl) | (rename_i a b c;cases a <;> first | rfl | (cases b <;> first | rfl | (cases c <;> rfl)))) | (rename_i j;simp only [ab8,je,ev,gq,akc];generalize H[j]?=o;cases o <;> first | rfl | (rename_i ob;cases ob <;> rfl))
theorem a3i (g:Bool) (n:Nat):evE fr H (.op (.load g n (.t 0)) [x])=V1 (xc H g n) (evE fr H x):=op1 _ _ _ fun v=>by
 simp only [ab8,je,ev,gq,xc];cases zm H g n v <;> rfl
theorem ay9 (z:List V) (p:List (Nat × Nat)) (ps:List (Nat × Opd)) (xs:List E):evE fr H (.op (.build z p ps) xs)=ab8 H (.build z p ps) (amv fr H xs):=ahj _ _ _ _
theorem a3h (f:Nat) (a b:List Opd) (xs:List E):evE fr H (.op (.mkFn f a b) xs)=ab8 H (.mkFn f a b) (amv fr H xs):=ahj _ _ _ _
theorem au7 (a:Opd) (lo hi:Option Opd) (xs:List E):evE fr H (.op (.subStr a lo hi) xs)=ab8 H (.subStr a lo hi) (amv fr H xs):=ahj _ _ _ _
theorem ay5 (sz:Nat) (a:Opd) (lo hi mx:Option Opd) (xs:List E):evE fr H (.op (.subSl sz a lo hi mx) xs)=ab8 H (.subSl sz a lo hi mx) (amv fr H xs):=ahj _ _ _ _
end
theorem arp {m:Nat} {os:List (Nat × E)} {kill:List Nat} {fr:List V} {H:Heap} (h:m≤fr.length):q9 (some (m,[],os)) kill fr H=yg fr H os (nz kill fr):=by
 simp only [q9,fe h,iw,ja]
theorem a2y {m:Nat} {os:List (Nat × E)} {kill:List Nat} {n:Nat} {en:Env} {H:Heap} (h:m≤n):q9 (some (m,[],os)) kill (fq n en) H=yg (fq n en) H os (fq n (ze kill en)):=by
 rw [arp (by rw [qc];exact h),ao2]
theorem a2i {m:Nat} {R:List (List (Nat × Bool × E) × E)} {os:List (Nat × E)} {kill:List Nat} {n:Nat} {en:Env} {H:Heap} (h:m≤n):q9 (some (m,R,os)) kill (fq n en) H=a0h (fq n en) H os kill (R.all fun r=>ahf (fq n en) H r.1 r.2):=by
 rw [aro (by rw [qc];exact h)]
noncomputable def stepW (b:List V→Heap→Option St) (k:List Nat) (m:Nat):Option St→Option St
 | some (.nrm,fr',H')=>itW b k m (nz k fr') (trim m (nz k fr') H')
 | some (e,fr',H')=>some (e,nz k fr',trim m (nz k fr') H')
 | none=>none
theorem ll (b:List V→Heap→Option St) (k:List Nat) (m:Nat) (fr:List V) (H:Heap):itW b k m fr H=stepW b k m (b fr H):=by
 rw [bb8];cases b fr H with
 | none=>rfl
 | some r=>obtain ⟨e,f,h⟩:=r;cases e <;> rfl
section
variable (b:List V→Heap→Option St) (k:List Nat) (m:Nat)
theorem ac4 (fr:List V) (H:Heap):stepW b k m (some (.nrm,fr,H))=itW b k m (nz k fr) (trim m (nz k fr) H):=rfl
theorem ant (i:Nat) (fr:List V) (H:Heap):stepW b k m (some (.ext i,fr,H))=some (.ext i,nz k fr,trim m (nz k fr) H):=rfl
theorem anr (fr:List V) (H:Heap):stepW b k m (some (.ret,fr,H))=some (.ret,nz k fr,trim m (nz k fr) H):=rfl
theorem at5 (p:Bool) (x y:Option St):stepW b k m (bif p then x else y)=bif p then stepW b k m x else stepW b k m y:=by cases p <;> rfl
end
theorem avw (fr:List V) (H:Heap):trim H.length fr H=H:=ac0 rfl
def a6g (rs:List ARes):Option St→Option (V × Heap)
 | some (.nrm,fr,H)=>(qb rs fr H).map fun v=>(v,H)
 | some (.ret,fr,H)=>(qb rs fr H).map fun v=>(v,H)
 | _=>none
theorem a0v (rs:List ARes) (fr:List V) (H:Heap):a6g rs (some (.nrm,fr,H))=(qb rs fr H).map fun v=>(v,H):=rfl
theorem a0u (rs:List ARes) (fr:List V) (H:Heap):a6g rs (some (.ret,fr,H))=(qb rs fr H).map fun v=>(v,H):=rfl
theorem awq (rs:List ARes) (p:Bool) (x y:Option St):a6g rs (bif p then x else y)=bif p then a6g rs x else a6g rs y:=by cases p <;> rfl
theorem a0x (t:ARes) (fr:List V) (H:Heap):qb [t] fr H=ahe fr H t:=by
 simp only [qb,lc,atp];cases ahe fr H t <;> rfl
theorem a0w (t u:ARes) (fr:List V) (H:Heap):qb [t,u] fr H=match ahe fr H t,ahe fr H u with | some x,some y=>some (.tup [x,y]) | _,_=>none:=by
 simp only [qb,lc,atp];cases ahe fr H t <;> cases ahe fr H u <;> rfl
theorem a0y (t:Nat) (fr:List V) (H:Heap):ahe fr H (.tmp t)=some (fr.getD t .unk):=rfl
theorem aws (t:Nat) (g:Bool) (n:Nat) (fr:List V) (H:Heap):ahe fr H (.cell t g n)=zm H g n (fr.getD t .unk):=rfl
theorem nk {CP:Nat→Option CFun} {f:Nat} {c:ACFun} (hf:CP f=some (.code c)) {fst args cap:List V} (hl:(fst ++ args ++ cap).length≤c.ntmps) {base:Nat} {H:Heap} {r:V × Heap}
 (h:a6g c.results (evC (dn CP) itW base c.body (fq c.ntmps (pg c.ntmps (fst ++ args ++ cap) 0)) H)=some r):dn CP (.fn f fst cap) args base H=some r:=by
 refine zx ?_;simp only [uz,hf];rw [start_eq hl];cases he:evC (dn CP) itW base c.body (fq c.ntmps (pg c.ntmps (fst ++ args ++ cap) 0)) H with
 | none=>rw [he] at h;cases h
 | some s=>
   rw [he] at h;obtain ⟨e,f2,H2⟩:=s;cases e <;> exact h
theorem apv (n:Nat) (v:V) (vs:List V) (k:Nat):pg n (v :: vs) k=(k,v) :: pg n vs (k+1):=rfl
def opK (call:ku) (base:Nat) (o:AOper) (os:List AOper) (fr:List V) (H:Heap):Option Bool→Option (List V × Heap)
 | some true=>match je call base fr H o.op with
   | some (v,H')=>ji call base os (put o.dst v fr) H'
   | none=>none
 | some false=>ji call base os (put o.dst und fr) H
 | none=>none
def a9k (call:ku) (base:Nat) (d:Option Nat) (os:List AOper) (fr:List V):Option (V × Heap)→Option (List V × Heap)
 | some (v,H')=>ji call base os (put d v fr) H'
 | none=>none
def avt (b:Bool):V→Option Bool
 | .s (.bool x)=>some (x == b)
 | .s (.tuple _)=>some false
 | _=>none
section
variable {call:ku} {base:Nat}
theorem ay2 (fr:List V) (H:Heap):ji call base [] fr H=some (fr,H):=rfl
theorem au6 (d:Option Nat) (op:AOp) (os:List AOper) (fr:List V) (H:Heap):ji call base (⟨d,op,none⟩ :: os) fr H=a9k call base d os fr (je call base fr H op):=by
 simp only [ji,want];cases je call base fr H op <;> rfl
theorem arq (d:Option Nat) (op:AOp) (t:Nat) (b:Bool) (os:List AOper) (fr:List V) (H:Heap):ji call base (⟨d,op,some (t,b)⟩ :: os) fr H=opK call base ⟨d,op,some (t,b)⟩ os fr H (avt b (fr.getD t .unk)):=by
 have:want ⟨d,op,some (t,b)⟩ fr=avt b (fr.getD t .unk):=by
  simp only [want];cases fr.getD t .unk with
  | s v=>cases v <;> rfl
  | _=>rfl
 simp only [ji,this];cases avt b (fr.getD t .unk) with
 | none=>rfl
 | some p=>cases p <;> rfl
theorem a1x (d:Option Nat) (op:AOp) (g:Option (Nat × Bool)) (os:List AOper) (fr:List V) (H:Heap) (p:Bool):opK call base ⟨d,op,g⟩ os fr H (some p)=bif p then a9k call base d os fr (je call base fr H op) else ji call base os (put d und fr) H:=by
 cases p
 ·rfl
 ·simp only [opK];cases je call base fr H op <;> rfl
theorem atw (b x:Bool):avt b (.s (.bool x))=some (x == b):=rfl
theorem avs (b:Bool):avt b und=some false:=rfl
theorem awt (d:Option Nat) (os:List AOper) (fr:List V) (v:V) (H:Heap):a9k call base d os fr (some (v,H))=ji call base os (put d v fr) H:=rfl
theorem a03 (d:Nat) (v:V) (n:Nat) (en:Env):put (some d) v (fq n en)=fq n (a06 d v en):=ams n en d v
theorem a04 (v:V) (fr:List V):put none v fr=fr:=rfl
theorem awu (d:Option Nat) (os:List AOper) (fr:List V) (p:Bool) (x y:Option (V × Heap)):a9k call base d os fr (bif p then x else y)=bif p then a9k call base d os fr x else a9k call base d os fr y:=by cases p <;> rfl
theorem axj (chk:List (Nat × Nat)) (ops:List AOper) (kill:List Nat) (p:Bool) (x y:Option (List V × Heap)):axk chk ops kill (bif p then x else y)=bif p then axk chk ops kill x else axk chk ops kill y:=by cases p <;> rfl
end
theorem ev_t (fr:List V) (i:Nat):ev fr (.t i)=fr.getD i .unk:=rfl
theorem ev_c (fr:List V) (v:V):ev fr (.c v)=v:=rfl
def a6m (H:Heap) (x y:V):V→Option (V × Heap)
 | .s (.bool p)=>bif p then some (x,H) else some (y,H)
 | _=>none
theorem ay3 (call:ku) (base:Nat) (fr:List V) (H:Heap) (c a b:Opd):je call base fr H (.pick c a b)=a6m H (ev fr a) (ev fr b) (ev fr c):=by
 simp only [je];cases ev fr c with
 | s v=>cases v with
   | bool p=>cases p <;> rfl
   | _=>rfl
 | _=>rfl
theorem aup (H:Heap) (x y:V) (p:Bool):a6m H x y (.s (.bool p))=bif p then some (x,H) else some (y,H):=rfl
theorem auo (H:Heap) (x y:Bool) (p:Bool):a6m H (.s (.bool x)) (.s (.bool y)) (.s (.bool p))=some (.s (.bool (bif p then x else y)),H):=by cases p <;> rfl
def RH (H:Heap):Option V→Option (V × Heap)
 | some v=>some (v,H)
 | none=>none
theorem a9f (H:Heap) (v:V):RH H (some v)=some (v,H):=rfl
def RS:Option Heap→Option (V × Heap)
 | some H=>some (und,H)
 | none=>none
theorem a9e (H:Heap):RS (some H)=some (und,H):=rfl
section
variable (call:ku) (base:Nat) (fr:List V) (H:Heap) (x y:Opd)
theorem bbk (op:BinOp):je call base fr H (.bin op x y)=RH H (aaq op (ev fr x) (ev fr y)):=by
 simp only [je];generalize ev fr x=v;generalize ev fr y=u
 cases v <;> first | rfl | (cases u <;> first | rfl | (simp only [aaq];cases aeb op _ _ <;> rfl))
theorem bbi (n:Bool):je call base fr H (.eqB n x y)=RH H (bau n (ev fr x) (ev fr y)):=by
 simp only [je];generalize ev fr x=v;generalize ev fr y=u
 cases v <;> first | rfl | (rename_i q;cases q <;> first | rfl | (cases u <;> first | rfl | (rename_i p;cases p <;> rfl)))
theorem bbh (n:Bool):je call base fr H (.eqP n x y)=RH H (xEqP H n (ev fr x) (ev fr y)):=by
 simp only [je];generalize ev fr x=v;generalize ev fr y=u
 cases v <;> first | rfl | (cases u <;> first | rfl | skip)
 rename_i i g _ j h _;simp only [xEqP];split
 ·rfl
 ·cases getC H i g with
  | none=>rfl
  | some c=>cases getC H j h <;> rfl
theorem a1s (n:Bool) (ls:List Leaf):je call base fr H (.eqAgg n ls x y)=RH H (ae8 n ls (ev fr x) (ev fr y)):=by
 simp only [je];generalize ev fr x=v;generalize ev fr y=u
 cases v <;> first | rfl | (cases u <;> first | rfl | (simp only [ae8];cases mi ls _ _ <;> rfl))
theorem aog (sz:Nat):je call base fr H (.indexAddr sz x y)=RH H (mq sz (ev fr x) (ev fr y)):=by
 simp only [je];generalize ev fr x=v;generalize ev fr y=u
 cases v <;> first | rfl | (cases u <;> first | rfl | (rename_i q;cases q <;> first | rfl | (simp only [mq];split <;> first | rfl | (split <;> rename_i e <;> simp [e,RH]))))
theorem aqv:je call base fr H (.indexStr x y)=RH H (y5 (ev fr x) (ev fr y)):=by
 simp only [je];generalize ev fr x=v;generalize ev fr y=u
 cases v <;> first | rfl | (rename_i q;cases q <;> first | rfl | (cases u <;> first | rfl | (rename_i p;cases p <;> first | rfl | (simp only [y5];split <;> first | rfl | (split <;> rename_i e <;> simp [e,RH])))))
theorem axl (mx:Bool):je call base fr H (.minmax mx x y)=RH H (abn mx (ev fr x) (ev fr y)):=by
 simp only [je];generalize ev fr x=v;generalize ev fr y=u
 cases v <;> first | rfl | (rename_i q;cases q <;> first | rfl | (cases u <;> first | rfl | (rename_i p;cases p <;> first | rfl | (simp only [abn];split <;> rfl))))
theorem aqu:je call base fr H (.nilCheck x)=RH H (abx (ev fr x)):=by
 simp only [je];generalize ev fr x=v;cases v <;> rfl
theorem a1r (k:NK) (n:Bool):je call base fr H (.eqNil k n x)=RH H (aai k n (ev fr x)):=by
 simp only [je];generalize ev fr x=v;simp only [aai];cases V.isNil k v <;> rfl
theorem op_un (op:UnOp):je call base fr H (.un op x)=RH H (xUn op (ev fr x)):=by
 simp only [je];generalize ev fr x=v
 cases op <;> first | (cases v <;> first | rfl | (rename_i q;cases q <;> first | rfl | (simp only [xUn];cases aeb _ _ _ <;> rfl)))
theorem a6u (k:IntKind):je call base fr H (.conv k x)=RH H (a5w k (ev fr x)):=by
 simp only [je];generalize ev fr x=v
 cases v <;> first | rfl | (rename_i q;cases q <;> rfl)
theorem axo:je call base fr H (.convId x)=RH H (apq (ev fr x)):=by
 simp only [je];generalize ev fr x=v
 cases v <;> first | rfl | (rename_i q;cases q <;> rfl)
theorem aoh (off:Nat):je call base fr H (.fieldAddr off x)=RH H (yl off (ev fr x)):=by
 simp only [je];generalize ev fr x=v
 cases v <;> first | rfl | (simp only [yl];split <;> rfl)
theorem a1q (g:Bool) (off n:Nat):je call base fr H (.field g off n x)=RH H (ann g off n (ev fr x)):=by
 simp only [je];generalize ev fr x=v
 cases v <;> first | rfl | (simp only [ann];split <;> first | rfl | (cases shut g _ <;> rfl))
theorem auu (i:Nat):je call base fr H (.extract x i)=RH H (ae7 i (ev fr x)):=by
 simp only [je];generalize ev fr x=v
 cases v <;> first | rfl | (simp only [ae7];split <;> rename_i e <;> simp [e,RH])
theorem a6t (k:NK):je call base fr H (.lenS k x)=RH H (akc H k (ev fr x)):=by
 cases k <;> (simp only [je];generalize ev fr x=v;cases v <;> first | rfl | (rename_i q;cases q <;> first | rfl | (rename_i a;cases a <;> rfl) | (rename_i a b c;cases a <;> first | rfl | (cases b <;> first | rfl | (cases c <;> rfl)))) | (rename_i j;simp only [akc];generalize H[j]?=o;cases o <;> first | rfl | (rename_i ob;cases ob <;> rfl)))
theorem a6s (g:Bool) (n:Nat):je call base fr H (.load g n x)=RH H (xc H g n (ev fr x)):=by
 simp only [je];generalize ev fr x=v;simp only [xc];cases zm H g n v <;> rfl
theorem axm (kd:TypeDesc) (z:V) (ok:Bool):je call base fr H (.mapGet kd z x y ok)=RH H (aej H kd z ok (ev fr x) (ev fr y)):=by
 have h:∀ r,je call base fr H (.mapGet kd z x y ok)=some r→r.2=H:=fun r h=>by obtain ⟨v,H'⟩:=r;exact (ahi rfl h).1
 have h2:je (fun _ _ _ _=>none) 0 [ev fr x,ev fr y] H (.mapGet kd z (.t 0) (.t 1) ok)=je call base fr H (.mapGet kd z x y ok):=rfl;simp only [aej,h2];cases hr:je call base fr H (.mapGet kd z x y ok) with
 | none=>rfl
 | some r=>obtain ⟨v,H'⟩:=r;have:=h _ hr;simp only at this;subst this;rfl
theorem a6q:je call base fr H (.move x)=some (ev fr x,H):=rfl
theorem a1w (z:List V):je call base fr H (.alloc z)=some (.ref H.length 0 0,H ++ [.cells 0 z]):=rfl
theorem bbj:je call base fr H (.box x)=if (ev fr x).cells.all V.one then some (.ref H.length 0 0,H ++ [.cells 0 (ev fr x).cells]) else none:=rfl
theorem aja:je call base fr H .mapNew=some (.mp H.length,H ++ [.map []]):=rfl
theorem a1p (n:Nat):je call base fr H (.store n x y)=RS (ahc H base n (ev fr y) (ev fr x)):=by
 simp only [je];cases ahc H base n (ev fr y) (ev fr x) <;> rfl
theorem a6r (f:Nat) (a b:List Opd):je call base fr H (.mkFn f a b)=some (.fn f (a.map (ev fr)) (b.map (ev fr)),H):=rfl
theorem a6w (sz bytes:Nat):je call base fr H (.appR sz bytes x y)=ol H H.length sz bytes (ev fr x) (ev fr y):=rfl
theorem axp (sz bytes:Nat):je call base fr H (.append sz bytes x y)=ol H base sz bytes (ev fr x) (ev fr y):=rfl
theorem a6v (args:List Opd):je call base fr H (.call x args)=call (ev fr x) (args.map (ev fr)) base H:=rfl
theorem a1u (args:List Opd):je call base fr H (.callR x args)=call (ev fr x) (args.map (ev fr)) H.length H:=rfl
theorem a1v (z:List V) (places:List (Nat × Nat)) (parts:List (Nat × Opd)):je call base fr H (.build z places parts)=RH H ((aaf (places[·]?) z (parts.map fun p=>(p.1,ev fr p.2))).map .agg):=by
 simp only [je];cases aaf (places[·]?) z (parts.map fun p=>(p.1,ev fr p.2)) <;> rfl
def bbr (H:Heap) (sz len:Nat):Option (List V)→Option (V × Heap)
 | some cs=>some (if len=0 then .esl else .sl H.length 0 0 len sz,H ++ [.cells 0 cs])
 | none=>none
theorem auw (sz len:Nat) (cs:List V):bbr H sz len (some cs)=some (if len=0 then .esl else .sl H.length 0 0 len sz,H ++ [.cells 0 cs]):=rfl
theorem auv (sz len:Nat) (z:List V) (parts:List (Nat × Opd)):je call base fr H (.buildSl sz len z parts)=bbr H sz len (aaf (fun i=>some (i * sz,sz)) z (parts.map fun p=>(p.1,ev fr p.2))):=by
 simp only [je];cases aaf (fun i=>some (i * sz,sz)) z (parts.map fun p=>(p.1,ev fr p.2)) <;> rfl
end
section
variable {call:ku} {it:yj} {base:Nat}
def AgD (D:List Nat) (f g:List V):Prop:=f.length=g.length∧∀ s,s ∉ D→f.getD s .unk=g.getD s .unk
def readsIn (o:AOper) (D:List Nat):Bool:=o.reads.any D.contains
def less (D:List Nat) (d:Option Nat):List Nat:=match d with
 | some d=>D.filter (· != d)
 | none=>D
def ayo:List Nat→List AOper→Option (List Nat)
 | D,[]=>some D
 | D,o :: os=>if readsIn o D then none else ayo (less D o.dst) os
theorem a4w {D:List Nat} {f g:List V} (h:AgD D f g) (d:Option Nat) (v:V):AgD (less D d) (put d v f) (put d v g):=by
 cases d with
 | none=>exact h
 | some d=>
   refine ⟨by simp only [put,cz];exact h.1,fun s hs=>?_⟩
   simp only [put];by_cases e:s=d
   ·subst e;by_cases hl:s < f.length
    ·rw [acj hl,acj (h.1 ▸ hl)]
    ·rw [aa9 (by omega),aa9 (by have:=h.1;omega)]
     simp [List.getD,hl,h.1 ▸ hl]
   ·rw [abt (fun e'=>e e'.symm),abt (fun e'=>e e'.symm)];refine h.2 s fun hD=>hs ?_;simp only [less,List.mem_filter,pq,ne_eq];exact ⟨hD,e⟩
theorem a3e:∀ (ops:List AOper) (D D':List Nat) (f g:List V) (H:Heap),ayo D ops=some D'→AgD D f g→
 (ji call base ops f H=none∧ji call base ops g H=none)∨∃ f' g' H',ji call base ops f H=some (f',H')∧ji call base ops g H=some (g',H')∧AgD D' f' g':=by
 intro ops
 induction ops with
 | nil=>intro D D' f g H h ha;cases h;exact .inr ⟨f,g,H,rfl,rfl,ha⟩
 | cons o os ih=>
   intro D D' f g H h ha;simp only [ayo] at h;split at h
   ·cases h
   ·rename_i hr
    have hrd:∀ s∈o.reads,f.getD s .unk=g.getD s .unk:=fun s hs=>ha.2 s fun hD=>hr (by
     unfold readsIn;rw [a0a];exact ⟨s,hs,by simpa using hD⟩)
    have hw:=ab0 hrd;have hc:je call base f H o.op=je call base g H o.op:=ad1 _ fun x hx=>ac9 hx hrd;simp only [ji,hw,hc];cases want o g with
    | none=>exact .inl ⟨rfl,rfl⟩
    | some b=>
      cases b with
      | false=>exact ih _ _ _ _ _ h (a4w ha _ _)
      | true=>
        simp only [];cases je call base g H o.op with
        | none=>exact .inl ⟨rfl,rfl⟩
        | some r=>obtain ⟨v,H'⟩:=r;exact ih _ _ _ _ _ h (a4w ha _ _)
theorem ayd {D ks:List Nat} {f g:List V} (h:AgD D f g) (hk:D.all ks.contains=true):nz ks f=nz ks g:=by
 refine az9 (by rw [ui,ui,h.1]) fun i h1 h2=>?_
 have e:(nz ks f).getD i .unk=(nz ks g).getD i .unk:=by
  rw [aao,aao];split
  ·rfl
  ·rename_i hi;refine h.2 i fun hD=>hi ?_;rw [ah] at hk
   simpa using hk i hD
 simpa [List.getD,h1,h2] using e
def mg (D:List Nat):ACode→Bool
 | .seq a _=>mg D a
 | .region ops [] kill=>match ayo D ops with
   | some D'=>D'.all kill.contains
   | none=>false
 | .cond c a b=>(c.slots.all fun s=>!D.contains s) && mg D a && mg D b
 | .block _ c=>mg D c
 | .loop kill _=>D.all kill.contains
 | _=>false
theorem zn {D:List Nat}:∀ (c:ACode) {f g:List V} (H:Heap),mg D c=true→AgD D f g→evC call it base c f H=evC call it base c g H:=by
 intro c
 induction c with
 | seq a b iha _=>intro f g H h ha;simp only [evC,iha H h ha]
 | block id c ih=>intro f g H h ha;simp only [evC,ih H h ha]
 | cond o a b iha ihb=>
   intro f g H h ha;simp only [mg,au] at h
   have:ev f o=ev g o:=by
    cases o with
    | c v=>rfl
    | t s=>exact ha.2 s (by simpa [Opd.slots] using h.1.1)
   simp only [evC,this,iha H h.1.2 ha,ihb H h.2 ha]
 | loop kill c _=>intro f g H h ha;simp only [evC,ayd ha h]
 | region ops chk kill=>
   intro f g H h ha;cases chk with
   | cons _ _=>cases h
   | nil=>
     simp only [mg] at h;split at h
     ·rename_i D' hD
      rcases a3e (call:=call) (base:=base) ops D D' f g H hD ha with ⟨e1,e2⟩ | ⟨f',g',H',e1,e2,ha'⟩
      ·simp only [evC,e1,e2]
      ·simp only [evC,e1,e2,ayd ha' h];rfl
     ·cases h
 | _=>intro f g H h;cases h
end
def ym:List V→Nat→Env
 | [],_=>[]
 | v :: vs,k=>(k,v) :: ym vs (k+1)
theorem at6 (k:Nat):ym [] k=[]:=rfl
theorem apw (v:V) (vs:List V) (k:Nat):ym (v :: vs) k=(k,v) :: ym vs (k+1):=rfl
theorem ajk:∀ (vs:List V) (k t:Nat),k≤t→t < k+vs.length→ah4 (ym vs k) t=vs.getD (t - k) .unk:=by
 intro vs
 induction vs with
 | nil=>intro k t h1 h2;simp at h2;omega
 | cons v vs ih=>
   intro k t h1 h2;simp only [ym,ah4,bq] at h2 ⊢;split
   ·rename_i h;subst h;simp
   ·rw [ih (k+1) t (by omega) (by omega)]
    obtain ⟨d,hd⟩:∃ d,t - k=d+1:=⟨t - k - 1,by omega⟩
    have:t - (k+1)=d:=by omega
    rw [hd,this];rfl
theorem l9 {CP:Nat→Option CFun} {f:Nat} {c:ACFun} (hf:CP f=some (.code c)) {fst args cap:List V} {k:Nat} (hk:(fst ++ args ++ cap).length=k) (hl:k≤c.ntmps) (hfirst:mg (List.range' k (c.ntmps - k)) c.body=true) {base:Nat} {H:Heap} {r:V × Heap}
 (h:a6g c.results (evC (dn CP) itW base c.body (fq c.ntmps (ym (fst ++ args ++ cap) 0)) H)=some r):dn CP (.fn f fst cap) args base H=some r:=by
 refine nk hf (by omega) ?_
 rw [zn c.body H hfirst (g:=fq c.ntmps (ym (fst ++ args ++ cap) 0))]
 ·exact h
 ·refine ⟨by rw [qc,qc],fun s hs=>?_⟩
  by_cases hn:s < c.ntmps
  ·rw [ack hn,ack hn]
   have hs':s < k:=by
    apply Nat.lt_of_not_le;intro h;apply hs;rw [List.mem_range']
    exact ⟨s - k,by omega,by omega⟩
   rw [ag2 _ _ 0 s (jh _) hn (by omega),fe (by omega),ajk _ 0 s (jh _) (by omega)]
  ·simp [fq,List.getD,hn]
section
variable (call:ku) (it:yj) (base:Nat)
noncomputable def ba8 (b:List AOper) (kill:List Nat) (H:Heap):Option (List V)→Option St→Option St
 | some f,_=>evC call it base (.region b [] kill) f H
 | none,o=>o
noncomputable def bdp (H:Heap):Option (List V)→Option St→Option St
 | some f,_=>some (.nrm,f,H)
 | none,o=>o
noncomputable def aew (ops:List AOper) (kill:List Nat) (f:List V) (H:Heap):Option St:=evC call it base (.region ops [] kill) f H
theorem anz (b:List AOper) (kill:List Nat) (H:Heap) (f:List V) (o:Option St):ba8 call it base b kill H (some f) o=evC call it base (.region b [] kill) f H:=rfl
theorem anx (H:Heap) (f:List V) (o:Option St):bdp H (some f) o=some (.nrm,f,H):=rfl
noncomputable def apc (k:List Nat) (b:List AOper) (kill:List Nat):Bool:=match ayo k b with
 | some D=>D.all kill.contains
 | none=>false
theorem ajp:∀ (a b:List AOper) (f:List V) (H:Heap),ji call base (a ++ b) f H=match ji call base a f H with
 | some (f',H')=>ji call base b f' H'
 | none=>none:=by
 intro a
 induction a with
 | nil=>intro b f H;rfl
 | cons o os ih=>
   intro b f H;simp only [aj,ji];cases want o f with
   | none=>rfl
   | some p=>
     cases p with
     | false=>exact ih _ _ _
     | true=>
       simp only [];cases je call base f H o.op with
       | none=>rfl
       | some r=>exact ih _ _ _
theorem a8w (k:List Nat) (f:List V):AgD k f (nz k f):=⟨(ui k f).symm,fun s hs=>by rw [aao,ic hs]⟩
theorem an4 {k kill:List Nat} {b:List AOper} (h:apc k b kill=true) (f:List V) (H:Heap):evC call it base (.region b [] kill) f H=evC call it base (.region b [] kill) (nz k f) H:=by
 refine zn (D:=k) (.region b [] kill) H ?_ (a8w k f);unfold apc at h;simp only [mg];exact h
theorem awo (c d:List AOper) {kc kill:List Nat} (h:apc kc d kill=true) (f:List V) (H:Heap):evC call it base (.region (c ++ d) [] kill) f H=agc call it base (.region d [] kill) (evC call it base (.region c [] kc) f H):=by
 have e1:evC call it base (.region (c ++ d) [] kill) f H=match ji call base c f H with
  | some (f',H')=>evC call it base (.region d [] kill) f' H'
  | none=>none:=by
  simp only [evC,ajp];cases ji call base c f H <;> rfl
 rw [e1,evC_ops];cases ji call base c f H with
 | none=>rfl
 | some r=>
   obtain ⟨f',H'⟩:=r;simp only [aof,anq];exact an4 call it base h f' H'
theorem awn (a b:List AOper) {ka oa kill:List Nat} (h:apc ka b kill=true) (f:List V) (H:Heap):evC call it base (.region (a ++ b) [] kill) f H=ba8 call it base b kill H (q9 (xw a ka oa) ka f H) (aew call it base (a ++ b) kill f H):=by
 cases ht:q9 (xw a ka oa) ka f H with
 | none=>rfl
 | some f2=>
   obtain ⟨f1,h1,h2⟩:=ab1 (call:=call) (base:=base) ht
   have e1:evC call it base (.region (a ++ b) [] kill) f H=evC call it base (.region b [] kill) f1 H:=by
    simp only [evC,ajp,h1];cases ji call base b f1 H <;> rfl
   rw [e1,anz,← h2,an4 call it base h]
theorem a0t (a:List AOper) {oa kill:List Nat} (f:List V) (H:Heap):evC call it base (.region a [] kill) f H=bdp H (q9 (xw a kill oa) kill f H) (aew call it base a kill f H):=by
 cases ht:q9 (xw a kill oa) kill f H with
 | none=>rfl
 | some f2=>
   obtain ⟨f1,h1,h2⟩:=ab1 (call:=call) (base:=base) ht;simp only [anx,evC,h1,h2,iw,ja]
theorem alq (ops:List AOper) (kill:List Nat) (f:List V) (H:Heap):evC call it base (.region ops [] kill) f H=axk [] ops kill (ji call base ops f H):=evC_ops ops kill f H
end
def Rd (H:Heap) (v:V) (l:List V):Prop:=(∀ b,v≠.s (.string b))∧elems H 1 v=some (l.length,l)
theorem Rd.nil (H:Heap):Rd H mf []:=⟨fun _ h=>(by cases h),rfl⟩
theorem Rd.esl (H:Heap):Rd H .esl []:=⟨fun _ h=>(by cases h),rfl⟩
theorem Rd.sl {H:Heap} {id g:Nat} {c:List V} (h:getC H id g=some c) {off n:Nat} (hn:off+n≤c.length):Rd H (.sl id g off n 1) ((c.drop off).take n):=by
 refine ⟨fun _ h=>by (cases h),?_⟩
 have:((c.drop off).take n).length=n:=by simp;omega
 simp only [elems,ja,h,ab7,this]
theorem Rd.cases {H:Heap} {v:V} {l:List V} (h:Rd H v l):(l=[]∧(v=mf∨v=.esl))∨(∃ es,v=.psl es 1∧es.flatten=l∧es.length=l.length)∨∃ id g off n c,v=.sl id g off n 1∧getC H id g=some c∧(c.drop off).take n=l∧n=l.length:=by
 obtain ⟨h1,h2⟩:=h;unfold elems at h2;split at h2
 ·simp only [dw,aia] at h2;exact .inl ⟨h2.2.symm,.inl rfl⟩
 ·simp only [dw,aia] at h2;exact .inl ⟨h2.2.symm,.inr rfl⟩
 ·rename_i es sz;split at h2
  ·rename_i hz;subst hz;simp only [dw,aia] at h2;exact .inr (.inl ⟨es,rfl,h2.2,h2.1⟩)
  ·cases h2
 ·rename_i id g off len sz;split at h2
  ·rename_i hz;subst hz;split at h2
   ·rename_i c hc;simp only [ab7] at h2;split at h2
    ·simp only [dw,aia] at h2;exact .inr (.inr ⟨id,g,off,len,c,rfl,hc,h2.2,h2.1⟩)
    ·cases h2
   ·cases h2
  ·cases h2
 ·cases h2
theorem Rd.len {H:Heap} {v:V} {l:List V} (h:Rd H v l):akc H .s v=some (.s (.int .i64 l.length)):=by
 rcases h.cases with ⟨rfl,rfl | rfl⟩ | ⟨es,rfl,_,e⟩ | ⟨id,g,off,n,c,rfl,_,_,e⟩
 ·rfl
 ·rfl
 ·simp only [akc,e];rfl
 ·simp only [akc,e];rfl
def a9a:V→Prop
 | .psl es _=>∀ e∈es,e.length=1
 | _=>True
theorem arl {es:List (List V)} (h:∀ e∈es,e.length=1):∀ {i:Nat} {x:V},es.flatten[i]?=some x→es[i]?=some [x]:=by
 induction es with
 | nil=>intro i x hx;simp at hx
 | cons e es ih=>
   intro i x hx;have he:=h e fo
   match e,he with
   | [y],_=>
     cases i with
     | zero=>simp at hx ⊢;exact hx
     | succ i=>simp at hx ⊢;exact ih (fun e he=>h e (di _ he)) hx
theorem Rd.at {H:Heap} {v:V} {l:List V} (h:Rd H v l) (hw:a9a v) {i:Nat} {x:V} (hx:l[i]?=some x):V1 (xc H false 1) (mq 1 v (.s (.int .i64 i)))=some x:=by
 have hi:i < l.length:=(List.getElem?_eq_some_iff.1 hx).1
 have h0:(0:Int)≤(i:Int):=by omega
 rcases h.cases with ⟨rfl,_⟩ | ⟨es,rfl,e1,e2⟩ | ⟨id,g,off,n,c,rfl,hc,e1,e2⟩
 ·simp at hx
 ·have:es[i]?=some [x]:=arl hw (by rw [e1];exact hx)
  simp only [mq,h0,afa,ja,ng,this,jl,V1,xc,zm];rfl
 ·have hn:((i:Int) < (n:Int)):=by omega
  have hcx:c[off+i]?=some x:=by
   have:((c.drop off).take n)[i]?=some x:=by rw [e1];exact hx
   rw [List.getElem?_take_of_lt (by omega),List.getElem?_drop] at this
   exact this
  have:((c.drop (off+i)).take 1)=[x]:=by
   have hlt:=(List.getElem?_eq_some_iff.1 hcx).1;rw [d9 hlt];have:=(List.getElem?_eq_some_iff.1 hcx).2;simp [this]
  simp only [mq,h0,hn,mo,ja,ng,ab7,V1,xc,zm,hc,this];rfl
theorem ata {H G:Heap} {id g:Nat} {c:List V} (h:getC H id g=some c):getC (H ++ G) id g=some c:=by
 unfold getC at h ⊢;split at h
 ·rename_i g' c' hh;rw [List.getElem?_append_left (List.getElem?_eq_some_iff.1 hh).1,hh];exact h
 ·cases h
theorem Rd.app {H:Heap} {v:V} {l:List V} (h:Rd H v l) (G:Heap):Rd (H ++ G) v l:=by
 rcases h.cases with ⟨rfl,rfl | rfl⟩ | ⟨es,rfl,e1,e2⟩ | ⟨id,g,off,n,c,rfl,hc,e1,e2⟩
 ·exact Rd.nil _
 ·exact Rd.esl _
 ·exact ⟨h.1,h.2⟩
 ·refine ⟨h.1,?_⟩
  have:((c.drop off).take n).length=n:=by rw [e1,e2]
  simp only [elems,ja,ata hc,ab7,this,e1];rw [e2,fe rfl]
theorem as9 {H:Heap} {id g:Nat} {c c':List V} (h:getC H id g=some c) (g':Nat):getC (H.set id (.cells g' c')) id g'=some c':=by
 have:id < H.length:=by
  unfold getC at h;split at h
  ·rename_i hh;exact (List.getElem?_eq_some_iff.1 hh).1
  ·cases h
 simp [getC,this]
theorem aaz {H:Heap} {id j g:Nat} (ob:Ob) (h:id≠j):getC (H.set j ob) id g=getC H id g:=by
 unfold getC;rw [List.getElem?_set_ne (qa h)]
theorem a0p (H:Heap) (id:Nat) (a b:Ob):(H.set id a).set id b=H.set id b:=List.set_set ..
theorem bat (k:IntKind) (a b:Int):aaq .add (.s (.int k a)) (.s (.int k b))=some (.s (.int k (k.wrap (a+b)))):=by simp [aaq,aeb]
theorem bae (k:IntKind) (a b:Int):aaq .sub (.s (.int k a)) (.s (.int k b))=some (.s (.int k (k.wrap (a - b)))):=by simp [aaq,aeb]
theorem bak (k:IntKind) (a b:Int):aaq .mul (.s (.int k a)) (.s (.int k b))=some (.s (.int k (k.wrap (a * b)))):=by simp [aaq,aeb]
theorem bap (k:IntKind) (a b:Int):aaq .eql (.s (.int k a)) (.s (.int k b))=some (.s (.bool (a == b))):=by simp [aaq,aeb]
theorem baj (k:IntKind) (a b:Int):aaq .neq (.s (.int k a)) (.s (.int k b))=some (.s (.bool (a != b))):=by simp [aaq,aeb]
theorem bal (k:IntKind) (a b:Int):aaq .lss (.s (.int k a)) (.s (.int k b))=some (.s (.bool (decide (a < b)))):=by simp [aaq,aeb]
theorem bam (k:IntKind) (a b:Int):aaq .leq (.s (.int k a)) (.s (.int k b))=some (.s (.bool (decide (a≤b)))):=by simp [aaq,aeb]
theorem ban (k:IntKind) (a b:Int):aaq .gtr (.s (.int k a)) (.s (.int k b))=some (.s (.bool (decide (a > b)))):=by simp [aaq,aeb]
theorem bao (k:IntKind) (a b:Int):aaq .geq (.s (.int k a)) (.s (.int k b))=some (.s (.bool (decide (a ≥ b)))):=by simp [aaq,aeb]
theorem bas (k:IntKind) (a b:Int):aaq .and (.s (.int k a)) (.s (.int k b))=some (.s (.int k (k.wrap (BitVec.ofInt k.bits a &&& BitVec.ofInt k.bits b).toNat))):=by simp [aaq,aeb]
theorem xb_or (k:IntKind) (a b:Int):aaq .or (.s (.int k a)) (.s (.int k b))=some (.s (.int k (k.wrap (BitVec.ofInt k.bits a ||| BitVec.ofInt k.bits b).toNat))):=by simp [aaq,aeb]
theorem bac (k:IntKind) (a b:Int):aaq .xor (.s (.int k a)) (.s (.int k b))=some (.s (.int k (k.wrap (BitVec.ofInt k.bits a ^^^ BitVec.ofInt k.bits b).toNat))):=by simp [aaq,aeb]
theorem avr (k:IntKind) (a b:Int):aaq .andNot (.s (.int k a)) (.s (.int k b))=some (.s (.int k (k.wrap (BitVec.ofInt k.bits a &&& ~~~ (BitVec.ofInt k.bits b)).toNat))):=by simp [aaq,aeb]
theorem bai (k:IntKind) (a b:Int):aaq .quo (.s (.int k a)) (.s (.int k b))=if b=0 then none else some (.s (.int k (k.wrap (a.tdiv b)))):=by by_cases h:b=0 <;> simp [aaq,aeb,h]
theorem bah (k:IntKind) (a b:Int):aaq .rem (.s (.int k a)) (.s (.int k b))=if b=0 then none else some (.s (.int k (a.tmod b))):=by by_cases h:b=0 <;> simp [aaq,aeb,h]
theorem bag (k j:IntKind) (a b:Int):aaq .shl (.s (.int k a)) (.s (.int j b))=if b < 0 then none else some (.s (.int k (k.wrap (a * 2 ^ (min b.toNat k.bits))))):=by by_cases h:b < 0 <;> simp [aaq,aeb,h]
theorem baf (k j:IntKind) (a b:Int):aaq .shr (.s (.int k a)) (.s (.int j b))=if b < 0 then none else some (.s (.int k (a.fdiv (2 ^ (min b.toNat k.bits))))):=by by_cases h:b < 0 <;> simp [aaq,aeb,h]
theorem a9x (a b:ByteArray):aaq .eql (.s (.string a)) (.s (.string b))=some (.s (.bool (a.data.toList == b.data.toList))):=rfl
theorem a9v (a b:ByteArray):aaq .neq (.s (.string a)) (.s (.string b))=some (.s (.bool (!(a.data.toList == b.data.toList)))):=rfl
theorem a9w (a b:ByteArray):aaq .lss (.s (.string a)) (.s (.string b))=some (.s (.bool (Op.bytesLess a.data.toList b.data.toList))):=rfl
theorem a9y (a b:ByteArray):aaq .add (.s (.string a)) (.s (.string b))=if ((a.size+b.size:Nat):Int) > IntKind.i64.max then none else some (.s (.string (a ++ b))):=by by_cases h:((a.size+b.size:Nat):Int) > IntKind.i64.max <;> simp only [aaq,aeb,h,ja,mh,jl,zh]
theorem xq_b (n a b:Bool):bau n (.s (.bool a)) (.s (.bool b))=some (.s (.bool ((a == b) != n))):=rfl
theorem xn_pn (n:Bool):aai .p n (.s (.pointer none))=some (.s (.bool (true != n))):=rfl
theorem xn_pr (n:Bool) (i g o:Nat):aai .p n (.ref i g o)=some (.s (.bool (false != n))):=rfl
theorem xn_pp (n:Bool) (cs:List V):aai .p n (.pref cs)=some (.s (.bool (false != n))):=rfl
theorem xn_sn (n:Bool):aai .s n (.s (.slice none 0 0))=some (.s (.bool (true != n))):=rfl
theorem xn_ss (n:Bool) (i g o l z:Nat):aai .s n (.sl i g o l z)=some (.s (.bool (false != n))):=rfl
theorem xn_sp (n:Bool) (es:List (List V)) (z:Nat):aai .s n (.psl es z)=some (.s (.bool (false != n))):=rfl
theorem xn_se (n:Bool):aai .s n (.esl)=some (.s (.bool (false != n))):=rfl
theorem xn_mn (n:Bool):aai .m n (.s (.map none))=some (.s (.bool (true != n))):=rfl
theorem xn_mm (n:Bool) (i:Nat):aai .m n (.mp i)=some (.s (.bool (false != n))):=rfl
theorem xn_fn (n:Bool):aai .f n (.s .nilFunc)=some (.s (.bool (true != n))):=rfl
theorem xn_ff (n:Bool) (i:Nat) (a b:List V):aai .f n (.fn i a b)=some (.s (.bool (false != n))):=rfl
theorem xn_fy (n:Bool) (i:Nat):aai .f n (.yld i)=some (.s (.bool (false != n))):=rfl
theorem xg (n:Bool) (ls:List Leaf) (xs ys:List V):ae8 n ls (.agg xs) (.agg ys)=(mi ls xs ys).map fun b=>.s (.bool (b != n)):=rfl
theorem a9t (b:Bool):xUn .not (.s (.bool b))=some (.s (.bool (!b))):=rfl
theorem a9u (k:IntKind) (a:Int):xUn .neg (.s (.int k a))=some (.s (.int k (k.wrap (0 - a)))):=rfl
theorem bab (k j:IntKind) (a:Int):a5w k (.s (.int j a))=some (.s (.int k (k.wrap a))):=rfl
theorem xc_id (b:ByteArray):apq (.s (.string b))=some (.s (.string b)):=rfl
theorem a96 (i g o:Nat):abx (.ref i g o)=some (.ref i g o):=rfl
theorem a5u (cs:List V):abx (.pref cs)=some (.pref cs):=rfl
theorem xk_fn (f:Nat) (a b:List V):abx (.fn f a b)=some (.fn f a b):=rfl
theorem a95 (i:Nat):abx (.yld i)=some (.yld i):=rfl
theorem a4t (off i g o:Nat):yl off (.ref i g o)=some (.ref i g (o+off)):=rfl
theorem a5v (off:Nat) (cs:List V):yl off (.pref cs)=if off≤cs.length then some (.pref (cs.drop off)) else none:=rfl
theorem a99 (g:Bool) (off n:Nat) (cs:List V):ann g off n (.agg cs)=if ((cs.drop off).take n).length=n then shut g ((cs.drop off).take n) else none:=rfl
theorem avq (sz i g o l z:Nat) (k:IntKind) (n:Int):mq sz (.sl i g o l z) (.s (.int k n))=if 0≤n∧n < l∧z=sz then some (.ref i g (o+n.toNat * sz)) else none:=rfl
theorem a98 (sz z:Nat) (es:List (List V)) (k:IntKind) (n:Int):mq sz (.psl es z) (.s (.int k n))=if 0≤n∧z=sz then (es[n.toNat]?).map .pref else none:=rfl
theorem a97 (b:ByteArray) (k:IntKind) (n:Int):y5 (.s (.string b)) (.s (.int k n))=if 0≤n then (b.data.toList[n.toNat]?).map fun c=>.s (.int .u8 c.toNat) else none:=rfl
theorem baa (i:Nat) (vs:List V):ae7 i (.tup vs)=vs[i]?:=rfl
theorem a9z (H:Heap) (b:ByteArray):akc H .p (.s (.string b))=some (.s (.int .i64 b.size)):=rfl
theorem a92 (H:Heap):akc H .s (.s (.slice none 0 0))=some (.s (.int .i64 0)):=rfl
theorem a94 (H:Heap):akc H .s .esl=some (.s (.int .i64 0)):=rfl
theorem a90 (H:Heap) (es:List (List V)) (z:Nat):akc H .s (.psl es z)=some (.s (.int .i64 es.length)):=rfl
theorem xl_sl (H:Heap) (i g o l z:Nat):akc H .s (.sl i g o l z)=some (.s (.int .i64 l)):=rfl
theorem a5t (H:Heap):akc H .m (.s (.map none))=some (.s (.int .i64 0)):=rfl
theorem zy (H:Heap) (g:Bool) (n i j o:Nat):xc H g n (.ref i j o)=match getC H i j with | some c=>(if ((c.drop o).take n).length=n then shut g ((c.drop o).take n) else none) | none=>none:=rfl
theorem a5s (H:Heap) (g:Bool) (n:Nat) (cs:List V):xc H g n (.pref cs)=if (cs.take n).length=n then shut g (cs.take n) else none:=rfl
theorem xm (mx:Bool) (k:IntKind) (a b:Int):abn mx (.s (.int k a)) (.s (.int k b))=some (.s (.int k (if mx then (if a < b then b else a) else (if b < a then b else a)))):=by simp [abn]
theorem asi (cs:List V):shut true cs=some (.agg cs):=rfl
theorem ash (x:V):shut false [x]=some x:=rfl
theorem Rd.at' {H:Heap} {v:V} {l:List V} (h:Rd H v l) (hw:a9a v) {i:Nat} {x:V} (hx:l[i]?=some x):∃ a,mq 1 v (.s (.int .i64 i))=some a∧xc H false 1 a=some x:=by
 have:=h.at hw hx;cases ha:mq 1 v (.s (.int .i64 i)) with
 | none=>rw [ha] at this;cases this
 | some a=>rw [ha] at this;exact ⟨a,rfl,this⟩
def ag6 (d:Nat):Option V→Option Int
 | none=>some d
 | some v=>ajj v
theorem azu (d:Nat):ag6 d none=some (d:Int):=rfl
theorem a4g (d:Nat) (k:IntKind) (n:Int):ag6 d (some (.s (.int k n)))=some n:=rfl
def a4b (sz id g off len z:Nat):Option Int→Option Int→Option V
 | some l,some h=>if 0≤l∧l≤h∧h≤len∧z=sz then some (.sl id g (off+l.toNat * sz) (h - l).toNat sz) else none
 | _,_=>none
def atf (sz:Nat) (es:List (List V)) (z:Nat):Option Int→Option Int→Option V
 | some l,some h=>if 0≤l∧l≤h∧h≤es.length∧z=sz then some (.psl ((es.drop l.toNat).take (h - l).toNat) sz) else none
 | _,_=>none
def afy (v:V):Option Int→Option Int→Option V
 | some l,some h=>if l=0∧h=0 then some v else none
 | _,_=>none
def acz (sz:Nat) (v:V) (lo hi:Option V):Option V:=
 match v with
 | .s (.slice none 0 0)=>afy mf (ag6 0 lo) (ag6 0 hi)
 | .esl=>afy .esl (ag6 0 lo) (ag6 0 hi)
 | .psl es z=>atf sz es z (ag6 0 lo) (ag6 es.length hi)
 | .sl id g off len z=>a4b sz id g off len z (ag6 0 lo) (ag6 len hi)
 | _=>none
theorem att (sz:Nat) (lo hi:Option V):acz sz mf lo hi=afy mf (ag6 0 lo) (ag6 0 hi):=rfl
theorem atu (sz:Nat) (lo hi:Option V):acz sz .esl lo hi=afy .esl (ag6 0 lo) (ag6 0 hi):=rfl
theorem atr (sz:Nat) (es:List (List V)) (z:Nat) (lo hi:Option V):acz sz (.psl es z) lo hi=atf sz es z (ag6 0 lo) (ag6 es.length hi):=rfl
theorem avp (sz id g off len z:Nat) (lo hi:Option V):acz sz (.sl id g off len z) lo hi=a4b sz id g off len z (ag6 0 lo) (ag6 len hi):=rfl
theorem ave (sz id g off len z:Nat) (l h:Int):a4b sz id g off len z (some l) (some h)=if 0≤l∧l≤h∧h≤len∧z=sz then some (.sl id g (off+l.toNat * sz) (h - l).toNat sz) else none:=rfl
theorem ar1 (sz:Nat) (es:List (List V)) (z:Nat) (l h:Int):atf sz es z (some l) (some h)=if 0≤l∧l≤h∧h≤es.length∧z=sz then some (.psl ((es.drop l.toNat).take (h - l).toNat) sz) else none:=rfl
theorem ar2 (v:V) (l h:Int):afy v (some l) (some h)=if l=0∧h=0 then some v else none:=rfl
theorem bcf (fr:List V) (d:Nat) (o:Option Opd):aco fr d o=ag6 d (o.map (ev fr)):=by cases o <;> rfl
theorem asx (call:ku) (base:Nat) (fr:List V) (H:Heap) (sz:Nat) (x:Opd) (lo hi:Option Opd):je call base fr H (.subSl sz x lo hi none)=RH H (acz sz (ev fr x) (lo.map (ev fr)) (hi.map (ev fr))):=by
 simp only [je,bcf];generalize ev fr x=v;generalize lo.map (ev fr)=lo;generalize hi.map (ev fr)=hi
 cases v <;> first | rfl | skip
 case s v=>
  cases v <;> first | rfl | skip
  rename_i a n m
  cases a <;> first | rfl | skip
  cases n <;> first | rfl | skip
  cases m <;> first | rfl | skip
  simp only [acz];cases ag6 0 lo with
  | none=>rfl
  | some l=>cases ag6 0 hi with
    | none=>simp only [afy,RH]
    | some h=>
      simp only [afy];by_cases hl:l=0
      ·subst hl;by_cases hh:h=0
       ·subst hh;rfl
       ·simp only [hh,and_false,mh]
        split <;> first | rfl | (rename_i e1 e2;cases e2;exact absurd rfl hh)
      ·simp only [hl,false_and,mh]
       split <;> first | rfl | (rename_i e1 e2;cases e1;exact absurd rfl hl)
 case esl=>
  simp only [acz];cases ag6 0 lo with
  | none=>rfl
  | some l=>cases ag6 0 hi with
    | none=>simp only [afy,RH]
    | some h=>
      simp only [afy];by_cases hl:l=0
      ·subst hl;by_cases hh:h=0
       ·subst hh;rfl
       ·simp only [hh,and_false,mh]
        split <;> first | rfl | (rename_i e1 e2;cases e2;exact absurd rfl hh)
      ·simp only [hl,false_and,mh]
       split <;> first | rfl | (rename_i e1 e2;cases e1;exact absurd rfl hl)
 case psl es z=>
  simp only [acz]
  cases ag6 0 lo <;> cases ag6 es.length hi <;> first | rfl | (simp only [atf];split <;> rfl)
 case sl id g off len z=>
  simp only [acz]
  cases ag6 0 lo <;> cases ag6 len hi <;> first | rfl | (simp only [a4b];split <;> rfl)
theorem a5r (H:Heap) (sz:Nat) (x:Opd) (lo hi:Option Opd) (vs:List V):ab8 H (.subSl sz x lo hi none) (some vs)=acz sz (ev vs x) (lo.map (ev vs)) (hi.map (ev vs)):=by
 simp only [ab8,asx];cases acz sz (ev vs x) (lo.map (ev vs)) (hi.map (ev vs)) <;> rfl
def a4u (H:Heap) (base sz:Nat) (zero:List V) (v:V):Option Heap:=
 match v with
 | .s (.slice none 0 0)=>some H
 | .esl=>some H
 | .sl id g off len z=>if len=0 then some H else if base≤id∧z=sz then match getC H id g with
    | some c=>if zero.length=sz∧off+len * sz≤c.length∧zero.all V.one then some (H.set id (.cells g (splice c off (List.replicate len zero).flatten))) else none
    | none=>none
   else none
 | _=>none
theorem a1t (call:ku) (base:Nat) (fr:List V) (H:Heap) (sz:Nat) (zero:List V) (x:Opd):je call base fr H (.clearSl sz zero x)=RS (a4u H base sz zero (ev fr x)):=by
 simp only [je];generalize ev fr x=v
 cases v <;> first | rfl | skip
 case s v=>
  cases v <;> first | rfl | skip
  rename_i a n m
  cases a <;> first | rfl | skip
  cases n <;> first | rfl | skip
  cases m <;> rfl
 case sl id g off len z=>
  simp only [a4u];split
  ·rfl
  ·split
   ·cases getC H id g with
    | none=>rfl
    | some c=>simp only [];split <;> rfl
   ·rfl
theorem ar4:((0:Nat):Int)=0:=rfl
theorem ba2:Int.toNat 0=0:=rfl
def Ext (H0 H:Heap):Prop:=∃ G,H=H0 ++ G
theorem Ext.refl (H:Heap):Ext H H:=⟨[],by simp⟩
theorem Ext.trans {A B C:Heap} (h:Ext A B) (k:Ext B C):Ext A C:=by
 obtain ⟨G,rfl⟩:=h;obtain ⟨K,rfl⟩:=k
 exact ⟨G ++ K,by simp⟩
theorem Ext.app (H G:Heap):Ext H (H ++ G):=⟨G,rfl⟩
theorem Ext.le {A B:Heap} (h:Ext A B):A.length≤B.length:=by obtain ⟨G,rfl⟩:=h;simp
theorem Ext.get {A B:Heap} (h:Ext A B) {i:Nat} (hi:i < A.length):B[i]?=A[i]?:=by obtain ⟨G,rfl⟩:=h;exact List.getElem?_append_left hi
theorem Ext.of_get {A B:Heap} (hl:A.length≤B.length) (h:∀ i,i < A.length→B[i]?=A[i]?):Ext A B:=by
 refine ⟨B.drop A.length,?_⟩;refine List.ext_getElem? fun i=>?_;by_cases hi:i < A.length
 ·rw [List.getElem?_append_left hi,h i hi]
 ·rw [List.getElem?_append_right (by omega),List.getElem?_drop]
  congr 1;omega
theorem Ext.take {A B:Heap} (h:Ext A B) {m:Nat} (hm:A.length≤m):Ext A (B.take m):=
 Ext.of_get (by rw [ow];have:=h.le;omega) fun i hi=>by rw [List.getElem?_take_of_lt (by omega),h.get hi]
theorem trim_or (m:Nat) (fr:List V) (H:Heap):trim m fr H=H∨(trim m fr H=H.take m∧∀ v∈fr,kw m 8 v=true):=by
 unfold trim;split
 ·rename_i h;simp only [au,ah] at h;exact .inr ⟨rfl,h.1⟩
 ·exact .inl rfl
theorem Ext.trim {A B:Heap} (h:Ext A B) {m:Nat} (hm:A.length≤m) (fr:List V):Ext A (trim m fr B):=by
 rcases trim_or m fr B with e | ⟨e,_⟩ <;> rw [e]
 ·exact h
 ·exact h.take hm
theorem Rd.ext {H H':Heap} {v:V} {l:List V} (h:Rd H v l) (k:Ext H H'):Rd H' v l:=by obtain ⟨G,rfl⟩:=k;exact h.app G
theorem gm {H H':Heap} {id g:Nat} {c:List V} (h:getC H id g=some c) (k:Ext H H'):getC H' id g=some c:=by obtain ⟨G,rfl⟩:=k;exact ata h
theorem om {H:Heap} {id g:Nat} {c:List V} (h:getC H id g=some c):id < H.length:=by
 unfold getC at h;split at h
 ·rename_i hh;exact (List.getElem?_eq_some_iff.1 hh).1
 ·cases h
theorem ib (H:Heap) (g:Nat) (c:List V):getC (H ++ [.cells g c]) H.length g=some c:=by simp [getC]
theorem ah5 {n:Nat} {en:Env} {s:Nat} {v:V} (hs:s < n) (h:ah4 en s=v):v∈fq n en:=by
 unfold fq;rw [zi]
 exact ⟨s,by simpa using hs,h⟩
def obC (g:Nat):Ob→Option (List V)
 | .cells g' c=>if g'=g then some c else none
 | _=>none
theorem ayu (A:Heap) (ob:Ob) (id g:Nat):getC (A ++ [ob]) id g=if id=A.length then obC g ob else getC A id g:=by
 by_cases h:id=A.length
 ·subst h;simp only [getC,List.getElem?_concat_length,ja];cases ob <;> rfl
 ·rw [ic h];by_cases hl:id < A.length
  ·simp only [getC,List.getElem?_append_left hl]
  ·have h1:(A ++ [ob])[id]?=none:=List.getElem?_eq_none (by simp;omega)
   have h2:A[id]?=none:=List.getElem?_eq_none (by omega)
   simp only [getC,h1,h2]
theorem a10 (g:Nat) (c:List V):obC g (.cells g c)=some c:=by simp [obC]
theorem p8 (A:Heap) (ob x:Ob):(A ++ [ob]).set A.length x=A ++ [x]:=by simp
theorem iq (A:Heap) (ob:Ob):(A ++ [ob]).length=A.length+1:=by simp
theorem bbq (a b:Nat):(a=a+(b+1))=False:=by simp
theorem bcg (a b:Nat):(a+(b+1)=a)=False:=by simp
theorem Rd.one {H:Heap} {v:V} {l:List V} (h:Rd H v l):v.one=true:=by
 rcases h.cases with ⟨_,rfl | rfl⟩ | ⟨es,rfl,_⟩ | ⟨id,g,off,n,c,rfl,_⟩ <;> rfl
theorem a7e (k:IntKind) (n:Int):V.one (.s (.int k n))=true:=rfl
theorem a7b (b:ByteArray):V.one (.s (.string b))=true:=rfl
theorem a1z (b:Bool):V.one (.s (.bool b))=true:=rfl
theorem a1y:V.one (.s (.slice none 0 0))=true:=rfl
theorem a7c (i g o:Nat):V.one (.ref i g o)=true:=rfl
theorem bbl (i g o l z:Nat):V.one (.sl i g o l z)=true:=rfl
theorem a7d (es:List (List V)) (z:Nat):V.one (.psl es z)=true:=rfl
theorem a7f:V.one .esl=true:=rfl
theorem bbn (i:Nat):V.one (.mp i)=true:=rfl
theorem bbo (f:Nat) (a b:List V):V.one (.fn f a b)=true:=rfl
theorem azq (cs:List V):V.cells (.agg cs)=cs:=rfl
theorem a8s (v:Value):V.cells (.s v)=[.s v]:=rfl
theorem a4d (i g o l z:Nat):V.cells (.sl i g o l z)=[.sl i g o l z]:=rfl
theorem azo (es:List (List V)) (z:Nat):V.cells (.psl es z)=[.psl es z]:=rfl
theorem azn (i g o:Nat):V.cells (.ref i g o)=[.ref i g o]:=rfl
theorem azp:V.cells .esl=[.esl]:=rfl
theorem a4e (i:Nat):V.cells (.mp i)=[.mp i]:=rfl
theorem ahm {v:V} (h:v.one=true):v.cells=[v]:=by cases v <;> first | rfl | (simp [V.one] at h;done)
theorem ayz (p:Nat→Option (Nat × Nat)) (c:List V):aaf p c []=some c:=rfl
theorem awf (A:Heap) (ob x:Ob) (id:Nat):(A ++ [ob]).set id x=if id=A.length then A ++ [x] else A.set id x ++ [ob]:=by
 by_cases h:id=A.length
 ·subst h;simp
 ·rw [ic h];by_cases hl:id < A.length
  ·rw [xk _ _ hl]
  ·rw [aa9 (by simp;omega),aa9 (by omega)]
theorem at1 (H:Heap) (base n:Nat) (v:V) (id g off:Nat):ahc H base n v (.ref id g off)=if base≤id then (match getC H id g with
 | some c=>if v.cells.length=n∧off+n≤c.length∧v.cells.all V.one then some (H.set id (.cells g (splice c off v.cells))) else none
 | none=>none) else none:=rfl
section
variable {CC:CX} {μ:Mu} {Mt:Nat→Prop} {w w':World} {H:Heap} {P:Program}
theorem aqo:∀ (os:List Obj) (w w':World),HR CC μ Mt w H→w'.heap=w.heap ++ os.toArray→w'.os=w.os→w'.tape=w.tape→w'.output=w.output→Post CC μ Mt w H μ Mt w' H:=by
 intro os
 induction os with
 | nil=>intro w w' h h1 h2 h3 h4;exact afl h (by simpa using h1) h2 h3 h4
 | cons o os ih=>
   intro w w' h h1 h2 h3 h4;have k:Post CC μ Mt w H μ Mt { w with heap:=w.heap.push o } H:=akj h o rfl rfl rfl rfl;refine k.trans (ih _ w' k.hr ?_ h2 h3 h4);rw [h1];apply qp;simp
end
abbrev PXf (fx:Nat→Option (Array Value × TypeId × Nat × Nat)):PX:=⟨fun _=>false,fx⟩
abbrev PX0:PX:=PXf fun _=>none
theorem a4c (lt:List Nat) (P:Program) (fx:Nat→Option (Array Value × TypeId × Nat × Nat)) (k:Nat):ahl lt P (PXf fx) k=ahl lt P PX0 k:=rfl
theorem ko {P:Program} (fx:Nat→Option (Array Value × TypeId × Nat × Nat)) {lt:List Nat} {k:Nat} {c:ACFun} (h:ahl lt P PX0 k=some (false,c.ntmps,c.results,c.body.bare)):aba P (PXf fx) k (.code c):=a2w ((a4c lt P fx k).trans h)
section
variable {CC:CX} {μ:Mu} {Mt:Nat→Prop} {w w':World} {H:Heap} {P:Program}
def insI (x:Int):List Int→List Int
 | []=>[x]
 | y :: l=>if x≤y then x :: y :: l else y :: insI x l
def ba7:List Int→List Int
 | []=>[]
 | x :: l=>insI x (ba7 l)
def cR:Value→Option (DataW Unit × List MemPlace):=fun _=>some (.nil,[])
end
def wbits (k:Int) (w:Nat):List Int:=((List.range 64).filter fun b=>w.testBit b).map fun (b:Nat)=>k * 64+(b:Int)
def bcd (ks:List Int) (f:Int→Nat):List Int:=(ba7 ks).flatMap fun k=>wbits k (f k)
theorem anm (H:Heap) (f:Nat) (a b:List Opd) (vs:List V):ab8 H (.mkFn f a b) (some vs)=some (.fn f (a.map (ev vs)) (b.map (ev vs))):=rfl
theorem apu {m:Nat} {fr:List V} {H:Heap} (h:m≤H.length):m≤(trim m fr H).length:=by
 rcases trim_or m fr H with e | ⟨e,_⟩ <;> rw [e]
 ·exact h
 ·rw [ow];omega
theorem alb (m:Nat) (fr:List V) (H:Heap):trim m fr H=H∨(trim m fr H=H.take m∧(∀ v∈fr,kw m 8 v=true)∧∀ id g c,id < m→getC H id g=some c→∀ i h o n z,V.sl i h o n z∈c→i < m):=by
 unfold trim;split
 ·rename_i h;simp only [au,ah] at h;refine .inr ⟨rfl,h.1,?_⟩;intro id g c hid hc i h' o n z hx;unfold getC at hc;split at hc
  ·rename_i g' c' hh;split at hc
   ·cases hc
    have hm:Ob.cells g' c∈H.take m:=by
     have:(H.take m)[id]?=some (Ob.cells g' c):=by rw [List.getElem?_take_of_lt hid];exact hh
     exact List.mem_of_getElem? this
    have:=h.2 _ hm;simp only [Ob.under,ah] at this;have:=this _ hx
    simpa [kw] using this
   ·cases hc
  ·cases hc
 ·exact .inl rfl
theorem ahu {m:Nat} {fr:List V} {H:Heap} {id g:Nat} {c:List V} (hc:getC H id g=some c) (hid:id < m):getC (trim m fr H) id g=some c:=by
 rcases alb m fr H with e | ⟨e,_⟩ <;> rw [e]
 ·exact hc
 ·unfold getC at hc ⊢;rw [List.getElem?_take_of_lt hid];exact hc
def apl (m:Nat) (H:Heap) (v:V) (l:List V):Prop:=(l=[]∧(v=mf∨v=.esl))∨∃ id g c,v=.sl id g 0 l.length 1∧getC H id g=some c∧l.length≤c.length∧c.take l.length=l∧m≤id
theorem apl.rd {m:Nat} {H:Heap} {v:V} {l:List V} (h:apl m H v l):Rd H v l:=by
 rcases h with ⟨rfl,rfl | rfl⟩ | ⟨id,g,c,rfl,hc,hl,ht,_⟩
 ·exact Rd.nil H
 ·exact Rd.esl H
 ·have:=Rd.sl hc (off:=0) (n:=l.length) (by omega)
  rwa [dz,ht] at this
theorem jq {H:Heap} {id g:Nat} {c c':List V} (h:getC H id g=some c):getC (H.set id (.cells g c')) id g=some c':=as9 h _
def bV (b:Bool):V:=.s (.bool b)
def a5x (H:Heap) (base:Nat) (kind:TypeDesc) (m k v:V):Option (V × Heap):=
 match m,k with
  | .mp id,.s key=>if base≤id∧adh kind key then match H[id]? with
     | some (.map es)=>match aea kind key es 0 with
       | some (some (i,_))=>some (und,H.set id (.map (es.set i (key,v))))
       | some none=>some (und,H.set id (.map (es ++ [(key,v)])))
       | none=>none
     | _=>none
    else none
  | _,_=>none
theorem ai9 (call:ku) (base:Nat) (fr:List V) (H:Heap) (kind:TypeDesc) (m k v:Opd):je call base fr H (.mapUpd kind m k v)=a5x H base kind (ev fr m) (ev fr k) (ev fr v):=rfl
def delMV (H:Heap) (base:Nat) (kind:TypeDesc) (m k:V):Option (V × Heap):=
 match m,k with
  | .mp id,.s key=>if base≤id∧adh kind key then match H[id]? with
     | some (.map es)=>match aea kind key es 0 with
       | some (some (i,_))=>some (und,H.set id (.map (es.eraseIdx i)))
       | some none=>some (und,H)
       | none=>none
     | _=>none
    else none
  | _,_=>none
theorem axn (call:ku) (base:Nat) (fr:List V) (H:Heap) (kind:TypeDesc) (m k:Opd):je call base fr H (.delete kind m k)=delMV H base kind (ev fr m) (ev fr k):=rfl
theorem ap0 {H:Heap} {j:Nat} {ob:Ob} (h:H[j]?=some ob):H.set j ob=H:=by
 apply List.ext_getElem?;intro i;by_cases hi:j=i
 ·subst hi;rw [List.getElem?_set_self (List.getElem?_eq_some_iff.1 h).1,h]
 ·rw [List.getElem?_set_ne hi]
def yldE (H:Heap) (id:Nat):Option St→Option (V × Heap)
 | some (e,_,H)=>match H[id]? with
   | some (.loop .busy none t p a b)=>some (bl (e=.nrm),H.set id (.loop (if e=.nrm then .ready else .done) (ass e) t p a b))
   | _=>none
 | none=>none
theorem awh (fr:List V):ap1 [] [] fr=some fr:=rfl
theorem aue (p:Nat) (ps:List Nat) (v:V) (vs:List V) (n:Nat) (en:Env):ap1 (p :: ps) (v :: vs) (fq n en)=ap1 ps vs (fq n (a06 p v en)):=by
 simp only [ap1,ams]
abbrev WS:=List Int × (Int→Nat)
def el (p:WS):List Int:=bcd p.1 p.2
def rngC (L:Nat) (fr:List V):Option (V × Heap)→Option St
 | some (_,H')=>match H'[L]? with
   | some (.loop .ready none _ _ _ _)=>some (.nrm,fr,trim L fr (H'.set L .dead))
   | some (.loop .done (some e) _ _ _ _)=>some (e,fr,trim L fr (H'.set L .dead))
   | _=>none
 | none=>none
def rngF (call:ku) (base:Nat) (ps:List Nat) (a b:ACode) (fr:List V) (H:Heap):V→Option St
 | .fn k x y=>rngC H.length fr (call (.fn k x y) [.yld H.length] base (H ++ [.loop .ready none fr ps a b]))
 | _=>none
theorem a8o (call:ku) (it:yj) (base:Nat) (f:Opd) (ps:List Nat) (a b:ACode) (fr:List V) (H:Heap):evC call it base (.rangeFunc f ps a b) fr H=rngF call base ps a b fr H (ev fr f):=by
 simp only [evC];cases ev fr f <;> rfl
theorem a6e (call:ku) (base:Nat) (ps:List Nat) (a b:ACode) (fr:List V) (H:Heap) (k:Nat) (x y:List V):rngF call base ps a b fr H (.fn k x y)=rngC H.length fr (call (.fn k x y) [.yld H.length] base (H ++ [.loop .ready none fr ps a b])):=rfl
def a9j (m0 i j:Nat) (H0 H':Heap):Prop:=m0≤H'.length∧∀ id,id < m0→id≠i→id≠j→H'[id]?=H0[id]?
theorem a9j.trim {m0 i j:Nat} {H0 H':Heap} (h:a9j m0 i j H0 H') {m:Nat} (hm:m0≤m) (fr:List V):a9j m0 i j H0 (trim m fr H'):=by
 rcases alb m fr H' with e | ⟨e,_⟩ <;> rw [e]
 ·exact h
 ·exact ⟨by rw [ow];have:=h.1;omega,fun id h1 h2 h3=>by rw [List.getElem?_take_of_lt (by omega)];exact h.2 id h1 h2 h3⟩
def andNot (a b:Nat):Nat:=a &&& (2 ^ 64 - 1 - b)
def ak (m0:Nat) (D:List Nat) (H0 H':Heap):Prop:=m0≤H'.length∧∀ id,id < m0→id ∉ D→H'[id]?=H0[id]?
theorem ak.trim {m0:Nat} {D:List Nat} {H0 H':Heap} (h:ak m0 D H0 H') {m:Nat} (hm:m0≤m) (fr:List V):ak m0 D H0 (trim m fr H'):=by
 rcases alb m fr H' with e | ⟨e,_⟩ <;> rw [e]
 ·exact h
 ·exact ⟨by rw [ow];have:=h.1;omega,fun id h1 h2=>by rw [List.getElem?_take_of_lt (by omega)];exact h.2 id h1 h2⟩
theorem ak.refl (D:List Nat) (H:Heap):ak H.length D H H:=⟨ag _,fun _ _ _=>rfl⟩
theorem ak.trans {m0 m1:Nat} {D:List Nat} {A B C:Heap} (h:ak m0 D A B) (k:ak m1 D B C) (hm:m0≤m1):ak m0 D A C:=⟨kg hm k.1,fun id h1 h2=>(k.2 id (by omega) h2).trans (h.2 id h1 h2)⟩
theorem ak.getC {m0:Nat} {D:List Nat} {A B:Heap} (h:ak m0 D A B) {id g:Nat} {c:List V} (hc:getC A id g=some c) (h1:id < m0) (h2:id ∉ D):getC B id g=some c:=by
 unfold Go.AM.getC at hc ⊢;rw [h.2 id h1 h2];exact hc
theorem ak.mono {m0:Nat} {D D':List Nat} {A B:Heap} (h:ak m0 D A B) {m1:Nat} (hm:m1≤m0) (hD:∀ id,id < m1→id∈D→id∈D'):ak m1 D' A B:=⟨by have:=h.1;omega,fun id h1 h2=>h.2 id (by omega) fun hx=>h2 (hD id h1 hx)⟩
theorem Ext.d {A B:Heap} (h:Ext A B) (D:List Nat):ak A.length D A B:=⟨h.le,fun id h1 _=>h.get h1⟩
theorem adm (H:Heap) (z:List V) (p:List (Nat × Nat)) (ps:List (Nat × Opd)) (vs:List V):ab8 H (.build z p ps) (some vs)=(aaf (p[·]?) z (ps.map fun q=>(q.1,ev vs q.2))).map .agg:=by
 simp only [ab8,je];cases aaf (p[·]?) z (ps.map fun q=>(q.1,ev vs q.2)) <;> rfl
def amY:=And.intro @ai9 (And.intro @axn (And.intro @awh (And.intro @aue (And.intro @a8o (And.intro @a6e @adm)))))
theorem adx {w:Nat}:∀ (R:List (List V)),(∀ r∈R,r.length=w)→R.flatten.length=R.length * w:=by
 intro R
 induction R with
 | nil=>intro _;simp
 | cons r R ih=>
   intro h;rw [uf,dm,ih (fun x hx=>h x (di _ hx)),h r fo,bq,wm];omega
theorem a0s {w:Nat}:∀ (R:List (List V)),(∀ r∈R,r.length=w)→∀ (i:Nat) (r:List V),R[i]?=some r→(R.flatten.drop (i * w)).take w=r:=by
 intro R
 induction R with
 | nil=>intro _ i r h;simp at h
 | cons s R ih=>
   intro h i r hr;have hs:=h s fo;cases i with
   | zero=>
     simp only [List.getElem?_cons_zero,dw] at hr;subst hr;rw [bdw,dz,uf,← hs,List.take_left]
   | succ i=>
     simp only [List.getElem?_cons_succ] at hr
     rw [uf,show (i+1) * w=s.length+i * w by rw [hs,wm];omega,acy,oo (by omega),bu,Nat.add_sub_cancel_left]
     exact ih (fun x hx=>h x (di _ hx)) i r hr
structure RdW (w:Nat) (H:Heap) (v:V) (R:List (List V)):Prop where
 el:elems H w v=some (R.length,R.flatten)
 len:akc H .s v=some (.s (.int .i64 R.length))
 one:v.one=true
 at':∀ (i:Nat) (r:List V),R[i]?=some r→∃ a,mq w v (.s (.int .i64 i))=some a∧xc H true w a=some (.agg r)∧∀ (o:Nat) (x:V),r[o]?=some x→∃ b,yl o a=some b∧xc H false 1 b=some x
theorem RdW.nil (w:Nat) (H:Heap):RdW w H mf []:=⟨rfl,rfl,rfl,fun i r h=>by simp at h⟩
theorem a0i {r:List V} {o:Nat} {x:V} (h:r[o]?=some x):(r.drop o).take 1=[x]:=by
 obtain ⟨ho,rfl⟩:=List.getElem?_eq_some_iff.1 h;rw [d9 ho];rfl
theorem RdW.sl {w:Nat} {H:Heap} {id g:Nat} {R:List (List V)} (hc:getC H id g=some R.flatten) (hR:∀ r∈R,r.length=w):RdW w H (.sl id g 0 R.length w) R:=by
 have hl:=adx R hR;refine ⟨?_,rfl,rfl,fun i r h=>?_⟩
 ·simp only [elems,ja,hc,dz,← hl,ajw]
 ·have hr:=hR r (List.mem_of_getElem? h);have hi:=(List.getElem?_eq_some_iff.1 h).1;have hg:=a0s R hR i r h;refine ⟨.ref id g (0+i * w),?_,?_,fun o x hx=>⟨.ref id g (0+i * w+o),rfl,?_⟩⟩
  ·rw [avq,fe ⟨by omega,by omega,rfl⟩,ng]
  ·rw [zy,hc,ky];simp only [hg,hr,ja,asi]
  ·have ho:=(List.getElem?_eq_some_iff.1 hx).1
   have e:(R.flatten.drop (0+i * w+o)).take 1=[x]:=by
    have h2:=a0i hx
    rw [← hg,List.drop_take,af8,List.take_take,Nat.min_eq_left (by omega)] at h2
    rw [ky];exact h2
   rw [zy,hc];simp only [e,az,ja,ash]
def qf (m w:Nat) (H:Heap) (v:V) (R:List (List V)):Prop:=(∀ r∈R,r.length=w)∧((R=[]∧v=mf)∨∃ id g,v=.sl id g 0 R.length w∧getC H id g=some R.flatten∧m≤id)
theorem qf.start (m w:Nat) (H:Heap):qf m w H mf []:=⟨fun r h=>by simp at h,.inl ⟨rfl,rfl⟩⟩
theorem qf.rd {m w:Nat} {H:Heap} {v:V} {R:List (List V)} (h:qf m w H v R):RdW w H v R:=by
 obtain ⟨hR,⟨rfl,rfl⟩ | ⟨id,g,rfl,hc,_⟩⟩:=h
 ·exact RdW.nil w H
 ·exact RdW.sl hc hR
theorem qf.keep {m w:Nat} {H H':Heap} {v:V} {R:List (List V)} (h:qf m w H v R) (hk:∀ id g n,v=.sl id g 0 n w→H'[id]?=H[id]?):qf m w H' v R:=by
 obtain ⟨hR,h | ⟨id,g,rfl,hc,hm⟩⟩:=h
 ·exact ⟨hR,.inl h⟩
 ·refine ⟨hR,.inr ⟨id,g,rfl,?_,hm⟩⟩;unfold getC at hc ⊢;rw [hk id g _ rfl];exact hc
theorem qf.lt {m w:Nat} {H:Heap} {v:V} {R:List (List V)} (h:qf m w H v R):∀ id g n,v=.sl id g 0 n w→id < H.length:=by
 obtain ⟨_,⟨_,rfl⟩ | ⟨id,g,rfl,hc,hm⟩⟩:=h
 ·intro id g n e;cases e
 ·intro id' g' n e;cases e;exact om hc
theorem qf.append {m w:Nat} {H:Heap} {v:V} {R:List (List V)} (h:qf m w H v R) {base bytes:Nat} (hb:base≤m) (hm:m≤H.length) {S:List (List V)} (hS:∀ r∈S,r.length=w) (h0:S≠[]) {x:V} (hx:elems H w x=some (S.length,S.flatten)) (ho:S.flatten.all V.one=true) (hs:(R.length+S.length) * bytes≤2 ^ 47):
 ∃ v' H',ol H base w bytes v x=some (v',H')∧qf m w H' v' (R ++ S)∧H.length≤H'.length∧(∀ id,id < H.length→(∀ g n,v≠.sl id g 0 n w)→H'[id]?=H[id]?):=by
 have hn:¬ S.length=0:=fun e=>h0 (gp e);have hRS:∀ r∈R ++ S,r.length=w→r.length=w:=fun _ _ e=>e
 obtain ⟨hR,⟨rfl,rfl⟩ | ⟨id,g,rfl,hc,hid⟩⟩:=h
 ·have hs':S.length * bytes≤2 ^ 47:=by simpa using hs
  refine ⟨.sl H.length 0 0 S.length w,H ++ [.cells 0 S.flatten],?_,⟨?_,.inr ⟨H.length,0,by simp,?_,hm⟩⟩,by simp,fun id hid _=>List.getElem?_append_left hid⟩
  ·simp only [ol,hx,ho,ja,mf,hn,mh,hs']
  ·simpa using hS
  ·rw [bu];exact ib H 0 _
 ·have hlt:=om hc
  have hbi:base≤id:=by omega
  have hl:=adx R hR
  refine ⟨.sl id (g+1) 0 (R.length+S.length) w,H.set id (.cells (g+1) (R.flatten ++ S.flatten)),?_,⟨?_,.inr ⟨id,g+1,by simp,?_,hid⟩⟩,by simp,fun id' hid' hne=>?_⟩
  ·have h2:0+R.length * w≤R.flatten.length:=by omega
   simp only [ol,hx,ho,ja,afa,hbi,hc,h2,hn,mh,hs,dz]
   rw [yw (by omega)]
  ·intro r hr
   rcases jr.1 hr with hr | hr
   ·exact hR r hr
   ·exact hS r hr
  ·rw [qo];exact as9 hc _
  ·rw [List.getElem?_set_ne];rintro rfl;exact hne g _ rfl
theorem qf.trim_eq {m w L:Nat} {H:Heap} {v:V} {R:List (List V)} (h:qf m w H v R) (h0:R≠[]) (hL:L≤m) {fr:List V} (hv:v∈fr):trim L fr H=H:=by
 obtain ⟨_,⟨rfl,_⟩ | ⟨id,g,rfl,hc,hid⟩⟩:=h
 ·exact absurd rfl h0
 ·rcases trim_or L fr H with e | ⟨_,hu⟩
  ·exact e
  ·have:=hu _ hv;simp only [kw,jv] at this;omega
theorem qf.trim_or {m w L:Nat} {H:Heap} {v:V} {R:List (List V)} (h:qf m w H v R) (hL:L≤m) {fr:List V} (hv:v∈fr):R=[]∧v=mf∨trim L fr H=H:=by
 obtain ⟨_,h | ⟨id,g,rfl,hc,hid⟩⟩:=h
 ·exact .inl h
 ·rcases Go.AM.trim_or L fr H with e | ⟨_,hu⟩
  ·exact .inr e
  ·have:=hu _ hv;simp only [kw,jv] at this;omega
theorem alc (m:Nat) (fr:List V) (H:Heap) {id:Nat} (h:id < m):(trim m fr H)[id]?=H[id]?:=by
 rcases Go.AM.trim_or m fr H with e | ⟨e,_⟩
 ·rw [e]
 ·rw [e,List.getElem?_take_of_lt h]
theorem akd (m:Nat) (fr:List V) (H:Heap):trim m fr H=H∨(trim m fr H=H.take m∧(∀ v∈fr,kw m 8 v=true)∧∀ id g c,id < m→getC H id g=some c→∀ v∈c,kw m 8 v=true):=by
 unfold trim;split
 ·rename_i h;rw [au,ah,ah] at h;refine .inr ⟨rfl,h.1,fun id g c hid hc v hv=>?_⟩;unfold getC at hc;cases ho:H[id]? with
  | none=>rw [ho] at hc;cases hc
  | some o=>
    rw [ho] at hc
    have hm:o∈H.take m:=List.mem_of_getElem? (i:=id) (by rw [List.getElem?_take_of_lt hid];exact ho)
    have:=h.2 o hm;cases o with
    | cells g2 c2=>
      dsimp only at hc;split at hc
      ·cases hc;simp only [Ob.under,ah] at this;exact this v hv
      ·cases hc
    | map _=>cases hc
    | loop _ _ _ _ _ _=>cases hc
    | dead=>cases hc
    | bytes _ _=>cases hc
 ·exact .inl rfl
theorem akt {S T:Type} (n:Nat) (P:Nat→S→Prop) (X:Nat→S→T) (step:∀ i s,i < n→P i s→∃ s',X i s=X (i+1) s'∧P (i+1) s'):∀ i s,i≤n→P i s→∃ s',X i s=X n s'∧P n s':=by
 have key:∀ d i s,i+d=n→P i s→∃ s',X i s=X n s'∧P n s':=by
  intro d
  induction d with
  | zero=>
    intro i s hi hp
    obtain rfl:i=n:=by omega
    exact ⟨s,rfl,hp⟩
  | succ d ih=>
    intro i s hi hp
    obtain ⟨s1,h1,h2⟩:=step i s (by omega) hp
    obtain ⟨s2,h3,h4⟩:=ih (i+1) s1 (by omega) h2
    exact ⟨s2,h1.trans h3,h4⟩
 exact fun i s hi hp=>key (n - i) i s (by omega) hp
theorem bb6 {T:Type} (n:Nat) (X:Nat→T) (step:∀ i,i < n→X i=X (i+1)):∀ i,i≤n→X i=X n:=by
 intro i hi;obtain ⟨_,h,_⟩:=akt (S:=Unit) n (fun _ _=>True) (fun i _=>X i) (fun i s h _=>⟨(),step i h,trivial⟩) i () hi trivial;exact h
theorem aii {α:Type} {l:List α} {k:Nat} (h:k < l.length) (d:α):l[k]?=some (l.getD k d):=by rw [List.getD,List.getElem?_eq_getElem h];rfl
section
variable {κ:Type} [DecidableEq κ]
end
theorem w64 {n:Nat} (h:n < 2 ^ 62):IntKind.i64.wrap ((n:Int)+1)=((n+1:Nat):Int):=by rw [IntKind.wrap_i64];omega
theorem a0r (a b:ByteArray):Instr.sameNow .string (.string a) (.string b)=some (decide (a=b)):=by
 have h:(a == b)=decide (a=b):=by
  by_cases e:a=b
  ·subst e;rw [af7 rfl,beq_toListBytes];simp
  ·rw [abj e,beq_toListBytes];rw [gy];exact fun h=>e (toList_inj h)
 simp only [Instr.sameNow,h]
theorem zz {H H':Heap} (k:Ext H H') {b:V} {g:Bool} {n:Nat} {x:V} (hx:xc H g n b=some x):xc H' g n b=some x:=by
 cases b with
 | ref i j o=>
   rw [zy] at hx ⊢;cases hc:getC H i j with
   | none=>rw [hc] at hx;cases hx
   | some c=>rw [hc] at hx;rw [gm hc k];exact hx
 | _=>exact hx
theorem RdW.ext2 {w:Nat} {H H':Heap} {v:V} {R:List (List V)} (h:RdW w H v R) (k:Ext H H'):RdW w H' v R:=by
 refine ⟨?_,?_,h.one,?_⟩
 ·have he:=h.el;unfold elems at he ⊢;split <;> simp only at he ⊢
  all_goals first | exact he | skip
  all_goals
   split at he
   ·rename_i e;rw [fe e];cases hc:getC H _ _ with
    | none=>rw [hc] at he;cases he
    | some c=>rw [hc] at he;rw [gm hc k];exact he
   ·cases he
 ·have hl:=h.len;have he:=h.el;unfold elems at he
  split at he <;> simp only [akc] at hl ⊢ <;> first | exact hl | cases he
 ·intro i r hr;obtain ⟨a,h1,h2,h3⟩:=h.at' i r hr
  have ld:∀ (b:V) (g:Bool) (n:Nat) (x:V),xc H g n b=some x→xc H' g n b=some x:=by
   intro b g n x hx;cases b with
   | ref i j o=>
     rw [zy] at hx ⊢;cases hc:getC H i j with
     | none=>rw [hc] at hx;cases hx
     | some c=>rw [hc] at hx;rw [gm hc k];exact hx
   | _=>exact hx
  exact ⟨a,h1,ld _ _ _ _ h2,fun o x hx=>by obtain ⟨b,b1,b2⟩:=h3 o x hx;exact ⟨b,b1,ld _ _ _ _ b2⟩⟩
section
variable {κ:Type} [DecidableEq κ]
end
end Go.AM
set_option maxRecDepth 100000
namespace Go.Proofs.YtbocmenkkjbigaaDoor
open Go.AM
abbrev Sb (b:ByteArray):V:=.s (.string b)
abbrev Iz (n:Int):V:=.s (.int .i64 n)
structure InsD where
 op:Int
 d:ByteArray
 a:ByteArray
 b:ByteArray
 k:Int
 f:ByteArray
 xs:List ByteArray
 ls:List ByteArray
structure BlkD where
 label:ByteArray
 code:List InsD
structure FunD where
 name:ByteArray
 ps:List ByteArray
 blocks:List BlkD
def as7:InsD:=⟨0,⟨#[]⟩,⟨#[]⟩,⟨#[]⟩,0,⟨#[]⟩,[],[]⟩
def a9o:FunD:=⟨⟨#[]⟩,[],[]⟩
def af2 (v:V):Prop:=∀ es z,v≠.psl es z
theorem af2.w {v:V} (h:af2 v):a9a v:=by
 cases v <;> first | trivial | exact absurd rfl (h _ _)
theorem apl.wide2 {m:Nat} {H:Heap} {v:V} {l:List V} (h:apl m H v l):af2 v:=by
 rcases h with ⟨_,rfl | rfl⟩ | ⟨_,_,_,rfl,_⟩ <;> exact fun _ _ e=>by cases e
structure RdX (w:Nat) (H:Heap) (v:V) (R:List (List V)):Prop extends RdW w H v R where
 np:af2 v
theorem RdX.ext2 {w:Nat} {H H':Heap} {v:V} {R:List (List V)} (h:RdX w H v R) (k:Ext H H'):RdX w H' v R:=⟨h.toRdW.ext2 k,h.np⟩
theorem qf.rx {m w:Nat} {H:Heap} {v:V} {R:List (List V)} (h:qf m w H v R):RdX w H v R:=⟨h.rd,by
 obtain ⟨_,⟨_,rfl⟩ | ⟨_,_,rfl,_⟩⟩:=h <;> exact fun _ _ e=>by cases e⟩
theorem RdX.sl {w:Nat} {H:Heap} {id g:Nat} {R:List (List V)} (hc:getC H id g=some R.flatten) (hR:∀ r∈R,r.length=w):RdX w H (.sl id g 0 R.length w) R:=⟨RdW.sl hc hR,fun _ _ e=>by cases e⟩
def qy (x:InsD) (av lv:V):List V:=[.s (.int .u8 x.op),Sb x.d,Sb x.a,Sb x.b,.s (.int .i64 x.k),Sb x.f,av,lv]
def abu (H:Heap) (r:List V) (x:InsD):Prop:=∃ av lv,r=qy x av lv∧Rd H av (x.xs.map Sb)∧af2 av∧Rd H lv (x.ls.map Sb)∧af2 lv∧x.xs.length < 2 ^ 63∧x.ls.length < 2 ^ 63
def RdL {α:Type} (w:Nat) (P:Heap→List V→α→Prop) (H:Heap) (v:V) (l:List α):Prop:=∃ R:List (List V),RdX w H v R∧R.length=l.length∧l.length < 2 ^ 63∧∀ (i:Nat) (x:α),l[i]?=some x→∃ r:List V,R[i]?=some r∧P H r x
def ae6 (H:Heap) (r:List V) (b:BlkD):Prop:=∃ cv,r=[Sb b.label,cv]∧RdL 8 abu H cv b.code
def aec (H:Heap) (r:List V) (f:FunD):Prop:=∃ pv bv,r=[Sb f.name,pv,bv]∧Rd H pv (f.ps.map Sb)∧af2 pv∧f.ps.length < 2 ^ 63∧RdL 2 ae6 H bv f.blocks
abbrev aal:Heap→V→List FunD→Prop:=RdL 3 aec
theorem abu.ext {H H':Heap} {r:List V} {x:InsD} (h:abu H r x) (k:Ext H H'):abu H' r x:=by
 obtain ⟨av,lv,h1,h2,h3,h4,h5,h6⟩:=h;exact ⟨av,lv,h1,h2.ext k,h3,h4.ext k,h5,h6⟩
theorem RdL.ext {α:Type} {w:Nat} {P:Heap→List V→α→Prop} (hP:∀ {H H' r x},P H r x→Ext H H'→P H' r x) {H H':Heap} {v:V} {l:List α} (h:RdL w P H v l) (k:Ext H H'):RdL w P H' v l:=by
 obtain ⟨R,h1,h2,h3,h4⟩:=h
 exact ⟨R,h1.ext2 k,h2,h3,fun i x hx=>by obtain ⟨r,r1,r2⟩:=h4 i x hx;exact ⟨r,r1,hP r2 k⟩⟩
theorem ae6.ext {H H':Heap} {r:List V} {b:BlkD} (h:ae6 H r b) (k:Ext H H'):ae6 H' r b:=by
 obtain ⟨cv,h1,h2⟩:=h;exact ⟨cv,h1,RdL.ext (P:=abu) abu.ext h2 k⟩
theorem aec.ext {H H':Heap} {r:List V} {f:FunD} (h:aec H r f) (k:Ext H H'):aec H' r f:=by
 obtain ⟨pv,bv,h1,h2,h3,h4,h5⟩:=h;exact ⟨pv,bv,h1,h2.ext k,h3,h4,RdL.ext (P:=ae6) ae6.ext h5 k⟩
theorem aal.ext {H H':Heap} {v:V} {fs:List FunD} (h:aal H v fs) (k:Ext H H'):aal H' v fs:=RdL.ext (P:=aec) aec.ext h k
theorem RdL.len {α:Type} {w:Nat} {P:Heap→List V→α→Prop} {H:Heap} {v:V} {l:List α} (h:RdL w P H v l):akc H .s v=some (.s (.int .i64 l.length)):=by
 obtain ⟨R,h1,h2,_⟩:=h;rw [h1.len,h2]
theorem RdL.one {α:Type} {w:Nat} {P:Heap→List V→α→Prop} {H:Heap} {v:V} {l:List α} (h:RdL w P H v l):v.one=true:=by
 obtain ⟨R,h1,_⟩:=h;exact h1.one
theorem RdL.at2 {α:Type} {w:Nat} {P:Heap→List V→α→Prop} {H:Heap} {v:V} {l:List α} (h:RdL w P H v l) {i:Nat} {x:α} (hx:l[i]?=some x):∃ a r,mq w v (.s (.int .i64 i))=some a∧P H r x∧(∀ H',Ext H H'→xc H' true w a=some (.agg r))∧∀ (o:Nat) (y:V),r[o]?=some y→∃ b,yl o a=some b∧∀ H',Ext H H'→xc H' false 1 b=some y:=by
 obtain ⟨R,h1,h2,h3,h4⟩:=h;obtain ⟨r,r1,r2⟩:=h4 i x hx;obtain ⟨a,a1,a2,a3⟩:=h1.at' i r r1
 exact ⟨a,r,a1,r2,fun H' k=>zz k a2,fun o y hy=>by obtain ⟨b,b1,b2⟩:=a3 o y hy;exact ⟨b,b1,fun H' k=>zz k b2⟩⟩
theorem a9d {H:Heap} {v:V} {l:List ByteArray} (h:Rd H v (l.map Sb)) (hw:af2 v) {k:Nat} (hk:k < l.length):∃ a,mq 1 v (.s (.int .i64 k))=some a∧xc H false 1 a=some (.s (.string (l.getD k ⟨#[]⟩))):=
 h.at' hw.w (by rw [List.getElem?_map,aii hk ⟨#[]⟩];rfl)
theorem atm {H:Heap} {v:V} {l:List ByteArray} (h:Rd H v (l.map Sb)):akc H .s v=some (.s (.int .i64 l.length)):=by
 have:=h.len
 rwa [uj] at this
end Go.Proofs.YtbocmenkkjbigaaDoor
namespace Go.AM.Tok
def far (p:UInt8→Bool):List UInt8→Nat
 | []=>0
 | c :: l=>if p c then far p l+1 else 0
theorem far_le (p:UInt8→Bool):∀ l,far p l≤l.length
 | []=>ag _
 | c :: l=>by
   unfold far;split
   ·exact Nat.succ_le_succ (far_le p l)
   ·exact jh _
def blank (c:UInt8):Bool:=c == 32 || c == 9 || c == 13 || c == 10
def letter (c:UInt8):Bool:=decide (97≤c.toNat) && decide (c.toNat≤122) || decide (65≤c.toNat) && decide (c.toNat≤90) || c == 95
def digit (c:UInt8):Bool:=decide (48≤c.toNat) && decide (c.toNat≤57)
def within (c:UInt8):Bool:=letter c || digit c || c == 46
def other (c:UInt8):Bool:=c != 10
def sign (c:UInt8):Bool:=c == 61 || c == 44 || c == 58 || c == 40 || c == 41 || c == 123 || c == 125 || c == 91 || c == 93
structure T where
 kind:Nat
 text:List UInt8
 n:Nat
 line:Nat
 col:Nat
 deriving DecidableEq,Inhabited
inductive Out where
 | done (ts:List T)
 | bad (e line col:Nat)
 deriving DecidableEq,Inhabited
def Out.cons (t:T):Out→Out
 | .done ts=>.done (t :: ts)
 | .bad e a b=>.bad e a b
def val (l:List UInt8):Nat:=l.foldl (fun n c=>n * 10+(c.toNat - 48)) 0
def lex (l:List UInt8) (ln cl:Nat):Out:=
 match l with
 | []=>.done [⟨4,[],0,ln,cl⟩]
 | c :: l=>
   if blank c then (if c=10 then lex l (ln+1) 1 else lex l ln (cl+1))
   else if c=59 then lex (l.drop (far other l)) ln (cl+(far other l+1))
   else if letter c then (lex (l.drop (far within l)) ln (cl+(far within l+1))).cons ⟨1,c :: l.take (far within l),0,ln,cl⟩
   else if digit c then
    if 9 < far digit l+1∨(1 < far digit l+1∧c=48)∨far digit l < far within l then .bad 31 ln cl
    else (lex (l.drop (far digit l)) ln (cl+(far digit l+1))).cons ⟨2,c :: l.take (far digit l),val (c :: l.take (far digit l)),ln,cl⟩
   else if sign c then (lex l ln (cl+1)).cons ⟨3,[c],0,ln,cl⟩
   else .bad 30 ln cl
termination_by l.length
decreasing_by all_goals simp only [bq,jo];omega
theorem lex_nil (ln cl:Nat):lex [] ln cl=.done [⟨4,[],0,ln,cl⟩]:=by rw [lex]
theorem lex_cons (c:UInt8) (l:List UInt8) (ln cl:Nat):lex (c :: l) ln cl=
 if blank c then (if c=10 then lex l (ln+1) 1 else lex l ln (cl+1))
 else if c=59 then lex (l.drop (far other l)) ln (cl+(far other l+1))
 else if letter c then (lex (l.drop (far within l)) ln (cl+(far within l+1))).cons ⟨1,c :: l.take (far within l),0,ln,cl⟩
 else if digit c then
  if 9 < far digit l+1∨(1 < far digit l+1∧c=48)∨far digit l < far within l then .bad 31 ln cl
  else (lex (l.drop (far digit l)) ln (cl+(far digit l+1))).cons ⟨2,c :: l.take (far digit l),val (c :: l.take (far digit l)),ln,cl⟩
 else if sign c then (lex l ln (cl+1)).cons ⟨3,[c],0,ln,cl⟩
 else .bad 30 ln cl:=by rw [lex]
def spotL:List UInt8→Nat × Nat→Nat × Nat
 | [],p=>p
 | c :: l,p=>spotL l (if c=10 then (p.1+1,1) else (p.1,p.2+1))
theorem ac5:∀ (a b:List UInt8) (p:Nat × Nat),spotL (a ++ b) p=spotL b (spotL a p)
 | [],_,_=>rfl
 | c :: a,b,p=>by simp only [aj,spotL,ac5 a b]
theorem spotL_flat:∀ (l:List UInt8) (p:Nat × Nat),(∀ c∈l,c≠10)→spotL l p=(p.1,p.2+l.length)
 | [],p,_=>rfl
 | c :: l,p,h=>by
   simp only [spotL,h c fo,mh];rw [spotL_flat l _ fun x hx=>h x (di _ hx)];simp only [bq];rw [vk,Nat.add_comm 1]
theorem far_take (p:UInt8→Bool):∀ (l:List UInt8),∀ c∈l.take (far p l),p c=true
 | []=>by simp
 | x :: l=>by
   intro c hc;unfold far at hc;split at hc
   ·rename_i hx;rw [bn,og] at hc
    rcases hc with rfl | hc
    ·exact hx
    ·exact far_take p l c hc
   ·simp at hc
theorem amt (p:UInt8→Bool):∀ (l:List UInt8) {c:UInt8} {m:List UInt8},l.drop (far p l)=c :: m→p c=false
 | [],c,m,h=>by simp at h
 | x :: l,c,m,h=>by
   unfold far at h;split at h
   ·rw [dh] at h;exact amt p l h
   ·rename_i hx;rw [dz] at h;cases h
    simpa using hx
theorem ay1 (p:UInt8→Bool):∀ (a b:List UInt8),(∀ c∈a,p c=true)→far p (a ++ b)=a.length+far p b
 | [],b,_=>by simp
 | c :: a,b,h=>by
   simp only [aj,far,h c fo,ja,bq];rw [ay1 p a b fun x hx=>h x (di _ hx)];omega
theorem far_len (p:UInt8→Bool) (l:List UInt8):(l.take (far p l)).length=far p l:=by rw [ow,Nat.min_eq_left (far_le p l)]
theorem len_ne {c:UInt8} (p:UInt8→Bool) (hp:p 10=false) (l:List UInt8) (hc:c≠10):∀ x∈c :: l.take (far p l),x≠10:=by
 intro x hx
 rcases og.1 hx with rfl | hx
 ·exact hc
 ·rintro rfl;rw [far_take p l _ hx] at hp;cases hp
def gap:Bool→List UInt8→Bool
 | _,[]=>true
 | cm,c :: l=>
   let a:=if c=59 then true else cm
   let b:=if c=10 then false else a
   (b || blank c) && gap b l
theorem ajl:∀ (a b:List UInt8),(∀ c∈a,c≠10)→gap true (a ++ b)=gap true b
 | [],b,_=>rfl
 | c :: a,b,h=>by
   have h10:=h c fo;simp only [aj,gap,h10,mh]
   have:(if c=59 then true else true)=true:=by split <;> rfl
   simp only [this,az3,oz];exact ajl a b fun x hx=>h x (di _ hx)
theorem a8c (b:List UInt8):gap true (10 :: b)=gap false (10 :: b):=by simp [gap]
inductive Cov:List UInt8→Nat × Nat→List T→Prop
 | last (g:List UInt8) (p:Nat × Nat):gap false g=true→Cov g p [⟨4,[],0,(spotL g p).1,(spotL g p).2⟩]
 | word (g r:List UInt8) (p:Nat × Nat) (t:T) (ts:List T):gap false g=true→(t.line,t.col)=spotL g p→t.kind≠4→t.text≠[]→Cov r (spotL t.text (spotL g p)) ts→Cov (g ++ (t.text ++ r)) p (t :: ts)
theorem Cov.blank' {c:UInt8} {l:List UInt8} {p:Nat × Nat} {ts:List T} (hb:blank c=true) (h:Cov l (if c=10 then (p.1+1,1) else (p.1,p.2+1)) ts):Cov (c :: l) p ts:=by
 have h59:c≠59:=by rintro rfl;revert hb;decide
 have hg:∀ g,gap false (c :: g)=gap false g:=by
  intro g;simp only [gap,h59,mh]
  have:(if c=10 then false else false)=false:=by split <;> rfl
  simp only [this,hb,bd0,oz]
 generalize hq:(if c=10 then (p.1+1,1) else (p.1,p.2+1))=q at h
 cases h with
 | last g _ h=>
   have:=Cov.last (c :: l) p (by rw [hg];exact h)
   rw [spotL,hq] at this;exact this
 | word g r _ t ts h1 h2 h3 h4 h5=>
   have:=Cov.word (c :: g) r p t ts (by rw [hg];exact h1) (by rw [spotL,hq];exact h2) h3 h4 (by rw [spotL,hq];exact h5)
   rw [aj] at this;exact this
theorem Cov.comm {a l:List UInt8} {p:Nat × Nat} {ts:List T} (ha:∀ x∈a,x≠10) (hl:l=[]∨∃ m,l=10 :: m) (h:Cov l (spotL (59 :: a) p) ts):Cov (59 :: (a ++ l)) p ts:=by
 have hg:∀ g,(g=[]∨∃ m,g=10 :: m)→gap false (59 :: (a ++ g))=gap false g:=by
  intro g hg
  have:gap false (59 :: (a ++ g))=gap true (a ++ g):=by simp [gap]
  rw [this,ajl a g ha]
  rcases hg with rfl | ⟨m,rfl⟩
  ·rfl
  ·exact a8c m
 generalize hq:spotL (59 :: a) p=q at h
 have hs:∀ g,spotL (59 :: (a ++ g)) p=spotL g q:=by
  intro g;rw [show 59 :: (a ++ g)=(59 :: a) ++ g from rfl,ac5,hq]
 cases h with
 | last g _ h=>
   have:=Cov.last (59 :: (a ++ l)) p (by rw [hg _ hl];exact h)
   rw [hs] at this;exact this
 | word g r _ t ts h1 h2 h3 h4 h5=>
   have hg2:g=[]∨∃ m,g=10 :: m:=by
    cases g with
    | nil=>exact .inl rfl
    | cons x g=>
      rcases hl with hl | ⟨m,hl⟩
      ·cases hl
      ·cases hl;exact .inr ⟨g,rfl⟩
   have:=Cov.word (59 :: (a ++ g)) r p t ts (by rw [hg _ hg2];exact h1) (by rw [hs];exact h2) h3 h4 (by rw [hs];exact h5)
   rw [show 59 :: (a ++ g) ++ (t.text ++ r)=59 :: (a ++ (g ++ (t.text ++ r))) by simp] at this
   exact this
theorem cons_done {t:T} {o:Out} {ts:List T} (h:Out.cons t o=.done ts):∃ us,o=.done us∧ts=t :: us:=by
 cases o with
 | done us=>cases h;exact ⟨us,rfl,rfl⟩
 | bad=>cases h
theorem am9 {t:T} {o:Out} {e a b:Nat} (h:Out.cons t o=.bad e a b):o=.bad e a b:=by
 cases o with
 | done us=>cases h
 | bad=>cases h;rfl
theorem Cov.next {c:UInt8} {l x:List UInt8} {k n:Nat} {p:Nat × Nat} {us:List T} (hk:k≠4) (hc:∀ y∈c :: x,y≠10) (h:Cov l (p.1,p.2+(x.length+1)) us):Cov (c :: (x ++ l)) p (⟨k,c :: x,n,p.1,p.2⟩ :: us):=by
 have:=Cov.word [] l p ⟨k,c :: x,n,p.1,p.2⟩ us rfl rfl hk (by simp) (by rw [spotL_flat _ _ hc];exact h)
 simpa using this
theorem not_ten:∀ {c:UInt8},(letter c=true∨digit c=true∨sign c=true)→c≠10:=by
 rintro c h rfl;revert h;decide
theorem lex_cov:∀ (n:Nat) (l:List UInt8) (p:Nat × Nat) (ts:List T),l.length≤n→lex l p.1 p.2=.done ts→Cov l p ts:=by
 intro n
 induction n with
 | zero=>
   intro l p ts h e
   obtain rfl:l=[]:=gp (by omega)
   rw [lex_nil] at e;cases e;exact Cov.last [] p rfl
 | succ n ih=>
   intro l p ts h e;cases l with
   | nil=>
     rw [lex_nil] at e;cases e;exact Cov.last [] p rfl
   | cons c l=>
     have hl:l.length≤n:=by simpa using h
     have hd:∀ m,(l.drop m).length≤n:=fun m=>by rw [jo];omega
     rw [lex_cons] at e;split at e
     ·rename_i hb;refine Cov.blank' hb ?_;split at e
      ·rename_i h10;rw [fe h10];exact ih _ (p.1+1,1) _ hl e
      ·rename_i h10;rw [ic h10];exact ih _ (p.1,p.2+1) _ hl e
     ·split at e
      ·rename_i h59;subst h59;have:=ih _ (p.1,p.2+(far other l+1)) _ (hd _) e;rw [← pu (far other l) l]
       have hn:=len_ne (c:=59) other (by decide) l (by decide)
       refine Cov.comm (fun x hx=>hn x (di _ hx)) ?_ ?_
       ·cases hx:l.drop (far other l) with
        | nil=>exact .inl rfl
        | cons c m=>
          have:=amt other l hx
          exact .inr ⟨m,by rw [show c=10 by simpa [other] using this]⟩
       ·rw [spotL_flat _ _ hn,bq,far_len];exact this
      ·split at e
       ·rename_i hb h59 hlt;obtain ⟨us,e1,rfl⟩:=cons_done e;have:=ih _ (p.1,p.2+(far within l+1)) _ (hd _) e1
        have h2:=Cov.next (c:=c) (x:=l.take (far within l)) (k:=1) (n:=0) (p:=p) (by decide) (len_ne within (by decide) l (not_ten (.inl hlt))) (by rw [far_len];exact this)
        rwa [pu] at h2
       ·split at e
        ·rename_i hb h59 hlt hdg;split at e
         ·cases e
         ·obtain ⟨us,e1,rfl⟩:=cons_done e;have:=ih _ (p.1,p.2+(far digit l+1)) _ (hd _) e1
          have h2:=Cov.next (c:=c) (x:=l.take (far digit l)) (k:=2) (n:=val (c :: l.take (far digit l))) (p:=p) (by decide) (len_ne digit (by decide) l (not_ten (.inr (.inl hdg)))) (by rw [far_len];exact this)
          rwa [pu] at h2
        ·split at e
         ·rename_i hb h59 hlt hdg hs;obtain ⟨us,e1,rfl⟩:=cons_done e;have:=ih _ (p.1,p.2+1) _ hl e1
          exact Cov.next (c:=c) (x:=[]) (k:=3) (n:=0) (p:=p) (by decide) (by simpa using not_ten (.inr (.inr hs))) this
         ·cases e
theorem arn (p:UInt8→Bool):∀ (l u v:List UInt8),l.drop (far p l)=u ++ v→far p (l.take (far p l) ++ u)=far p l:=by
 intro l u v h;rw [ay1 p _ _ (far_take p l),far_len];cases u with
 | nil=>rfl
 | cons c u=>
   have:=amt p l (by rw [h];rfl)
   simp [far,this]
theorem atc (p:UInt8→Bool):∀ (a b:List UInt8),far p a≤far p (a ++ b)
 | [],b=>jh _
 | c :: a,b=>by
   simp only [aj,far];split
   ·exact Nat.succ_le_succ (atc p a b)
   ·exact jh _
def Out.ok:Out→Bool
 | .done _=>true
 | .bad _ _ _=>false
theorem aqx (t:T) (o:Out):(Out.cons t o).ok=o.ok:=by cases o <;> rfl
theorem a5c (ln cl:Nat):(lex [] ln cl).ok=true:=by rw [lex_nil];rfl
def Ahead (l:List UInt8) (p:Nat × Nat) (e a b:Nat):Prop:=(e=30∨e=31)∧∃ u v,l=u ++ v∧v≠[]∧(lex u p.1 p.2).ok=true∧(a,b)=spotL u p
theorem lex_ahead:∀ (n:Nat) (l:List UInt8) (p:Nat × Nat) (e a b:Nat),l.length≤n→lex l p.1 p.2=.bad e a b→Ahead l p e a b:=by
 intro n
 induction n with
 | zero=>
   intro l p e a b h he
   obtain rfl:l=[]:=gp (by omega)
   rw [lex_nil] at he;cases he
 | succ n ih=>
   intro l p e a b h he;cases l with
   | nil=>rw [lex_nil] at he;cases he
   | cons c l=>
     have hl:l.length≤n:=by simpa using h
     have hd:∀ m,(l.drop m).length≤n:=fun m=>by rw [jo];omega
     have hh:=he;rw [lex_cons] at he;split at he
     ·rename_i hb;split at he
      ·rename_i h10;obtain ⟨h1,u,v,rfl,h3,h4,h5⟩:=ih _ (p.1+1,1) _ _ _ hl he
       exact ⟨h1,c :: u,v,rfl,h3,by rw [lex_cons,fe hb,fe h10];exact h4,by rw [h5,spotL,fe h10]⟩
      ·rename_i h10;obtain ⟨h1,u,v,rfl,h3,h4,h5⟩:=ih _ (p.1,p.2+1) _ _ _ hl he
       exact ⟨h1,c :: u,v,rfl,h3,by rw [lex_cons,fe hb,ic h10];exact h4,by rw [h5,spotL,ic h10]⟩
     ·rename_i hb;split at he
      ·rename_i h59;obtain ⟨h1,u,v,h2,h3,h4,h5⟩:=ih _ (p.1,p.2+(far other l+1)) _ _ _ (hd _) he;have hf:=arn other l u v h2;refine ⟨h1,c :: (l.take (far other l) ++ u),v,?_,h3,?_,?_⟩
       ·rw [aj,jb,← h2,pu]
       ·rw [lex_cons,ic hb,fe h59,hf];rw [List.drop_left' (far_len other l)];exact h4
       ·rw [h5,← aj,ac5,spotL_flat (c :: l.take (far other l)) p (len_ne other (by decide) l (by rw [h59];decide)),bq,far_len]
      ·rename_i h59
       have hdrop:∀ (q:UInt8→Bool) (u:List UInt8),(l.take (far q l) ++ u).drop (far q l)=u:=by
        exact fun q u=>List.drop_left' (far_len q l)
       split at he
       ·rename_i hlt;obtain ⟨h1,u,v,h2,h3,h4,h5⟩:=ih _ (p.1,p.2+(far within l+1)) _ _ _ (hd _) (am9 he);have hf:=arn within l u v h2;have hdr:=hdrop within u;refine ⟨h1,c :: (l.take (far within l) ++ u),v,?_,h3,?_,?_⟩
        ·rw [aj,jb,← h2,pu]
        ·rw [lex_cons,ic hb,ic h59,fe hlt,hf,hdr,aqx];exact h4
        ·rw [h5,← aj,ac5,spotL_flat (c :: l.take (far within l)) p (len_ne within (by decide) l (not_ten (.inl hlt))),bq,far_len]
       ·rename_i hlt;split at he
        ·rename_i hdg;split at he
         ·rename_i hcond;cases he
          exact ⟨.inr rfl,[],c :: l,rfl,by simp,a5c _ _,rfl⟩
         ·rename_i hcond;obtain ⟨h1,u,v,h2,h3,h4,h5⟩:=ih _ (p.1,p.2+(far digit l+1)) _ _ _ (hd _) (am9 he);have hf:=arn digit l u v h2;have hdr:=hdrop digit u
          have hm:far within (l.take (far digit l) ++ u)≤far within l:=by
           have:=atc within (l.take (far digit l) ++ u) v;rw [jb,← h2,pu] at this;exact this
          refine ⟨h1,c :: (l.take (far digit l) ++ u),v,?_,h3,?_,?_⟩
          ·rw [aj,jb,← h2,pu]
          ·rw [lex_cons,ic hb,ic h59,ic hlt,fe hdg,ic (fun hx=>hcond (by rw [hf] at hx;exact hx.imp id (Or.imp id fun h=>by omega))),hf,hdr,aqx];exact h4
          ·rw [h5,← aj,ac5,spotL_flat (c :: l.take (far digit l)) p (len_ne digit (by decide) l (not_ten (.inr (.inl hdg)))),bq,far_len]
        ·rename_i hdg;split at he
         ·rename_i hs;obtain ⟨h1,u,v,rfl,h3,h4,h5⟩:=ih _ (p.1,p.2+1) _ _ _ hl (am9 he);refine ⟨h1,c :: u,v,rfl,h3,?_,?_⟩
          ·rw [lex_cons,ic hb,ic h59,ic hlt,ic hdg,fe hs,aqx];exact h4
          ·rw [h5,spotL,ic (not_ten (.inr (.inr hs)))]
         ·cases he
          exact ⟨.inl rfl,[],c :: l,rfl,by simp,a5c _ _,rfl⟩
end Go.AM.Tok
set_option maxRecDepth 100000
namespace Go.Proofs.YtbocmenkkjbigaaDoor
open Go.AM
structure Vw where
 kind:Nat→Nat
 text:Nat→List UInt8
 num:Nat→Nat
 same:Nat→Bool
def tkE:Tok.T:=⟨4,[],0,0,0⟩
def Vw.of (ts:List Tok.T):Vw where
 kind a:=(ts.getD a tkE).kind
 text a:=(ts.getD a tkE).text
 num a:=(ts.getD a tkE).n
 same a:=decide (a > 0) && (ts.getD (a - 1) tkE).line == (ts.getD a tkE).line
abbrev Rx (α:Type):=Nat→Except Nat (α × Nat)
def Rx.bind {α β:Type} (f:Rx α) (g:α→Rx β):Rx β:=fun a=>match f a with
 | .error e=>.error e
 | .ok (x,b)=>g x b
section
variable (V:Vw) (N:Nat)
def bOf (l:List UInt8):ByteArray:=⟨l.toArray⟩
def isT (s:List UInt8) (a:Nat):Bool:=V.same a && V.kind a == 3 && V.text a == s
def oh:Rx ByteArray:=fun a=>if (V.same a && V.kind a == 1)=true then .ok (bOf (V.text a),a+1) else .error a
def su:Rx Nat:=fun a=>if (V.same a && V.kind a == 2)=true then .ok (V.num a,a+1) else .error a
def ry (s:List UInt8):Rx Unit:=fun a=>if isT V s a=true then .ok ((),a+1) else .error a
def az5 (a:Nat):Bool:=V.same a && V.kind a != 4
def bdu:Rx Unit:=fun a=>if az5 V a=true then .error a else .ok ((),a)
def auf (s:List UInt8) (a:Nat):Bool:=V.kind a == 1 && (V.kind (a+1) == 3 && V.text (a+1) == s && V.same (a+1))
def ad8:Nat→List ByteArray→Rx (List ByteArray)
 | 0,_,a=>.error a
 | n+1,acc,a=>if isT V [41] a=true then .ok (acc,a) else
   if acc.length > 0 then (ry V [44]).bind (fun _=>(oh V).bind fun x=>ad8 n (acc ++ [x])) a
   else (oh V).bind (fun x=>ad8 n (acc ++ [x])) a
def aht:Rx (List ByteArray):=(ry V [40]).bind fun _=>(ad8 V N []).bind fun l=>(ry V [41]).bind fun _ a=>.ok (l,a)
def aw4:Nat→List ByteArray→List ByteArray→Rx (List ByteArray × List ByteArray)
 | 0,_,_,a=>.error a
 | n+1,ls,xs,a=>(oh V).bind (fun l=>(ry V [58]).bind fun _=>(oh V).bind fun x b=>
   if isT V [44] b=true then (ry V [44]).bind (fun _=>aw4 n (ls ++ [l]) (xs ++ [x])) b else .ok ((ls ++ [l],xs ++ [x]),b)) a
def opT:Nat→InsD→Rx InsD
 | 1,x | 2,x=>(su V).bind fun n a=>.ok ({ x with k:=n },a)
 | 3,x=>fun a=>.ok (x,a)
 | 4,x=>(oh V).bind fun s a=>.ok ({ x with f:=s },a)
 | 5,x | 8,x=>(oh V).bind fun s a=>.ok ({ x with a:=s },a)
 | 6,x=>(ry V [91]).bind fun _=>(aw4 V N x.ls x.xs).bind fun p=>(ry V [93]).bind fun _ a=>.ok ({ x with ls:=p.1,xs:=p.2 },a)
 | 7,x=>(oh V).bind fun s=>(su V).bind fun n a=>.ok ({ x with a:=s,k:=n },a)
 | 9,x=>(oh V).bind fun s=>(ry V [44]).bind fun _=>(oh V).bind fun t a=>.ok ({ x with a:=s,b:=t },a)
 | 10,x=>(oh V).bind fun s=>(aht V N).bind fun l a=>.ok ({ x with f:=s,xs:=l },a)
 | 11,x=>(oh V).bind fun s=>(aht V N).bind fun l a=>.ok ({ x with a:=s,xs:=l },a)
 | 12,x=>(oh V).bind fun s=>(oh V).bind fun t a=>.ok ({ x with ls:=[s,t] },a)
 | 13,x=>(oh V).bind fun s a=>.ok ({ x with ls:=[s] },a)
 | 14,x=>fun a=>if (V.same a && V.kind a == 1)=true then (oh V).bind (fun s a=>.ok ({ x with a:=s },a)) a else .ok (x,a)
 | _,_=>fun a=>.error a
def apz:List (List UInt8 × Nat):=[([97,108,108,111,99,97],1),([109,97,108,108,111,99],2),([110,117,108,108],3),([97,100,100,114],4),([99,111,112,121],5),([108,111,97,100],8),([102,105,101,108,100],7),([112,104,105],6),([99,97,108,108],10),([105,99,97,108,108],11)]
def ar0:List (List UInt8 × Nat):=[([115,116,111,114,101],9),([99,97,108,108],10),([105,99,97,108,108],11),([98,114],12),([103,111,116,111],13),([114,101,116],14)]
def auy (l:List (List UInt8 × Nat)) (s:List UInt8):Option Nat:=(l.find? fun p=>p.1 == s).map (·.2)
def a5d (d:ByteArray) (l:List (List UInt8 × Nat)):Rx InsD:=fun b=>match auy l (V.text b) with
 | none=>if d.data.toList=[] then .error (b+1) else .error b
 | some o=>if V.kind b=1 then opT V N o { as7 with op:=o,d:=d } (b+1) else .error b
def ahh:Rx InsD:=fun a=>
 if auf V [61] a=true then (if V.same (a+2)=true then a5d V N (bOf (V.text a)) apz (a+2) else .error (a+2))
 else a5d V N ⟨#[]⟩ ar0 a
def addI (bs:List BlkD) (x:InsD):List BlkD:=bs.dropLast ++ (bs.getLast?.toList.map fun b=>{ b with code:=b.code ++ [x] })
def azw (nm:ByteArray) (ps:List ByteArray):Nat→List BlkD→Rx FunD
 | 0,_,a=>.error a
 | n+1,bs,a=>
   if az5 V a=true then .error a
   else if (V.kind a == 3 && V.text a == [125])=true then (if az5 V (a+1)=true then .error (a+1) else .ok (⟨nm,ps,bs⟩,a+1))
   else if auf V [58] a=true then azw nm ps n (bs ++ [⟨bOf (V.text a),[]⟩]) (a+2)
   else if (V.kind a != 1 || bs.length == 0)=true then (if V.kind a=1 then .error (a+1) else .error a)
   else (ahh V N).bind (fun x=>azw nm ps n (addI bs x)) a
def a5e:Rx FunD:=fun a=>(oh V).bind (fun nm=>(aht V N).bind fun ps=>(ry V [123]).bind fun _=>azw V N nm ps N []) (a+1)
def a5a:Nat→List FunD→Rx (List FunD)
 | 0,_,a=>.error a
 | n+1,fs,a=>if V.kind a=4 then .ok (fs,a) else
   if (V.kind a != 1 || V.text a != [102,117,110,99])=true then .error a
   else (a5e V N).bind (fun f=>a5a n (fs ++ [f])) a
end
def parT (ts:List Tok.T):Except Nat (List FunD):=match a5a (Vw.of ts) (ts.length+1) (ts.length+1) [] 0 with
 | .error e=>.error e
 | .ok (fs,_)=>.ok fs
end Go.Proofs.YtbocmenkkjbigaaDoor
namespace Go.AM
def am0:=And.intro @a3p (And.intro @a3r (And.intro @a8p (And.intro @a8m (And.intro @azb (And.intro @a3s (And.intro @a3q (And.intro @a8n (And.intro @anq (And.intro @avy (And.intro @avx (And.intro @atx (And.intro @aty (And.intro @a1m (And.intro @a1l (And.intro @a1n (And.intro @axf (And.intro @axg (And.intro @avf (And.intro @awp (And.intro @aof (And.intro @Bool.not_true (And.intro @Bool.not_false (And.intro @apn (And.intro @tu (And.intro @atz (And.intro @ap2 (And.intro @anw (And.intro @axe (And.intro @a00 (And.intro @awv (And.intro @aww (And.intro @ig (And.intro @oz (And.intro @a9c (And.intro @a9b (And.intro @evE_t (And.intro @a8k (And.intro @a3g (@aur)))))))))))))))))))))))))))))))))))))))
def am1:=And.intro @auq (And.intro @aqp (And.intro @a8l (And.intro @a3o (And.intro @a3n (And.intro @a8j (And.intro @a3l (And.intro @a3k (And.intro @ay8 (And.intro @avb (And.intro @ava (And.intro @amy (And.intro @aka (And.intro @aj9 (And.intro @ao6 (And.intro @amx (And.intro @amw (And.intro @au8 (And.intro @arv (And.intro @aru (And.intro @au9 (And.intro @arx (And.intro @arw (And.intro @ao5 (And.intro @ay7 (And.intro @bcc (And.intro @a3m (And.intro @avc (And.intro @amz (And.intro @ay6 (And.intro @ary (And.intro @a3j (And.intro @a3i (And.intro @ay9 (And.intro @a3h (And.intro @au7 (And.intro @ay5 (And.intro @aft (And.intro @aab (@a9h)))))))))))))))))))))))))))))))))))))))
def am2:=And.intro @ack (And.intro @ams (And.intro @ao2 (And.intro @ayt (And.intro @a2s (And.intro @aw2 (And.intro @a05 (And.intro @au1 (And.intro @aye (And.intro @apv (And.intro @avl (And.intro @not_false_eq_true (And.intro @ad3 (And.intro @atq (And.intro @bd0 (And.intro @az3 (And.intro @jy (And.intro @aap (And.intro @aa2 (And.intro @ng (And.intro @Int.natCast_nonneg (And.intro @Bool.cond_true_left (And.intro @Bool.cond_false_right (And.intro @Bool.cond_false_left (And.intro @Bool.cond_true_right (And.intro @a2y (And.intro @a2i (And.intro @ac4 (And.intro @ant (And.intro @anr (And.intro @at5 (And.intro @avw (And.intro @a0v (And.intro @a0u (And.intro @awq (And.intro @a0x (And.intro @a0w (And.intro @a0y (And.intro @aws (@ay2)))))))))))))))))))))))))))))))))))))))
def am3:=And.intro @au6 (And.intro @arq (And.intro @a1x (And.intro @atw (And.intro @avs (And.intro @awt (And.intro @a03 (And.intro @a04 (And.intro @awu (And.intro @axj (And.intro @ev_t (And.intro @ev_c (And.intro @beq_true (And.intro @beq_false (And.intro @bbk (And.intro @bbi (And.intro @a1s (And.intro @aog (And.intro @aqv (And.intro @axl (And.intro @aqu (And.intro @a1r (And.intro @op_un (And.intro @a6u (And.intro @axo (And.intro @aoh (And.intro @a1q (And.intro @auu (And.intro @a6t (And.intro @a6s (And.intro @axm (And.intro @a6q (And.intro @a1w (And.intro @bbj (And.intro @aja (And.intro @a1p (And.intro @a6r (And.intro @axp (And.intro @a6v (@a1u)))))))))))))))))))))))))))))))))))))))
def am4:=And.intro @a1v (And.intro @auv (And.intro @auw (And.intro @a9f (And.intro @a9e (And.intro @ay3 (And.intro @aup (And.intro @auo (And.intro @Bool.bne_false (And.intro @Bool.bne_true (And.intro @bat (And.intro @bae (And.intro @bak (And.intro @bap (And.intro @baj (And.intro @bal (And.intro @bam (And.intro @ban (And.intro @bao (And.intro @bas (And.intro @xb_or (And.intro @bac (And.intro @avr (And.intro @bai (And.intro @bah (And.intro @bag (And.intro @baf (And.intro @a9x (And.intro @a9v (And.intro @a9w (And.intro @a9y (And.intro @xq_b (And.intro @xn_pn (And.intro @xn_pr (And.intro @xn_pp (And.intro @xn_sn (And.intro @xn_ss (And.intro @xn_sp (And.intro @xn_se (@xn_mn)))))))))))))))))))))))))))))))))))))))
def am5:=And.intro @xn_mm (And.intro @xn_fn (And.intro @xn_ff (And.intro @xn_fy (And.intro @xg (And.intro @a9t (And.intro @a9u (And.intro @bab (And.intro @xc_id (And.intro @a96 (And.intro @a5u (And.intro @xk_fn (And.intro @a95 (And.intro @a4t (And.intro @a5v (And.intro @a99 (And.intro @avq (And.intro @a98 (And.intro @a97 (And.intro @baa (And.intro @a9z (And.intro @a92 (And.intro @a94 (And.intro @a90 (And.intro @xl_sl (And.intro @a5t (And.intro @zy (And.intro @a5s (And.intro @xm (And.intro @asi (And.intro @ash (And.intro @ag (And.intro @mo (And.intro @and_true (And.intro @afa (And.intro @ky (And.intro @ab7 (And.intro @vg (And.intro @a0p (@azu)))))))))))))))))))))))))))))))))))))))
def am6:=And.intro @a4g (And.intro @att (And.intro @atu (And.intro @atr (And.intro @avp (And.intro @ave (And.intro @ar1 (And.intro @ar2 (And.intro @asx (And.intro @a5r (And.intro @a1t (And.intro @Int.sub_zero (And.intro @Int.le_refl (And.intro @ar4 (And.intro @ba2 (And.intro @ayu (And.intro @a10 (And.intro @iq (And.intro @bbq (And.intro @bcg (And.intro @a7e (And.intro @a7b (And.intro @a1z (And.intro @a1y (And.intro @a7c (And.intro @bbl (And.intro @a7d (And.intro @a7f (And.intro @bbn (And.intro @bbo (And.intro @azq (And.intro @a8s (And.intro @a4d (And.intro @azo (And.intro @azn (And.intro @azp (And.intro @a4e (And.intro @ayz (And.intro @at6 (@apw)))))))))))))))))))))))))))))))))))))))
def am7:=And.intro @anz (And.intro @anx (And.intro @awf (And.intro @at1 (@vk))))
def al0:=@Bool.cond_self
def al1:=@gu
def al2:=@iw
def al3:=@cu
def al4:=@jl
def al5:=@ne_eq
def al6:=@mh
def al7:=@ja
def al8:=@af5
def al9:=@avn
def al10:=@cond_true
def al11:=@cond_false
def al12:=@bu
def al13:=@abm
def al14:=@aj
def al15:=@ou
def al16:=@acr
def al17:=@lh
def al18:=@bne_self_eq_false
def al19:=@List.getElem?_cons_zero
def al20:=@List.getElem?_cons_succ
def al21:=@dz
def al22:=@dh
def al23:=@bn
def al24:=@dx
def al25:=@List.take_nil
def al26:=@aib
def al27:=@bq
def al28:=@ed
def al29:=@zh
def al30:=@gq
def al31:=@ik
def al32:=@cz
def al33:=@List.set_cons_zero
def al34:=@List.set_cons_succ
theorem hT (R:List AOper) (K O:List Nat) (m:Nat) (kp:List (List (Nat × Bool × E) × E)) (os:List (Nat × E)) (items:List RI) (h:xw R K O=some (m,akv items os,os):=by kernel_rfl) (hk:ad9 items=kp:=by kernel_rfl):∀ (fr:List V) (H:Heap),q9 (xw R K O) K fr H=q9 (some (m,kp,os)) K fr H:=fun fr H=>by rw [← hk];exact a0g h fr H
theorem hO (R P T:List AOper) (KC K:List Nat) (lit:List AOper) (e:R=P ++ T:=by exact rfl) (e2:P=lit:=by exact rfl) (h:apc KC T K=true:=by kernel_rfl):∀ (call:ku) (it:yj) (base:Nat) (f:List V) (H:Heap),evC call it base (.region R [] K) f H=agc call it base (.region T [] K) (axk [] P KC (ji call base lit f H)):=fun call it base f H=>by
 subst e;subst e2
 exact (awo call it base P T (kc:=KC) h f H).trans (by rw [alq])
theorem hS (R:List AOper) (ka oa K:List Nat) {P T:List AOper} (e:R=P ++ T:=by exact rfl) (h:apc ka T K=true:=by kernel_rfl):∀ (call:ku) (it:yj) (base:Nat) (f:List V) (H:Heap),evC call it base (.region R [] K) f H=ba8 call it base T K H (q9 (xw P ka oa) ka f H) (aew call it base R K f H):=fun call it base f H=>by
 subst e;exact awn call it base P T h f H
theorem hU (R:List AOper) (ka oa K:List Nat) (m:Nat) (kp:List (List (Nat × Bool × E) × E)) (os:List (Nat × E)) (items:List RI) {P T:List AOper} (e:R=P ++ T:=by exact rfl) (h:apc ka T K=true:=by kernel_rfl) (h2:xw P ka oa=some (m,akv items os,os):=by kernel_rfl) (hk:ad9 items=kp:=by kernel_rfl):(∀ (fr:List V) (H:Heap),q9 (xw P ka oa) ka fr H=q9 (some (m,kp,os)) ka fr H)∧∀ (call:ku) (it:yj) (base:Nat) (f:List V) (H:Heap),evC call it base (.region R [] K) f H=ba8 call it base T K H (q9 (xw P ka oa) ka f H) (aew call it base R K f H):=⟨hT P ka oa m kp os items h2 hk,hS R ka oa K e h⟩
theorem hL (R:List AOper) (K O:List Nat):∀ (call:ku) (it:yj) (base:Nat) (f:List V) (H:Heap),evC call it base (.region R [] K) f H=bdp H (q9 (xw R K O) K f H) (aew call it base R K f H):=fun call it base f H=>a0t call it base R f H
theorem hV (R:List AOper) (K O:List Nat) (m:Nat) (kp:List (List (Nat × Bool × E) × E)) (os:List (Nat × E)) (items:List RI) (h:xw R K O=some (m,akv items os,os):=by kernel_rfl) (hk:ad9 items=kp:=by kernel_rfl):(∀ (fr:List V) (H:Heap),q9 (xw R K O) K fr H=q9 (some (m,kp,os)) K fr H)∧∀ (call:ku) (it:yj) (base:Nat) (f:List V) (H:Heap),evC call it base (.region R [] K) f H=bdp H (q9 (xw R K O) K f H) (aew call it base R K f H):=⟨hT R K O m kp os items h hk,hL R K O⟩
theorem hX (R:List AOper) (K:List Nat) {a:AOper} (e:R=[a]:=by exact rfl):∀ (call:ku) (it:yj) (base:Nat) (f:List V) (H:Heap),evC call it base (.region R [] K) f H=axk [] R K (ji call base [a] f H):=fun call it base f H=>by
 subst e;exact alq call it base [a] K f H
theorem hE (c b:ACode) (e:c=b:=by exact rfl):∀ (call:ku) (it:yj) (base:Nat) (fr:List V) (H:Heap),evC call it base c fr H=evC call it base b fr H:=fun _ _ _ _ _=>by rw [e]
theorem hP (R:List AOper) (KC K:List Nat) {T:List AOper} {a:AOper} (e:R=a :: T:=by exact rfl) (h:apc KC T K=true:=by kernel_rfl):∀ (call:ku) (it:yj) (base:Nat) (f:List V) (H:Heap),evC call it base (.region R [] K) f H=agc call it base (.region T [] K) (axk [] [a] KC (ji call base [a] f H)):=hO R [a] T KC K [a] e rfl h
def q (d:Nat) (o:AOp):AOper:=⟨some d,o,none⟩
def qg (d:Nat) (o:AOp) (n:Nat) (b:Bool):AOper:=⟨some d,o,some (n,b)⟩
abbrev LO:=List AOper
def oL (d n:Nat):AOper:=⟨some d,.load false 1 (.t n),none⟩
def gL (d n g:Nat) (b:Bool):AOper:=⟨some d,.load false 1 (.t n),some (g,b)⟩
def oF (d k n:Nat):AOper:=⟨some d,.fieldAddr k (.t n),none⟩
def gF (d k n g:Nat) (b:Bool):AOper:=⟨some d,.fieldAddr k (.t n),some (g,b)⟩
def oM (d n:Nat):AOper:=⟨some d,.move (.t n),none⟩
def gM (d n g:Nat) (b:Bool):AOper:=⟨some d,.move (.t n),some (g,b)⟩
abbrev eL (x:E):E:=.op (.load false 1 (.t 0)) [x]
abbrev eF (k:Nat) (x:E):E:=.op (.fieldAddr k (.t 0)) [x]
def sb (l:List Nat):RI:=.sub 0 l []
theorem hQ (l:List Nat) (n:Nat) (h:l.contains n=true:=by kernel_rfl):l.contains n=true:=h
theorem hK (l:List Nat) (n:Nat) (h:l.contains n=false:=by kernel_rfl):l.contains n=false:=h
theorem ai {a b:Prop} (h:a) (k:b):a∧b:=⟨h,k⟩
def aa:=ai @a6w (ai @amY (ai @bbh (ai @bl.eq_1 (ai @i64.eq_1 (ai @splice.eq_1 (ai @aaf.eq_1 (ai @aaf.eq_2 (ai @am0 (ai @am1 (ai @am2 (ai @am3 (ai @am4 (ai @am5 (ai @am6 (ai @am7 (ai @al0.{1} (ai @al1.{0} (ai @al2.{0} (ai @al3.{0} (ai @al4.{0,0} (ai @al5.{1} (ai @al6.{1} (ai @al7.{1} (ai @al8.{0} (ai @al9.{0} (ai @al10.{1} (ai @al11.{1} (ai @al12.{0} (ai @al13.{0} (ai @al14.{0} (ai @al15.{0,0} (ai @al16.{0,0} (ai @al17.{0} (ai @al18.{0} (ai @al19.{0} (ai @al20.{0} (ai @al21.{0} (ai @al22.{0} (ai @al23.{0} (ai @al24.{0} (ai @al25.{0} (ai @al26.{0} (ai @al27.{0} (ai @al28.{0} (ai @al29.{0,0} (ai @al30.{0} (ai @al31.{0} (ai @al32.{0} (ai @al33.{0} (@al34.{0}))))))))))))))))))))))))))))))))))))))))))))))))))
open Go.RowKit
abbrev aad:=TypeId × V × Heap
abbrev atn:=V→List V→Nat→Heap→aad→Prop
def ajx (call:ku) (base:Nat):Nat→List AOper→List V→Heap→Option (V × List V × Heap)
 | _,[],_,_=>none
 | 0,o :: _,fr,H=>match want o fr with
   | some true=>match o.op with
     | .call f xs=>some (ev fr f,xs.map (ev fr),H)
     | _=>none
   | _=>none
 | n+1,o :: os,fr,H=>match want o fr with
   | none=>none
   | some false=>ajx call base n os (put o.dst und fr) H
   | some true=>match je call base fr H o.op with
     | some (v,H')=>ajx call base n os (put o.dst v fr) H'
     | none=>none
def yt (u:V):ku:=fun _ _ _ H=>some (u,H)
abbrev ab4:=List AOper→List V→Prop
def bco (call:ku) (pan:atn) (base:Nat) (C:ab4) (ops:List AOper) (chk:List (Nat × Nat)) (fr:List V) (H:Heap) (r:aad):Prop:=
 C ops fr∧(∃ i v args H1,ajx call base i ops fr H=some (v,args,H1)∧pan v args base H1 r)∧
 ∃ u fr' H',ji (yt u) base ops fr H=some (fr',H')∧chk.all (aay (yt u) base ops fr H fr')=true
inductive PanL (b:List V→Heap→Option St) (x:List V→Heap→aad→Prop) (kill:List Nat) (m:Nat):List V→Heap→aad→Prop
 | here {fr:List V} {H:Heap} {r:aad} (h:x fr H r):PanL b x kill m fr H r
 | next {fr fr':List V} {H H':Heap} {r:aad} (h:b fr H=some (.nrm,fr',H')) (k:PanL b x kill m (nz kill fr') (trim m (nz kill fr') H') r):PanL b x kill m fr H r
def aa8 (call:ku) (pan:atn) (it:yj) (base:Nat) (C:ab4):ACode→List V→Heap→aad→Prop
 | .region ops chk _,fr,H,r=>bco call pan base C ops chk fr H r
 | .seq a b,fr,H,r=>aa8 call pan it base C a fr H r∨∃ fr1 H1,evC call it base a fr H=some (.nrm,fr1,H1)∧aa8 call pan it base C b fr1 H1 r
 | .cond c a b,fr,H,r=>(ev fr c=.s (.bool true)∧aa8 call pan it base C a fr H r)∨(ev fr c=.s (.bool false)∧aa8 call pan it base C b fr H r)
 | .block _ c,fr,H,r=>aa8 call pan it base C c fr H r
 | .loop kill c,fr,H,r=>PanL (fun fr H=>evC call it base c fr H) (fun fr H r=>aa8 call pan it base C c fr H r) kill H.length (nz kill fr) H r
 | _,_,_,_=>False
def aez (o:Oper):Bool:=
 match o.op with
 | .call { callee:=.value _,.. }=>true
 | _=>false
def aqw (ops:Array Oper):Bool:=(List.range ops.size).all fun i=>(List.range ops.size).all fun j=>!(aez (ops.getD i default) && aez (ops.getD j default)) || i == j
def amc:Code→Bool
 | .region _ ops draw=>!draw || aqw ops
 | .seq a b=>amc a && amc b
 | .cond _ a b=>amc a && amc b
 | .block _ c=>amc c
 | .loop c=>amc c
 | .rangeFunc _ _ a b=>amc a && amc b
 | _=>true
def bdn (ops:Array Oper):Prop:=∀ (i j:Nat) (o o':Oper),ops[i]?=some o→ops[j]?=some o'→aez o=true→aez o'=true→i=j
theorem axq {ops:Array Oper} (h:aqw ops=true):bdn ops:=by
 intro i j o o' hi hj h1 h2;unfold aqw at h;have li:=(Array.getElem?_eq_some_iff.1 hi).1;have lj:=(Array.getElem?_eq_some_iff.1 hj).1
 have:=ah.1 (ah.1 h i (by simpa using li)) j (by simpa using lj)
 have e1:ops.getD i default=o:=by rw [Array.getD_eq_getD_getElem?,hi];rfl
 have e2:ops.getD j default=o':=by rw [Array.getD_eq_getD_getElem?,hj];rfl
 rw [e1,e2,h1,h2] at this
 simpa using this
theorem bdn.perm {ops:Array Oper} {π:List Nat} (hp:PermOk π ops) (h:bdn ops):bdn (qw π ops):=by
 intro i j o o' hi hj h1 h2
 have get:∀ (i:Nat) (o:Oper),(qw π ops)[i]?=some o→∃ k o0,π[i]?=some k∧ops[k]?=some o0∧o=ac8 π o0:=fun i o hi=>by
  have li:i < π.length:=by rw [← adf (ops:=ops)];exact (Array.getElem?_eq_some_iff.1 hi).1
  have hk:π[i]?=some π[i]:=List.getElem?_eq_getElem li;have hl:=hp.lt _ (qj li);have ho:ops[π[i]]?=some ops[π[i]]:=Array.getElem?_eq_getElem hl;have:=aau hk ho;rw [hi] at this;exact ⟨_,_,hk,ho,fu this⟩
 obtain ⟨k,o0,k1,k2,rfl⟩:=get i o hi;obtain ⟨k',o0',k1',k2',rfl⟩:=get j o' hj;have:=h k k' o0 o0' k2 k2' h1 h2;subst this;have e1:=aly hp.nd k1;have e2:=aly hp.nd k1';omega
section
variable {CC:CX} {μ μ':Mu} {Mt Mt':Nat→Prop} {w w':World} {H H':Heap} {P:Program} {pure':PX} {call:ku} {pan:atn}
def a9p (CC:CX) (μ:Mu) (Mt:Nat→Prop) (w:World) (H:Heap) (r:aad) (ch:List PanicEntry) (w':World):Prop:=
 ∃ c μ' Mt',ch=[{ v:=.iface r.1 c,recovered:=false }]∧VR μ' Mt' w' r.2.1 c∧Post CC μ Mt w H μ' Mt' w' r.2.2
def a9i (l:List AOper) (fr frx:List V):Prop:=∀ s,(∀ o∈l,o.dst≠some s)→frx.getD s .unk=fr.getD s .unk
def az6 (CC:CX) (C:ab4) (μ:Mu) (Mt:Nat→Prop) (w:World) (H:Heap) (ds:List Deferred) (r:aad) (ch:List PanicEntry) (a':Act) (w':World):Prop:=
 ∃ c μ' Mt' l fr frx,ch=[{ v:=.iface r.1 c,recovered:=false }]∧VR μ' Mt' w' r.2.1 c∧Post CC μ Mt w H μ' Mt' w' r.2.2∧Marks w.heap.size μ' w' a'.defers ds∧C l fr∧a9i l fr frx∧FR μ' Mt' w' frx a'.tmps
def asa (CC:CX) (μ:Mu) (Mt:Nat→Prop) (w:World) (H:Heap) (r:aad) (ch:List PanicEntry) (l:List AOper) (fr:List V) (a':Act) (w':World):Prop:=
 ∃ c μ' Mt' frx,ch=[{ v:=.iface r.1 c,recovered:=false }]∧VR μ' Mt' w' r.2.1 c∧Post CC μ Mt w H μ' Mt' w' r.2.2∧a9i l fr frx∧FR μ' Mt' w' frx a'.tmps
structure SimPan (P:Program) (CC:CX) (pan:atn):Prop where
 fn:∀ (f:Nat) (fst cap args:List V) (base:Nat) (H:Heap) (r:aad),pan (.fn f fst cap) args base H r→
  (∀ xs w,(callFunc f xs).run P w=.ok (.enter f xs) w)∧
  ∀ (μ:Mu) (Mt:Nat→Prop) (w:World) (cs:List Value),HR CC μ Mt w H→VRs μ Mt w (fst ++ args ++ cap) cs→∀ n,CallsIn Fence.wide n P f cs.toArray w (fun e w'=>∃ ch,e=.panicked ch∧a9p CC μ Mt w H r ch w')
 only:∀ v args base H r,pan v args base H r→∃ f fst cap,v=.fn f fst cap
 floor:∀ v args base H r,pan v args base H r→Floor base H r.2.2
theorem az6.trans {C:ab4} {μ1:Mu} {Mt1:Nat→Prop} {w1:World} {H1:Heap} {ds ds1:List Deferred} {r:aad} {ch:List PanicEntry} {a':Act} (hp:Post CC μ Mt w H μ1 Mt1 w1 H1) (hm:Marks w.heap.size μ1 w1 ds1 ds) (h:az6 CC C μ1 Mt1 w1 H1 ds1 r ch a' w'):az6 CC C μ Mt w H ds r ch a' w':=by
 obtain ⟨c,μ2,Mt2,l,fr,frx,e,v,p,m,x⟩:=h;exact ⟨c,μ2,Mt2,l,fr,frx,e,v,hp.trans p,hm.trans p hp.tr.size m,x⟩
theorem asa.trans {μ1:Mu} {Mt1:Nat→Prop} {w1:World} {H1:Heap} {r:aad} {ch:List PanicEntry} {l:List AOper} {fr:List V} {a':Act} (hp:Post CC μ Mt w H μ1 Mt1 w1 H1) (h:asa CC μ1 Mt1 w1 H1 r ch l fr a' w'):asa CC μ Mt w H r ch l fr a' w':=by
 obtain ⟨c,μ2,Mt2,frx,e,v,p,x⟩:=h;exact ⟨c,μ2,Mt2,frx,e,v,hp.trans p,x⟩
theorem asa.e {C:ab4} {r:aad} {ch:List PanicEntry} {l:List AOper} {fr:List V} {a':Act} (hc:C l fr) (h:asa CC μ Mt w H r ch l fr a' w'):az6 CC C μ Mt w H a'.defers r ch a' w':=by
 obtain ⟨c,μ2,Mt2,frx,e,v,p,k,f⟩:=h;exact ⟨c,μ2,Mt2,l,fr,frx,e,v,p,Marks.refl _ _ _ _,hc,k,f⟩
theorem a9p.g (h0:HR CC μ Mt w H) {r:aad} {ch:List PanicEntry} {l:List AOper} {fr frx:List V} {a':Act} (h:a9p CC μ Mt w H r ch w') (hk:a9i l fr frx) (hf:FR μ Mt w frx a'.tmps):asa CC μ Mt w H r ch l fr a' w':=by
 obtain ⟨c,μ2,Mt2,e,v,p⟩:=h;exact ⟨c,μ2,Mt2,frx,e,v,p,hk,hf.post h0 p⟩
theorem asw (hx:SimPan P CC pan) (h:HR CC μ Mt w H) {a:Act} {fr:List V} (hf:FR μ Mt w fr a.tmps) {o:Oper} {f:Opd} {xs:List Opd} (hc:asb P pure' o (.call f xs)) {base:Nat} {r:aad}
 (hp:pan (ev fr f) (xs.map (ev fr)) base H r) {ro:Option Nat} {n:Nat} {next:Act→World→Prop} {Q:Exit→Act→World→Prop} (hQ:∀ ch w',a9p CC μ Mt w H r ch w'→Q (.panic ch) a w'):o.wpIn (Fw ro) n P a w next Q:=by
 rcases hc with hc | ⟨f',xs',hc,e⟩ | ⟨k,xs',hc,e⟩ | ⟨_,_,_,_,hc,e⟩ | e
 case inr.inl=>cases e
 case inr.inr.inl=>cases e
 case inr.inr.inr.inl=>cases e
 case inr.inr.inr.inr=>cases e
 rcases p9 hc with ⟨g,args,ats,xs',y,ho,hxs,hy,⟨k,_,e⟩ | e⟩ | ⟨_,hnc,_⟩
 ·cases e
 ·cases e;refine ⟨fun _ _=>trivial,?_⟩
  rw [Oper.semAt_eq _ _ _ (by simp [ho])]
  have hexec:execOp a.eval o=(do let d ← resolve a.eval { callee:=.value g,args,argTypes:=ats } o.type;invoke d.target d.args):=by
   unfold execOp;rw [ho]
  rw [hexec];obtain ⟨k,x,z,ek⟩:=hx.only _ _ _ _ _ hp;have hv:=jk hf hy;rw [ek] at hv hp;generalize hfc:a.eval g=fc at hv;cases hv with
  | fn _ _ _ fst' cap' h1 h2 h3 h4=>
    obtain ⟨hent,hcall⟩:=hx.fn k x z _ base H r hp;have ha:=agy hf hxs
    have hvs:VRs μ Mt w (x ++ xs.map (ev fr) ++ z) (fst' ++ args.map a.eval ++ cap').toList:=by
     have hx':VRs μ Mt w x fst'.toList:=⟨by simpa using h1,fun i p q hp hq=>h3 i p q hp (by simpa using hq)⟩
     have hy':VRs μ Mt w z cap'.toList:=⟨by simpa using h2,fun i p q hp hq=>h4 i p q hp (by simpa using hq)⟩
     simpa using (hx'.append ha).append hy'
    have hrun:(do let d ← resolve a.eval { callee:=.value g,args,argTypes:=ats } o.type;invoke d.target d.args:Sem Next).run P w=.ok (.enter k (fst' ++ args.map a.eval ++ cap')) w:=by
     simp only [resolve,hfc,Deferred.ofValue,Sem.run_bind,Sem.run_pure,Result.andThen_ok,invoke,hent]
    rw [hrun];have hc:=hcall μ Mt w _ h hvs (n - 1);simp only [qd] at hc
    refine ⟨fun h=>by simp [Fw] at h,hc.mono ?_⟩
    rintro e w1 ⟨ch,rfl,hq⟩;exact hQ ch w1 hq
 ·simp [AOp.isCall] at hnc
theorem aoe {base:Nat}:∀ (l:List AOper) (i:Nat) {fr:List V} {H:Heap} {v:V} {args:List V} {H1:Heap},ajx call base i l fr H=some (v,args,H1)→
 ∃ o f xs fr1,l[i]?=some o∧o.op=.call f xs∧ji call base (l.take i) fr H=some (fr1,H1)∧want o fr1=some true∧v=ev fr1 f∧args=xs.map (ev fr1):=by
 intro l
 induction l with
 | nil=>intro i fr H v args H1 h;cases i <;> cases h
 | cons o l ih=>
   intro i fr H v args H1 h;cases i with
   | zero=>
     simp only [ajx] at h;split at h
     ·rename_i hw;split at h
      ·rename_i f xs ho;cases h;exact ⟨o,f,xs,fr,rfl,ho,rfl,hw,rfl,rfl⟩
      ·cases h
     ·cases h
   | succ i=>
     simp only [ajx] at h;split at h
     ·cases h
     ·rename_i hw;obtain ⟨o',f,xs,fr1,h1,h2,h3,h4⟩:=ih i h
      refine ⟨o',f,xs,fr1,by simpa using h1,h2,?_,h4⟩
      simp only [bn,ji,hw];exact h3
     ·rename_i hw;split at h
      ·rename_i u H2 he;obtain ⟨o',f,xs,fr1,h1,h2,h3,h4⟩:=ih i h
       refine ⟨o',f,xs,fr1,by simpa using h1,h2,?_,h4⟩
       simp only [bn,ji,hw,he];exact h3
      ·cases h
theorem adq {d:Option Nat} {v:V} {fr:List V} {s:Nat} (h:d≠some s):(put d v fr).getD s .unk=fr.getD s .unk:=by
 by_cases hs:s < fr.length
 ·rw [adr _ _ _ _ hs,ic h]
 ·have h1:(put d v fr)[s]?=none:=List.getElem?_eq_none (by rw [zl];omega)
  have h2:fr[s]?=none:=List.getElem?_eq_none (by omega)
  simp [List.getD,h1,h2]
theorem asa.put {r:aad} {ch:List PanicEntry} {l:List AOper} {fr:List V} {a':Act} {o:AOper} {v:V} (ho:o∈l) (h:asa CC μ Mt w H r ch l (Go.AM.put o.dst v fr) a' w'):asa CC μ Mt w H r ch l fr a' w':=by
 obtain ⟨c,μ2,Mt2,frx,e,u,p,k,f⟩:=h;exact ⟨c,μ2,Mt2,frx,e,u,p,fun s hs=>(k s hs).trans (adq (hs o ho)),f⟩
theorem awx (hs:SimCall P CC call) [BtOk CC P] (hx:SimPan P CC pan) {ops:Array Oper} {l:List AOper} (hr:apk P pure' ops l) {base:Nat} {ro:Option Nat} {n:Nat} {Q:Exit→Act→World→Prop} {v:V} {args:List V} {H1:Heap} {r:aad}:
 ∀ (i k:Nat) (fr:List V) (H:Heap) (a:Act) (w:World) (μ:Mu) (Mt:Nat→Prop),HR CC μ Mt w H→FR μ Mt w fr a.tmps→ajx call base i (l.drop k) fr H=some (v,args,H1)→pan v args base H1 r→
   (∀ ch a' w',a'.defers=a.defers→asa CC μ Mt w H r ch l fr a' w'→Q (.panic ch) a' w')→wpOpsIn (Fw ro) n P ops Q ((List.range ops.size).drop k) a w:=by
 intro i
 induction i with
 | zero=>
   intro k fr H a w μ Mt h hf hev hp hQ
   have hlt:k < l.length:=by
    refine af9 fun hc=>?_
    rw [uk (by omega)] at hev
    cases hev
   have hlo:k < ops.size:=by rw [← hr.1];exact hlt
   have e1:(List.range ops.size).drop k=k :: (List.range ops.size).drop (k+1):=by
    rw [d9 (by simpa using hlo)];simp
   rw [e1];rw [d9 hlt] at hev;have ho:ops[k]?=some ops[k]:=Array.getElem?_eq_getElem hlo;obtain ⟨hd,hc,hg⟩:=hr.2 k ops[k] l[k] ho (List.getElem?_eq_getElem hlt);rw [wpOpsIn_cons];unfold wpOpIn;simp only [ho];simp only [ajx] at hev;split at hev
   ·rename_i hw;rw [x8 hg hf hw];simp only [ja];split at hev
    ·rename_i f xs hop;cases hev;rw [hop] at hc;exact asw hx h hf hc hp fun ch w' hq=>hQ ch a w' rfl (hq.g h (fun _ _=>rfl) hf)
    ·cases hev
   ·cases hev
 | succ i ih=>
   intro k fr H a w μ Mt h hf hev hp hQ
   have hlt:k < l.length:=by
    refine af9 fun hc=>?_
    rw [uk (by omega)] at hev
    cases hev
   have hlo:k < ops.size:=by rw [← hr.1];exact hlt
   have e1:(List.range ops.size).drop k=k :: (List.range ops.size).drop (k+1):=by
    rw [d9 (by simpa using hlo)];simp
   rw [e1];rw [d9 hlt] at hev;have ho:ops[k]?=some ops[k]:=Array.getElem?_eq_getElem hlo;obtain ⟨hd,hc,hg⟩:=hr.2 k ops[k] l[k] ho (List.getElem?_eq_getElem hlt);rw [wpOpsIn_cons];unfold wpOpIn;simp only [ho];simp only [ajx] at hev;split at hev
   ·cases hev
   ·rename_i hw;rw [x8 hg hf hw];simp only [jy,mh];refine ⟨fun _ _=>trivial,?_⟩;refine ih (k+1) _ H _ w μ Mt h (hd ▸ hf.put _ (.s _)) hev hp (fun ch a' w' hd' hq=>hQ ch a' w' ?_ (asa.put (qj hlt) hq));rw [hd',put_defers]
   ·rename_i hw;rw [x8 hg hf hw];simp only [ja];split at hev
    ·rename_i u H2 hop;refine abr hs h hf hc hop ?_;rintro q w1 ⟨c,μ1,Mt1,e,hv,hpp⟩;cases e;refine ih (k+1) _ H2 _ w1 μ1 Mt1 hpp.hr (hd ▸ (hf.post h hpp).put _ hv) hev hp (fun ch a' w' hd' hq=>hQ ch a' w' ?_ ((asa.put (qj hlt) hq).trans hpp));rw [hd',put_defers]
    ·cases hev
theorem ajr {c c':ku} {base:Nat} {fr:List V} {H:Heap} {op:AOp} (h:op.isCall=false):je c base fr H op=je c' base fr H op:=by
 cases op <;> first | rfl | (simp [AOp.isCall] at h;done)
theorem ape (u:V):∀ v args base H r H',yt u v args base H=some (r,H')→H.length≤H'.length∧∀ id,id < base→id < H.length→H'[id]?=H[id]?:=by
 intro v args base H r H' h;cases h;exact ⟨ag _,fun _ _ _=>rfl⟩
theorem ak0 {o:Oper} {ao:AOp} (h:asb P pure' o ao) (hc:ao.isCall=true):aez o=true:=by
 have key:∀ ao',xu P pure' o=some ao'→ao'.isCall=true→aez o=true:=fun ao' h2 hc2=>by
  rcases p9 h2 with ⟨g,args,ats,xs',y,ho,_⟩ | ⟨_,hnc,_⟩
  ·unfold aez;rw [ho]
  ·rw [hnc] at hc2;cases hc2
 rcases h with h | ⟨f',xs',h,e⟩ | ⟨k,xs',h,e⟩ | ⟨_,_,_,_,h,e⟩ | e
 ·exact key _ h hc
 ·exact key _ h rfl
 ·exact key _ h rfl
 ·rw [e] at hc;cases hc
 ·rw [e] at hc;cases hc
theorem asl (hs:SimCall P CC call) [BtOk CC P] (hx:SimPan P CC pan) {ops:Array Oper} {l:List AOper} {chk:List (Nat × Nat)} (hr:apk P pure' ops l) (hd:ad7 (Region.before ops).toList chk l=true∧acw ops=true) (hone:bdn ops)
 {base:Nat} {ro:Option Nat} {n:Nat} {Q:Exit→Act→World→Prop} {fr:List V} {H:Heap} {r:aad} {C:ab4} (hev:bco call pan base C l chk fr H r) {a:Act} {w:World} {μ:Mu} {Mt:Nat→Prop} (h:HR CC μ Mt w H) (hf:FR μ Mt w fr a.tmps)
 (hQ:∀ ch a' w',a'.defers=a.defers→asa CC μ Mt w H r ch l fr a' w'→Q (.panic ch) a' w'):wpAnyIn (Fw ro) n P .any ops Q ops.size (Array.replicate ops.size false) a { w with drawn:=w.drawn+1 }:=by
 obtain ⟨_,⟨i,v,args,H1,hX,hp⟩,u,frE,HE,hE,hchk⟩:=hev;obtain ⟨o,f,xs,fr1,h1,h2,h3,h4,rfl,rfl⟩:=aoe l i hX;have hil:i < l.length:=(List.getElem?_eq_some_iff.1 h1).1;have hgi:l.getD i default=o:=za h1
 have hno:∀ k,k < l.length→k≠i→(l.getD k default).op.isCall=false:=by
  intro k hk hne;cases hc:(l.getD k default).op.isCall with
  | false=>rfl
  | true=>
    exfalso
    have hk':k < ops.size:=by rw [← hr.1];exact hk
    have hi':i < ops.size:=by rw [← hr.1];exact hil
    have gk:l[k]?=some (l.getD k default):=by rw [List.getElem?_eq_getElem hk,za (List.getElem?_eq_getElem hk)]
    have ck:=(hr.2 k ops[k] _ (Array.getElem?_eq_getElem hk') gk).2.1;have ci:=(hr.2 i ops[i] _ (Array.getElem?_eq_getElem hi') h1).2.1
    exact hne (hone k i _ _ (Array.getElem?_eq_getElem hk') (Array.getElem?_eq_getElem hi') (ak0 ck hc) (ak0 ci (by rw [h2];rfl)))
 have hoA:aax (Region.before ops).toList chk l=true:=by
  cases e:aax (Region.before ops).toList chk l with
  | true=>rfl
  | false=>
    exfalso;have h5:=hd.1;unfold ad7 at h5;rw [e,atq,au] at h5;have h6:=h5.2;unfold adt at h6;simp only [au,ah] at h6;have h7:=h6.1.2 o (List.mem_of_getElem? h1);rw [h2] at h7;simp [au0,AOp.cls,AOp.isCall,AOp.isNew,AOp.isSt,AOp.isCR] at h7
 obtain ⟨F,G,val,a1,a2,a3,a4,a5⟩:=ajn _ _ _ _ _ hE;have R:Row P pure' (yt u) base ops l chk fr frE H HE F G val:=⟨hr,hoA,hd.2,a1,a2,a3,a4,a5,hchk,ape u⟩
 have pre:∀ k,k≤i→ji call base (l.take k) fr H=some (F k,G k):=by
  intro k
  induction k with
  | zero=>intro _;rw [dx,a1,a2];rfl
  | succ k ih=>
    intro hk
    have hkl:k < l.length:=by omega
    have hg:l[k]?=some (l.getD k default):=by rw [List.getElem?_eq_getElem hkl,za (List.getElem?_eq_getElem hkl)]
    rw [avm,hg,adi,ih (by omega)]
    obtain ⟨t1,t2⟩:=a5 k _ hg;simp only [af3,ji]
    rcases t2 with ⟨hw,hv,hG⟩ | ⟨hw,hop⟩
    ·rw [hw,t1,hv,hG]
    ·rw [hw];simp only
     rw [ajr (c':=yt u) (hno k hkl (by omega)),hop,t1]
 have hpi:=pre i (ag _);rw [h3] at hpi;cases hpi
 have hM:(l.getD i default).op.isM=true:=by rw [hgi,h2];rfl
 have hrep:∀ k,(Array.replicate ops.size false).getD k false=false:=by
  intro k;by_cases hk:k < ops.size <;> simp [hk]
 have p1:Post CC μ Mt w H μ Mt { w with drawn:=w.drawn+1 } H:=afl h rfl rfl rfl rfl
 refine asn R h (some i) (fun j e=>by cases e;exact hil) (fun k ok hok hkl hne hc frX μ1 Mt1 w1 a1' p vv K next hh hff he hn=>?_) (fun j oj e hoj hc=>?_) ops.size _ a _ μ Mt 0 (by simp [hr.1]) ?_ ?_ (fun j _=>hrep j) (jh _) (fun k hk=>by omega) (fun k _ _ _=>hrep k) (by rw [a2];exact p1) ?_ rfl (fun e=>by cases e)
 ·have hnc:=hno k hkl (fun e=>hne (by rw [e]))
  rw [ajr (c':=call) hnc] at he;exact abr hs hh hff hc he hn
 ·cases e
  refine ⟨hM,by rw [hgi];exact h4,fun frX μ1 Mt1 w1 a1' next hpp hff hrd hkp hds=>?_⟩
  rw [hgi,h2] at hc
  have hev':ev frX f=ev (F i) f∧xs.map (ev frX)=xs.map (ev (F i)):=by
   have hop:∀ x∈(AOp.call f xs).opds,ev frX x=ev (F i) x:=fun x hx=>ac9 (o:=o) (by rw [h2];exact hx) (by rw [← hgi];exact hrd)
   exact ⟨hop f fo,o8 fun x hx=>hop x (di _ hx)⟩
  refine asw hx hpp.hr hff hc (by rw [hev'.1,hev'.2];exact hp) fun ch w' hq=>hQ ch a1' w' hds ((hq.g hpp.hr (fun s hs=>hkp s fun k hk=>?_) hff).trans hpp)
  have gk:l[k]?=some (l.getD k default):=by rw [List.getElem?_eq_getElem hk,za (List.getElem?_eq_getElem hk)]
  exact hs _ (List.mem_of_getElem? gk)
 ·unfold rz;refine kg ak6 ?_;simp [hr.1]
 ·intro j hj
  exact absurd ((hrep j).symm.trans hj) (by simp)
 ·have:(SF (qm l) val fr l.length fun k=>(Array.replicate ops.size false).getD k false)=fr:=by
   refine abh o7 fun s hs=>?_;rw [o7] at hs;rw [aah,fe hs,abg (i:=0) l.length fun k _ _=>?_]
   ·simp [lw]
   ·rw [hrep k];simp
  rw [this];exact hf.post h p1
def bcn (P:Program) (CC:CX) (C:ab4) (ro:Option Nat) (n:Nat) (c:Code) (X:List V→Heap→aad→Prop):Prop:=
 ∀ (fr:List V) (H:Heap) (r:aad),X fr H r→∀ (μ:Mu) (Mt:Nat→Prop) (w:World) (a:Act) (Q:Exit→Act→World→Prop),HR CC μ Mt w H→FR μ Mt w fr a.tmps→(∀ l,ro=some l→∃ r,w.heap[l]?=some (.loop r))→
   (∀ ch a' w',az6 CC C μ Mt w H a.defers r ch a' w'→Q (.panic ch) a' w')→c.wpIn (Fw ro) n P Q a w
theorem axz {C:ab4} {ro:Option Nat} {n:Nat} {c:Code} {b:List V→Heap→Option St} {x:List V→Heap→aad→Prop} (hb:bdv P CC ro n c b) (hxx:bcn P CC C ro n c x) (kill:List Nat) (m:Nat) {fr:List V} {H:Heap} {r:aad} (hl:PanL b x kill m fr H r):
 ∀ (μ:Mu) (Mt:Nat→Prop) (w:World) (a:Act) (Q:Exit→Act→World→Prop) (μ0:Mu) (Mt0:Nat→Prop) (w0:World) (H0:Heap) (ds:List Deferred),HR CC μ0 Mt0 w0 H0→H0.length≤m→m≤H.length→
   Post CC μ0 Mt0 w0 H0 μ Mt w H→Marks w0.heap.size μ w a.defers ds→FR μ Mt w fr a.tmps→(∀ l,ro=some l→∃ r,w.heap[l]?=some (.loop r))→
   (∀ ch a' w',az6 CC C μ0 Mt0 w0 H0 ds r ch a' w'→Q (.panic ch) a' w')→∃ k,Code.roundsIn (Fw ro) n P c Q k a w:=by
 induction hl with
 | here h=>
   intro μ Mt w a Q μ0 Mt0 w0 H0 ds h0 hm0 hm hp hmk hf hro hQ;refine ⟨1,?_⟩;rw [roundsIn_succ];refine hxx _ _ _ h μ Mt w a _ hp.hr hf hro fun ch a' w' hq=>hQ ch a' w' (az6.trans hp hmk hq)
 | next h k ih=>
   rename_i fr1 fr2 H1 H2 r1;intro μ Mt w a Q μ0 Mt0 w0 H0 ds h0 hm0 hm hp hmk hf hro hQ;have key:∀ (l:List V) (K:Heap) (q:aad),PanL b x kill m l K q→∃ N,∀ (μ:Mu) (Mt:Nat→Prop) (w:World) (a:Act) (Q:Exit→Act→World→Prop) (μ0:Mu) (Mt0:Nat→Prop) (w0:World) (H0:Heap) (ds:List Deferred),HR CC μ0 Mt0 w0 H0→H0.length≤m→m≤K.length→
    Post CC μ0 Mt0 w0 H0 μ Mt w K→Marks w0.heap.size μ w a.defers ds→FR μ Mt w l a.tmps→(∀ l,ro=some l→∃ r,w.heap[l]?=some (.loop r))→
    (∀ ch a' w',az6 CC C μ0 Mt0 w0 H0 ds q ch a' w'→Q (.panic ch) a' w')→Code.roundsIn (Fw ro) n P c Q N a w:=by
    intro l K q hq
    induction hq with
    | here h=>
      refine ⟨1,fun μ Mt w a Q μ0 Mt0 w0 H0 ds h0 hm0 hm hp hmk hf hro hQ=>?_⟩;rw [roundsIn_succ];exact hxx _ _ _ h μ Mt w a _ hp.hr hf hro fun ch a' w' hq=>hQ ch a' w' (az6.trans hp hmk hq)
    | next h k ih=>
      obtain ⟨N,hN⟩:=ih;refine ⟨N+1,fun μ Mt w a Q μ0 Mt0 w0 H0 ds h0 hm0 hm hp hmk hf hro hQ=>?_⟩;rw [roundsIn_succ];refine hb _ _ .nrm _ _ h μ Mt w a _ hp.hr hf hro ?_;rintro a1 w1 ⟨μ1,Mt1,p1,f1,m1⟩;have hpp:=hp.trans p1;obtain ⟨μ2,p2,f2,s2,l2⟩:=afc hpp h0.dom hm0 (kg hm p1.len) (f1.kill kill);have mk2:=(hmk.trans p1 hp.tr.size m1).sub s2;refine hN μ2 Mt1 w1 a1 Q μ0 Mt0 w0 H0 ds h0 hm0 l2 p2 mk2 f2 (fun l hl=>?_) hQ;obtain ⟨r,hr⟩:=hro l hl;exact p1.tr.loops l r hr
   obtain ⟨N,hN⟩:=key _ _ _ (.next h k)
   exact ⟨N,hN μ Mt w a Q μ0 Mt0 w0 H0 ds h0 hm0 hm hp hmk hf hro hQ⟩
theorem asu (hs:SimCall P (CR P pure') call) (hx:SimPan P (CR P pure') pan) (hmix:P.follows .mixedOrders=true) (nn base:Nat) {C:ab4} {c:Code} {ac:ACode} (hc:CodeR P pure' c ac) (hone:amc c=true):
 ∀ (ro:Option Nat) (n:Nat),bcn P (CR P pure') C ro n c (aa8 call pan (fun b k m=>qx b k m nn) base C ac):=by
 induction hc with
 | skip=>intro ro n fr H r h;exact h.elim
 | label l=>intro ro n fr H r h;exact h.elim
 | exit id=>intro ro n fr H r h;exact h.elim
 | ret=>intro ro n fr H r h;exact h.elim
 | regionE=>intro ro n fr H r h;exact h.elim
 | regionPE=>intro ro n fr H r h;exact h.elim
 | rangeFunc=>intro ro n fr H r h;exact h.elim
 | region id ops draw l chk kill hr hd=>
   intro ro n fr H r hev μ Mt w a Q h hf hro hQ;have hev:bco call pan base C l chk fr H r:=hev
   have hq:∀ ch a' w',a'.defers=a.defers→asa (CR P pure') μ Mt w H r ch l fr a' w'→Q (.panic ch) a' w':=fun ch a' w' hd' hq=>hQ ch a' w' (by rw [← hd'];exact hq.e (C:=C) hev.1)
   cases draw with
   | false=>
     obtain ⟨_,⟨i,v,args,H1,hX,hp⟩,_⟩:=hev;refine wpIn_region ?_
     have:=awx (Q:=Q) (ro:=ro) (n:=n) hs hx hr i 0 fr H a w μ Mt h hf (by simpa using hX) hp hq
     simpa using this
   | true=>exact wpIn_region_any hmix (asl hs hx hr (hd rfl) (axq (by simpa [amc] using hone)) hev h hf hq)
 | regionP id ops π l chk kill hp hr hd=>
   intro ro n fr H r hev μ Mt w a Q h hf hro hQ
   have hq:∀ ch a' w',a'.defers=a.defers→asa (CR P pure') μ Mt w H r ch l fr a' w'→Q (.panic ch) a' w':=fun ch a' w' hd' hq=>hQ ch a' w' (by rw [← hd'];exact hq.e (C:=C) hev.1)
   exact wpIn_region_any hmix (aar hp (asl hs hx hr hd ((axq (by simpa [amc] using hone)).perm (an8 hp)) hev h hf hq))
 | seq x y ax ay hcx _ ihx ihy=>
   intro ro n fr H r hev μ Mt w a Q h hf hro hQ;simp only [amc,au] at hone;refine wpIn_seq ?_
   rcases hev with hev | ⟨fr1,H1,h1,h2⟩
   ·exact ihx hone.1 ro n _ _ _ hev μ Mt w a _ h hf hro fun ch a' w' hq=>hQ ch a' w' hq
   ·refine ag4 hs hmix nn base hcx ro n _ _ _ _ _ h1 μ Mt w a _ h hf hro ?_;rintro a1 w1 ⟨μ1,Mt1,p1,f1,m1⟩;refine ihy hone.2 ro n _ _ _ h2 μ1 Mt1 w1 a1 Q p1.hr f1 (fun l hl=>?_) (fun ch a2 w2 hq=>hQ ch a2 w2 (az6.trans p1 m1 hq));obtain ⟨q,hq⟩:=hro l hl;exact p1.tr.loops l q hq
 | cond c o x y ax ay hco _ _ ihx ihy=>
   intro ro n fr H r hev μ Mt w a Q h hf hro hQ;simp only [amc,au] at hone;have hv:=jk hf hco
   rcases hev with ⟨he,hev⟩ | ⟨he,hev⟩
   ·rw [he] at hv;exact wpIn_cond_true (x9 hv) (ihx hone.1 ro n _ _ _ hev μ Mt w a Q h hf hro hQ)
   ·rw [he] at hv;exact wpIn_cond_false (x9 hv) (ihy hone.2 ro n _ _ _ hev μ Mt w a Q h hf hro hQ)
 | block id c x _ ih=>
   intro ro n fr H r hev μ Mt w a Q h hf hro hQ;refine wpIn_block ?_;exact ih hone ro n _ _ _ hev μ Mt w a _ h hf hro fun ch a' w' hq=>hQ ch a' w' hq
 | loop c kill x hcx ih=>
   intro ro n fr H r hev μ Mt w a Q h hf hro hQ;obtain ⟨k,hk⟩:=axz (ag4 hs hmix nn base hcx ro n) (ih hone ro n) kill H.length hev μ Mt w a Q μ Mt w H a.defers h (ag _) (ag _) (Post.refl h) (Marks.refl _ _ _ _) (hf.kill kill) hro hQ;exact wpIn_loop_rounds k hk
theorem aut {base:Nat} (hfl:∀ v args base H r H',call v args base H=some (r,H')→H.length≤H'.length∧∀ id,id < base→id < H.length→H'[id]?=H[id]?) {i:Nat} {l:List AOper} {fr:List V} {H:Heap} {v:V} {args:List V} {H1:Heap} (h:ajx call base i l fr H=some (v,args,H1)):Floor base H H1:=by
 obtain ⟨o,f,xs,fr1,_,_,h3,_⟩:=aoe l i h;exact ae1 hfl _ h3
theorem akl (hfl:∀ v args base H r H',call v args base H=some (r,H')→H.length≤H'.length∧∀ id,id < base→id < H.length→H'[id]?=H[id]?) (hpf:∀ v args base H r,pan v args base H r→Floor base H r.2.2) (nn base:Nat) {C:ab4}:∀ (ac:ACode) {fr:List V} {H:Heap} {r:aad},aa8 call pan (fun b k m=>qx b k m nn) base C ac fr H r→Floor base H r.2.2:=by
 intro ac
 induction ac with
 | region ops chk kill=>
   intro fr H r he;obtain ⟨_,⟨i,v,args,H1,h1,h2⟩,_⟩:=he;exact (aut hfl h1).trans (hpf _ _ _ _ _ h2)
 | seq a b iha ihb=>
   intro fr H r he
   rcases he with he | ⟨fr1,H1,h1,h2⟩
   ·exact iha he
   ·exact (uo hfl nn a h1).trans (ihb h2)
 | cond o a b iha ihb=>
   intro fr H r he
   rcases he with ⟨_,h2⟩ | ⟨_,h2⟩
   ·exact iha h2
   ·exact ihb h2
 | block id a ih=>intro fr H r he;exact ih (fr:=fr) he
 | loop kill a ih=>
   intro fr H r he;have he:PanL (fun fr H=>evC call (fun b k m=>qx b k m nn) base a fr H) (fun fr H r=>aa8 call pan (fun b k m=>qx b k m nn) base C a fr H r) kill H.length (nz kill fr) H r:=he
   suffices h:∀ (m:Nat) fr K r,PanL (fun fr H=>evC call (fun b k m=>qx b k m nn) base a fr H) (fun fr H r=>aa8 call pan (fun b k m=>qx b k m nn) base C a fr H r) kill m fr K r→m≤K.length→m≤r.2.2.length∧∀ id,id < base→id < m→r.2.2[id]?=K[id]? by
    obtain ⟨h1,h2⟩:=h _ _ _ _ he (ag _);exact ⟨h1,h2⟩
   intro m fr K r hl
   induction hl with
   | here h=>
     intro hm;have f:=ih h;exact ⟨kg hm f.1,fun id h1 h2=>f.2 id h1 (il h2 hm)⟩
   | next h _ ih2=>
     intro hm;have f:=uo hfl nn a h;rename_i fr1 fr' K1 K' r1 _;obtain ⟨t1,t2⟩:=afd (fr:=nz kill fr') (kg hm f.1);obtain ⟨r1,r2⟩:=ih2 t1;exact ⟨r1,fun id h1 h2=>(r2 id h1 h2).trans ((t2 id h2).trans (f.2 id h1 (il h2 hm)))⟩
 | _=>intro fr H r he;exact he.elim
end
open Go.RowKit
def az4 (CP:Nat→Option CFun) (PP:Nat→List V→Nat→Heap→aad→Prop) (X:Nat→Bool):Nat→atn
 | 0=>fun _ _ _ _ _=>False
 | n+1=>fun v args base H r=>∃ f fst cap,v=.fn f fst cap∧
    ((X f=true∧∃ c,CP f=some (.code c)∧aa8 (w9 CP n) (az4 CP PP X n) (fun b k m=>qx b k m n) base (fun _ _=>True) c.body (fst ++ args ++ cap ++ List.replicate (c.ntmps - (fst ++ args ++ cap).length) und) H r)∨PP f (fst ++ args ++ cap) base H r)
section
variable {CC:CX} {μ μ':Mu} {Mt Mt':Nat→Prop} {w w':World} {H H':Heap} {P:Program} {pure':PX}
theorem amg {μ0:Mu} {Mt0:Nat→Prop} {w0:World} {H0:Heap} {fn:Func} {tmps:Array Value} {x:V} {c:Value} {R:Ending→World→Prop} {n:Nat} {ch:List PanicEntry}
 (hfin:∀ w',Post CC μ0 Mt0 w0 H0 μ Mt w' H→VR μ Mt w' x c→R (.panicked ch) w'):
 ∀ (L:List Nat) (w:World),Post CC μ0 Mt0 w0 H0 μ Mt w H→VR μ Mt w x c→L.Nodup→(∀ D∈L,w0.heap.size≤D∧w.heap[D]?=some (.deferred (some []))∧∀ id g b,μ id g≠some (D,b))→
   LeavesInM Fence.wide n P fn tmps R (L.map asz) (.panicking ch) w:=by
 intro L
 induction L with
 | nil=>intro w hp hf _ _;exact hfin w hp hf
 | cons D L ih=>
   intro w hp hf hnd hL;obtain ⟨h1,h2,h3⟩:=hL D fo
   refine ⟨by simp,.inl ⟨D,_,rfl,run_takeDeferred h2,?_⟩⟩
   obtain ⟨p1,hv⟩:=ai7 (y:=none) hp h1 h2 h3;refine ih _ p1 (hv hf) (abl.1 hnd).2 (fun E hE=>?_);obtain ⟨k1,k2,k3⟩:=hL E (di _ hE)
   have hne:E≠D:=fun e=>by subst e;exact (abl.1 hnd).1 hE
   exact ⟨k1,(World.putObj_heap_other hne).trans k2,k3⟩
def a9g (P:Program) (pure':PX) (PP:Nat→List V→Nat→Heap→aad→Prop):Prop:=
 ∀ k vs base H r,PP k vs base H r→Floor base H r.2.2∧(∀ xs w,(callFunc k xs).run P w=.ok (.enter k xs) w)∧
   ∀ μ Mt w cs,HR (CR P pure') μ Mt w H→VRs μ Mt w vs cs→∀ n,CallsIn Fence.wide n P k cs.toArray w (fun e w'=>∃ ch,e=.panicked ch∧a9p (CR P pure') μ Mt w H r ch w')
variable {CP:Nat→Option CFun} {PP:Nat→List V→Nat→Heap→aad→Prop} {X:Nat→Bool}
theorem a1i (hmix:P.follows .mixedOrders=true) (hCP:∀ k c,CP k=some c→aba P pure' k c) (hone:∀ k fn body,X k=true→P.funcs[k]?=some fn→fn.body=some body→amc body=true) (hPP:a9g P pure' PP):∀ n,SimPan P (CR P pure') (az4 CP PP X n):=by
 intro n
 induction n with
 | zero=>exact ⟨fun _ _ _ _ _ _ _ h=>h.elim,fun _ _ _ _ _ h=>h.elim,fun _ _ _ _ _ h=>h.elim⟩
 | succ n ih=>
   refine ⟨fun f fst cap args base H r h=>?_,fun v args base H r h=>by obtain ⟨f,fst,cap,e,_⟩:=h;exact ⟨f,fst,cap,e⟩,fun v args base H r h=>by
    obtain ⟨f,fst,cap,e,⟨_,c,_,hpan⟩ | hpan⟩:=h
    ·exact akl (aa3 hmix hCP n).floor ih.floor n base c.body hpan
    ·exact (hPP _ _ _ _ _ hpan).1⟩
   obtain ⟨f',fst',cap',e,h⟩:=h;cases e
   rcases h with ⟨hX,c,hc,hpan⟩ | h
   ·obtain ⟨fn,body,h1,h2,h3,h4,h5,h6⟩:=hCP f _ hc;refine ⟨Go.Proofs.enters_of h1 h3 h2,fun μ Mt w cs hh hvs m=>?_⟩;refine callsIn_of_wp_marks h1 h2 trivial ?_
    have hf0:FR μ Mt w (fst ++ args ++ cap ++ List.replicate (c.ntmps - (fst ++ args ++ cap).length) und) (cs.toArray ++ Array.replicate (fn.ntmps - cs.toArray.size) Go.undef):=by
     unfold FR;have:=hvs.append (z8 (μ:=μ) (Mt:=Mt) (w:=w) (c.ntmps - (fst ++ args ++ cap).length));simp only [aeh,ab5,mr,h5];rw [hvs.1] at this ⊢;exact this
    refine asu (aa3 hmix hCP n) ih hmix n base h4 (hone _ _ _ hX h1 h2) none m _ H r hpan μ Mt w { tmps:=cs.toArray ++ Array.replicate (fn.ntmps - cs.toArray.size) Go.undef,defers:=[] } _ hh hf0 (fun l hl=>by cases hl) ?_
    rintro ch a' w' ⟨cv,μ1,Mt1,_,_,_,e1,v1,p1,⟨L,hL,hnd,hLs⟩,_⟩;show LeavesInM Fence.wide m P fn a'.tmps _ a'.defers (.panicking ch) w';rw [hL,abm];exact amg (μ:=μ1) (Mt:=Mt1) (x:=r.2.1) (c:=cv) (fun w2 p2 v2=>⟨ch,rfl,cv,μ1,Mt1,e1,v2,p2⟩) L w' p1 v1 hnd hLs
   ·exact (hPP f _ base H r h).2
end
section
variable {CP:Nat→Option CFun} {PP:Nat→List V→Nat→Heap→aad→Prop} {X:Nat→Bool}
def PLe (p p':atn):Prop:=∀ v args base H r,p v args base H r→p' v args base H r
theorem aqs {c c':ku} (h:Le c c') {base:Nat}:∀ (i:Nat) (l:List AOper) {fr:List V} {H:Heap} {r:V × List V × Heap},ajx c base i l fr H=some r→ajx c' base i l fr H=some r:=by
 intro i
 induction i with
 | zero=>intro l fr H r he;cases l <;> exact he
 | succ i ih=>
   intro l fr H r he;cases l with
   | nil=>exact he
   | cons o l=>
     simp only [ajx] at he ⊢;split at he
     ·cases he
     ·exact ih l he
     ·split at he
      ·rename_i v H1 h1;rw [amu h h1];exact ih l he
      ·cases he
theorem a6d {C:ab4} {c c':ku} {p p':atn} (h:Le c c') (k:PLe p p') {base:Nat} {ops:List AOper} {chk:List (Nat × Nat)} {fr:List V} {H:Heap} {r:aad} (he:bco c p base C ops chk fr H r):bco c' p' base C ops chk fr H r:=by
 obtain ⟨h0,⟨i,v,args,H1,h1,h2⟩,h3⟩:=he;exact ⟨h0,⟨i,v,args,H1,aqs h i ops h1,k _ _ _ _ _ h2⟩,h3⟩
theorem axc {b b':List V→Heap→Option St} {x x':List V→Heap→aad→Prop} (hb:∀ fr H r,b fr H=some r→b' fr H=some r) (hx:∀ fr H r,x fr H r→x' fr H r) {kill:List Nat} {m:Nat} {fr:List V} {H:Heap} {r:aad} (h:PanL b x kill m fr H r):PanL b' x' kill m fr H r:=by
 induction h with
 | here h=>exact .here (hx _ _ _ h)
 | next h _ ih=>exact .next (hb _ _ _ h) ih
theorem amb {C:ab4} {c c':ku} {p p':atn} (h:Le c c') (k:PLe p p') {n n':Nat} (hn:n≤n') {base:Nat}:∀ (ac:ACode) {fr:List V} {H:Heap} {r:aad},aa8 c p (itN n) base C ac fr H r→aa8 c' p' (itN n') base C ac fr H r:=by
 intro ac
 induction ac with
 | region ops chk kill=>intro fr H r he;exact a6d h k he
 | seq a b iha ihb=>
   intro fr H r he
   rcases he with he | ⟨fr1,H1,h1,h2⟩
   ·exact .inl (iha he)
   ·exact .inr ⟨fr1,H1,ahk h hn a h1,ihb h2⟩
 | cond o a b iha ihb=>
   intro fr H r he
   rcases he with ⟨h1,h2⟩ | ⟨h1,h2⟩
   ·exact .inl ⟨h1,iha h2⟩
   ·exact .inr ⟨h1,ihb h2⟩
 | block id a ih=>intro fr H r he;exact ih (fr:=fr) he
 | loop kill a ih=>intro fr H r he;exact axc (fun fr H r e=>ahk h hn a e) (fun fr H r e=>ih e) he
 | _=>intro fr H r he;exact he.elim
theorem axb:∀ n,PLe (az4 CP PP X n) (az4 CP PP X (n+1)):=by
 intro n
 induction n with
 | zero=>intro v args base H r h;exact h.elim
 | succ n ih=>
   intro v args base H r h;obtain ⟨f,fst,cap,e,h⟩:=h;refine ⟨f,fst,cap,e,?_⟩
   rcases h with ⟨hX,c,hc,h⟩ | h
   ·exact .inl ⟨hX,c,hc,amb (ag5 n) ih (Nat.le_succ n) c.body h⟩
   ·exact .inr h
theorem ama {n m:Nat} (h:n≤m):PLe (az4 CP PP X n) (az4 CP PP X m):=by
 induction h with
 | refl=>exact fun _ _ _ _ _ h=>h
 | step _ ih=>exact fun v args base H r h=>axb _ _ _ _ _ _ (ih _ _ _ _ _ h)
def ang (CP:Nat→Option CFun) (PP:Nat→List V→Nat→Heap→aad→Prop) (X:Nat→Bool):atn:=fun v args base H r=>∃ n,az4 CP PP X n v args base H r
theorem axi {base:Nat}:∀ (i:Nat) (l:List AOper) {fr:List V} {H:Heap} {r:V × List V × Heap},ajx (dn CP) base i l fr H=some r→∃ n,ajx (w9 CP n) base i l fr H=some r:=by
 intro i
 induction i with
 | zero=>intro l fr H r he;refine ⟨0,?_⟩;cases l <;> exact he
 | succ i ih=>
   intro l fr H r he;cases l with
   | nil=>exact ⟨0,he⟩
   | cons o l=>
     simp only [ajx] at he;split at he
     ·cases he
     ·rename_i hw;obtain ⟨n,hn⟩:=ih l he;refine ⟨n,?_⟩;simp only [ajx,hw];exact hn
     ·rename_i hw;split at he
      ·rename_i v H1 h1;obtain ⟨n1,hn1⟩:=ao4 h1;obtain ⟨n2,hn2⟩:=ih l he;refine ⟨max n1 n2,?_⟩;simp only [ajx,hw];rw [amu (ve (oq n1 n2)) hn1];exact aqs (ve (j6 n1 n2)) i l hn2
      ·cases he
theorem aoc {C:ab4} {base:Nat}:∀ (ac:ACode) {fr:List V} {H:Heap} {r:aad},aa8 (dn CP) (ang CP PP X) itW base C ac fr H r→∃ n,aa8 (w9 CP n) (az4 CP PP X n) (itN n) base C ac fr H r:=by
 intro ac
 induction ac with
 | region ops chk kill=>
   intro fr H r he;obtain ⟨h0,⟨i,v,args,H1,h1,n2,h2⟩,h3⟩:=he;obtain ⟨n1,hn1⟩:=axi i ops h1;exact ⟨max n1 n2,h0,⟨i,v,args,H1,aqs (ve (oq n1 n2)) i ops hn1,ama (j6 n1 n2) _ _ _ _ _ h2⟩,h3⟩
 | seq a b iha ihb=>
   intro fr H r he
   rcases he with he | ⟨fr1,H1,h1,h2⟩
   ·obtain ⟨n,hn⟩:=iha he;exact ⟨n,.inl hn⟩
   ·obtain ⟨n1,hn1⟩:=yc a h1;obtain ⟨n2,hn2⟩:=ihb h2;exact ⟨max n1 n2,.inr ⟨fr1,H1,yo (oq n1 n2) hn1,amb (ve (j6 n1 n2)) (ama (j6 n1 n2)) (j6 n1 n2) b hn2⟩⟩
 | cond o a b iha ihb=>
   intro fr H r he
   rcases he with ⟨h1,h2⟩ | ⟨h1,h2⟩
   ·obtain ⟨n,hn⟩:=iha h2;exact ⟨n,.inl ⟨h1,hn⟩⟩
   ·obtain ⟨n,hn⟩:=ihb h2;exact ⟨n,.inr ⟨h1,hn⟩⟩
 | block id a ih=>intro fr H r he;exact ih (fr:=fr) he
 | loop kill a ih=>
   intro fr H r he;have he:PanL (fun fr H=>evC (dn CP) itW base a fr H) (fun fr H r=>aa8 (dn CP) (ang CP PP X) itW base C a fr H r) kill H.length (nz kill fr) H r:=he
   suffices h:∀ m fr H r,PanL (fun fr H=>evC (dn CP) itW base a fr H) (fun fr H r=>aa8 (dn CP) (ang CP PP X) itW base C a fr H r) kill m fr H r→∃ n,PanL (fun fr H=>evC (w9 CP n) (itN n) base a fr H) (fun fr H r=>aa8 (w9 CP n) (az4 CP PP X n) (itN n) base C a fr H r) kill m fr H r from h _ _ _ _ he
   intro m fr H r he
   induction he with
   | here h=>obtain ⟨n,hn⟩:=ih h;exact ⟨n,.here hn⟩
   | next h _ ih2=>
     obtain ⟨n1,hn1⟩:=yc a h;obtain ⟨n2,hn2⟩:=ih2
     refine ⟨max n1 n2,.next (yo (oq n1 n2) hn1) (axc (fun fr H r e=>?_) (fun fr H r e=>?_) hn2)⟩
     ·exact yo (j6 n1 n2) e
     ·exact amb (ve (j6 n1 n2)) (ama (j6 n1 n2)) (j6 n1 n2) a e
 | _=>intro fr H r he;exact he.elim
theorem aav {f:Nat} {c:ACFun} (hX:X f=true) (hf:CP f=some (.code c)) {fst args cap:List V} (hl:(fst ++ args ++ cap).length≤c.ntmps) {base:Nat} {H:Heap} {r:aad}
 (h:aa8 (dn CP) (ang CP PP X) itW base (fun _ _=>True) c.body (fq c.ntmps (pg c.ntmps (fst ++ args ++ cap) 0)) H r):ang CP PP X (.fn f fst cap) args base H r:=by
 obtain ⟨n,hn⟩:=aoc c.body h;refine ⟨n+1,f,fst,cap,rfl,.inl ⟨hX,c,hf,?_⟩⟩;rw [start_eq hl];exact hn
theorem axa {f:Nat} {fst args cap:List V} {base:Nat} {H:Heap} {r:aad} (h:PP f (fst ++ args ++ cap) base H r):ang CP PP X (.fn f fst cap) args base H r:=⟨1,f,fst,cap,rfl,.inr h⟩
theorem eu {C:ab4} {call:ku} {pan:atn} {it:yj} {base:Nat} {a b:ACode} {fr fr1:List V} {H H1:Heap} {r:aad} (h:evC call it base a fr H=some (.nrm,fr1,H1)) (k:aa8 call pan it base C b fr1 H1 r):aa8 call pan it base C (.seq a b) fr H r:=.inr ⟨_,_,h,k⟩
theorem l5 {C:ab4} {call:ku} {pan:atn} {it:yj} {base:Nat} {a b:ACode} {fr:List V} {H:Heap} {r:aad} (h:aa8 call pan it base C a fr H r):aa8 call pan it base C (.seq a b) fr H r:=.inl h
end
open Go.RowKit
section
variable {P:Program} {pure':PX} {CP:Nat→Option CFun}
theorem ab9 {F:Fence} {n:Nat} {ops:Array Oper} {Q:Exit→Act→World→Prop} {i:Nat} {rest:List Nat} {a:Act} {w:World} {o:Oper} (ho:ops[i]?=some o) (hg:o.guard=none) (h:o.wpIn F n P a w (wpOpsIn F n P ops Q rest) Q):wpOpsIn F n P ops Q (i :: rest) a w:=by
 rw [wpOpsIn_cons];unfold wpOpIn;simp only [ho]
 rw [fe (by simp [Region.wanted,hg])]
 exact h
theorem a5f {μ:Mu} {Mt:Nat→Prop} {w:World} {fr:List V} {t:Array Value} (h:FR μ Mt w fr t):t.size=fr.length:=by
 have:=h.1
 simpa using this.symm
theorem amr {CC:CX} {μ μ':Mu} {Mt Mt':Nat→Prop} {w w':World} {H H':Heap} {a:Act} {o:Oper} {d:Nat} {v:V} {r:Value} {fr:List V} (h:HR CC μ Mt w H) (p:Post CC μ Mt w H μ' Mt' w' H') (hf:FR μ Mt w fr a.tmps) (hd:o.dst=some d) (hv:VR μ' Mt' w' v r):FR μ' Mt' w' (put (some d) v fr) (a.put o.dst r).tmps:=by
 rw [hd];exact (hf.post h p).put (some d) hv
theorem a3c (hmix:P.follows .mixedOrders=true) (hCP:∀ k c,CP k=some c→aba P pure' k c) {k kn m id:Nat} {fn:Func} {o0 o1 o2 o3 o4:Oper} {Tf:TypeId} {z:List V}
 (hf : P.funcs[k]? = some fn) (hb : fn.body = some (.region id #[o0, o1, o2, o3, o4] false)) (hnm : (fn.name == "runtime.NumGoroutine") = false) (hnt : fn.ntmps = 6)
 (c0:xu P pure'.b o0=some (.move (.t 0))) (d0:o0.dst=some 2) (g0:o0.guard=none)
 (c1:xu P pure'.b o1=some (.call (.c (.fn kn [] [])) [.t 2])) (d1:o1.dst=some 3) (g1:o1.guard=none)
 (c2:xu P pure'.b o2=some (.build z [(0,m)] [(0,.t 3)])) (hz:z.length=m) (d2:o2.dst=some 4) (g2:o2.guard=none)
 (e3:o3.op=.makeInterface Tf (.tmp 4)) (d3:o3.dst=some 5) (g3:o3.guard=none) (hTf:P.concrete Tf=true)
 (e4:o4.op=.panic (.tmp 5)) (g4:o4.guard=none):
 ∀ (vs:List V) (base:Nat) (H:Heap) (r:aad),(∃ v cs H1 n,vs=[v]∧w9 CP n (.fn kn [] []) [v] base H=some (.agg cs,H1)∧cs.length=m∧cs.all V.one=true∧r=(Tf,.agg cs,H1))→
   Floor base H r.2.2∧(∀ xs w,(callFunc k xs).run P w=.ok (.enter k xs) w)∧
   ∀ μ Mt w cs,HR (CR P pure') μ Mt w H→VRs μ Mt w vs cs→∀ n,CallsIn Fence.wide n P k cs.toArray w (fun e w'=>∃ ch,e=.panicked ch∧a9p (CR P pure') μ Mt w H r ch w'):=by
 rintro vs base H r ⟨v,cs,H1,n,rfl,hcall,hlen,hall,rfl⟩;have hs:=aa3 hmix hCP n;refine ⟨hs.floor _ _ _ _ _ _ hcall,Go.Proofs.enters_of hf hnm hb,fun μ Mt w cvs h hvs nn=>?_⟩
 obtain ⟨cv,rfl⟩:∃ cv,cvs=[cv]:=by
  have:=hvs.1
  match cvs,this with
  | [x],_=>exact ⟨x,rfl⟩
 refine callsIn_of_wp_marks hf hb trivial (wpIn_region ?_);have hv0:VR μ Mt w v cv:=hvs.2 0 v cv rfl rfl;obtain ⟨a0,ha0⟩:∃ a0:Act,{ tmps:=[cv].toArray ++ Array.replicate (fn.ntmps - [cv].toArray.size) Go.undef,defers:=[] }=a0:=⟨_,rfl⟩
 have hf0:FR μ Mt w [v,und,und,und,und,und] a0.tmps:=by
  unfold FR;have:=hvs.append (z8 (μ:=μ) (Mt:=Mt) (w:=w) 5);rw [← ha0,hnt]
  simpa using this
 have hd0:a0.defers=[]:=by rw [← ha0]
 rw [ha0];show wpOpsIn (Fw none) nn P #[o0,o1,o2,o3,o4] _ [0,1,2,3,4] a0 w;refine ab9 (o:=o0) rfl g0 (abr hs h hf0 (.inl c0) (base:=base) (v:=v) (H':=H) rfl ?_);rintro r0 w0 ⟨q0,μ0,Mt0,E0,V0,p0⟩;cases E0;have f1:FR μ0 Mt0 w0 [v,und,v,und,und,und] (a0.put o0.dst r0).tmps:=amr h p0 hf0 d0 V0;obtain ⟨a1,ha1⟩:∃ a1,a0.put o0.dst r0=a1:=⟨_,rfl⟩;rw [ha1] at f1 ⊢;refine ab9 (o:=o1) rfl g1 (abr hs p0.hr f1 (.inl c1) (base:=base) (v:=.agg cs) (H':=H1) hcall ?_);rintro r1 w1 ⟨q1,μ1,Mt1,E1,V1,p1⟩;cases E1;have f2:FR μ1 Mt1 w1 [v,und,v,.agg cs,und,und] (a1.put o1.dst r1).tmps:=amr p0.hr p1 f1 d1 V1;obtain ⟨a2,ha2⟩:∃ a2,a1.put o1.dst r1=a2:=⟨_,rfl⟩;rw [ha2] at f2 ⊢
 have hbd:je (w9 CP n) base [v,und,v,.agg cs,und,und] H1 (.build z [(0,m)] [(0,.t 3)])=some (.agg cs,H1):=by
  have hsp:splice z 0 cs=cs:=by
   unfold splice
   rw [dx,bu,oo (by omega),abm]
  simp only [je,ou,acr,aaf,ev,ik,gq,List.getElem?_cons_zero,V.cells,hlen,hz,hall,ky,ag,mo,ja,hsp]
 refine ab9 (o:=o2) rfl g2 (abr hs p1.hr f2 (.inl c2) (base:=base) (v:=.agg cs) (H':=H1) hbd ?_);rintro r2 w2 ⟨q2,μ2,Mt2,E2,V2,p2⟩;cases E2;have f3:FR μ2 Mt2 w2 [v,und,v,.agg cs,.agg cs,und] (a2.put o2.dst r2).tmps:=amr p1.hr p2 f2 d2 V2;obtain ⟨a3,ha3⟩:∃ a3,a2.put o2.dst r2=a3:=⟨_,rfl⟩;rw [ha3] at f3 ⊢
 have hd3:a3.defers=[]:=by rw [← ha3,put_defers,← ha2,put_defers,← ha1,put_defers,hd0]
 refine ab9 (o:=o3) rfl g3 ⟨fun _ _=>trivial,?_⟩
 rw [Oper.semAt_eq _ _ _ (by simp [e3])]
 have hx3:∀ (a:Act) (w:World),(execOp a.eval o3).run P w=.ok (.value (.iface Tf (a.eval (.tmp 4)))) w:=by
  intro a w;unfold execOp;simp only [e3,Sem.run_bind,run_makeInterface w Tf _ hTf,Result.andThen_ok,Sem.run_pure]
 rw [hx3];show wpOpsIn (Fw none) nn P #[o0,o1,o2,o3,o4] _ [4] (a3.put o3.dst _) w2;refine ab9 (o:=o4) rfl g4 ⟨fun _ _=>trivial,?_⟩
 rw [Oper.semAt_eq _ _ _ (by simp [e4])]
 have hx4:∀ (a:Act) (w:World) (T:TypeId) (x:Value),a.eval (.tmp 5)=.iface T x→(execOp a.eval o4).run P w=.halt (.panic (.iface T x)) w:=by
  intro a w T x hx;unfold execOp;simp only [e4,hx,Sem.run_bind,run_panic_iface];rfl
 have hsz:=a5f f3;simp only [bq,ed] at hsz
 rw [hx4 _ _ Tf (a3.eval (.tmp 4)) (by rw [d3];simp [Act.eval,Act.put,hsz])]
 show LeavesInM Fence.wide nn P fn _ _ (a3.put o3.dst _).defers _ w2;rw [put_defers,hd3];exact ⟨_,rfl,_,μ2,Mt2,rfl,f3.getD 4,(p0.trans p1).trans p2⟩
end
open Go.RowKit
section
variable {CC:CX} {μ μ':Mu} {Mt Mt':Nat→Prop} {w w':World} {H H':Heap} {P:Program} {pure':PX} {call:ku}
def ae0:Code→Bool
 | .skip=>true
 | .label _=>true
 | .region _ _ _=>true
 | .seq a b=>ae0 a && ae0 b
 | .cond _ a b=>ae0 a && ae0 b
 | .ret=>true
 | .exit _=>true
 | _=>false
theorem ani.kill {ds:List Deferred} {fr':List V} {a':Act} (kill:List Nat) (h:ani CC μ Mt w H ds fr' H' a' w'):ani CC μ Mt w H ds (nz kill fr') H' a' w':=by
 obtain ⟨μ',Mt',h1,h2,h3⟩:=h;exact ⟨μ',Mt',h1,h2.kill kill,h3⟩
theorem ani.trans {μ1:Mu} {Mt1:Nat→Prop} {w1:World} {H1:Heap} {ds ds1:List Deferred} {fr':List V} {a':Act} (hp:Post CC μ Mt w H μ1 Mt1 w1 H1) (hd:ds1=ds) (h:ani CC μ1 Mt1 w1 H1 ds1 fr' H' a' w'):ani CC μ Mt w H ds fr' H' a' w':=by
 obtain ⟨μ',Mt',h1,h2,h3⟩:=h;exact ⟨μ',Mt',hp.trans h1,h2,h3.trans hd⟩
theorem afv (hs:SimCall P (CR P pure') call) (hmix:P.follows .mixedOrders=true) (nn base:Nat) {c:Code} {ac:ACode} (hc:CodeR P pure' c ac) (hfl:ae0 c=true):
 ∀ (ro:Option Nat) (n:Nat) (fr:List V) (H:Heap) (e:Ex) (fr':List V) (H':Heap),evC call (fun b k m=>qx b k m nn) base ac fr H=some (e,fr',H')→∀ (μ:Mu) (Mt:Nat→Prop) (w:World) (a:Act) (Q:Exit→Act→World→Prop),HR (CR P pure') μ Mt w H→FR μ Mt w fr a.tmps→
   (∀ a' w',ani (CR P pure') μ Mt w H a.defers fr' H' a' w'→Q (bdt e) a' w')→c.wpIn (Fw ro) n P Q a w:=by
 induction hc with
 | skip=>
   intro ro n fr H e fr' H' hev μ Mt w a Q h hf hQ;simp only [evC] at hev;cases hev;exact wpIn_skip (hQ a w ⟨μ,Mt,Post.refl h,hf,rfl⟩)
 | label l=>
   intro ro n fr H e fr' H' hev μ Mt w a Q h hf hQ;simp only [evC] at hev;cases hev;exact wpIn_label (hQ a w ⟨μ,Mt,Post.refl h,hf,rfl⟩)
 | exit id=>
   intro ro n fr H e fr' H' hev μ Mt w a Q h hf hQ;simp only [evC] at hev;cases hev;exact wpIn_exit (hQ a w ⟨μ,Mt,Post.refl h,hf,rfl⟩)
 | ret=>
   intro ro n fr H e fr' H' hev μ Mt w a Q h hf hQ;simp only [evC] at hev;cases hev;exact wpIn_ret (hQ a w ⟨μ,Mt,Post.refl h,hf,rfl⟩)
 | block=>cases hfl
 | loop=>cases hfl
 | rangeFunc=>cases hfl
 | region id ops draw l chk kill hr hd=>
   intro ro n fr H e fr' H' hev μ Mt w a Q h hf hQ;simp only [evC] at hev;split at hev
   ·rename_i fr1 H1 h1;split at hev
    ·rename_i hchk;cases hev;cases draw with
     | false=>
       refine wpIn_region ?_
       have:=alu (Q:=Q) (ro:=ro) (n:=n) hs hr ops.size 0 fr H a w μ Mt (by omega) h hf (by simpa using h1) (fun a' w' hq=>hQ a' w' (hq.kill kill))
       simpa using this
     | true=>exact wpIn_region_any hmix (ai5 hs hr (hd rfl) h1 hchk h hf fun a' w' hq=>hQ a' w' (hq.kill kill))
    ·cases hev
   ·cases hev
 | regionE id ops draw l kill outs hr hd=>
   intro ro n fr H e fr' H' hev μ Mt w a Q h hf hQ;simp only [evC] at hev;split at hev
   ·rename_i f2 h2;cases hev;obtain ⟨f1,h1,rfl⟩:=ab1 (call:=call) (base:=base) h2;cases draw with
    | false=>
      refine wpIn_region ?_
      have:=alu (Q:=Q) (ro:=ro) (n:=n) hs hr ops.size 0 fr H a w μ Mt (by omega) h hf (by simpa using h1) (fun a' w' hq=>hQ a' w' (hq.kill kill))
      simpa using this
    | true=>exact wpIn_region_any hmix (ai5 hs hr (hd rfl) h1 rfl h hf fun a' w' hq=>hQ a' w' (hq.kill kill))
   ·cases hev
 | regionP id ops π l chk kill hp hr hd=>
   intro ro n fr H e fr' H' hev μ Mt w a Q h hf hQ;simp only [evC] at hev;split at hev
   ·rename_i fr1 H1 h1;split at hev
    ·rename_i hchk;cases hev;exact wpIn_region_any hmix (aar hp (ai5 hs hr hd h1 hchk h hf fun a' w' hq=>hQ a' w' (hq.kill kill)))
    ·cases hev
   ·cases hev
 | regionPE id ops π l kill outs hp hr hd=>
   intro ro n fr H e fr' H' hev μ Mt w a Q h hf hQ;simp only [evC] at hev;split at hev
   ·rename_i f2 h2;cases hev;obtain ⟨f1,h1,rfl⟩:=ab1 (call:=call) (base:=base) h2;exact wpIn_region_any hmix (aar hp (ai5 hs hr hd h1 rfl h hf fun a' w' hq=>hQ a' w' (hq.kill kill)))
   ·cases hev
 | seq x y ax ay _ _ ihx ihy=>
   intro ro n fr H e fr' H' hev μ Mt w a Q h hf hQ;simp only [ae0,au] at hfl;simp only [evC] at hev;split at hev
   ·rename_i fr1 H1 h1;refine wpIn_seq (ihx hfl.1 ro n _ _ _ _ _ h1 μ Mt w a _ h hf ?_);rintro a1 w1 ⟨μ1,Mt1,p1,f1,d1⟩;exact ihy hfl.2 ro n _ _ _ _ _ hev μ1 Mt1 w1 a1 Q p1.hr f1 fun a2 w2 hq=>hQ a2 w2 (ani.trans p1 d1 hq)
   ·rename_i hne;refine wpIn_seq (ihx hfl.1 ro n _ _ _ _ _ hev μ Mt w a _ h hf ?_);intro a1 w1 h1;have:=hQ a1 w1 h1;cases e with
    | nrm=>exact (hne _ _ hev).elim
    | ext id=>exact this
    | ret=>exact this
 | cond c o x y ax ay hco _ _ ihx ihy=>
   intro ro n fr H e fr' H' hev μ Mt w a Q h hf hQ;simp only [ae0,au] at hfl;simp only [evC] at hev;have hv:=jk hf hco;split at hev
   ·rename_i he;rw [he] at hv;exact wpIn_cond_true (x9 hv) (ihx hfl.1 ro n _ _ _ _ _ hev μ Mt w a Q h hf hQ)
   ·rename_i he;rw [he] at hv;exact wpIn_cond_false (x9 hv) (ihy hfl.2 ro n _ _ _ _ _ hev μ Mt w a Q h hf hQ)
   ·cases hev
theorem bbf [BtOk CC P] (h:HR CC μ Mt w H) {a:Act} {fr:List V} (hf:FR μ Mt w fr a.tmps) {o:Oper} {ao:AOp} {base:Nat} {v:V} (hc:asb P pure' o ao) (hnc:ao.isCall=false) (hev:je call base fr H ao=some (v,H')):
 ∃ cv w1,((execOp a.eval o).run P w=.ok (.value cv) w1∨((execOp a.eval o).run P w=.ok .skip w1∧cv=Go.undef))∧ane CC μ Mt w H v H' (.returned cv) w1:=by
 have key:∀ (ao':AOp) (b:Nat),xu P pure' o=some ao'→ao'.isCall=false→je call b fr H ao'=some (v,H')→∃ cv w1,((execOp a.eval o).run P w=.ok (.value cv) w1∨((execOp a.eval o).run P w=.ok .skip w1∧cv=Go.undef))∧ane CC μ Mt w H v H' (.returned cv) w1:=by
  intro ao' b h2 hn he
  rcases p9 h2 with ⟨g,args,ats,xs',y,ho,_,_,⟨k,_,e⟩ | e⟩ | ⟨hc',hn',hnd⟩
  ·rw [e] at hn;cases hn
  ·rw [e] at hn;cases hn
  ·obtain ⟨cv,w1,μ1,Mt1,hr,hvr,hp⟩:=ai8 h hf hc' hn' he
   rcases hr with hr | ⟨hr,rfl⟩
   ·exact ⟨cv,w1,.inl hr,cv,μ1,Mt1,rfl,hvr,hp⟩
   ·exact ⟨_,w1,.inr ⟨hr,rfl⟩,_,μ1,Mt1,rfl,hvr,hp⟩
 rcases hc with hc | ⟨f',xs',hc,e⟩ | ⟨k,xs',hc,e⟩ | ⟨sz,b,s,x,hc,e⟩ | e
 ·exact key _ base hc hnc hev
 ·rw [e] at hnc;cases hnc
 ·rw [e] at hnc;cases hnc
 ·subst e;exact key (.append sz b s x) H.length hc rfl hev
 ·subst e;cases hev
theorem a1o [BtOk CC P] {ops:Array Oper} {l:List AOper} (hr:apk P pure' ops l) {base n:Nat} {Q:Exit→Act→List Frame→World→Prop} {cs:List Frame} {fr':List V} {H':Heap}:
 ∀ (j k:Nat) (fr:List V) (H:Heap) (a:Act) (w:World) (μ:Mu) (Mt:Nat→Prop),j+k=ops.size→(∀ i,k≤i→i < l.length→(l.getD i default).op.isCall=false)→HR CC μ Mt w H→FR μ Mt w fr a.tmps→ji call base (l.drop k) fr H=some (fr',H')→
   (∀ a' w',ani CC μ Mt w H a.defers fr' H' a' w'→Q .normal a' cs w')→wpOpsSIn Fence.wide n P ops Q ((List.range ops.size).drop k) a cs w:=by
 intro j
 induction j with
 | zero=>
   intro k fr H a w μ Mt hk _ h hf hev hQ
   have hk':k=ops.size:=by omega
   subst hk'
   rw [uk (by simp)]
   rw [uk (by rw [hr.1];exact ag _)] at hev
   cases hev;exact hQ a w ⟨μ,Mt,Post.refl h,hf,rfl⟩
 | succ j ih=>
   intro k fr H a w μ Mt hk hno h hf hev hQ
   have hlt:k < ops.size:=by omega
   have hltl:k < l.length:=by rw [hr.1];exact hlt
   have e1:(List.range ops.size).drop k=k :: (List.range ops.size).drop (k+1):=by
    rw [d9 (by simpa using hlt)];simp
   rw [e1];rw [d9 hltl] at hev;have ho:ops[k]?=some ops[k]:=Array.getElem?_eq_getElem hlt;obtain ⟨hd,hc,hg⟩:=hr.2 k ops[k] l[k] ho (List.getElem?_eq_getElem hltl)
   have hnk:l[k].op.isCall=false:=by
    have:=hno k (ag _) hltl
    rwa [za (List.getElem?_eq_getElem hltl)] at this
   simp only [wpOpsSIn,ho];refine ⟨fun _ _=>trivial,?_⟩;simp only [ji] at hev;split at hev
   ·cases hev
   ·rename_i hw;rw [x8 hg hf hw];simp only [jy,mh]
    refine ih (k+1) _ H _ w μ Mt (by omega) (fun i h1 h2=>hno i (by omega) h2) h (hd ▸ hf.put _ (.s _)) hev (fun a' w' hq=>hQ a' w' ?_)
    rw [put_defers] at hq;exact hq
   ·rename_i hw;rw [x8 hg hf hw];simp only [ja];split at hev
    ·rename_i v H1 hop;obtain ⟨cv,w1,hrun,c',μ1,Mt1,e,hv,hp⟩:=bbf (call:=call) h hf hc hnk hop;cases e
     have next:wpOpsSIn Fence.wide n P ops Q ((List.range ops.size).drop (k+1)) (a.put ops[k].dst cv) cs w1:=by
      refine ih (k+1) _ H1 _ w1 μ1 Mt1 (by omega) (fun i h1 h2=>hno i (by omega) h2) hp.hr (hd ▸ (hf.post h hp).put _ hv) hev (fun a' w' hq=>hQ a' w' ?_)
      rw [put_defers] at hq;exact ani.trans hp rfl hq
     rcases hrun with hrun | ⟨hrun,rfl⟩
     ·rw [hrun];exact next
     ·rw [hrun];exact next
    ·cases hev
inductive RecC (Tf:TypeId) (z:V) (μ:Mu) (Mt:Nat→Prop) (w:World):FrameMode→FrameMode→V→Prop
 | pan (x:V) (c:Value) (h:VR μ Mt w x c):RecC Tf z μ Mt w (.panicking [{ v:=.iface Tf c,recovered:=false }]) (.panicking [{ v:=.iface Tf c,recovered:=true }]) (.tup [x,.s (.bool true)])
 | nil:RecC Tf z μ Mt w .returning .returning (.tup [z,.s (.bool false)])
variable {CP:Nat→Option CFun}
theorem a6i (hmix:P.follows .mixedOrders=true) (hCP:∀ k c,CP k=some c→aba P pure' k c) {k id0 r0 r1 N:Nat} {fn:Func} {c2:Code} {ac2:ACode} {ops0:Array Oper} {l0:List AOper} {xT Tf:TypeId} {oR oA:Oper} {ats:Array TypeId}
 (hf:P.funcs[k]?=some fn) (hb:fn.body=some (.seq (.region id0 ops0 false) c2)) (hres:fn.results=#[]) (hnt:fn.ntmps=N)
 (hreg:apk P pure' ops0 l0) (hc2:CodeR P pure' c2 ac2) (hfl:ae0 c2=true) (hno:∀ i,2≤i→i < l0.length→(l0.getD i default).op.isCall=false)
 (hR:ops0[0]?=some oR) (eR:oR.op=.call { callee:=.builtin .recover,args:=#[],argTypes:=ats }) (dR:oR.dst=some r0) (gR:oR.guard=none)
 (hA:ops0[1]?=some oA) (eA:oA.op=.typeAssert (.tmp r0) xT Tf true) (dA:oA.dst=some r1) (gA:oA.guard=none) (hr0:r0 < N)
 (hok:∀ (v:Value) (w:World),(Instr.typeAssert (.iface Tf v) xT Tf true).run P w=.ok (.tuple #[v,.bool true]) w)
 {z:V} {zv:Value} (hnil:∀ (w:World),(Instr.typeAssert .nilIface xT Tf true).run P w=.ok (.tuple #[zv,.bool false]) w) (hz:∀ (μ:Mu) (Mt:Nat→Prop) (w:World),VR μ Mt w z zv)
 {u u':FrameMode} {y:V} {μ:Mu} {Mt:Nat→Prop} {w:World} {H:Heap} (h:HR (CR P pure') μ Mt w H) {vs:List V} {cs:List Value} (hvs:VRs μ Mt w vs cs) (hvl:vs.length≤N) (hu:RecC Tf z μ Mt w u u' y)
 {n base:Nat} {fr3 fr4:List V} {H3 H4:Heap} (h3:ji (w9 CP n) base (l0.drop 2) (put (some r1) y (put (some r0) .unk (vs ++ List.replicate (N - vs.length) und))) H=some (fr3,H3))
 (h4:evC (w9 CP n) (fun b k m=>qx b k m n) base ac2 fr3 H3=some (.nrm,fr4,H4)) {m:Nat} {R:Ending→FrameMode→World→Prop} (hQ:∀ v μ' Mt' w',Post (CR P pure') μ Mt w H μ' Mt' w' H4→R (.returned v) u' w'):
 CallsDIn Fence.wide m P k cs.toArray u w R:=by
 have hs:=aa3 hmix hCP n;refine callsDIn_of_wpSIn hf hb trivial fun c0 cs0 hc0=>wpSIn_seq (wpSIn_region ?_);obtain ⟨a0,ha0⟩:∃ a0:Act,{ tmps:=cs.toArray ++ Array.replicate (fn.ntmps - cs.toArray.size) Go.undef,defers:=[] }=a0:=⟨_,rfl⟩
 have hd0:a0.defers=[]:=by rw [← ha0]
 have hf0:FR μ Mt w (vs ++ List.replicate (N - vs.length) und) a0.tmps:=by
  unfold FR;have:=hvs.append (z8 (μ:=μ) (Mt:=Mt) (w:=w) (N - vs.length));rw [← ha0,hnt];simp only [aeh,ab5,mr];rw [hvs.1] at this ⊢;exact this
 rw [ha0];have hlA:1 < ops0.size:=(Array.getElem?_eq_some_iff.1 hA).1;have hlA2:2≤ops0.size:=hlA
 have er:List.range ops0.size=0 :: 1 :: (List.range ops0.size).drop 2:=by
  have e1:List.range ops0.size=(List.range ops0.size).drop 0:=rfl
  rw [d9 (by simp;omega),d9 (by simp;omega)] at e1
  simpa using e1
 rw [er]
 have hrun0:∀ (a:Act) (w:World),(execOp a.eval oR).run P w=.ok .recover w:=by
  intro a w;unfold execOp;simp only [eR,resolve,Sem.run_bind,Sem.run_pure,Result.andThen_ok,invoke,Go.builtin]
 have tail:∀ (v0:Value) (y0:Value) (cs1:List Frame),cs1={ c0 with mode:=u' } :: cs0→VR μ Mt w y y0→wpOpsSIn Fence.wide m P ops0 (Exit.thenS (c2.wpSIn Fence.wide m P (bodyPostS P fn c0 cs0 R)) (bodyPostS P fn c0 cs0 R)) ((List.range ops0.size).drop 2) ((a0.put oR.dst v0).put oA.dst y0) cs1 w:=by
  intro v0 y0 cs1 hcs hy
  have hfr:FR μ Mt w (put (some r1) y (put (some r0) .unk (vs ++ List.replicate (N - vs.length) und))) ((a0.put oR.dst v0).put oA.dst y0).tmps:=by
   rw [dR,dA];exact (hf0.put (some r0) (.unk _)).put (some r1) hy
  refine a1o (call:=w9 CP n) hreg (ops0.size - 2) 2 _ H _ w μ Mt (by omega) hno h hfr h3 ?_
  rintro a1 w1 ⟨μ1,Mt1,p1,f1,d1⟩;rw [put_defers,put_defers,hd0] at d1;refine wpSIn_of_wpIn rfl ?_;refine afv hs hmix n base hc2 hfl none m _ _ _ _ _ h4 μ1 Mt1 w1 a1 _ p1.hr f1 ?_;rintro a2 w2 ⟨μ2,Mt2,p2,f2,d2⟩
  obtain ⟨rv,hrv,_⟩:=acf (fn:=fn) (ars:=[]) (r:=.tup []) p2.hr f2 (by rw [hres];rfl) rfl
  exact ⟨by rw [d2,d1],u',hcs,rv,hrv,hQ rv μ2 Mt2 w2 (p1.trans p2)⟩
 have hx1:∀ (v0 y0:Value) (a:Act),a.tmps.size=N→(Instr.typeAssert v0 xT Tf true).run P w=.ok y0 w→(execOp (a.put oR.dst v0).eval oA).run P w=.ok (.value y0) w:=by
  intro v0 y0 a hsz hrun
  have hev:(a.put oR.dst v0).eval (.tmp r0)=v0:=by
   rw [dR];simp [Act.eval,Act.put,hsz,hr0]
  unfold execOp;simp only [eA,hev,Sem.run_bind,hrun,Result.andThen_ok,Sem.run_pure]
 have hsz:a0.tmps.size=N:=by
  rw [a5f hf0,dm,List.length_replicate];omega
 simp only [wpOpsSIn,hR,hA];refine ⟨fun _ _=>trivial,?_⟩
 rw [fe (by simp [Region.wanted,gR]),hrun0]
 cases hu with
 | pan x c hx=>
   have hrec:recoverD (c0 :: cs0)=some (.iface Tf c,{ c0 with mode:=.panicking [{ v:=.iface Tf c,recovered:=true }] } :: cs0):=by
    simp only [recoverD,hc0]
   simp only [hrec];refine ⟨fun _ _=>trivial,?_⟩
   rw [fe (by simp [Region.wanted,gA]),hx1 _ _ _ hsz (hok c w)]
   refine tail _ _ _ rfl (.tup _ _ rfl fun i p q hp hq=>?_)
   match i with
   | 0=>simp at hp hq;subst hp;subst hq;exact hx
   | 1=>simp at hp hq;subst hp;subst hq;exact .s _
   | i+2=>simp at hp
 | nil=>
   have hrec:recoverD (c0 :: cs0)=none:=by
    simp only [recoverD,hc0]
   simp only [hrec];refine ⟨fun _ _=>trivial,?_⟩
   rw [fe (by simp [Region.wanted,gA]),hx1 _ _ _ hsz (hnil w)]
   refine tail _ _ _ (by rw [← hc0]) (.tup _ _ rfl fun i p q hp hq=>?_)
   match i with
   | 0=>simp at hp hq;subst hp;subst hq;exact hz _ _ _
   | 1=>simp at hp hq;subst hp;subst hq;exact .s _
   | i+2=>simp at hp
end
open Go.RowKit
section
variable {CC:CX} {μ μ':Mu} {Mt Mt':Nat→Prop} {w w':World} {H H':Heap} {P:Program} {pure':PX} {CP:Nat→Option CFun} {PP:Nat→List V→Nat→Heap→aad→Prop} {X:Nat→Bool}
theorem afp {μ0:Mu} {Mt0:Nat→Prop} {w0:World} {H0:Heap} {fn:Func} {tmps:Array Value} {x:V} {c:Value} {frx:List V} {R:Ending→World→Prop} {n:Nat} {u:FrameMode} {ds:List Deferred} (hu:u≠.run)
 (hfin:∀ w',Post CC μ0 Mt0 w0 H0 μ Mt w' H→FR μ Mt w' frx tmps→VR μ Mt w' x c→LeavesInM Fence.wide n P fn tmps R ds u w'):
 ∀ (L:List Nat) (w:World),Post CC μ0 Mt0 w0 H0 μ Mt w H→FR μ Mt w frx tmps→VR μ Mt w x c→L.Nodup→(∀ D∈L,w0.heap.size≤D∧w.heap[D]?=some (.deferred (some []))∧∀ id g b,μ id g≠some (D,b))→
   LeavesInM Fence.wide n P fn tmps R (L.map asz ++ ds) u w:=by
 intro L
 induction L with
 | nil=>intro w hp hf hv _ _;exact hfin w hp hf hv
 | cons D L ih=>
   intro w hp hf hv hnd hL;obtain ⟨h1,h2,h3⟩:=hL D fo;refine ⟨hu,.inl ⟨D,_,rfl,run_takeDeferred h2,?_⟩⟩;obtain ⟨p1,hk⟩:=ai7 (y:=none) hp h1 h2 h3;refine ih _ p1 ⟨hf.1,fun i a b ha hb=>hk (hf.2 i a b ha hb)⟩ (hk hv) (abl.1 hnd).2 (fun E hE=>?_);obtain ⟨k1,k2,k3⟩:=hL E (di _ hE)
   have hne:E≠D:=fun e=>by subst e;exact (abl.1 hnd).1 hE
   exact ⟨k1,(World.putObj_heap_other hne).trans k2,k3⟩
def bcp (P:Program) (pure':PX) (CP:Nat→Option CFun) (k r0 r1 N:Nat) (Tf:TypeId) (z:V) (l0:List AOper) (ac2:ACode):Prop:=
 (∀ xs w,(callFunc k xs).run P w=.ok (.enter k xs) w)∧
 ∀ {u u':FrameMode} {y:V} {μ:Mu} {Mt:Nat→Prop} {w:World} {H:Heap},HR (CR P pure') μ Mt w H→∀ {vs:List V} {cs:List Value},VRs μ Mt w vs cs→vs.length≤N→RecC Tf z μ Mt w u u' y→
   ∀ {n base:Nat} {fr3 fr4:List V} {H3 H4:Heap},ji (w9 CP n) base (l0.drop 2) (put (some r1) y (put (some r0) .unk (vs ++ List.replicate (N - vs.length) und))) H=some (fr3,H3)→
   evC (w9 CP n) (fun b k m=>qx b k m n) base ac2 fr3 H3=some (.nrm,fr4,H4)→∀ {m:Nat} {R:Ending→FrameMode→World→Prop},(∀ v μ' Mt' w',Post (CR P pure') μ Mt w H μ' Mt' w' H4→R (.returned v) u' w')→CallsDIn Fence.wide m P k cs.toArray u w R
structure DefF where
 N:Nat
 A0:ACode
 A1:ACode
 A2:ACode
 AR:ACode
 a:Nat
 b:Nat
 c:Nat
 d:Nat
 k1:Nat
 r0:Nat
 r1:Nat
 N1:Nat
 Tf:TypeId
 z:V
 l0:List AOper
 ac2:ACode
 rs:List ARes
def DefF.cond (D:DefF) (g0 g1 g2:V):ab4:=fun l fr=>(fr.getD D.a .unk=g0∧fr.getD D.b .unk=g1∧fr.getD D.c .unk=g2)∧∀ o∈l,o.dst≠some D.a∧o.dst≠some D.b∧o.dst≠some D.c
def DefF.recR (D:DefF) (call:ku) (it:yj) (base:Nat) (y g0 g1 g2:V) (H H':Heap):Prop:=
 ∃ f3 H3 f4,ji call base (D.l0.drop 2) (put (some D.r1) y (put (some D.r0) .unk ([g0,g1,g2] ++ List.replicate (D.N1 - 3) und))) H=some (f3,H3)∧evC call it base D.ac2 f3 H3=some (.nrm,f4,H')
def DefF.ans (D:DefF) (call:ku) (it:yj) (pan:atn) (vs:List V) (base:Nat) (H:Heap) (v:V) (H':Heap):Prop:=
 ∃ fr1 H1 fr2 H2,evC call it base D.A0 (vs ++ List.replicate (D.N - vs.length) und) H=some (.nrm,fr1,H1)∧evC call it base D.A1 fr1 H1=some (.nrm,fr2,H2)∧
 ((∃ fr3,evC call it base D.A2 fr2 H2=some (.ret,fr3,H')∧qb D.rs fr3 H'=some v)∨
  ∃ fr3 H3 g0 g1 g2,evC call it base D.A2 fr2 H2=some (.nrm,fr3,H3)∧D.d < fr3.length∧fr3.getD D.a .unk=g0∧fr3.getD D.b .unk=g1∧fr3.getD D.c .unk=g2∧
   ((∃ e fr5 H5,(e=.nrm∨e=.ret)∧evC call it base D.AR (put (some D.d) (.fn D.k1 [] [g0,g1,g2]) fr3) H3=some (e,fr5,H5)∧D.recR call it base (.tup [D.z,.s (.bool false)]) g0 g1 g2 H5 H'∧qb D.rs fr5 H'=some v)∨
    ∃ x Hp,aa8 call pan it base (D.cond g0 g1 g2) D.AR (put (some D.d) (.fn D.k1 [] [g0,g1,g2]) fr3) H3 (D.Tf,x,Hp)∧D.recR call it base (.tup [x,.s (.bool true)]) g0 g1 g2 Hp H'∧qb D.rs (put (some D.d) (.fn D.k1 [] [g0,g1,g2]) fr3) H'=some v))
theorem DefF.recR_le {D:DefF} {c c':ku} (h:Le c c') {n n':Nat} (hn:n≤n') {base:Nat} {y g0 g1 g2:V} {H H':Heap} (k:D.recR c (itN n) base y g0 g1 g2 H H'):D.recR c' (itN n') base y g0 g1 g2 H H':=by
 obtain ⟨f3,H3,f4,h1,h2⟩:=k;exact ⟨f3,H3,f4,afs h _ h1,ahk h hn _ h2⟩
theorem DefF.recR_cont {D:DefF} {base:Nat} {y g0 g1 g2:V} {H H':Heap} (k:D.recR (dn CP) itW base y g0 g1 g2 H H'):∃ n,D.recR (w9 CP n) (itN n) base y g0 g1 g2 H H':=by
 obtain ⟨f3,H3,f4,h1,h2⟩:=k;obtain ⟨n1,e1⟩:=akw _ h1;obtain ⟨n2,e2⟩:=yc _ h2;exact ⟨max n1 n2,f3,H3,f4,afs (ve (oq n1 n2)) _ e1,yo (j6 n1 n2) e2⟩
theorem DefF.ans_cont {D:DefF} {vs:List V} {base:Nat} {H:Heap} {v:V} {H':Heap} (h:D.ans (dn CP) itW (ang CP PP X) vs base H v H'):∃ n,D.ans (w9 CP n) (itN n) (az4 CP PP X n) vs base H v H':=by
 obtain ⟨fr1,H1,fr2,H2,h1,h2,h⟩:=h;obtain ⟨n1,e1⟩:=yc _ h1;obtain ⟨n2,e2⟩:=yc _ h2
 rcases h with ⟨fr3,h3,hr⟩ | ⟨fr3,H3,g0,g1,g2,h3,hd,k0,k1,k2,h⟩
 ·obtain ⟨n3,e3⟩:=yc _ h3
  refine ⟨max n1 (max n2 n3),fr1,H1,fr2,H2,yo (by omega) e1,yo (by omega) e2,.inl ⟨fr3,yo (by omega) e3,hr⟩⟩
 ·obtain ⟨n3,e3⟩:=yc _ h3
  rcases h with ⟨e,fr5,H5,he,h5,hrec,hr⟩ | ⟨x,Hp,hp,hrec,hr⟩
  ·obtain ⟨n4,e4⟩:=yc _ h5;obtain ⟨n5,e5⟩:=DefF.recR_cont hrec
   exact ⟨max (max n1 n2) (max n3 (max n4 n5)),fr1,H1,fr2,H2,yo (by omega) e1,yo (by omega) e2,.inr ⟨fr3,H3,g0,g1,g2,yo (by omega) e3,hd,k0,k1,k2,.inl ⟨e,fr5,H5,he,yo (by omega) e4,DefF.recR_le (ve (by omega)) (by omega) e5,hr⟩⟩⟩
  ·obtain ⟨n4,e4⟩:=aoc _ hp;obtain ⟨n5,e5⟩:=DefF.recR_cont hrec
   exact ⟨max (max n1 n2) (max n3 (max n4 n5)),fr1,H1,fr2,H2,yo (by omega) e1,yo (by omega) e2,.inr ⟨fr3,H3,g0,g1,g2,yo (by omega) e3,hd,k0,k1,k2,.inr ⟨x,Hp,amb (ve (by omega)) (ama (by omega)) (by omega) _ e4,DefF.recR_le (ve (by omega)) (by omega) e5,hr⟩⟩⟩
theorem alr {rs:List ARes} {fr fr':List V} {H:Heap} (h:∀ r∈rs,fr.getD r.slot .unk=fr'.getD r.slot .unk):qb rs fr H=qb rs fr' H:=by
 have key:∀ rs:List ARes,(∀ r∈rs,fr.getD r.slot .unk=fr'.getD r.slot .unk)→rs.mapM (ahe fr H)=rs.mapM (ahe fr' H):=by
  intro rs
  induction rs with
  | nil=>intro _;rfl
  | cons r rs ih=>
    intro h
    have e:ahe fr H r=ahe fr' H r:=by
     have:=h r fo;cases r <;> simp only [ahe,ARes.slot] at this ⊢ <;> rw [this]
    simp only [lc,e,ih fun q hq=>h q (di _ hq)]
 unfold qb;rw [key rs h]
theorem a8r (hmix:P.follows .mixedOrders=true) (hCP:∀ k c,CP k=some c→aba P pure' k c) (hone:∀ k fn body,X k=true→P.funcs[k]?=some fn→fn.body=some body→amc body=true) (hPP:a9g P pure' PP)
 {D:DefF} {k idD:Nat} {fn:Func} {m0 m1 m2 mR:Code} {oF oD:Oper} {ats:Array TypeId}
 (hf : P.funcs[k]? = some fn) (hb : fn.body = some (.seq m0 (.seq m1 (.seq m2 (.seq (.region idD #[oF, oD] false) mR))))) (hnm : (fn.name == "runtime.NumGoroutine") = false) (hnt : fn.ntmps = D.N)
 (c0:CodeR P pure' m0 D.A0) (f0:ae0 m0=true) (c1:CodeR P pure' m1 D.A1) (f1:ae0 m1=true) (c2:CodeR P pure' m2 D.A2) (f2:ae0 m2=true) (cR:CodeR P pure' mR D.AR) (oR:amc mR=true)
 (cF:xu P pure'.b oF=some (.mkFn D.k1 [] [.t D.a,.t D.b,.t D.c])) (dF:oF.dst=some D.d) (gF:oF.guard=none)
 (eD:oD.op=.defer { callee:=.value (.tmp D.d),args:=#[],argTypes:=ats }) (dD:oD.dst=none) (gD:oD.guard=none) (hdN:D.d≠D.a∧D.d≠D.b∧D.d≠D.c)
 (hrs:fn.results.toList.mapM (ae2 P)=some D.rs) (hrs2:∀ r∈D.rs,r.slot=D.a∨r.slot=D.b∨r.slot=D.c) (hN1:3≤D.N1)
 (hrec:bcp P pure' CP D.k1 D.r0 D.r1 D.N1 D.Tf D.z D.l0 D.ac2) {g:List V→Nat→Heap→Option (V × Heap)} (hg:∀ vs base H r H',g vs base H=some (r,H')→D.ans (dn CP) itW (ang CP PP X) vs base H r H'):aba P pure' k (.prim g):=by
 refine ⟨Go.Proofs.enters_of hf hnm hb,fun vs base H r H' hgr=>?_⟩;obtain ⟨n,hn⟩:=DefF.ans_cont (hg _ _ _ _ _ hgr);have hs:=aa3 hmix hCP n;have hx:=a1i (PP:=PP) (X:=X) hmix hCP hone hPP n;obtain ⟨fr1,H1,fr2,H2,h1,h2,hn⟩:=hn;have F1:=(uo hs.floor n _ h1).trans (uo hs.floor n _ h2)
 have recFloor:∀ {y g0 g1 g2:V} {K K':Heap},D.recR (w9 CP n) (itN n) base y g0 g1 g2 K K'→Floor base K K':=fun h=>by
  obtain ⟨f3,H3,f4,q1,q2⟩:=h;exact (ae1 hs.floor _ q1).trans (uo hs.floor n _ q2)
 refine ⟨?_,fun μ Mt w cs h hvs m=>?_⟩
 ·rcases hn with ⟨fr3,h3,_⟩ | ⟨fr3,H3,g0,g1,g2,h3,_,_,_,_,⟨e,fr5,H5,_,h5,hr,_⟩ | ⟨x,Hp,hp,hr,_⟩⟩
  ·exact F1.trans (uo hs.floor n _ h3)
  ·exact (F1.trans (uo hs.floor n _ h3)).trans ((uo hs.floor n _ h5).trans (recFloor hr))
  ·exact (F1.trans (uo hs.floor n _ h3)).trans ((akl hs.floor hx.floor n base _ hp).trans (recFloor hr))
 ·refine callsIn_of_wp_marks hf hb trivial ?_;obtain ⟨a0,ha0⟩:∃ a0:Act,{ tmps:=cs.toArray ++ Array.replicate (fn.ntmps - cs.toArray.size) Go.undef,defers:=[] }=a0:=⟨_,rfl⟩
  have hd0:a0.defers=[]:=by rw [← ha0]
  have hf0:FR μ Mt w (vs ++ List.replicate (D.N - vs.length) und) a0.tmps:=by
   unfold FR;have:=hvs.append (z8 (μ:=μ) (Mt:=Mt) (w:=w) (D.N - vs.length));rw [← ha0,hnt];simp only [aeh,ab5,mr];rw [hvs.1] at this ⊢;exact this
  rw [ha0];refine wpIn_seq (afv hs hmix n base c0 f0 none m _ _ _ _ _ h1 μ Mt w a0 _ h hf0 ?_);rintro a1 w1 ⟨μ1,Mt1,p1,q1,d1⟩;rw [hd0] at d1;refine wpIn_seq (afv hs hmix n base c1 f1 none m _ _ _ _ _ h2 μ1 Mt1 w1 a1 _ p1.hr q1 ?_);rintro a2 w2 ⟨μ2,Mt2,p2,q2,d2⟩;rw [d1] at d2
  have leave:∀ {frx:List V} {ax:Act} {wx:World} {μx:Mu} {Mtx:Nat→Prop} {Hx:Heap},Post (CR P pure') μ Mt w H μx Mtx wx Hx→FR μx Mtx wx frx ax.tmps→qb D.rs frx Hx=some r→Hx=H'→LeavesInM Fence.wide m P fn ax.tmps (ane (CR P pure') μ Mt w H r H') [] .returning wx:=fun pp ff hr hH=>by
   subst hH;obtain ⟨cv,k1,k2⟩:=acf pp.hr ff hrs hr;exact ⟨cv,k1,cv,_,_,rfl,k2,pp⟩
  rcases hn with ⟨fr3,h3,hres⟩ | ⟨fr3,H3,g0,g1,g2,h3,hdl,e0,e1,e2,hn⟩
  ·refine wpIn_seq (afv hs hmix n base c2 f2 none m _ _ _ _ _ h3 μ2 Mt2 w2 a2 _ p2.hr q2 ?_);rintro a3 w3 ⟨μ3,Mt3,p3,q3,d3⟩;rw [d2] at d3;show LeavesInM Fence.wide m P fn a3.tmps _ a3.defers .returning w3;rw [d3];exact leave ((p1.trans p2).trans p3) q3 hres rfl
  ·refine wpIn_seq (afv hs hmix n base c2 f2 none m _ _ _ _ _ h3 μ2 Mt2 w2 a2 _ p2.hr q2 ?_);rintro a3 w3 ⟨μ3,Mt3,p3,q3,d3⟩;rw [d2] at d3;have pp3:=(p1.trans p2).trans p3;refine wpIn_seq (wpIn_region ?_);show wpOpsIn (Fw none) m P #[oF,oD] _ [0,1] a3 w3
   refine ab9 (o:=oF) rfl gF (abr hs p3.hr q3 (.inl cF) (base:=base) (v:=.fn D.k1 [] [g0,g1,g2]) (H':=H3) (by simp only [je,ou,acr,ev,e0,e1,e2]) ?_)
   rintro rF w4 ⟨qF,μ4,Mt4,E4,V4,p4⟩;cases E4;have q4:FR μ4 Mt4 w4 (put (some D.d) (.fn D.k1 [] [g0,g1,g2]) fr3) (a3.put oF.dst rF).tmps:=amr p3.hr p4 q3 dF V4;obtain ⟨a4,ha4⟩:∃ a4,a3.put oF.dst rF=a4:=⟨_,rfl⟩
   have d4:a4.defers=[]:=by rw [← ha4,put_defers,d3]
   rw [ha4] at q4 ⊢;have pp4:=pp3.trans p4
   have hval:VR μ4 Mt4 w4 (.fn D.k1 [] [g0,g1,g2]) (a4.eval (.tmp D.d)):=by
    have hg:=q4.getD D.d;rw [adr _ _ _ _ hdl,fe rfl] at hg;exact hg
   obtain ⟨fst',cap',hfv,hfs,hvg⟩:∃ (fst' cap':Array Value),a4.eval (.tmp D.d)=.func (.func D.k1) fst' cap'∧fst'=#[]∧VRs μ4 Mt4 w4 [g0,g1,g2] cap'.toList:=by
    generalize a4.eval (.tmp D.d)=fv at hval;cases hval with
    | fn _ _ _ fst' cap' k1 k2 k3 k4=>exact ⟨fst',cap',rfl,acs (by simpa using k1.symm),by simpa using k2,fun i p q hp hq=>k4 i p q hp (by simpa using hq)⟩
   subst hfs;refine ab9 (o:=oD) rfl gD ⟨fun _ _=>trivial,?_⟩
   have hxD:(Oper.semAt none a4.eval oD).run P w4=.ok (.defer { target:=.fn (.func D.k1) cap',args:=#[] }) w4:=by
    rw [Oper.semAt_none];unfold execOp;simp only [eD,resolve,hfv,Deferred.ofValue,Sem.run_bind,Sem.run_pure,Result.andThen_ok];simp
   show Oper.uponIn (Fw none) m P oD a4 _ _ ((Oper.semAt none a4.eval oD).run P w4);rw [hxD];simp only [Oper.uponIn,wpOpsIn];rw [dD,d4];show Code.wpIn (Fw none) m P mR _ { a4 with defers:=[{ target:=.fn (.func D.k1) cap',args:=#[] }] } w4
   have hinv:∀ w,(invoke (.fn (.func D.k1) cap') #[]).run P w=.ok (.enter D.k1 cap') w:=fun w=>by
    simp only [invoke,hrec.1];rw [Array.empty_append]
   have leaveD:∀ {u u':FrameMode} {y:V} {frx:List V} {tx:Array Value} {wx:World} {μx:Mu} {Mtx:Nat→Prop} {Hx:Heap},u≠.run→settle u'=.returning→Post (CR P pure') μ4 Mt4 w4 H3 μx Mtx wx Hx→FR μx Mtx wx frx tx→RecC D.Tf D.z μx Mtx wx u u' y→D.recR (w9 CP n) (itN n) base y g0 g1 g2 Hx H'→qb D.rs frx H'=some r→
    LeavesInM Fence.wide m P fn tx (ane (CR P pure') μ Mt w H r H') [{ target:=.fn (.func D.k1) cap',args:=#[] }] u wx:=fun {u u' y frx tx wx μx Mtx Hx} hu hu' pp ff hc hr hres=>by
    obtain ⟨f3,K3,f4,r1,r2⟩:=hr
    refine ⟨hu,.inr ⟨fun h=>by simp [Fence.wide] at h,.func D.k1,cap',D.k1,cap',rfl,hinv wx,fun _ _=>trivial,?_⟩⟩
    have hcd:=hrec.2 (m:=m - 1) pp.hr (pp.vrs p4.hr hvg) (show [g0,g1,g2].length≤D.N1 from hN1) hc (n:=n) (base:=base) r1 r2 (R:=fun e u' w'=>∃ v,e=.returned v∧LeavesInM Fence.wide m P fn tx (ane (CR P pure') μ Mt w H r H') [] (settle u') w') (fun v μy Mty wy py=>by
     refine ⟨v,rfl,?_⟩;rw [hu'];obtain ⟨cv,k1,k2⟩:=acf py.hr (ff.post pp.hr py) hrs hres;exact ⟨cv,k1,cv,_,_,rfl,k2,(pp4.trans pp).trans py⟩)
    rw [qd] at hcd;refine hcd.mono ?_;rintro e1 u1 wz ⟨v,rfl,hh⟩;exact hh
   rcases hn with ⟨e,fr5,H5,he,h5,hr,hres⟩ | ⟨x,Hp,hp,hr,hres⟩
   ·refine ag4 hs hmix n base cR none m _ _ _ _ _ h5 μ4 Mt4 w4 { a4 with defers:=[{ target:=.fn (.func D.k1) cap',args:=#[] }] } _ p4.hr q4 (fun l hl=>by cases hl) ?_
    rintro a5 w5 ⟨μ5,Mt5,p5,q5,L,hL,hnd,hLs⟩
    have fin:LeavesInM Fence.wide m P fn a5.tmps (ane (CR P pure') μ Mt w H r H') a5.defers .returning w5:=by
     rw [hL]
     exact afp (by simp) (x:=und) (c:=Go.undef) (fun w6 p6 q6 _=>leaveD (by simp) rfl p6 q6 .nil hr hres) L w5 p5 q5 (.s _) hnd hLs
    rcases he with rfl | rfl
    ·exact fin
    ·exact fin
   ·refine asu hs hx hmix n base cR oR none m _ _ _ hp μ4 Mt4 w4 { a4 with defers:=[{ target:=.fn (.func D.k1) cap',args:=#[] }] } _ p4.hr q4 (fun l hl=>by cases hl) ?_
    rintro ch a5 w5 ⟨cv,μ5,Mt5,lx,frl,frx,rfl,hvx,p5,⟨L,hL,hnd,hLs⟩,hC,hK,q5⟩;show LeavesInM Fence.wide m P fn a5.tmps _ a5.defers _ w5;rw [hL];obtain ⟨⟨b0,b1,b2⟩,hdst⟩:=hC
    have hres':qb D.rs frx H'=some r:=by
     rw [← hres];refine alr fun q hq=>?_
     rcases hrs2 q hq with h | h | h <;> rw [h]
     ·rw [hK _ (fun o ho=>(hdst o ho).1),b0,adq (fun e=>hdN.1 (fu e)),e0]
     ·rw [hK _ (fun o ho=>(hdst o ho).2.1),b1,adq (fun e=>hdN.2.1 (fu e)),e1]
     ·rw [hK _ (fun o ho=>(hdst o ho).2.2),b2,adq (fun e=>hdN.2.2 (fu e)),e2]
    exact afp (by simp) (fun w6 p6 q6 v6=>leaveD (by simp) rfl p6 q6 (.pan x cv v6) hr hres') L w5 p5 q5 hvx hnd hLs
end
end Go.AM
