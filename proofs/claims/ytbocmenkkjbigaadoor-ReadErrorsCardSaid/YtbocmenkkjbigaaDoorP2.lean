/- Texts of the proof: Am20, Am21, Am22, Am23, AmS, AmT, AmF, AmG, AmL, AmQ0, AmQ, AmW, AmB, BitsP, AmM, AmN, AmO, AmY, AmZ, AmI, AmU, AmU2, AmH, RdnA1, TokP, TokP2, TokP3, RdP1, AmP, AmPk, AmPn, AmPn2, AmPr, AmPr2, AmPr3. -/
import Derived.Test.YtbocmenkkjbigaaDoorP0
import Derived.Test.YtbocmenkkjbigaaDoorP1
import Derived.ProofKit
import Derived.ReadAgain
import Derived.Laws.BitsLemmas
import Derived.Shelf.Sort.Plain
import Derived.Shelf.SlIterI.Nil
import Derived.Shelf.SlMaps.Clone
import Derived.Shelf.Spec.TrailingZeros
import Derived.KernelRfl
import Derived.RecoverIn
import Derived.Laws.Build
import Derived.WalkSmall
set_option linter.all false
namespace Go.AM
open Go.RowKit
section
variable {μ μ':Mu} {Mt Mt':Nat→Prop} {w w':World} {H H':Heap} {P:Program} {pure':PX} {call:kz}
def abe (P:Program) (pure':PX) (k:Nat):CFun→Prop
 | .code c => ∃ fn body, P.funcs[k]? = some fn ∧ fn.body = some body ∧ (fn.name == "runtime.NumGoroutine") = false ∧ CodeR P pure' body c.body ∧ fn.ntmps = c.ntmps ∧ fn.results.toList.mapM (ae8 P) = some c.results
 | .prim g=>(∀ xs w,(callFunc k xs).run P w=.ok (.enter k xs) w)∧∀ vs base H r H',g vs base H=some (r,H')→Floor base H H'∧
    ∀ μ Mt w cs,HR (CR P pure') μ Mt w H→VRs μ Mt w vs cs→∀ n,CallsIn Fence.wide n P k cs.toArray w (ana (CR P pure') μ Mt w H r H')
theorem awi:∀ (ps:List Nat) (vs:List V) (cs:List Value) {fr fr':List V} {t:Array Value},ap2 ps vs fr=some fr'→VRs μ Mt w vs cs→FR μ Mt w fr t→
 ps.length=cs.length∧FR μ Mt w fr' ((ps.zip cs).foldl (fun t p=>t.setIfInBounds p.1 p.2) t):=by
 intro ps
 induction ps with
 | nil=>
   intro vs cs fr fr' t h hv hf;cases vs with
   | nil=>
     cases h
     have:cs=[]:=by have:=hv.1;cases cs <;> simp at this ⊢
     subst this;exact ⟨rfl,hf⟩
   | cons v vs=>cases h
 | cons p ps ih=>
   intro vs cs fr fr' t h hv hf;cases vs with
   | nil=>cases h
   | cons v vs=>
     cases cs with
     | nil=>have:=hv.1;simp at this
     | cons c cs=>
       have hv':VRs μ Mt w vs cs:=⟨by have:=hv.1;simpa using this,fun i a b ha hb=>hv.2 (i+1) a b (by simpa using ha) (by simpa using hb)⟩
       have hf':FR μ Mt w (fr.set p v) (t.setIfInBounds p c):=by
        have:=VRs.set hf p (hv.2 0 v c rfl rfl)
        simpa [FR] using this
       obtain ⟨h1,h2⟩:=ih vs cs h hv' hf'
       exact ⟨by simp [h1],by simpa using h2⟩
theorem zz (n:Nat):VRs μ Mt w (List.replicate n und) (List.replicate n Go.undef):=
 ⟨by simp,fun i a b ha hb=>by
  have h1:=List.mem_of_getElem? ha;have h2:=List.mem_of_getElem? hb;rw [af7] at h1 h2;rw [h1.2,h2.2];exact .s _⟩
variable {CP:Nat→Option CFun}
theorem ao5 (hs:SimCall P (CR P pure') call) (hmix:P.follows .mixedOrders=true) (nn:Nat) (hCP:∀ k c,CP k=some c→abe P pure' k c)
 {f:Nat} {fst cap args:List V} {base:Nat} {r:V} (hev:uz CP call (fun b k m=>ru b k m nn) (.fn f fst cap) args base H=some (r,H')):
 (∀ xs w,(callFunc f xs).run P w=.ok (.enter f xs) w)∧Floor base H H'∧
 ∀ (μ:Mu) (Mt:Nat→Prop) (w:World) (cs:List Value),HR (CR P pure') μ Mt w H→VRs μ Mt w (fst ++ args ++ cap) cs→∀ n,CallsIn Fence.wide n P f cs.toArray w (ana (CR P pure') μ Mt w H r H'):=by
 simp only [uz] at hev;split at hev
 ·rename_i c hc;obtain ⟨fn,body,h1,h2,h3,h4,h5,h6⟩:=hCP f _ hc;have fin:∀ (e:Ex) (fr':List V) (H1:Heap),(e=.nrm∨e=.ret)→evC call (fun b k m=>ru b k m nn) base c.body (fst ++ args ++ cap ++ List.replicate (c.ntmps - (fst ++ args ++ cap).length) und) H=some (e,fr',H1)→
   (qc c.results fr' H1).map (fun v=>(v,H1))=some (r,H')→(∀ xs w,(callFunc f xs).run P w=.ok (.enter f xs) w)∧Floor base H H'∧
   ∀ (μ:Mu) (Mt:Nat→Prop) (w:World) (cs:List Value),HR (CR P pure') μ Mt w H→VRs μ Mt w (fst ++ args ++ cap) cs→∀ n,CallsIn Fence.wide n P f cs.toArray w (ana (CR P pure') μ Mt w H r H'):=by
   intro e fr' H1 he hb hres;rw [af] at hres;obtain ⟨v,hv,e1⟩:=hres;cases e1;refine ⟨Go.Proofs.enters_of h1 h3 h2,um hs.floor nn _ hb,fun μ Mt w cs h hvs n=>?_⟩;refine callsIn_of_wp_marks h1 h2 trivial ?_
   have hf0:FR μ Mt w (fst ++ args ++ cap ++ List.replicate (c.ntmps - (fst ++ args ++ cap).length) und) (cs.toArray ++ Array.replicate (fn.ntmps - cs.toArray.size) Go.undef):=by
    unfold FR;have:=hvs.append (zz (μ:=μ) (Mt:=Mt) (w:=w) (c.ntmps - (fst ++ args ++ cap).length));simp only [aem,ab9,ni,h5];rw [hvs.1] at this ⊢;exact this
   refine ag0 hs hmix nn base h4 none n _ H e fr' H' hb μ Mt w { tmps:=cs.toArray ++ Array.replicate (fn.ntmps - cs.toArray.size) Go.undef,defers:=[] } _ h hf0 (fun l hl=>by cases hl) ?_
   rintro a' w' ⟨μ1,Mt1,p1,f1,L,hL,hnd,hLs⟩
   have key:LeavesInM Fence.wide n P fn a'.tmps (ana (CR P pure') μ Mt w H r H') a'.defers .returning w':=by
    rw [hL,abp];refine aoq (μ:=μ1) (Mt:=Mt1) (fr:=fr') (fun w2 p2 f2=>?_) L w' p1 f1 hnd hLs;obtain ⟨cv,k1,k2⟩:=aci p2.hr f2 h6 hv;exact ⟨cv,k1,cv,μ1,Mt1,rfl,k2,p2⟩
   rcases he with rfl | rfl
   ·exact key
   ·exact key
  split at hev
  ·rename_i fr' H1 hb;exact fin .nrm fr' H1 (.inl rfl) hb hev
  ·rename_i fr' H1 hb;exact fin .ret fr' H1 (.inr rfl) hb hev
  ·cases hev
 ·rename_i g hc;obtain ⟨h1,h2⟩:=hCP f _ hc;obtain ⟨h3,h4⟩:=h2 _ _ _ _ _ hev;exact ⟨h1,h3,h4⟩
 ·cases hev
theorem akm (hs:SimCall P (CR P pure') call) (hmix:P.follows .mixedOrders=true) (nn:Nat)
 {id:Nat} {args:List V} {base:Nat} {r:V} (hev:uz CP call (fun b k m=>ru b k m nn) (.yld id) args base H=some (r,H')):
 Floor base H H'∧∀ (μ:Mu) (Mt:Nat→Prop) (w:World) (cs:List Value) (B:Nat),HR (CR P pure') μ Mt w H→VRs μ Mt w args cs→μ id 0=some (B,0)→
  ∃ f tmps assign body,(Instr.yield B cs.toArray).run P w=.ok (.round B f tmps assign body) w∧∀ n,RoundIn Fence.wide n P B f tmps assign body w (ana (CR P pure') μ Mt w H r H'):=by
 simp only [uz] at hev;split at hev
 case isFalse=>cases hev
 rename_i hbase;split at hev
 case h_2=>cases hev
 rename_i tmps params assign body hH;split at hev
 case h_2=>cases hev
 rename_i fr0 hset;split at hev
 case h_2=>cases hev
 rename_i fr1 H1 hasg;split at hev
 case h_2=>cases hev
 rename_i t1 ps1 as1 b1 hH1;split at hev
 case h_2=>cases hev
 rename_i e fr2 H3 hbody;split at hev
 case h_2=>cases hev
 rename_i t3 ps3 as3 b3 hH3;cases hev
 have setF:∀ (G:Heap) (o:Ob),Floor base G (G.set id o):=fun G o=>⟨by simp,fun i h1 _=>by rw [List.getElem?_set_ne (by omega)]⟩
 refine ⟨(um hs.floor nn _ hasg).trans ((setF _ _).trans ((um hs.floor nn _ hbody).trans (setF _ _))),?_⟩;intro μ Mt w cs B h hvs hm;obtain ⟨o,ho,hr⟩:=h.objs _ _ 0 _ _ hH rfl hm
 cases o <;> first | exact hr.elim | skip
 rename_i rec;obtain ⟨_,q1,q2,q3,q4,q5,q6⟩:=hr;obtain ⟨hlen,hf0⟩:=awi params args cs hset hvs (t:=rec.tmps) q3
 have hsz:cs.toArray.size=rec.params.size:=by
  rw [← q4] at hlen;simpa using hlen.symm
 have hfold:(rec.params.zip cs.toArray).foldl (fun tmps (t,a)=>tmps.setIfInBounds t a) rec.tmps=(params.zip cs).foldl (fun t p=>t.setIfInBounds p.1 p.2) rec.tmps:=by
  rw [← af9,Array.toList_zip,q4]
 refine ⟨_,_,_,_,run_yield ho hsz,fun n=>?_⟩;refine roundIn_of_wpIn (F:=Fence.wide) trivial ?_;rw [hfold]
 refine ag0 hs hmix nn base q5 (some B) n fr0 H .nrm fr1 H1 hasg μ Mt w { tmps:=(params.zip cs).foldl (fun t p=>t.setIfInBounds p.1 p.2) rec.tmps,defers:=[] } _ h hf0 (fun l hl=>by cases hl;exact ⟨rec,ho⟩) ?_
 rintro a1 w1 ⟨μ1,Mt1,p1,f1,_⟩;have hm1:=p1.ext _ _ _ hm;obtain ⟨o1,ho1,hr1⟩:=p1.hr.objs _ _ 0 _ _ hH1 rfl hm1
 cases o1 <;> first | exact hr1.elim | skip
 rename_i rec1;obtain ⟨_,s1,s2,s3,s4,s5,s6⟩:=hr1
 have hwf1:ObW H1.length (.loop .busy none t1 ps1 as1 b1):=by have:=p1.hr.wfn hH1 rfl hm1;exact this
 have p2:Post (CR P pure') μ1 Mt1 w1 H1 (ajn μ1 id 0 (B,0)) Mt1 (w1.putObj B (.loop { rec1 with state:=.busy })) (H1.set id (.loop .busy none t1 ps1 as1 b1)):=by
  refine ad1 p1.hr 0 0 hH1 rfl hm1 ho1 (fun _ _ _ e=>by cases e) (fun _ _=>⟨_,rfl⟩) (.inl ⟨rfl,rfl⟩) (fun j hj=>hj) (fun _ _ e=>by cases e) rfl rfl rfl rfl hwf1 ?_
  intro _ μ' Mt' hμ hM;have hne:∀ K,K≠B→(w1.putObj B (.loop { rec1 with state:=.busy })).heap[K]?=w1.heap[K]?:=fun K hK=>World.putObj_heap_other hK;refine ⟨rfl,rfl,trivial,?_,s4,s5,s6⟩;refine VRs.mono hμ (fun K hK hm=>(hM K hK).1 hm) (fun K _ hn=>hne K (fun e=>hn (e ▸ (p1.hr.isMut _ _ _ _ hm1).1))) (fun K a0 e0 fr0 hK=>?_) s3
  have:K≠B:=fun e=>by subst e;rw [ho1] at hK;cases hK
  exact ⟨a0,_,(hne K this).trans hK,rfl⟩
 refine ⟨_,run_beginRound ho1 s1,?_⟩;have pp:=p1.trans p2;have hB2:∃ r,(w1.putObj B (.loop { rec1 with state:=.busy })).heap[B]?=some (.loop r):=⟨_,World.putObj_heap_same (lt_of_some ho1)⟩
 refine ag0 hs hmix nn base q6 (some B) n fr1 _ e fr2 H3 ?_ _ _ _ a1 _ p2.hr (f1.post p1.hr p2) (fun l hl=>by cases hl;exact hB2) ?_
 ·exact hbody
 ·rintro a3 w3 ⟨μ3,Mt3,p3,_,_⟩;have hm3:μ3 id 0=some (B,0):=p3.ext _ _ _ (og _ _ _ _);obtain ⟨o3,ho3,hr3⟩:=p3.hr.objs _ _ 0 _ _ hH3 rfl hm3
  cases o3 <;> first | exact hr3.elim | skip
  rename_i rec3;obtain ⟨_,u1,u2,u3,u4,u5,u6⟩:=hr3
  have hwf3:∀ st pe,ObW H3.length (.loop st pe t3 ps3 as3 b3):=fun _ _=>by have:=p3.hr.wfn hH3 rfl hm3;exact this
  have fin:∀ (jump:Option Code),ah0 (if e=.nrm then .ready else .done) (asi e) jump→jump.isNone=decide (e=.nrm)→(if jump.isNone then LoopState.ready else .done)=(if e=.nrm then .ready else .done)→
   ∃ v w',(Instr.endRound B jump).run P w3=.ok v w'∧ana (CR P pure') μ Mt w H (bl (decide (e=.nrm))) (H3.set id (.loop (if e=.nrm then .ready else .done) (asi e) t3 ps3 as3 b3)) (.returned v) w':=by
   intro jump hok hj hst
   refine ⟨_,_,run_endRound jump ho3,_,_,_,rfl,by rw [hj];exact .s _,(pp.trans p3).trans (ad1 (g':=0) (b':=0) p3.hr hH3 rfl hm3 ho3 (fun _ _ _ e=>by cases e) (fun _ _=>⟨_,rfl⟩) (.inl ⟨rfl,rfl⟩) (fun j hj=>hj) (fun _ _ e=>by cases e) rfl rfl rfl rfl (hwf3 _ _) ?_)⟩
   intro _ μ' Mt' hμ hM
   have hne:∀ K,K≠B→(w3.putObj B (.loop { rec3 with state:=if jump.isNone then .ready else .done,pending:=jump })).heap[K]?=w3.heap[K]?:=fun K hK=>World.putObj_heap_other hK
   refine ⟨rfl,hst,hok,?_,u4,u5,u6⟩;refine VRs.mono hμ (fun K hK hm=>(hM K hK).1 hm) (fun K _ hn=>hne K (fun e=>hn (e ▸ (p3.hr.isMut _ _ _ _ hm3).1))) (fun K a0 e0 fr0 hK=>?_) u3
   have:K≠B:=fun e=>by subst e;rw [ho3] at hK;cases hK
   exact ⟨a0,_,(hne K this).trans hK,rfl⟩
  cases e with
  | nrm=>exact fin none rfl rfl rfl
  | ext i=>exact fin (some (.exit i)) rfl rfl rfl
  | ret=>exact fin (some .ret) rfl rfl rfl
theorem avb (hs:SimCall P (CR P pure') call) (hmix:P.follows .mixedOrders=true) (nn:Nat) (hCP:∀ k c,CP k=some c→abe P pure' k c):SimCall P (CR P pure') (uz CP call (fun b k m=>ru b k m nn)) where
 fn f fst cap args base H r H' h:=by
  obtain ⟨h1,_,h3⟩:=ao5 hs hmix nn hCP h;exact ⟨h1,h3⟩
 yld id args base H r H' h:=(akm hs hmix nn h).2
 other v args base H h1 h2:=by
  cases v <;> first | rfl | exact absurd rfl (h1 _ _ _) | exact absurd rfl (h2 _)
 floor v args base H r H' h:=by
  by_cases h1:∃ f a b,v=.fn f a b
  ·obtain ⟨f,a,b,rfl⟩:=h1;exact (ao5 hs hmix nn hCP h).2.1
  ·by_cases h2:∃ id,v=.yld id
   ·obtain ⟨id,rfl⟩:=h2;exact (akm hs hmix nn h).1
   ·exfalso
    cases v <;> first | exact h1 ⟨_,_,_,rfl⟩ | exact h2 ⟨_,rfl⟩ | (simp [uz] at h;done)
theorem aa6 (hmix:P.follows .mixedOrders=true) (hCP:∀ k c,CP k=some c→abe P pure' k c):∀ n,SimCall P (CR P pure') (wu CP n)
 | 0=>⟨fun _ _ _ _ _ _ _ _ h=>(by cases h),fun _ _ _ _ _ _ h=>(by cases h),fun _ _ _ _ _ _=>rfl,fun _ _ _ _ _ _ h=>(by cases h)⟩
 | n+1=>avb (aa6 hmix hCP n) hmix n hCP
theorem ar0 (hmix:P.follows .mixedOrders=true) (hCP:∀ k c,CP k=some c→abe P pure' k c) {n k:Nat} {args:List V} {r:V} (h:wu CP n (.fn k [] []) args 0 []=some (r,H')) {w:World} {cs:Array Value}
 (hargs:VRs (fun _ _=>none) (fun _=>False) w args cs.toList) (hfx:∀ (B:Nat) (o:Array Value × TypeId × Nat × Nat),pure'.fx B=some o→w.heap[B]?=some (.cells o.1 o.2.1 o.2.2)):
 Calls P k cs w fun e w'=>∃ c μ' Mt',e=.returned c∧VR μ' Mt' w' r c∧(∀ B,B < w.heap.size→w'.heap[B]?=w.heap[B]?)∧Tr (fun _ _=>none) w w':=by
 have h0:HR (CR P pure') (fun _ _=>none) (fun _=>False) w []:=⟨fun _ _ _ h=>by simp at h,fun _ _ _ _ h=>by simp at h,fun _ _ _ _ _ h=>by simp at h,fun _ _ _ _ _ _ _ h=>by simp at h,fun _ _ _ _ _ h=>by simp at h,fun _ _ _ _ h=>by simp at h,fun B o e=>⟨hfx B o e,fun h=>h⟩,fun _ _ _ h=>by simp at h⟩
 have:=((aa6 hmix hCP n).fn k [] [] args 0 [] r H' h).2 _ _ w cs.toList h0 (by simpa using hargs) 0
 simp only [qh] at this;refine callsIn_wide.1 (CallsIn.mono this ?_);rintro e w' ⟨c,μ',Mt',rfl,hv,hp⟩
 exact ⟨c,μ',Mt',rfl,hv,fun B hB=>hp.tr.keep B hB (fun _ _ _ h=>by simp at h),hp.tr⟩
end
section
variable {P:Program} {pure':PX}
theorem aok {α β:Type} {f:α→Option β}:∀ {l:List α} {us:List β},l.mapM f=some us→us.length=l.length∧∀ (i:Nat) (v:α) (u:β),l[i]?=some v→us[i]?=some u→f v=some u:=by
 intro l
 induction l with
 | nil=>intro us h;simp at h;subst h;exact ⟨rfl,fun i v u h=>by simp at h⟩
 | cons x l ih=>
   intro us h;simp only [lg,cu,bg,ae] at h;obtain ⟨v,hv,us',hus,e⟩:=h;cases e;obtain ⟨h1,h2⟩:=ih hus
   refine ⟨by simp [h1],fun i a u ha hu=>?_⟩
   cases i with
   | zero=>simp at ha hu;subst ha;subst hu;exact hv
   | succ i=>exact h2 i a u (by simpa using ha) (by simpa using hu)
theorem aj6 {lt:List Nat} {bf:List Nat} {l:List AOper} {i:Nat} {a:AOper} (h:(wh lt bf l)[i]?=some a):∃ b,l[i]?=some b∧(a=b∨(∃ f xs,b.op=.call f xs∧a={ b with op:=.callR f xs })∨∃ k xs,b.op=.callP k xs∧a={ b with op:=.callQ k xs }):=by
 unfold wh at h
 have hi:i < l.length:=by have:=(List.getElem?_eq_some_iff.1 h).1;simpa using this
 have hg:l[i]?=some l[i]:=List.getElem?_eq_getElem hi;refine ⟨l[i],hg,?_⟩;rw [List.getElem?_map,List.getElem?_range hi] at h;have hd:l.getD i default=l[i]:=y5 hg;simp only [jh,hd,dx] at h;split at h
 ·rename_i f xs hop;split at h
  ·exact .inl h.symm
  ·exact .inr (.inl ⟨f,xs,hop,h.symm⟩)
 ·rename_i f xs hop;split at h
  ·exact .inl h.symm
  ·exact .inr (.inr ⟨f,xs,hop,h.symm⟩)
 ·exact .inl h.symm
theorem ald {l:List AOper} {i:Nat} {a:AOper} (h:(ab0 l)[i]?=some a):∃ b,l[i]?=some b∧(a=b∨∃ sz n s x,b.op=.append sz n s x∧a={ b with op:=.appR sz n s x }):=by
 unfold ab0 at h;rw [List.getElem?_map,af] at h;obtain ⟨b,hb,e⟩:=h;refine ⟨b,hb,?_⟩;split at e
 ·rename_i sz n s x hop;exact .inr ⟨sz,n,s,x,hop,e.symm⟩
 ·exact .inl e.symm
theorem ahn (l:List AOper):(ab0 l).length=l.length:=by simp [ab0]
theorem afk {lt:List Nat} {bf:List Nat} {l:List AOper}:(wh lt bf l).length=l.length:=by simp [wh]
theorem acp {lt:List Nat} {ops:Array Oper} {draw:Bool} {l:List AOper} {chk:List (Nat × Nat)} (h:acr P lt pure' ops draw=some (l,chk)):
 apj P pure' ops l∧(draw=true→aee (Region.before ops).toList chk l=true∧ac4 ops=true):=by
 unfold acr at h;simp only [bg,ae] at h;obtain ⟨l0,hl0,h⟩:=h;obtain ⟨h1,h2⟩:=aok hl0
 have one:∀ (i:Nat) (o:Oper) (a:AOper),ops[i]?=some o→l0[i]?=some a→a.dst=o.dst∧(xq P pure' o=some a.op∨a.op=.stuck)∧adq ops o.guard=some a.guard:=by
  intro i o a ho ha
  have:=h2 i o a (by simpa using ho) ha
  unfold atb at this;simp only [bg,ae,cu,dx] at this;obtain ⟨g,hg,e⟩:=this;subst e;refine ⟨rfl,?_,hg⟩;cases hop:xq P pure' o with
  | none=>exact .inr rfl
  | some op=>exact .inl rfl
 split at h
 ·rename_i hd
  have fin:∀ c,aee (Region.before ops).toList c (wh lt (Region.before ops).toList l0)=true→ac4 ops=true→apj P pure' ops (wh lt (Region.before ops).toList l0)∧(draw=true→aee (Region.before ops).toList c (wh lt (Region.before ops).toList l0)=true∧ac4 ops=true):=by
   intro c hok hbk
   refine ⟨⟨by rw [afk,h1];simp,fun i o a ho ha=>?_⟩,fun _=>⟨hok,hbk⟩⟩
   obtain ⟨b,hb,e⟩:=aj6 ha;obtain ⟨k1,k2,k3⟩:=one i o b ho hb
   rcases e with rfl | ⟨f,xs,hop,rfl⟩ | ⟨f,xs,hop,rfl⟩
   ·exact ⟨k1,k2.imp id fun h=>.inr (.inr (.inr h)),k3⟩
   ·exact ⟨k1,.inr (.inl ⟨f,xs,by rw [← hop];exact k2.resolve_right (by rw [hop];intro h;cases h),rfl⟩),k3⟩
   ·exact ⟨k1,.inr (.inr (.inl ⟨f,xs,by rw [← hop];exact k2.resolve_right (by rw [hop];intro h;cases h),rfl⟩)),k3⟩
  split at h
  ·rename_i hok;simp only [au] at hok;simp only [cu,dx] at h;cases h
   exact fin _ (by simp [aee,hok.1]) hok.2
  ·split at h
   ·rename_i hok;simp only [au] at hok;simp only [cu,dx] at h;cases h
    exact fin _ (by simp [aee,hok.1]) hok.2
   ·split at h
    ·rename_i hok;simp only [au] at hok;simp only [cu,dx] at h;cases h
     refine ⟨⟨by rw [ahn,afk,h1];simp,fun i o a ho ha=>?_⟩,fun _=>⟨by simp [aee,hok.1],hok.2⟩⟩
     obtain ⟨b0,hb0,e0⟩:=ald ha;obtain ⟨b,hb,e⟩:=aj6 hb0;obtain ⟨k1,k2,k3⟩:=one i o b ho hb
     rcases e0 with rfl | ⟨sz,n,s,x,hop,rfl⟩
     ·rcases e with rfl | ⟨f,xs,hop,rfl⟩ | ⟨f,xs,hop,rfl⟩
      ·exact ⟨k1,k2.imp id fun h=>.inr (.inr (.inr h)),k3⟩
      ·exact ⟨k1,.inr (.inl ⟨f,xs,by rw [← hop];exact k2.resolve_right (by rw [hop];intro h;cases h),rfl⟩),k3⟩
      ·exact ⟨k1,.inr (.inr (.inl ⟨f,xs,by rw [← hop];exact k2.resolve_right (by rw [hop];intro h;cases h),rfl⟩)),k3⟩
     ·rcases e with rfl | ⟨f,xs,hop',rfl⟩ | ⟨f,xs,hop',rfl⟩
      ·exact ⟨k1,.inr (.inr (.inr (.inl ⟨sz,n,s,x,by rw [← hop];exact k2.resolve_right (by rw [hop];intro h;cases h),rfl⟩))),k3⟩
      ·cases hop
      ·cases hop
    ·cases h
 ·rename_i hd;simp only [cu,dx] at h;cases h
  refine ⟨⟨by rw [h1];simp,fun i o a ho ha=>?_⟩,fun e=>absurd e hd⟩
  obtain ⟨k1,k2,k3⟩:=one i o a ho ha;exact ⟨k1,k2.imp id fun h=>.inr (.inr (.inr h)),k3⟩
theorem zo {lt:List Nat}:∀ (c:Code) (ac:ACode),wo P lt pure' c=some ac.bare→CodeR P pure' c ac:=by
 intro c
 induction c with
 | skip=>intro ac h;simp only [wo,dx] at h;cases ac <;> simp only [ACode.bare] at h <;> first | exact .skip | cases h
 | exit id=>intro ac h;simp only [wo,dx] at h;cases ac <;> simp only [ACode.bare] at h <;> first | (cases h;done) | (cases h;exact .exit _)
 | label l=>intro ac h;simp only [wo,dx] at h;cases ac <;> simp only [ACode.bare] at h <;> first | exact .label _ | cases h
 | ret=>intro ac h;simp only [wo,dx] at h;cases ac <;> simp only [ACode.bare] at h <;> first | exact .ret | cases h
 | scope c=>intro ac h;simp [wo] at h
 | goto l=>intro ac h;simp [wo] at h
 | refuse w=>intro ac h;simp [wo] at h
 | region id ops draw=>
   intro ac h;simp only [wo] at h;split at h
   ·rename_i q hr;obtain ⟨l,chk⟩:=q;simp only [dx] at h;obtain ⟨h1,h2⟩:=acp hr;have e:=h
    cases ac <;> simp only [ACode.bare] at e <;> first | (cases e;done) | (cases e;exact .region _ _ _ _ _ _ h1 h2) | (cases e;exact .regionE _ _ _ _ _ _ h1 h2)
   ·split at h
    ·rename_i hdp;rw [au] at hdp;obtain ⟨rfl,hp⟩:=hdp;rw [af] at h;obtain ⟨⟨l,chk⟩,hr,e⟩:=h;obtain ⟨h1,h2⟩:=acp hr
     cases ac <;> simp only [ACode.bare] at e <;> first | (cases e;done) | (cases e;exact .regionP _ _ _ _ _ _ hp h1 (h2 rfl)) | (cases e;exact .regionPE _ _ _ _ _ _ hp h1 (h2 rfl))
    ·cases h
 | seq a b iha ihb=>
   intro ac h;simp only [wo,bg,ae,cu,dx] at h;obtain ⟨x,hx,y,hy,e⟩:=h
   cases ac <;> simp only [ACode.bare] at e <;> first | (cases e;done) | (cases e;exact .seq _ _ _ _ (iha _ hx) (ihb _ hy))
 | cond c a b iha ihb=>
   intro ac h;simp only [wo,bg,ae,cu,dx] at h;obtain ⟨o,ho,x,hx,y,hy,e⟩:=h
   cases ac <;> simp only [ACode.bare] at e <;> first | (cases e;done) | (cases e;exact .cond _ _ _ _ _ _ ho (iha _ hx) (ihb _ hy))
 | block id c ih=>
   intro ac h;simp only [wo,bg,ae,cu,dx] at h;obtain ⟨x,hx,e⟩:=h
   cases ac <;> simp only [ACode.bare] at e <;> first | (cases e;done) | (cases e;exact .block _ _ _ (ih _ hx))
 | loop c ih=>
   intro ac h;simp only [wo,bg,ae,cu,dx] at h;obtain ⟨x,hx,e⟩:=h
   cases ac <;> simp only [ACode.bare] at e <;> first | (cases e;done) | (cases e;exact .loop _ _ _ (ih _ hx))
 | rangeFunc f ps a b iha ihb=>
   intro ac h;simp only [wo,bg,ae,cu,dx] at h;obtain ⟨o,ho,x,hx,y,hy,e⟩:=h
   cases ac <;> simp only [ACode.bare] at e <;> first | (cases e;done) | (cases e;exact .rangeFunc _ _ _ _ _ _ _ ho (iha _ hx) (ihb _ hy))
def ahh (lt:List Nat) (P:Program) (pure':PX) (k:Nat):Option (Bool × Nat × List ARes × ACode):=
 match P.funcs[k]? with
 | some fn=>match fn.body with
   | some body=>match wo P lt pure' body,fn.results.toList.mapM (ae8 P) with
     | some a, some rs => some (fn.name == "runtime.NumGoroutine", fn.ntmps, rs, a)
     | _,_=>none
   | none=>none
 | none=>none
abbrev wm (P:Program) (pure':PX) (k:Nat):Option (Bool × Nat × List ARes × ACode):=ahh [] P pure' k
theorem a3a {lt:List Nat} {k:Nat} {c:ACFun} (h:ahh lt P pure' k=some (false,c.ntmps,c.results,c.body.bare)):abe P pure' k (.code c):=by
 unfold ahh at h;split at h
 ·rename_i fn hfn;split at h
  ·rename_i body hb;split at h
   ·rename_i a rs ha hrs;simp only [dx,ah1] at h;obtain ⟨h1,h2,h3,h4⟩:=h
    exact ⟨fn,body,hfn,hb,h1,zo _ _ (by rw [ha,h4]),h2,by rw [hrs,h3]⟩
   ·cases h
  ·cases h
 ·cases h
end
def Le (c c':kz):Prop:=∀ v args base H r,c v args base H=some r→c' v args base H=some r
theorem amo {c c':kz} (h:Le c c') {base:Nat} {fr:List V} {H:Heap} {op:AOp} {r:V × Heap} (he:ja c base fr H op=some r):ja c' base fr H op=some r:=by
 cases op
 case call f xs=>exact h _ _ _ _ _ he
 case callR f xs=>exact h _ _ _ _ _ he
 case callP f xs=>
  simp only [ja] at he ⊢;split at he
  ·rename_i us hus;split at he
   ·rename_i v H' hc;rw [h _ _ _ _ _ hc];exact he
   ·cases he
  ·cases he
 case callQ f xs=>
  simp only [ja] at he ⊢;split at he
  ·rename_i hp;rw [bi hp];split at he
   ·rename_i v H' hc;rw [h _ _ _ _ _ hc];exact he
   ·cases he
  ·cases he
 all_goals exact he
theorem afw {c c':kz} (h:Le c c') {base:Nat}:∀ (l:List AOper) {fr:List V} {H:Heap} {r:List V × Heap},je c base l fr H=some r→je c' base l fr H=some r:=by
 intro l
 induction l with
 | nil=>intro fr H r he;exact he
 | cons o l ih=>
   intro fr H r he;simp only [je] at he ⊢;split at he
   ·cases he
   ·exact ih he
   ·split at he
    ·rename_i v H1 h1;rw [amo h h1];exact ih he
    ·cases he
theorem aje {c:kz} {base:Nat}:∀ (l:List AOper) {fr:List V} {H:Heap} {r:List V × Heap},je c base l fr H=some r→∀ k,∃ r',je c base (l.take k) fr H=some r':=by
 intro l fr H r h k;rw [← jr k l,ado] at h;cases he:je c base (l.take k) fr H with
 | none=>rw [he] at h;cases h
 | some r'=>exact ⟨r',rfl⟩
theorem aou {c c':kz} (h:Le c c') {base:Nat} {l:List AOper} {fr fr':List V} {H:Heap} {r:List V × Heap} (he:je c base l fr H=some r):aa1 c' base l fr H fr'=aa1 c base l fr H fr':=by
 have hk:∀ k,je c' base (l.take k) fr H=je c base (l.take k) fr H:=fun k=>by
  obtain ⟨r',hr⟩:=aje l he k;rw [hr];exact afw h _ hr
 funext p
 simp only [aa1,aa7,hk]
theorem afv {b b':List V→Heap→Option St} (hb:∀ fr H r,b fr H=some r→b' fr H=some r) {kill:List Nat} {m:Nat}:∀ {n n':Nat},n≤n'→∀ {fr:List V} {H:Heap} {r:St},ru b kill m n fr H=some r→ru b' kill m n' fr H=some r:=by
 intro n
 induction n with
 | zero=>intro n' _ fr H r h;simp [ru] at h
 | succ n ih=>
   intro n' hn fr H r h
   obtain ⟨k,rfl⟩:∃ k,n'=k+1:=⟨n' - 1,by omega⟩
   simp only [ru] at h ⊢;split at h
   ·rename_i fr1 H1 h1;rw [hb _ _ _ h1]
    exact ih (by omega) h
   ·rename_i e fr1 H1 hne h1;rw [hb _ _ _ h1];split
    ·rename_i e' ;cases e';exact (hne rfl).elim
    ·rename_i e';cases e';exact h
    ·rename_i e';cases e'
   ·cases h
abbrev itN (n:Nat):yw:=fun b k m=>ru b k m n
theorem ahg {c c':kz} (h:Le c c') {n n':Nat} (hn:n≤n') {base:Nat}:∀ (ac:ACode) {fr:List V} {H:Heap} {r:St},evC c (itN n) base ac fr H=some r→evC c' (itN n') base ac fr H=some r:=by
 intro ac
 induction ac with
 | skip=>intro fr H r he;exact he
 | regionE ops kill outs=>intro fr H r he;exact he
 | region ops chk kill=>
   intro fr H r he;simp only [evC] at he ⊢;split at he
   ·rename_i fr1 H1 h1;rw [afw h ops h1];simp only [aou h h1];exact he
   ·cases he
 | seq a b iha ihb=>
   intro fr H r he;simp only [evC] at he ⊢;split at he
   ·rename_i fr1 H1 h1;rw [iha h1];exact ihb he
   ·rename_i hne;have:=iha he;rw [this];split
    ·rename_i e;cases e;exact (hne _ _ he).elim
    ·rfl
 | cond o a b iha ihb=>
   intro fr H r he;simp only [evC] at he ⊢;split at he
   ·exact iha he
   ·exact ihb he
   ·cases he
 | block id a ih=>
   intro fr H r he;simp only [evC] at he ⊢;split at he
   ·rename_i id' fr1 H1 h1;rw [ih h1];exact he
   ·rename_i hne;rw [ih he];split
    ·rename_i e;cases e;exact (hne _ _ _ he).elim
    ·rfl
 | loop kill a ih=>
   intro fr H r he;simp only [evC] at he ⊢;exact afv (fun fr H r=>ih) hn he
 | rangeFunc f ps a b _ _=>
   intro fr H r he;simp only [evC] at he ⊢;split at he
   ·split at he
    ·rename_i v H2 hc;rw [h _ _ _ _ _ hc];exact he
    ·cases he
   ·cases he
 | exit id=>intro fr H r he;exact he
 | ret=>intro fr H r he;exact he
theorem ay5 {CP:Nat→Option CFun} {c c':kz} (h:Le c c') {n n':Nat} (hn:n≤n'):Le (uz CP c (itN n)) (uz CP c' (itN n')):=by
 intro v args base H r he
 cases v <;> simp only [uz] at he ⊢ <;> first | (cases he;done) | skip
 case fn f x y=>
  split at he
  ·rename_i cf hcf;split at he
   ·rename_i fr1 H1 h1;rw [ahg h hn _ h1];exact he
   ·rename_i fr1 H1 h1;rw [ahg h hn _ h1];exact he
   ·cases he
  ·exact he
  ·cases he
 case yld id=>
  split at he
  case isFalse=>cases he
  rename_i hb;rw [bi hb];split at he
  case h_2=>cases he
  split at he
  case h_2=>cases he
  split at he
  case h_2=>cases he
  rename_i h1;rw [ahg h hn _ h1];simp only [];split at he
  case h_2=>cases he
  split at he
  case h_2=>cases he
  rename_i h2;rw [ahg h hn _ h2];exact he
theorem ag1 {CP:Nat→Option CFun}:∀ n,Le (wu CP n) (wu CP (n+1))
 | 0=>fun _ _ _ _ _ h=>by cases h
 | n+1=>ay5 (ag1 n) (a5v n)
theorem ve {CP:Nat→Option CFun} {n m:Nat} (h:n≤m):Le (wu CP n) (wu CP m):=by
 induction m with
 | zero=>have:n=0:=by omega
         subst this;exact fun _ _ _ _ _ h=>h
 | succ m ih=>
   by_cases hn:n=m+1
   ·subst hn;exact fun _ _ _ _ _ h=>h
   ·exact fun v a b H r hr=>ag1 m v a b H r (ih (by omega) v a b H r hr)
open Classical in
noncomputable def fe (CP:Nat→Option CFun):kz:=fun v args base H=>if h:∃ r n,wu CP n v args base H=some r then some h.choose else none
open Classical in
noncomputable def itW:yw:=fun b k m fr H=>if h:∃ r n,ru b k m n fr H=some r then some h.choose else none
variable {CP:Nat→Option CFun}
theorem atc {n:Nat} {v:V} {args:List V} {base:Nat} {H:Heap} {r:V × Heap} (h:wu CP n v args base H=some r):fe CP v args base H=some r:=by
 have hx:∃ r n,wu CP n v args base H=some r:=⟨r,n,h⟩;unfold fe;rw [dif_pos hx];obtain ⟨m,hm⟩:=hx.choose_spec;have h1:=ve (ow n m) _ _ _ _ _ h;have h2:=ve (j6 n m) _ _ _ _ _ hm;rw [h1] at h2;exact h2.symm
theorem acs {v:V} {args:List V} {base:Nat} {H:Heap} {r:V × Heap} (h:fe CP v args base H=some r):∃ n,wu CP n v args base H=some r:=by
 unfold fe at h;split at h
 ·rename_i hx;obtain ⟨m,hm⟩:=hx.choose_spec;exact ⟨m,hm.trans h⟩
 ·cases h
theorem ayf {b:List V→Heap→Option St} {k:List Nat} {m n:Nat} {fr:List V} {H:Heap} {r:St} (h:ru b k m n fr H=some r):itW b k m fr H=some r:=by
 have hx:∃ r n,ru b k m n fr H=some r:=⟨r,n,h⟩;unfold itW;rw [dif_pos hx];obtain ⟨j,hj⟩:=hx.choose_spec;have h1:=afv (fun _ _ _ h=>h) (ow n j) h;have h2:=afv (fun _ _ _ h=>h) (j6 n j) hj;rw [h1] at h2;exact h2.symm
theorem asu {b:List V→Heap→Option St} {k:List Nat} {m:Nat} {fr:List V} {H:Heap} {r:St} (h:itW b k m fr H=some r):∃ n,ru b k m n fr H=some r:=by
 unfold itW at h;split at h
 ·rename_i hx;obtain ⟨j,hj⟩:=hx.choose_spec;exact ⟨j,hj.trans h⟩
 ·cases h
theorem ao2 {base:Nat} {fr:List V} {H:Heap} {op:AOp} {r:V × Heap} (he:ja (fe CP) base fr H op=some r):∃ n,ja (wu CP n) base fr H op=some r:=by
 cases op
 case call f xs=>exact acs he
 case callR f xs=>exact acs he
 case callP f xs=>
  simp only [ja] at he;split at he
  ·rename_i us hus;split at he
   ·rename_i v H' hc;obtain ⟨n,hn⟩:=acs hc;refine ⟨n,?_⟩;simp only [ja,hus,hn];exact he
   ·cases he
  ·cases he
 case callQ f xs=>
  simp only [ja] at he;split at he
  ·rename_i hp;split at he
   ·rename_i v H' hc;obtain ⟨n,hn⟩:=acs hc;refine ⟨n,?_⟩;simp only [ja,bi hp,hn];exact he
   ·cases he
  ·cases he
 all_goals exact ⟨0,he⟩
theorem akk {base:Nat}:∀ (l:List AOper) {fr:List V} {H:Heap} {r:List V × Heap},je (fe CP) base l fr H=some r→∃ n,je (wu CP n) base l fr H=some r:=by
 intro l
 induction l with
 | nil=>intro fr H r he;exact ⟨0,he⟩
 | cons o l ih=>
   intro fr H r he;simp only [je] at he;split at he
   ·cases he
   ·rename_i hw;obtain ⟨n,hn⟩:=ih he
    exact ⟨n,by simp only [je,hw,hn]⟩
   ·rename_i hw;split at he
    ·rename_i v H1 h1;obtain ⟨n1,hn1⟩:=ao2 h1;obtain ⟨n2,hn2⟩:=ih he;refine ⟨max n1 n2,?_⟩;simp only [je,hw,amo (ve (ow n1 n2)) hn1];exact afw (ve (j6 n1 n2)) l hn2
    ·cases he
theorem au0 {bW:List V→Heap→Option St} {b:Nat→List V→Heap→Option St} (hmono:∀ n m,n≤m→∀ fr H r,b n fr H=some r→b m fr H=some r) (hb:∀ fr H r,bW fr H=some r→∃ n,b n fr H=some r) {kill:List Nat} {m:Nat}:
 ∀ (k:Nat) {fr:List V} {H:Heap} {r:St},ru bW kill m k fr H=some r→∃ n,ru (b n) kill m k fr H=some r:=by
 intro k
 induction k with
 | zero=>intro fr H r h;simp [ru] at h
 | succ k ih=>
   intro fr H r h;simp only [ru] at h;split at h
   ·rename_i fr1 H1 h1;obtain ⟨n1,hn1⟩:=hb _ _ _ h1;obtain ⟨n2,hn2⟩:=ih h;refine ⟨max n1 n2,?_⟩;simp only [ru,hmono _ _ (ow n1 n2) _ _ _ hn1];exact afv (hmono _ _ (j6 n1 n2)) (ag _) hn2
   ·rename_i e fr1 H1 hne h1;obtain ⟨n1,hn1⟩:=hb _ _ _ h1;refine ⟨n1,?_⟩;simp only [ru,hn1];cases e with
    | nrm=>exact (hne rfl).elim
    | ext id=>exact h
    | ret=>exact h
   ·cases h
noncomputable def evN (CP:Nat→Option CFun) (base:Nat) (ac:ACode) (n:Nat):List V→Heap→Option St:=evC (wu CP n) (itN n) base ac
theorem yn {base:Nat} {ac:ACode} {n m:Nat} (h:n≤m) {fr:List V} {H:Heap} {r:St} (he:evN CP base ac n fr H=some r):evN CP base ac m fr H=some r:=ahg (ve h) h ac he
theorem yc {base:Nat}:∀ (ac:ACode) {fr:List V} {H:Heap} {r:St},evC (fe CP) itW base ac fr H=some r→∃ n,evN CP base ac n fr H=some r:=by
 intro ac
 induction ac with
 | skip=>intro fr H r he;exact ⟨0,he⟩
 | regionE ops kill outs=>intro fr H r he;exact ⟨0,he⟩
 | region ops chk kill=>
   intro fr H r he;simp only [evC] at he;split at he
   ·rename_i fr1 H1 h1;obtain ⟨n,hn⟩:=akk ops h1;have hl:Le (wu CP n) (fe CP):=fun _ _ _ _ _ h=>atc h;refine ⟨n,?_⟩;simp only [evN,evC,hn];simp only [aou hl hn] at he;exact he
   ·cases he
 | seq a b iha ihb=>
   intro fr H r he;simp only [evC] at he;split at he
   ·rename_i fr1 H1 h1;obtain ⟨n1,hn1⟩:=iha h1;obtain ⟨n2,hn2⟩:=ihb he;refine ⟨max n1 n2,?_⟩;have k1:=yn (ow n1 n2) hn1;have k2:=yn (j6 n1 n2) hn2;simp only [evN,evC] at k1 ⊢;rw [k1];exact k2
   ·rename_i hne;obtain ⟨n,hn⟩:=iha he;refine ⟨n,?_⟩;simp only [evN,evC] at hn ⊢;rw [hn];split
    ·rename_i e;cases e;exact (hne _ _ he).elim
    ·rfl
 | cond o a b iha ihb=>
   intro fr H r he;simp only [evC] at he;split at he
   ·rename_i hc;obtain ⟨n,hn⟩:=iha he
    exact ⟨n,by simp only [evN,evC,hc];exact hn⟩
   ·rename_i hc;obtain ⟨n,hn⟩:=ihb he
    exact ⟨n,by simp only [evN,evC,hc];exact hn⟩
   ·cases he
 | block id a ih=>
   intro fr H r he;simp only [evC] at he;split at he
   ·rename_i id' fr1 H1 h1;obtain ⟨n,hn⟩:=ih h1
    exact ⟨n,by simp only [evN,evC] at hn ⊢;rw [hn];exact he⟩
   ·rename_i hne;obtain ⟨n,hn⟩:=ih he;refine ⟨n,?_⟩;simp only [evN,evC] at hn ⊢;rw [hn];split
    ·rename_i e;cases e;exact (hne _ _ _ he).elim
    ·rfl
 | loop kill a ih=>
   intro fr H r he;simp only [evC] at he;obtain ⟨k,hk⟩:=asu he;obtain ⟨n,hn⟩:=au0 (b:=evN CP base a) (fun n m h fr H r=>yn h) (fun fr H r=>ih) k hk;refine ⟨max n k,?_⟩;simp only [evN,evC];exact afv (fun fr H r h=>yn (ow n k) h) (j6 n k) hn
 | rangeFunc f ps a b _ _=>
   intro fr H r he;simp only [evC] at he;split at he
   ·rename_i k x y hf;split at he
    ·rename_i v H2 hc;obtain ⟨n,hn⟩:=acs hc;refine ⟨n,?_⟩;simp only [evN,evC,hf,hn];exact he
    ·cases he
   ·cases he
 | exit id=>intro fr H r he;exact ⟨0,he⟩
 | ret=>intro fr H r he;exact ⟨0,he⟩
theorem arw {v:V} {args:List V} {base:Nat} {H:Heap} {r:V × Heap} (he:uz CP (fe CP) itW v args base H=some r):∃ n,uz CP (wu CP n) (itN n) v args base H=some r:=by
 cases v <;> simp only [uz] at he ⊢ <;> first | (cases he;done) | skip
 case fn f x y=>
  split at he
  ·rename_i cf hcf;split at he
   ·rename_i fr1 H1 h1;obtain ⟨n,hn⟩:=yc _ h1;refine ⟨n,?_⟩;simp only [evN] at hn;simp only [hn];exact he
   ·rename_i fr1 H1 h1;obtain ⟨n,hn⟩:=yc _ h1;refine ⟨n,?_⟩;simp only [evN] at hn;simp only [hn];exact he
   ·cases he
  ·rename_i g hg;exact ⟨0,he⟩
  ·cases he
 case yld id=>
  split at he
  case isFalse=>cases he
  rename_i hb;split at he
  case h_2=>cases he
  rename_i hH;split at he
  case h_2=>cases he
  rename_i hset;split at he
  case h_2=>cases he
  rename_i h1;split at he
  case h_2=>cases he
  rename_i hH1;split at he
  case h_2=>cases he
  rename_i h2;obtain ⟨n1,hn1⟩:=yc _ h1;obtain ⟨n2,hn2⟩:=yc _ h2;have k1:=yn (ow n1 n2) hn1;have k2:=yn (j6 n1 n2) hn2;refine ⟨max n1 n2,?_⟩;simp only [evN] at k1 k2;simp only [hb,iq,hset,k1,hH1,k2];exact he
theorem zx {v:V} {args:List V} {base:Nat} {H:Heap} {r:V × Heap} (he:uz CP (fe CP) itW v args base H=some r):fe CP v args base H=some r:=by
 obtain ⟨n,hn⟩:=arw he;exact atc (n:=n+1) hn
theorem bb6 {b:List V→Heap→Option St} {k:List Nat} {m:Nat} {fr fr':List V} {H H':Heap} {r:St} (h1:b fr H=some (.nrm,fr',H')) (h2:itW b k m (oh k fr') (trim m (oh k fr') H')=some r):itW b k m fr H=some r:=by
 obtain ⟨n,hn⟩:=asu h2;refine ayf (n:=n+1) ?_;simp only [ru,h1];exact hn
theorem ast {b:List V→Heap→Option St} {k:List Nat} {m:Nat} {fr fr':List V} {H H':Heap} {e:Ex} (hne:e≠.nrm) (h1:b fr H=some (e,fr',H')):itW b k m fr H=some (e,oh k fr',trim m (oh k fr') H'):=by
 refine ayf (n:=1) ?_;simp only [ru,h1]
open Go.RowKit Go.ChangeShapes Go.WideShapes Go.ChangeAt
section
variable {P:Program} {pure':PX} {CP:Nat→Option CFun} {H:Type} {enc:TypeId × Value→H}
theorem a7r {w w':World} {may:MemPlace→Prop} (hk:∀ B,B < w.heap.size→w'.heap[B]?=w.heap[B]?) (ht:Tr (fun _ _=>none) w w'):w.keptBut w' may:=by
 refine ⟨ht.os,ht.output,fun i hi=>?_⟩;rw [hk i hi];cases w.heap[i]? with
 | none=>rfl
 | some o=>cases o <;> simp
theorem aw4 {f:Func} {s:ChangeSpec} {again:Bool} {W W':World} {args:Array Value} {v:Value} {ds gs:List (DataW H)} {before:List MemPlace}
 (hW:DataW.Whole enc P f.params.toList s.vars false W args.toList ds gs before) {pa pv:List MemPlace}
 (hres:∀ (b:Nat) (sp:Nat→Bool) (hd:Bool),DataW.TrodAll enc P W' b sp hd f.resultTypes.toList (v.resultList f.resultTypes.size) (s.fn H (ds ++ gs)).results [])
 (hargs:∀ sp:Nat→Bool,(∀ p∈before,sp p.block=true)→DataW.TrodAll enc P W' 0 sp true f.params.toList args.toList (s.fn H (ds ++ gs)).args pa)
 (hvars:∀ sp:Nat→Bool,(∀ p∈before,sp p.block=true)→DataW.TrodVars enc P W' sp s.vars (s.fn H (ds ++ gs)).vars pv)
 (hps:before=pa ++ pv) (hk:W.keptBut W' (·∈before)) (hfz:∀ b off,MemPlace.cell b off∈before→W'.frozen? ⟨b,off,none⟩=W.frozen? ⟨b,off,none⟩)
 (hok:∀ (j:Nat) (t:TypeId) (r:Value),f.resultTypes[j]?=some t→(v.resultList f.resultTypes.size)[j]?=some r→Value.okWide P W' .any 0 t r):
 s.post enc P f false true false again W args v W':=by
 have old:∀ p∈before,(fun b=>decide (b < W.heap.size)) p.block=true:=fun p hp=>by simpa using hW.lt p hp
 refine ⟨ds,gs,before,[],pa,pv,hW,hres _ _ _,hargs _ old,hvars _ old,World.keptBut_mono (fun p hp=>⟨hp,?_⟩) hk,fun _=>?_⟩
 ·rw [hps,jv] at hp;exact .inr hp
 ·obtain ⟨_,_,_,_,_,hz,_⟩:=hW
  refine ⟨hok,_,_,([] ++ pa) ++ pv,⟨[] ++ pa,pv,trodAll_append (hargs _ fun _ _=>rfl) (hres _ _ _),hvars _ fun _ _=>rfl,rfl,fun b off hp=>?_,fun h=>by cases h⟩,fun p hp _=>by rw [hps];simpa using hp⟩
  have hb:MemPlace.cell b off∈before:=by rw [hps];simpa using hp
  rw [hfz b off hb];exact hz b off hb
theorem aff {w w':World} {base:Nat} {sp:Nat→Bool} {held:Bool}:∀ {ts:List TypeId} {vs:List Value} {ds:List (DataW H)} {ps:List MemPlace},DataW.TrodAll enc P w base sp held ts vs ds ps→(∀ p∈ps,w.sameAt w' p)→DataW.TrodAll enc P w' base sp held ts vs ds ps
 | [],[],[],_,h,_=>h
 | _ :: _,_ :: _,_ :: _,_,⟨p,q,⟨n,h1⟩,h2,e⟩,hs=>⟨p,q,⟨n,DataW.trod_carry n _ _ _ h1 (fun x hx=>hs x (by rw [e];exact iy _ hx))⟩,aff h2 (fun x hx=>hs x (by rw [e];exact lm _ hx)),e⟩
theorem trodAll_length {w:World} {base:Nat} {sp:Nat→Bool} {held:Bool}:∀ {ts:List TypeId} {vs:List Value} {ds:List (DataW H)} {ps:List MemPlace},DataW.TrodAll enc P w base sp held ts vs ds ps→ds.length=ts.length
 | [],[],[],_,_=>rfl
 | _ :: _,_ :: _,_ :: _,_,⟨_,_,_,h2,_⟩=>by simp [trodAll_length h2]
theorem awl {w w':World} {p:MemPlace} (h:w'.heap[p.block]?=w.heap[p.block]?):w.sameAt w' p:=by
 cases p with
 | cell b off=>
   show w'.cell? ⟨b,off,none⟩=w.cell? ⟨b,off,none⟩;have h:w'.heap[b]?=w.heap[b]?:=h;simp only [World.cell?,h]
 | map b=>exact h
theorem aot (hmix:P.follows .mixedOrders=true) (hCP:∀ k c,CP k=some c→abe P pure' k c) (hl:laidOutB P=true) (hm:mapsRowed P=true)
 (hz:((List.range P.types.size).all fun t=>match P.underlying t with | some (.slice e)=>decide (0 < P.cellsOf e) | _=>true)=true)
 {k:Nat} {fn:Func} {s:ChangeSpec} {tb:TypeId} (hvars:s.vars=[]) (hres:fn.resultTypes=#[tb]) (htb:P.underlying tb=some .bool) (hpar:∀ t∈fn.params.toList,t < P.types.size)
 (hspec:∀ ds:List (DataW H),ds.length=fn.params.toList.length→s.fn H ds={ results:=[.lit (.bool true)],args:=ds })
 {W:World} {args:Array Value} {ds gs:List (DataW H)} {before:List MemPlace} (hW:DataW.Whole enc P fn.params.toList s.vars false W args.toList ds gs before)
 (hv:∃ vs,VRs (fun _ _=>none) (fun _=>False) W vs args.toList∧∃ n H',wu CP n (.fn k [] []) vs 0 []=some (bl true,H')) (hfx:∀ (B:Nat) (o:Array Value × TypeId × Nat × Nat),pure'.fx B=some o→W.heap[B]?=some (.cells o.1 o.2.1 o.2.2)):
 Calls P k args W fun e W'=>∃ v,e=.returned v∧s.post enc P fn false true false false W args v W':=by
 obtain ⟨vs,hvs,n,H',hc⟩:=hv;refine (ar0 hmix hCP hc hvs hfx).mono ?_;rintro e W' ⟨c,μ',Mt',rfl,hr,hk,htr⟩;have hcv:c=.bool true:=x9 hr;subst hcv;have hlt:=hW.lt;have hW0:=hW;obtain ⟨p,q,h1,h2,e1,h3,h4⟩:=hW;rw [hvars] at h2
 obtain ⟨rfl,rfl⟩:gs=[]∧q=[]:=by
  cases gs with
  | nil=>exact ⟨rfl,h2⟩
  | cons g gs=>exact h2.elim
 have hbp:before=p:=by simpa using e1
 have hds:=trodAll_length h1
 have hfn:s.fn H (ds ++ [])={ results:=[.lit (.bool true)],args:=ds }:=by rw [abp];exact hspec ds hds
 refine ⟨_,rfl,aw4 (pa:=before) (pv:=[]) hW0 (fun b sp hd=>?_) (fun sp hsp=>?_) (fun sp _=>?_) (by simp) (a7r hk htr) (fun b off hp=>?_) (ok_one hres rfl (okWide_bool_mk htb true))⟩
 ·rw [hfn,hres]
  exact ⟨[],[],⟨1,by simp [DataW.trod,Value.cells,htb]⟩,rfl,rfl⟩
 ·rw [hfn]
  have h5:=DataW.TrodAll.respare (kids_rows hl hm) (fun t e ht he=>slices_full_of P hz t e ht he) hpar h1 (spare':=sp) (fun x hx=>hsp x (by rw [hbp];exact hx))
  rw [hbp]
  exact aff h5 fun x hx=>awl (hk _ (hlt x (by rw [hbp];exact hx)))
 ·rw [hfn,hvars];rfl
 ·simp only [World.frozen?,hk b (hlt _ hp)]
end
theorem aup (p x y:Bool):alq (some (.s (.bool p))) (some (.s (.bool x))) (some (.s (.bool y)))=some (.s (.bool (bif p then x else y))):=by cases p <;> rfl
theorem auo (x y:Option V):alq (some (.s (.bool true))) x y=x:=rfl
theorem aqr (x y:Option V):alq (some (.s (.bool false))) x y=y:=rfl
theorem acm {fr:List V} {s:Nat} {v:V} (h:s < fr.length):(fr.set s v).getD s .unk=v:=by simp [h]
theorem abw {fr:List V} {s t:Nat} {v:V} (h:s≠t):(fr.set s v).getD t .unk=fr.getD t .unk:=by simp [h]
theorem z8 (fr:List V):oh [] fr=fr:=rfl
theorem ah4 {m:Nat} {fr:List V} {H:Heap} (h:H.length=m):trim m fr H=H:=by
 unfold trim;split
 ·rw [← h];exact az7
 ·rfl
inductive RI where
 | keep (g:List (Nat × Bool × E)) (e:E)
 | sub (src:Nat) (path slots:List Nat)
 | tt (i:Nat)
 | cc (v:V)
 deriving Inhabited
def ace:List Nat→List Nat→E→List (Nat × Bool × E) × E
 | [],_,e=>([],e)
 | i :: p,ss,.op _ xs=>ace p ss (xs.getD i (.c .unk))
 | 0 :: p,ss,.pick c _ _=>ace p ss c
 | 1 :: p,s :: ss,.pick c a _=>((s,true,c) :: (ace p ss a).1,(ace p ss a).2)
 | 2 :: p,s :: ss,.pick c _ b=>((s,false,c) :: (ace p ss b).1,(ace p ss b).2)
 | _,_,_=>([],.c .unk)
def aef:List RI→List (List (Nat × Bool × E) × E)
 | []=>[]
 | .keep g e :: r=>(g,e) :: aef r
 | _ :: r=>aef r
def frees:List RI→List E
 | []=>[]
 | .keep [] e :: r=>e :: frees r
 | _ :: r=>frees r
def RI.get (S:List E):RI→List (Nat × Bool × E) × E
 | .keep g e=>(g,e)
 | .sub s p ss=>ace p ss (S.getD s (.c .unk))
 | .tt i=>([],.t i)
 | .cc v=>([],.c v)
def akj (items:List RI) (os:List (Nat × E)):List (List (Nat × Bool × E) × E):=items.map (RI.get (os.map (·.2) ++ frees items))
theorem a3j {fr:List V} {H:Heap}:∀ {xs:List E} {i:Nat},(amq fr H xs).isSome=true→(evE fr H (xs.getD i (.c .unk))).isSome=true:=by
 intro xs
 induction xs with
 | nil=>intro i _;simp [evE]
 | cons x xs ih=>
   intro i h;simp only [amq] at h;cases hx:evE fr H x with
   | none=>simp [hx] at h
   | some v=>
     cases hs:amq fr H xs with
     | none=>simp [hx,hs] at h
     | some vs=>
       cases i with
       | zero=>simp [hx]
       | succ i=>simpa using ih (i:=i) (by rw [hs];rfl)
theorem agd {fr:List V} {H:Heap}:∀ (p ss:List Nat) (e:E),(evE fr H e).isSome=true→ahc fr H (ace p ss e).1 (ace p ss e).2=true:=by
 intro p
 induction p with
 | nil=>intro ss e h;simp only [ace,ahc];exact h
 | cons i p ih=>
   intro ss e h;cases e with
   | op o xs=>
     simp only [ace];refine ih _ _ (a3j ?_);simp only [evE] at h;cases hs:amq fr H xs with
     | none=>simp [hs] at h
     | some vs=>rfl
   | pick c a b=>
     simp only [evE] at h;cases hc:evE fr H c with
     | none=>simp [hc,alq] at h
     | some v=>
       rw [hc] at h
       match i,ss with
       | 0,ss=>simp only [ace];exact ih _ _ (by rw [hc];rfl)
       | 1,[]=>simp only [ace,ahc,evE];rfl
       | 2,[]=>simp only [ace,ahc,evE];rfl
       | 1,s :: ss=>
         simp only [ace,ahc,hc];unfold alq at h;split at h
         ·rename_i e;cases e;simp only [a07,iq];exact ih _ _ h
         ·rename_i e;cases e;simp [a07]
         ·cases h
       | 2,s :: ss=>
         simp only [ace,ahc,hc];unfold alq at h;split at h
         ·rename_i e;cases e;simp [a07]
         ·rename_i e;cases e;simp only [a07,iq];exact ih _ _ h
         ·cases h
       | i+3,ss=>simp only [ace,ahc,evE];rfl
   | t j=>simp only [ace,ahc,evE];rfl
   | c v=>simp only [ace,ahc,evE];rfl
theorem ant {fr:List V} {H:Heap}:∀ {os:List (Nat × E)} {f g:List V},yg fr H os f=some g→∀ p∈os,(evE fr H p.2).isSome=true:=by
 intro os
 induction os with
 | nil=>intro f g _ p hp;cases hp
 | cons q os ih=>
   intro f g h p hp;simp only [yg] at h;cases hq:evE fr H q.2 with
   | none=>simp [hq] at h
   | some v=>
     simp only [hq] at h
     rcases mf.1 hp with rfl | hp
     ·rw [hq];rfl
     ·exact ih h p hp
theorem aya:∀ {items:List RI} {g:List (Nat × Bool × E)} {e:E},RI.keep g e∈items→(g,e)∈aef items:=by
 intro items
 induction items with
 | nil=>intro g e h;cases h
 | cons x r ih=>
   intro g e h
   rcases mf.1 h with h2 | h2
   ·subst h2;simp [aef]
   ·have h3:=ih h2;clear h
    cases x <;> simp only [aef] <;> first | exact dn _ h3 | exact h3
theorem axv:∀ {items:List RI} {g:List (Nat × Bool × E)} {e:E},(g,e)∈aef items→RI.keep g e∈items:=by
 intro items
 induction items with
 | nil=>intro g e h;cases h
 | cons x r ih=>
   intro g e h;cases x with
   | keep g' e'=>
     simp only [aef] at h
     rcases mf.1 h with h | h
     ·cases h;exact fu
     ·exact dn _ (ih h)
   | _=>exact dn _ (ih h)
theorem ays:∀ {items:List RI} {e:E},e∈frees items→([],e)∈aef items:=by
 intro items
 induction items with
 | nil=>intro e h;cases h
 | cons x r ih=>
   intro e h;cases x with
   | keep g e'=>
     cases g with
     | nil=>
       simp only [frees] at h;simp only [aef]
       rcases mf.1 h with rfl | h
       ·exact fu
       ·exact dn _ (ih h)
     | cons a g=>simp only [frees] at h;simp only [aef];exact dn _ (ih h)
   | _=>exact ih h
theorem ao1 (m:Nat) (items:List RI) (os:List (Nat × E)) (kill:List Nat) (fr:List V) (H:Heap):
 rz (some (m,akj items os,os)) kill fr H=rz (some (m,aef items,os)) kill fr H:=by
 simp only [rz];by_cases hm:m≤fr.length
 ·rw [bi hm,bi hm];by_cases hk:(aef items).all (fun r=>ahc fr H r.1 r.2)=true
  ·rw [bi hk];cases hs:yg fr H os (oh kill fr) with
   | none=>split <;> rfl
   | some g=>
     rw [bi];rw [az];intro r hr;unfold akj at hr;rw [zh] at hr;obtain ⟨x,hx,rfl⟩:=hr;cases x with
     | keep gg e=>
       rw [az] at hk;exact hk _ (aya hx)
     | tt i=>rfl
     | cc v=>rfl
     | sub s p ss=>
       simp only [RI.get];by_cases hl:s < (os.map (·.2) ++ frees items).length
       ·have hd:(os.map (·.2) ++ frees items).getD s (.c .unk)=(os.map (·.2) ++ frees items)[s]:=by simp only [List.getD,List.getElem?_eq_getElem hl];rfl
        rw [hd]
        rcases jv.1 (qo hl) with h1 | h1
        ·rw [zh] at h1;obtain ⟨q,hq,e⟩:=h1;rw [← e];exact agd p ss _ (ant hs q hq)
        ·rw [az] at hk;have h5:=hk _ (ays h1)
         exact agd p ss _ (by simpa [ahc] using h5)
       ·have hd:(os.map (·.2) ++ frees items).getD s (.c .unk)=.c .unk:=by rw [List.getD,List.getElem?_eq_none (Nat.le_of_not_lt hl)];rfl
        rw [hd];exact agd (fr:=fr) (H:=H) p ss _ rfl
  ·rw [bu hk,bu];intro h;apply hk;rw [az] at h ⊢;intro r hr;obtain ⟨g,e⟩:=r;exact h _ (zh.2 ⟨_,axv hr,rfl⟩)
 ·rw [bu hm,bu hm]
theorem a0i {ops:List AOper} {kill outs:List Nat} {m:Nat} {items:List RI} {os:List (Nat × E)} (h:xw ops kill outs=some (m,akj items os,os)) (fr:List V) (H:Heap):
 rz (xw ops kill outs) kill fr H=rz (some (m,aef items,os)) kill fr H:=by rw [h,ao1]
abbrev Env:=List (Nat × V)
def ahw:Env→Nat→V
 | [],_=>.unk
 | (k,x) :: e,s=>if s=k then x else ahw e s
def a1d (s:Nat) (v:V):Env→Env
 | []=>[(s,v)]
 | (k,x) :: e=>if s=k then (s,v) :: e else if s < k then (s,v) :: (k,x) :: e else (k,x) :: a1d s v e
def zm (ks:List Nat):Env→Env
 | []=>[]
 | (k,x) :: e=>if ks.contains k then zm ks e else (k,x) :: zm ks e
def gp (n:Nat) (en:Env):List V:=(List.range n).map (ahw en)
theorem a2w (s t:Nat) (v:V):∀ en:Env,ahw (a1d s v en) t=if t=s then v else ahw en t:=by
 intro en
 induction en with
 | nil=>rfl
 | cons p e ih=>
   obtain ⟨k,x⟩:=p;simp only [a1d];split
   ·rename_i h;subst h;simp only [ahw];split <;> rfl
   ·split
    ·simp only [ahw]
    ·rename_i h1 h2;simp only [ahw,ih];by_cases h3:t=k
     ·subst h3;rw [bi rfl,bu (fun e=>h1 e.symm),bi rfl]
     ·rw [bu h3,bu h3]
theorem aym (ks:List Nat) (t:Nat):∀ en:Env,ahw (zm ks en) t=if ks.contains t then .unk else ahw en t:=by
 intro en
 induction en with
 | nil=>simp [zm,ahw]
 | cons p e ih=>
   obtain ⟨k,x⟩:=p;simp only [zm];by_cases h1:ks.contains k=true
   ·rw [bi h1,ih];split
    ·rfl
    ·rename_i h2;simp only [ahw];rw [bu];rintro rfl;exact h2 h1
   ·rw [bu h1];simp only [ahw,ih];by_cases h3:t=k
    ·subst h3;rw [bi rfl,bu h1,bi rfl]
    ·rw [bu h3,bu h3]
theorem qd (n:Nat) (en:Env):(gp n en).length=n:=by simp [gp]
theorem acn {n:Nat} {en:Env} {s:Nat} (h:s < n):(gp n en).getD s .unk=ahw en s:=by simp [gp,h]
theorem a8i {n:Nat} {en:Env} {fr:List V} (hl:fr.length=n) (h:∀ s,s < n→fr.getD s .unk=ahw en s):fr=gp n en:=by
 refine az9 (by rw [hl,qd]) fun i h1 h2=>?_
 have:=h i (by omega)
 simp only [gp,List.getElem_map,List.getElem_range];rw [← this];simp [h1]
theorem aml (n:Nat) (en:Env) (s:Nat) (v:V):(gp n en).set s v=gp n (a1d s v en):=by
 refine a8i (by rw [dh,qd]) fun t ht=>?_
 rw [a2w];split
 ·rename_i h;subst h;exact acm (by rw [qd];exact ht)
 ·rename_i h;rw [abw (fun e=>h e.symm),acn ht]
theorem ao0 (n:Nat) (en:Env) (ks:List Nat):oh ks (gp n en)=gp n (zm ks en):=by
 refine a8i (by rw [ui,qd]) fun t ht=>?_
 rw [aaq,aym];by_cases h:t∈ks
 ·rw [bi h,bi (by simpa using h)]
 ·rw [bu h,bu (by simpa using h),acn ht]
def qi (n:Nat):List V→Nat→Env
 | [],k=>(List.range' k (n - k)).map fun s=>(s,und)
 | v :: vs,k=>(k,v) :: qi n vs (k+1)
theorem agx (n:Nat):∀ (vs:List V) (k t:Nat),k≤t→t < n→vs.length+k≤n→ahw (qi n vs k) t=if t - k < vs.length then vs.getD (t - k) .unk else und:=by
 intro vs
 induction vs with
 | nil=>
   intro k t h1 h2 _;simp only [qi,gq,Nat.not_lt_zero,mg]
   have:∀ (m j:Nat),j≤t→t < j+m→ahw ((List.range' j m).map fun s=>(s,und)) t=und:=by
    intro m
    induction m with
    | zero=>intro j a b;omega
    | succ m ih=>
      intro j a b;simp only [List.range'_succ,oz,ahw];split
      ·rfl
      ·exact ih (j+1) (by omega) (by omega)
   exact this _ k h1 (by omega)
 | cons v vs ih=>
   intro k t h1 h2 h3;simp only [qi,ahw,bz] at h3 ⊢;split
   ·rename_i h;subst h;simp
   ·rename_i h
    rw [ih (k+1) t (by omega) h2 (by omega)]
    obtain ⟨d,hd⟩:∃ d,t - k=d+1:=⟨t - k - 1,by omega⟩
    have:t - (k+1)=d:=by omega
    rw [hd,this];simp only [Nat.add_lt_add_iff_right,gy]
theorem start_eq {n:Nat} {vs:List V} (h:vs.length≤n):vs ++ List.replicate (n - vs.length) und=gp n (qi n vs 0):=by
 refine a8i (by simp;omega) fun t ht=>?_
 rw [agx n vs 0 t (jg _) ht (by omega)]
 split
 ·rename_i h1;simp at h1;simp only [List.getD,List.getElem?_append_left h1,akt]
 ·rename_i h1;simp at h1;simp only [List.getD,List.getElem?_append_right h1,List.getElem?_replicate]
  rw [bi (by omega)]
  rfl
theorem a2x (s:Nat):ahw [] s=.unk:=rfl
theorem ayn (k:Nat) (x:V) (e:Env) (s:Nat):ahw ((k,x) :: e) s=if s=k then x else ahw e s:=rfl
theorem a1c (s:Nat) (v:V):a1d s v []=[(s,v)]:=rfl
theorem aw3 (s:Nat) (v:V) (k:Nat) (x:V) (e:Env):a1d s v ((k,x) :: e)=if s=k then (s,v) :: e else if s < k then (s,v) :: (k,x) :: e else (k,x) :: a1d s v e:=rfl
theorem ax9 (ks:List Nat):zm ks []=[]:=rfl
theorem auz (ks:List Nat) (k:Nat) (x:V) (e:Env):zm ks ((k,x) :: e)=if ks.contains k then zm ks e else (k,x) :: zm ks e:=rfl
theorem bb7 (b:List V→Heap→Option St) (k:List Nat) (m:Nat) (fr:List V) (H:Heap):itW b k m fr H=match b fr H with
 | some (.nrm,fr',H')=>itW b k m (oh k fr') (trim m (oh k fr') H')
 | some (e,fr',H')=>some (e,oh k fr',trim m (oh k fr') H')
 | none=>none:=by
 cases hb:b fr H with
 | none=>
   simp only [];cases hi:itW b k m fr H with
   | none=>rfl
   | some r=>
     obtain ⟨n,hn⟩:=asu hi;cases n with
     | zero=>simp [ru] at hn
     | succ n=>simp [ru,hb] at hn
 | some r=>
   obtain ⟨e,fr',H'⟩:=r;cases e with
   | nrm=>
     simp only [];cases hi:itW b k m (oh k fr') (trim m (oh k fr') H') with
     | some r=>exact bb6 hb hi
     | none=>
       cases hj:itW b k m fr H with
       | none=>rfl
       | some r=>
         obtain ⟨n,hn⟩:=asu hj;cases n with
         | zero=>simp [ru] at hn
         | succ n=>
           simp only [ru,hb] at hn;rw [ayf hn] at hi;cases hi
   | ext id=>exact ast (by simp) hb
   | ret=>exact ast (by simp) hb
noncomputable def ahm (call:kz) (it:yw) (base:Nat) (b:ACode):Option St→Option St
 | some (.nrm,fr,H)=>evC call it base b fr H
 | r=>r
def a5h (id:Nat):Option St→Option St
 | some (.ext id',fr,H)=>some (if id'=id then .nrm else .ext id',fr,H)
 | r=>r
noncomputable def condC (call:kz) (it:yw) (base:Nat) (a b:ACode) (fr:List V) (H:Heap):V→Option St
 | .s (.bool p)=>bif p then evC call it base a fr H else evC call it base b fr H
 | _=>none
def rowC (H:Heap):Option (List V)→Option St
 | some fr=>some (.nrm,fr,H)
 | none=>none
def opsK (kill:List Nat) (chk:List V→Bool):Option (List V × Heap)→Option St
 | some (fr,H)=>bif chk fr then some (.nrm,oh kill fr,H) else none
 | none=>none
def az3 (chk:List (Nat × Nat)) (ops:List AOper) (kill:List Nat):Option (List V × Heap)→Option St
 | some (fr,H)=>bif chk.all (ag4 ops fr) then some (.nrm,oh kill fr,H) else none
 | none=>none
section
variable {call:kz} {it:yw} {base:Nat}
theorem a3t (fr:List V) (H:Heap):evC call it base .skip fr H=some (.nrm,fr,H):=rfl
theorem a3v (id:Nat) (fr:List V) (H:Heap):evC call it base (.exit id) fr H=some (.ext id,fr,H):=rfl
theorem a8s (fr:List V) (H:Heap):evC call it base .ret fr H=some (.ret,fr,H):=rfl
theorem a8p (a b:ACode) (fr:List V) (H:Heap):evC call it base (.seq a b) fr H=ahm call it base b (evC call it base a fr H):=rfl
theorem ay6 (id:Nat) (c:ACode) (fr:List V) (H:Heap):evC call it base (.block id c) fr H=a5h id (evC call it base c fr H):=rfl
theorem a3w (c:Opd) (a b:ACode) (fr:List V) (H:Heap):evC call it base (.cond c a b) fr H=condC call it base a b fr H (ev fr c):=by
 simp only [evC];cases ev fr c with
 | s v=>cases v with
   | bool p=>cases p <;> rfl
   | _=>rfl
 | _=>rfl
theorem a3u (kill:List Nat) (c:ACode) (fr:List V) (H:Heap):evC call it base (.loop kill c) fr H=it (evC call it base c) kill H.length (oh kill fr) H:=rfl
theorem a8q (ops:List AOper) (kill outs:List Nat) (fr:List V) (H:Heap):evC call it base (.regionE ops kill outs) fr H=rowC H (rz (xw ops kill outs) kill fr H):=rfl
theorem evC_ops (ops:List AOper) (kill:List Nat) (fr:List V) (H:Heap):evC call it base (.region ops [] kill) fr H=az3 [] ops kill (je call base ops fr H):=by
 simp only [evC];cases je call base ops fr H with
 | none=>rfl
 | some p=>rfl
theorem as7 {ops:List AOper} {chk:List (Nat × Nat)} {kill:List Nat} {fr:List V} {H:Heap} {fr':List V} {H':Heap} (h:je call base ops fr H=some (fr',H')) (hc:chk.all (aa1 call base ops fr H fr')=true):evC call it base (.region ops chk kill) fr H=some (.nrm,oh kill fr',H'):=by
 simp only [evC,h,hc,iq]
theorem ao6 {ops:List AOper} {chk:List (Nat × Nat)} {kill:List Nat} {fr:List V} {H:Heap} {fr':List V} {H':Heap} (h:je call base ops fr H=some (fr',H')) (hc:chk.all (ag4 ops fr')=true):evC call it base (.region ops chk kill) fr H=some (.nrm,oh kill fr',H'):=by
 refine as7 h ?_;rw [az] at hc ⊢;intro p hp;simp only [aa1,hc p hp,ak0]
theorem anp (b:ACode) (fr:List V) (H:Heap):ahm call it base b (some (.nrm,fr,H))=evC call it base b fr H:=rfl
theorem avz (b:ACode) (i:Nat) (fr:List V) (H:Heap):ahm call it base b (some (.ext i,fr,H))=some (.ext i,fr,H):=rfl
theorem avy (b:ACode) (fr:List V) (H:Heap):ahm call it base b (some (.ret,fr,H))=some (.ret,fr,H):=rfl
theorem atr (b:ACode):ahm call it base b none=none:=rfl
theorem att (b:ACode) (p:Bool) (x y:Option St):ahm call it base b (bif p then x else y)=bif p then ahm call it base b x else ahm call it base b y:=by cases p <;> rfl
theorem a1t (id:Nat) (fr:List V) (H:Heap):a5h id (some (.nrm,fr,H))=some (.nrm,fr,H):=rfl
theorem a1s (id:Nat) (fr:List V) (H:Heap):a5h id (some (.ret,fr,H))=some (.ret,fr,H):=rfl
theorem a1u (id i:Nat) (fr:List V) (H:Heap):a5h id (some (.ext i,fr,H))=some (if i=id then .nrm else .ext i,fr,H):=rfl
theorem axf (id:Nat):a5h id none=none:=rfl
theorem axg (id:Nat) (p:Bool) (x y:Option St):a5h id (bif p then x else y)=bif p then a5h id x else a5h id y:=by cases p <;> rfl
theorem ave (a b:ACode) (fr:List V) (H:Heap) (p:Bool):condC call it base a b fr H (.s (.bool p))=bif p then evC call it base a fr H else evC call it base b fr H:=rfl
theorem awr (H:Heap) (fr:List V):rowC H (some fr)=some (.nrm,fr,H):=rfl
theorem aof (ops:List AOper) (kill:List Nat) (fr:List V) (H:Heap):az3 [] ops kill (some (fr,H))=some (.nrm,oh kill fr,H):=rfl
end
def a0j (fr:List V) (H:Heap) (os:List (Nat × E)) (kill:List Nat) (r:Bool):Option (List V):=bif r then yg fr H os (oh kill fr) else none
def outE (fr:List V) (H:Heap) (os:List (Nat × E)) (fr':List V) (s:Nat):Option V→Option (List V)
 | some v=>yg fr H os (fr'.set s v)
 | none=>none
theorem ark {m:Nat} {R:List (List (Nat × Bool × E) × E)} {os:List (Nat × E)} {kill:List Nat} {fr:List V} {H:Heap} (h:m≤fr.length):rz (some (m,R,os)) kill fr H=a0j fr H os kill (R.all fun r=>ahc fr H r.1 r.2):=by
 simp only [rz,bi h,a0j];cases R.all fun r=>ahc fr H r.1 r.2 <;> rfl
theorem atu (fr:List V) (H:Heap) (os:List (Nat × E)) (kill:List Nat):a0j fr H os kill true=yg fr H os (oh kill fr):=rfl
theorem ap3 (fr:List V) (H:Heap) (fr':List V):yg fr H [] fr'=some fr':=rfl
theorem anv (fr:List V) (H:Heap) (s:Nat) (e:E) (os:List (Nat × E)) (fr':List V):yg fr H ((s,e) :: os) fr'=outE fr H os fr' s (evE fr H e):=rfl
theorem axe (fr:List V) (H:Heap) (os:List (Nat × E)) (fr':List V) (s:Nat) (v:V):outE fr H os fr' s (some v)=yg fr H os (fr'.set s v):=rfl
theorem a06 (fr:List V) (H:Heap) (e:E):ahc fr H [] e=(evE fr H e).isSome:=rfl
theorem awx (fr:List V) (H:Heap) (s:Nat) (b:Bool) (x:E) (G:List (Nat × Bool × E)) (e:E):ahc fr H ((s,b,x) :: G) e=a07 (evE fr H x) b (ahc fr H G e):=rfl
theorem awy (p b r:Bool):a07 (some (.s (.bool p))) b r=bif p == b then r else true:=by cases p <;> cases b <;> cases r <;> rfl
def V1 (f:V→Option V):Option V→Option V
 | some x=>f x
 | none=>none
def V2 (f:V→V→Option V):Option V→Option V→Option V
 | some x,some y=>f x y
 | _,_=>none
theorem a9g (f:V→Option V) (x:V):V1 f (some x)=f x:=rfl
theorem a9f (f:V→V→Option V) (x y:V):V2 f (some x) (some y)=f x y:=rfl
theorem evE_t (fr:List V) (H:Heap) (i:Nat):evE fr H (.t i)=some (fr.getD i .unk):=rfl
theorem a8n (fr:List V) (H:Heap) (v:V):evE fr H (.c v)=some v:=rfl
theorem a3k (fr:List V) (H:Heap) (c a b:E):evE fr H (.pick c a b)=alq (evE fr H c) (evE fr H a) (evE fr H b):=rfl
def aas (op:BinOp):V→V→Option V
 | .s a,.s b=>(aeh op a b).map .s
 | _,_=>none
def baz (neg:Bool):V→V→Option V
 | .s (.bool a),.s (.bool b)=>some (bl ((a == b) != neg))
 | _,_=>none
def xEqP (H:Heap) (neg:Bool):V→V→Option V
 | .ref i g _,.ref j h _=>if i=j then none else match getC H i g,getC H j h with
   | some _,some _=>some (bl neg)
   | _,_=>none
 | _,_=>none
def aai (k:NK) (neg:Bool) (x:V):Option V:=(x.isNil k).map fun b=>bl (b != neg)
def afe (neg:Bool) (ls:List Leaf):V→V→Option V
 | .agg xs,.agg ys=>(mh ls xs ys).map fun b=>bl (b != neg)
 | _,_=>none
def xUn (op:UnOp) (x:V):Option V:=match op,x with
 | .not,.s (.bool b)=>some (bl (!b))
 | .neg,.s (.int k n)=>some (.s (.int k (k.wrap (0 - n))))
 | .xor,.s (.int k n)=>(aeh .xor (.int k (if k.signed then -1 else k.max)) (.int k n)).map .s
 | _,_=>none
def a6c (k:IntKind):V→Option V
 | .s (.int _ n)=>some (.s (.int k (k.wrap n)))
 | _=>none
def apo:V→Option V
 | .s (.string b)=>some (.s (.string b))
 | _=>none
def abz:V→Option V
 | .ref id g off=>some (.ref id g off)
 | .pref cs=>some (.pref cs)
 | .fn f a b=>some (.fn f a b)
 | .yld id=>some (.yld id)
 | _=>none
def yj (off:Nat):V→Option V
 | .ref id g o=>some (.ref id g (o+off))
 | .pref cs=>if off≤cs.length then some (.pref (cs.drop off)) else none
 | _=>none
def anm (g:Bool) (off n:Nat):V→Option V
 | .agg cs=>if ((cs.drop off).take n).length=n then shut g ((cs.drop off).take n) else none
 | _=>none
def pz (sz:Nat):V→V→Option V
 | .sl id g off len sz',.s (.int _ n)=>if 0≤n∧n < len∧sz'=sz then some (.ref id g (off+n.toNat * sz)) else none
 | .psl es sz',.s (.int _ n)=>if 0≤n∧sz'=sz then (es[n.toNat]?).map .pref else none
 | _,_=>none
def yz:V→V→Option V
 | .s (.string b),.s (.int _ n)=>if 0≤n then (b.data.toList[n.toNat]?).map fun c=>.s (.int .u8 c.toNat) else none
 | _,_=>none
def afd (i:Nat):V→Option V
 | .tup vs=>vs[i]?
 | _=>none
def ak2 (H:Heap):NK→V→Option V
 | .p,.s (.string b)=>some (i64 b.size)
 | .s,.s (.slice none 0 0)=>some (i64 0)
 | .m,.s (.map none)=>some (i64 0)
 | .s,.esl=>some (i64 0)
 | .s,.psl es _=>some (i64 es.length)
 | .s,.sl _ _ _ len _=>some (i64 len)
 | .m,.mp id=>match H[id]? with
   | some (.map es)=>some (i64 es.length)
   | _=>none
 | _,_=>none
def aeo (H:Heap) (kind:TypeDesc) (zero:V) (ok:Bool) (m k:V):Option V:=(ja (fun _ _ _ _=>none) 0 [m,k] H (.mapGet kind zero (.t 0) (.t 1) ok)).map (·.1)
def abq (mx:Bool):V→V→Option V
 | .s (.int k a),.s (.int k' b)=>if k=k' then some (.s (.int k (if mx then (if a < b then b else a) else (if b < a then b else a)))) else none
 | _,_=>none
def xh (H:Heap) (g:Bool) (n:Nat) (a:V):Option V:=aa0 H g n a
def aca (H:Heap) (o:AOp):Option (List V)→Option V
 | some vs=>(ja (fun _ _ _ _=>none) 0 vs H o).map (·.1)
 | none=>none
def L1 (x:Option V) (xs:Option (List V)):Option (List V):=match x,xs with
 | some v,some vs=>some (v :: vs)
 | _,_=>none
theorem a9k (v:V) (vs:List V):L1 (some v) (some vs)=some (v :: vs):=rfl
section
variable (fr:List V) (H:Heap) (x y:E)
theorem afx:amq fr H []=some []:=rfl
theorem aab (xs:List E):amq fr H (x :: xs)=L1 (evE fr H x) (amq fr H xs):=by
 simp only [amq];cases evE fr H x <;> cases amq fr H xs <;> rfl
theorem ahf (o:AOp) (xs:List E):evE fr H (.op o xs)=aca H o (amq fr H xs):=by
 simp only [evE];cases amq fr H xs with
 | none=>rfl
 | some vs=>simp only [aca];cases ja (fun _ _ _ _=>none) 0 vs H o <;> rfl
theorem op1 {o:AOp} {f:V→Option V} (h:∀ v,aca H o (some [v])=f v):evE fr H (.op o [x])=V1 f (evE fr H x):=by
 rw [ahf,aab,afx];cases evE fr H x with
 | none=>rfl
 | some v=>exact h v
theorem op2 {o:AOp} {f:V→V→Option V} (h:∀ v u,aca H o (some [v,u])=f v u):evE fr H (.op o [x,y])=V2 f (evE fr H x) (evE fr H y):=by
 rw [ahf,aab,aab,afx];cases evE fr H x with
 | none=>rfl
 | some v=>cases evE fr H y with
   | none=>rfl
   | some u=>exact h v u
theorem a7j {o:AOp} {f:V→V→Option V} {c:V} (h:∀ v,aca H o (some [v,c])=f v c):evE fr H (.op o [x,.c c])=V2 f (evE fr H x) (some c):=by
 rw [ahf,aab,aab,afx,a8n];cases evE fr H x with
 | none=>rfl
 | some v=>exact h v
theorem a7i {o:AOp} {f:V→V→Option V} {c:V} (h:∀ v,aca H o (some [c,v])=f c v):evE fr H (.op o [.c c,y])=V2 f (some c) (evE fr H y):=by
 rw [ahf,aab,aab,afx,a8n];cases evE fr H y with
 | none=>rfl
 | some v=>exact h v
theorem a8o (op:BinOp):evE fr H (.op (.bin op (.t 0) (.t 1)) [x,y])=V2 (aas op) (evE fr H x) (evE fr H y):=op2 _ _ _ _ fun v u=>by
 cases v <;> first | rfl | (cases u <;> first | rfl | (simp only [aca,ja,ev,gm,gy,aas];cases aeh op _ _ <;> rfl))
theorem a3s (op:BinOp) (c:V):evE fr H (.op (.bin op (.t 0) (.c c)) [x,.c c])=V2 (aas op) (evE fr H x) (some c):=a7j _ _ _ fun v=>by
 cases v <;> first | rfl | (cases c <;> first | rfl | (simp only [aca,ja,ev,gm,gy,aas];cases aeh op _ _ <;> rfl))
theorem a3r (op:BinOp) (c:V):evE fr H (.op (.bin op (.c c) (.t 1)) [.c c,y])=V2 (aas op) (some c) (evE fr H y):=a7i _ _ _ fun v=>by
 cases c <;> first | rfl | (cases v <;> first | rfl | (simp only [aca,ja,ev,gm,gy,aas];cases aeh op _ _ <;> rfl))
theorem a8m (n:Bool):evE fr H (.op (.eqB n (.t 0) (.t 1)) [x,y])=V2 (baz n) (evE fr H x) (evE fr H y):=op2 _ _ _ _ fun v u=>by
 cases v <;> first | rfl | (rename_i q;cases q <;> first | rfl | (cases u <;> first | rfl | (rename_i p;cases p <;> rfl)))
theorem a3p (n:Bool) (c:V):evE fr H (.op (.eqB n (.t 0) (.c c)) [x,.c c])=V2 (baz n) (evE fr H x) (some c):=a7j _ _ _ fun v=>by
 cases v <;> first | rfl | (rename_i q;cases q <;> first | rfl | (cases c <;> first | rfl | (rename_i p;cases p <;> rfl)))
theorem a3o (n:Bool) (c:V):evE fr H (.op (.eqB n (.c c) (.t 1)) [.c c,y])=V2 (baz n) (some c) (evE fr H y):=a7i _ _ _ fun v=>by
 cases c <;> first | rfl | (rename_i q;cases q <;> first | rfl | (cases v <;> first | rfl | (rename_i p;cases p <;> rfl)))
theorem ay3 (n:Bool) (ls:List Leaf):evE fr H (.op (.eqAgg n ls (.t 0) (.t 1)) [x,y])=V2 (afe n ls) (evE fr H x) (evE fr H y):=op2 _ _ _ _ fun v u=>by
 cases v <;> first | rfl | (cases u <;> first | rfl | (simp only [aca,ja,ev,gm,gy,afe];cases mh ls _ _ <;> rfl))
theorem au9 (n:Bool) (ls:List Leaf) (c:V):evE fr H (.op (.eqAgg n ls (.t 0) (.c c)) [x,.c c])=V2 (afe n ls) (evE fr H x) (some c):=a7j _ _ _ fun v=>by
 cases v <;> first | rfl | (cases c <;> first | rfl | (simp only [aca,ja,ev,gm,gy,afe];cases mh ls _ _ <;> rfl))
theorem au8 (n:Bool) (ls:List Leaf) (c:V):evE fr H (.op (.eqAgg n ls (.c c) (.t 1)) [.c c,y])=V2 (afe n ls) (some c) (evE fr H y):=a7i _ _ _ fun v=>by
 cases c <;> first | rfl | (cases v <;> first | rfl | (simp only [aca,ja,ev,gm,gy,afe];cases mh ls _ _ <;> rfl))
theorem amt (sz:Nat):evE fr H (.op (.indexAddr sz (.t 0) (.t 1)) [x,y])=V2 (pz sz) (evE fr H x) (evE fr H y):=op2 _ _ _ _ fun v u=>by
 cases v <;> first | rfl | (cases u <;> first | rfl | (rename_i q;cases q <;> first | rfl | (simp only [aca,ja,ev,gm,gy,pz];split <;> first | rfl | (split <;> rename_i e <;> simp [e]))))
theorem ajz (sz:Nat) (c:V):evE fr H (.op (.indexAddr sz (.t 0) (.c c)) [x,.c c])=V2 (pz sz) (evE fr H x) (some c):=a7j _ _ _ fun v=>by
 cases v <;> first | rfl | (cases c <;> first | rfl | (rename_i q;cases q <;> first | rfl | (simp only [aca,ja,ev,gm,gy,pz];split <;> first | rfl | (split <;> rename_i e <;> simp [e]))))
theorem ajy (sz:Nat) (c:V):evE fr H (.op (.indexAddr sz (.c c) (.t 1)) [.c c,y])=V2 (pz sz) (some c) (evE fr H y):=a7i _ _ _ fun v=>by
 cases c <;> first | rfl | (cases v <;> first | rfl | (rename_i q;cases q <;> first | rfl | (simp only [aca,ja,ev,gm,gy,pz];split <;> first | rfl | (split <;> rename_i e <;> simp [e]))))
theorem ao4:evE fr H (.op (.indexStr (.t 0) (.t 1)) [x,y])=V2 (yz) (evE fr H x) (evE fr H y):=op2 _ _ _ _ fun v u=>by
 cases v <;> first | rfl | (rename_i q;cases q <;> first | rfl | (cases u <;> first | rfl | (rename_i p;cases p <;> first | rfl | (simp only [aca,ja,ev,gm,gy,yz];split <;> first | rfl | (split <;> rename_i e <;> simp [e])))))
theorem ams (c:V):evE fr H (.op (.indexStr (.t 0) (.c c)) [x,.c c])=V2 (yz) (evE fr H x) (some c):=a7j _ _ _ fun v=>by
 cases v <;> first | rfl | (rename_i q;cases q <;> first | rfl | (cases c <;> first | rfl | (rename_i p;cases p <;> first | rfl | (simp only [aca,ja,ev,gm,gy,yz];split <;> first | rfl | (split <;> rename_i e <;> simp [e])))))
theorem amr (c:V):evE fr H (.op (.indexStr (.c c) (.t 1)) [.c c,y])=V2 (yz) (some c) (evE fr H y):=a7i _ _ _ fun v=>by
 cases c <;> first | rfl | (rename_i q;cases q <;> first | rfl | (cases v <;> first | rfl | (rename_i p;cases p <;> first | rfl | (simp only [aca,ja,ev,gm,gy,yz];split <;> first | rfl | (split <;> rename_i e <;> simp [e])))))
theorem au6 (mx:Bool):evE fr H (.op (.minmax mx (.t 0) (.t 1)) [x,y])=V2 (abq mx) (evE fr H x) (evE fr H y):=op2 _ _ _ _ fun v u=>by
 cases v <;> first | rfl | (rename_i q;cases q <;> first | rfl | (cases u <;> first | rfl | (rename_i p;cases p <;> first | rfl | (simp only [aca,ja,ev,gm,gy,abq];split <;> rfl))))
theorem arq (mx:Bool) (c:V):evE fr H (.op (.minmax mx (.t 0) (.c c)) [x,.c c])=V2 (abq mx) (evE fr H x) (some c):=a7j _ _ _ fun v=>by
 cases v <;> first | rfl | (rename_i q;cases q <;> first | rfl | (cases c <;> first | rfl | (rename_i p;cases p <;> first | rfl | (simp only [aca,ja,ev,gm,gy,abq];split <;> rfl))))
theorem arp (mx:Bool) (c:V):evE fr H (.op (.minmax mx (.c c) (.t 1)) [.c c,y])=V2 (abq mx) (some c) (evE fr H y):=a7i _ _ _ fun v=>by
 cases c <;> first | rfl | (rename_i q;cases q <;> first | rfl | (cases v <;> first | rfl | (rename_i p;cases p <;> first | rfl | (simp only [aca,ja,ev,gm,gy,abq];split <;> rfl))))
theorem au7 (kd:TypeDesc) (z:V) (ok:Bool):evE fr H (.op (.mapGet kd z (.t 0) (.t 1) ok) [x,y])=V2 (aeo H kd z ok) (evE fr H x) (evE fr H y):=op2 _ _ _ _ fun v u=>by
 rfl
theorem aru (kd:TypeDesc) (z:V) (ok:Bool) (c:V):evE fr H (.op (.mapGet kd z (.t 0) (.c c) ok) [x,.c c])=V2 (aeo H kd z ok) (evE fr H x) (some c):=a7j _ _ _ fun v=>by
 rfl
theorem art (kd:TypeDesc) (z:V) (ok:Bool) (c:V):evE fr H (.op (.mapGet kd z (.c c) (.t 1) ok) [.c c,y])=V2 (aeo H kd z ok) (some c) (evE fr H y):=a7i _ _ _ fun v=>by
 rfl
theorem ao3:evE fr H (.op (.nilCheck (.t 0)) [x])=V1 (abz) (evE fr H x):=op1 _ _ _ fun v=>by
 cases v <;> rfl
theorem ay2 (k:NK) (n:Bool):evE fr H (.op (.eqNil k n (.t 0)) [x])=V1 (aai k n) (evE fr H x):=op1 _ _ _ fun v=>by
 simp only [aca,ja,ev,gm,aai];cases V.isNil k v <;> rfl
theorem bcc (op:UnOp):evE fr H (.op (.un op (.t 0)) [x])=V1 (xUn op) (evE fr H x):=op1 _ _ _ fun v=>by
 cases op <;> first | (cases v <;> first | rfl | (rename_i q;cases q <;> first | rfl | (simp only [aca,ja,ev,gm,xUn];cases aeh _ _ _ <;> rfl)))
theorem a3q (k:IntKind):evE fr H (.op (.conv k (.t 0)) [x])=V1 (a6c k) (evE fr H x):=op1 _ _ _ fun v=>by
 cases v <;> first | rfl | (rename_i q;cases q <;> rfl)
theorem ava:evE fr H (.op (.convId (.t 0)) [x])=V1 (apo) (evE fr H x):=op1 _ _ _ fun v=>by
 cases v <;> first | rfl | (rename_i q;cases q <;> rfl)
theorem amu (off:Nat):evE fr H (.op (.fieldAddr off (.t 0)) [x])=V1 (yj off) (evE fr H x):=op1 _ _ _ fun v=>by
 cases v <;> first | rfl | (simp only [aca,ja,ev,gm,yj];split <;> rfl)
theorem ay1 (g:Bool) (off n:Nat):evE fr H (.op (.field g off n (.t 0)) [x])=V1 (anm g off n) (evE fr H x):=op1 _ _ _ fun v=>by
 cases v <;> first | rfl | (simp only [aca,ja,ev,gm,anm];split <;> first | rfl | (cases shut g _ <;> rfl))
theorem arv (i:Nat):evE fr H (.op (.extract (.t 0) i) [x])=V1 (afd i) (evE fr H x):=op1 _ _ _ fun v=>by
 cases v <;> first | rfl | (simp only [aca,ja,ev,gm,afd];split <;> rename_i e <;> simp [e])
theorem a3n (k:NK):evE fr H (.op (.lenS k (.t 0)) [x])=V1 (ak2 H k) (evE fr H x):=op1 _ _ _ fun v=>by
 cases k <;> cases v <;> first | rfl | (rename_i q;cases q <;> first | rfl | (rename_i a;cases a <;> rfl) | (rename_i a b c;cases a <;> first | rfl | (cases b <;> first | rfl | (cases c <;> rfl)))) | (rename_i j;simp only [aca,ja,ev,gm,ak2];generalize H[j]?=o;cases o <;> first | rfl | (rename_i ob;cases ob <;> rfl))
theorem a3m (g:Bool) (n:Nat):evE fr H (.op (.load g n (.t 0)) [x])=V1 (xh H g n) (evE fr H x):=op1 _ _ _ fun v=>by
 simp only [aca,ja,ev,gm,xh];cases aa0 H g n v <;> rfl
theorem ay4 (z:List V) (p:List (Nat × Nat)) (ps:List (Nat × Opd)) (xs:List E):evE fr H (.op (.build z p ps) xs)=aca H (.build z p ps) (amq fr H xs):=ahf _ _ _ _
theorem a3l (f:Nat) (a b:List Opd) (xs:List E):evE fr H (.op (.mkFn f a b) xs)=aca H (.mkFn f a b) (amq fr H xs):=ahf _ _ _ _
theorem au5 (a:Opd) (lo hi:Option Opd) (xs:List E):evE fr H (.op (.subStr a lo hi) xs)=aca H (.subStr a lo hi) (amq fr H xs):=ahf _ _ _ _
theorem ay0 (sz:Nat) (a:Opd) (lo hi mx:Option Opd) (xs:List E):evE fr H (.op (.subSl sz a lo hi mx) xs)=aca H (.subSl sz a lo hi mx) (amq fr H xs):=ahf _ _ _ _
end
theorem arl {m:Nat} {os:List (Nat × E)} {kill:List Nat} {fr:List V} {H:Heap} (h:m≤fr.length):rz (some (m,[],os)) kill fr H=yg fr H os (oh kill fr):=by
 simp only [rz,bi h,jc,iq]
theorem a3c {m:Nat} {os:List (Nat × E)} {kill:List Nat} {n:Nat} {en:Env} {H:Heap} (h:m≤n):rz (some (m,[],os)) kill (gp n en) H=yg (gp n en) H os (gp n (zm kill en)):=by
 rw [arl (by rw [qd];exact h),ao0]
theorem a2m {m:Nat} {R:List (List (Nat × Bool × E) × E)} {os:List (Nat × E)} {kill:List Nat} {n:Nat} {en:Env} {H:Heap} (h:m≤n):rz (some (m,R,os)) kill (gp n en) H=a0j (gp n en) H os kill (R.all fun r=>ahc (gp n en) H r.1 r.2):=by
 rw [ark (by rw [qd];exact h)]
noncomputable def stepW (b:List V→Heap→Option St) (k:List Nat) (m:Nat):Option St→Option St
 | some (.nrm,fr',H')=>itW b k m (oh k fr') (trim m (oh k fr') H')
 | some (e,fr',H')=>some (e,oh k fr',trim m (oh k fr') H')
 | none=>none
theorem nu (b:List V→Heap→Option St) (k:List Nat) (m:Nat) (fr:List V) (H:Heap):itW b k m fr H=stepW b k m (b fr H):=by
 rw [bb7];cases b fr H with
 | none=>rfl
 | some r=>obtain ⟨e,f,h⟩:=r;cases e <;> rfl
section
variable (b:List V→Heap→Option St) (k:List Nat) (m:Nat)
theorem ada (fr:List V) (H:Heap):stepW b k m (some (.nrm,fr,H))=itW b k m (oh k fr) (trim m (oh k fr) H):=rfl
theorem anr (i:Nat) (fr:List V) (H:Heap):stepW b k m (some (.ext i,fr,H))=some (.ext i,oh k fr,trim m (oh k fr) H):=rfl
theorem anq (fr:List V) (H:Heap):stepW b k m (some (.ret,fr,H))=some (.ret,oh k fr,trim m (oh k fr) H):=rfl
theorem atx (p:Bool) (x y:Option St):stepW b k m (bif p then x else y)=bif p then stepW b k m x else stepW b k m y:=by cases p <;> rfl
end
theorem avw (fr:List V) (H:Heap):trim H.length fr H=H:=ah4 rfl
def a6o (rs:List ARes):Option St→Option (V × Heap)
 | some (.nrm,fr,H)=>(qc rs fr H).map fun v=>(v,H)
 | some (.ret,fr,H)=>(qc rs fr H).map fun v=>(v,H)
 | _=>none
theorem a01 (rs:List ARes) (fr:List V) (H:Heap):a6o rs (some (.nrm,fr,H))=(qc rs fr H).map fun v=>(v,H):=rfl
theorem a00 (rs:List ARes) (fr:List V) (H:Heap):a6o rs (some (.ret,fr,H))=(qc rs fr H).map fun v=>(v,H):=rfl
theorem aws (rs:List ARes) (p:Bool) (x y:Option St):a6o rs (bif p then x else y)=bif p then a6o rs x else a6o rs y:=by cases p <;> rfl
theorem a03 (t:ARes) (fr:List V) (H:Heap):qc [t] fr H=ahb fr H t:=by
 simp only [qc,lg,ati];cases ahb fr H t <;> rfl
theorem a02 (t u:ARes) (fr:List V) (H:Heap):qc [t,u] fr H=match ahb fr H t,ahb fr H u with | some x,some y=>some (.tup [x,y]) | _,_=>none:=by
 simp only [qc,lg,ati];cases ahb fr H t <;> cases ahb fr H u <;> rfl
theorem a04 (t:Nat) (fr:List V) (H:Heap):ahb fr H (.tmp t)=some (fr.getD t .unk):=rfl
theorem awu (t:Nat) (g:Bool) (n:Nat) (fr:List V) (H:Heap):ahb fr H (.cell t g n)=aa0 H g n (fr.getD t .unk):=rfl
theorem ng {CP:Nat→Option CFun} {f:Nat} {c:ACFun} (hf:CP f=some (.code c)) {fst args cap:List V} (hl:(fst ++ args ++ cap).length≤c.ntmps) {base:Nat} {H:Heap} {r:V × Heap}
 (h:a6o c.results (evC (fe CP) itW base c.body (gp c.ntmps (qi c.ntmps (fst ++ args ++ cap) 0)) H)=some r):fe CP (.fn f fst cap) args base H=some r:=by
 refine zx ?_;simp only [uz,hf];rw [start_eq hl];cases he:evC (fe CP) itW base c.body (gp c.ntmps (qi c.ntmps (fst ++ args ++ cap) 0)) H with
 | none=>rw [he] at h;cases h
 | some s=>
   rw [he] at h;obtain ⟨e,f2,H2⟩:=s;cases e <;> exact h
theorem apv (n:Nat) (v:V) (vs:List V) (k:Nat):qi n (v :: vs) k=(k,v) :: qi n vs (k+1):=rfl
def opK (call:kz) (base:Nat) (o:AOper) (os:List AOper) (fr:List V) (H:Heap):Option Bool→Option (List V × Heap)
 | some true=>match ja call base fr H o.op with
   | some (v,H')=>je call base os (put o.dst v fr) H'
   | none=>none
 | some false=>je call base os (put o.dst und fr) H
 | none=>none
def a9o (call:kz) (base:Nat) (d:Option Nat) (os:List AOper) (fr:List V):Option (V × Heap)→Option (List V × Heap)
 | some (v,H')=>je call base os (put d v fr) H'
 | none=>none
def avs (b:Bool):V→Option Bool
 | .s (.bool x)=>some (x == b)
 | .s (.tuple _)=>some false
 | _=>none
section
variable {call:kz} {base:Nat}
theorem ayx (fr:List V) (H:Heap):je call base [] fr H=some (fr,H):=rfl
theorem au4 (d:Option Nat) (op:AOp) (os:List AOper) (fr:List V) (H:Heap):je call base (⟨d,op,none⟩ :: os) fr H=a9o call base d os fr (ja call base fr H op):=by
 simp only [je,want];cases ja call base fr H op <;> rfl
theorem arn (d:Option Nat) (op:AOp) (t:Nat) (b:Bool) (os:List AOper) (fr:List V) (H:Heap):je call base (⟨d,op,some (t,b)⟩ :: os) fr H=opK call base ⟨d,op,some (t,b)⟩ os fr H (avs b (fr.getD t .unk)):=by
 have:want ⟨d,op,some (t,b)⟩ fr=avs b (fr.getD t .unk):=by
  simp only [want];cases fr.getD t .unk with
  | s v=>cases v <;> rfl
  | _=>rfl
 simp only [je,this];cases avs b (fr.getD t .unk) with
 | none=>rfl
 | some p=>cases p <;> rfl
theorem a15 (d:Option Nat) (op:AOp) (g:Option (Nat × Bool)) (os:List AOper) (fr:List V) (H:Heap) (p:Bool):opK call base ⟨d,op,g⟩ os fr H (some p)=bif p then a9o call base d os fr (ja call base fr H op) else je call base os (put d und fr) H:=by
 cases p
 ·rfl
 ·simp only [opK];cases ja call base fr H op <;> rfl
theorem atq (b x:Bool):avs b (.s (.bool x))=some (x == b):=rfl
theorem avr (b:Bool):avs b und=some false:=rfl
theorem awv (d:Option Nat) (os:List AOper) (fr:List V) (v:V) (H:Heap):a9o call base d os fr (some (v,H))=je call base os (put d v fr) H:=rfl
theorem a1a (d:Nat) (v:V) (n:Nat) (en:Env):put (some d) v (gp n en)=gp n (a1d d v en):=aml n en d v
theorem a1b (v:V) (fr:List V):put none v fr=fr:=rfl
theorem aww (d:Option Nat) (os:List AOper) (fr:List V) (p:Bool) (x y:Option (V × Heap)):a9o call base d os fr (bif p then x else y)=bif p then a9o call base d os fr x else a9o call base d os fr y:=by cases p <;> rfl
theorem axj (chk:List (Nat × Nat)) (ops:List AOper) (kill:List Nat) (p:Bool) (x y:Option (List V × Heap)):az3 chk ops kill (bif p then x else y)=bif p then az3 chk ops kill x else az3 chk ops kill y:=by cases p <;> rfl
end
theorem ev_t (fr:List V) (i:Nat):ev fr (.t i)=fr.getD i .unk:=rfl
theorem ev_c (fr:List V) (v:V):ev fr (.c v)=v:=rfl
def a6v (H:Heap) (x y:V):V→Option (V × Heap)
 | .s (.bool p)=>bif p then some (x,H) else some (y,H)
 | _=>none
theorem ayy (call:kz) (base:Nat) (fr:List V) (H:Heap) (c a b:Opd):ja call base fr H (.pick c a b)=a6v H (ev fr a) (ev fr b) (ev fr c):=by
 simp only [ja];cases ev fr c with
 | s v=>cases v with
   | bool p=>cases p <;> rfl
   | _=>rfl
 | _=>rfl
theorem aun (H:Heap) (x y:V) (p:Bool):a6v H x y (.s (.bool p))=bif p then some (x,H) else some (y,H):=rfl
theorem aum (H:Heap) (x y:Bool) (p:Bool):a6v H (.s (.bool x)) (.s (.bool y)) (.s (.bool p))=some (.s (.bool (bif p then x else y)),H):=by cases p <;> rfl
def RH (H:Heap):Option V→Option (V × Heap)
 | some v=>some (v,H)
 | none=>none
theorem a9i (H:Heap) (v:V):RH H (some v)=some (v,H):=rfl
def RS:Option Heap→Option (V × Heap)
 | some H=>some (und,H)
 | none=>none
theorem a9h (H:Heap):RS (some H)=some (und,H):=rfl
section
variable (call:kz) (base:Nat) (fr:List V) (H:Heap) (x y:Opd)
theorem bbo (op:BinOp):ja call base fr H (.bin op x y)=RH H (aas op (ev fr x) (ev fr y)):=by
 simp only [ja];generalize ev fr x=v;generalize ev fr y=u
 cases v <;> first | rfl | (cases u <;> first | rfl | (simp only [aas];cases aeh op _ _ <;> rfl))
theorem bbm (n:Bool):ja call base fr H (.eqB n x y)=RH H (baz n (ev fr x) (ev fr y)):=by
 simp only [ja];generalize ev fr x=v;generalize ev fr y=u
 cases v <;> first | rfl | (rename_i q;cases q <;> first | rfl | (cases u <;> first | rfl | (rename_i p;cases p <;> rfl)))
theorem bbl (n:Bool):ja call base fr H (.eqP n x y)=RH H (xEqP H n (ev fr x) (ev fr y)):=by
 simp only [ja];generalize ev fr x=v;generalize ev fr y=u
 cases v <;> first | rfl | (cases u <;> first | rfl | skip)
 rename_i i g _ j h _;simp only [xEqP];split
 ·rfl
 ·cases getC H i g with
  | none=>rfl
  | some c=>cases getC H j h <;> rfl
theorem a1z (n:Bool) (ls:List Leaf):ja call base fr H (.eqAgg n ls x y)=RH H (afe n ls (ev fr x) (ev fr y)):=by
 simp only [ja];generalize ev fr x=v;generalize ev fr y=u
 cases v <;> first | rfl | (cases u <;> first | rfl | (simp only [afe];cases mh ls _ _ <;> rfl))
theorem aog (sz:Nat):ja call base fr H (.indexAddr sz x y)=RH H (pz sz (ev fr x) (ev fr y)):=by
 simp only [ja];generalize ev fr x=v;generalize ev fr y=u
 cases v <;> first | rfl | (cases u <;> first | rfl | (rename_i q;cases q <;> first | rfl | (simp only [pz];split <;> first | rfl | (split <;> rename_i e <;> simp [e,RH]))))
theorem aqw:ja call base fr H (.indexStr x y)=RH H (yz (ev fr x) (ev fr y)):=by
 simp only [ja];generalize ev fr x=v;generalize ev fr y=u
 cases v <;> first | rfl | (rename_i q;cases q <;> first | rfl | (cases u <;> first | rfl | (rename_i p;cases p <;> first | rfl | (simp only [yz];split <;> first | rfl | (split <;> rename_i e <;> simp [e,RH])))))
theorem axk (mx:Bool):ja call base fr H (.minmax mx x y)=RH H (abq mx (ev fr x) (ev fr y)):=by
 simp only [ja];generalize ev fr x=v;generalize ev fr y=u
 cases v <;> first | rfl | (rename_i q;cases q <;> first | rfl | (cases u <;> first | rfl | (rename_i p;cases p <;> first | rfl | (simp only [abq];split <;> rfl))))
theorem aqv:ja call base fr H (.nilCheck x)=RH H (abz (ev fr x)):=by
 simp only [ja];generalize ev fr x=v;cases v <;> rfl
theorem a1y (k:NK) (n:Bool):ja call base fr H (.eqNil k n x)=RH H (aai k n (ev fr x)):=by
 simp only [ja];generalize ev fr x=v;simp only [aai];cases V.isNil k v <;> rfl
theorem op_un (op:UnOp):ja call base fr H (.un op x)=RH H (xUn op (ev fr x)):=by
 simp only [ja];generalize ev fr x=v
 cases op <;> first | (cases v <;> first | rfl | (rename_i q;cases q <;> first | rfl | (simp only [xUn];cases aeh _ _ _ <;> rfl)))
theorem a7d (k:IntKind):ja call base fr H (.conv k x)=RH H (a6c k (ev fr x)):=by
 simp only [ja];generalize ev fr x=v
 cases v <;> first | rfl | (rename_i q;cases q <;> rfl)
theorem axn:ja call base fr H (.convId x)=RH H (apo (ev fr x)):=by
 simp only [ja];generalize ev fr x=v
 cases v <;> first | rfl | (rename_i q;cases q <;> rfl)
theorem aoh (off:Nat):ja call base fr H (.fieldAddr off x)=RH H (yj off (ev fr x)):=by
 simp only [ja];generalize ev fr x=v
 cases v <;> first | rfl | (simp only [yj];split <;> rfl)
theorem a1x (g:Bool) (off n:Nat):ja call base fr H (.field g off n x)=RH H (anm g off n (ev fr x)):=by
 simp only [ja];generalize ev fr x=v
 cases v <;> first | rfl | (simp only [anm];split <;> first | rfl | (cases shut g _ <;> rfl))
theorem aus (i:Nat):ja call base fr H (.extract x i)=RH H (afd i (ev fr x)):=by
 simp only [ja];generalize ev fr x=v
 cases v <;> first | rfl | (simp only [afd];split <;> rename_i e <;> simp [e,RH])
theorem a7c (k:NK):ja call base fr H (.lenS k x)=RH H (ak2 H k (ev fr x)):=by
 cases k <;> (simp only [ja];generalize ev fr x=v;cases v <;> first | rfl | (rename_i q;cases q <;> first | rfl | (rename_i a;cases a <;> rfl) | (rename_i a b c;cases a <;> first | rfl | (cases b <;> first | rfl | (cases c <;> rfl)))) | (rename_i j;simp only [ak2];generalize H[j]?=o;cases o <;> first | rfl | (rename_i ob;cases ob <;> rfl)))
theorem a7b (g:Bool) (n:Nat):ja call base fr H (.load g n x)=RH H (xh H g n (ev fr x)):=by
 simp only [ja];generalize ev fr x=v;simp only [xh];cases aa0 H g n v <;> rfl
theorem axl (kd:TypeDesc) (z:V) (ok:Bool):ja call base fr H (.mapGet kd z x y ok)=RH H (aeo H kd z ok (ev fr x) (ev fr y)):=by
 have h:∀ r,ja call base fr H (.mapGet kd z x y ok)=some r→r.2=H:=fun r h=>by obtain ⟨v,H'⟩:=r;exact (ahe rfl h).1
 have h2:ja (fun _ _ _ _=>none) 0 [ev fr x,ev fr y] H (.mapGet kd z (.t 0) (.t 1) ok)=ja call base fr H (.mapGet kd z x y ok):=rfl;simp only [aeo,h2];cases hr:ja call base fr H (.mapGet kd z x y ok) with
 | none=>rfl
 | some r=>obtain ⟨v,H'⟩:=r;have:=h _ hr;simp only at this;subst this;rfl
theorem a6z:ja call base fr H (.move x)=some (ev fr x,H):=rfl
theorem a14 (z:List V):ja call base fr H (.alloc z)=some (.ref H.length 0 0,H ++ [.cells 0 z]):=rfl
theorem bbn:ja call base fr H (.box x)=if (ev fr x).cells.all V.one then some (.ref H.length 0 0,H ++ [.cells 0 (ev fr x).cells]) else none:=rfl
theorem ai1:ja call base fr H .mapNew=some (.mp H.length,H ++ [.map []]):=rfl
theorem a1w (n:Nat):ja call base fr H (.store n x y)=RS (ag9 H base n (ev fr y) (ev fr x)):=by
 simp only [ja];cases ag9 H base n (ev fr y) (ev fr x) <;> rfl
theorem a7a (f:Nat) (a b:List Opd):ja call base fr H (.mkFn f a b)=some (.fn f (a.map (ev fr)) (b.map (ev fr)),H):=rfl
theorem a7f (sz bytes:Nat):ja call base fr H (.appR sz bytes x y)=oo H H.length sz bytes (ev fr x) (ev fr y):=rfl
theorem axo (sz bytes:Nat):ja call base fr H (.append sz bytes x y)=oo H base sz bytes (ev fr x) (ev fr y):=rfl
theorem a7e (args:List Opd):ja call base fr H (.call x args)=call (ev fr x) (args.map (ev fr)) base H:=rfl
theorem a11 (args:List Opd):ja call base fr H (.callR x args)=call (ev fr x) (args.map (ev fr)) H.length H:=rfl
theorem a13 (z:List V) (places:List (Nat × Nat)) (parts:List (Nat × Opd)):ja call base fr H (.build z places parts)=RH H ((aaf (places[·]?) z (parts.map fun p=>(p.1,ev fr p.2))).map .agg):=by
 simp only [ja];cases aaf (places[·]?) z (parts.map fun p=>(p.1,ev fr p.2)) <;> rfl
def bbv (H:Heap) (sz len:Nat):Option (List V)→Option (V × Heap)
 | some cs=>some (if len=0 then .esl else .sl H.length 0 0 len sz,H ++ [.cells 0 cs])
 | none=>none
theorem auu (sz len:Nat) (cs:List V):bbv H sz len (some cs)=some (if len=0 then .esl else .sl H.length 0 0 len sz,H ++ [.cells 0 cs]):=rfl
theorem aut (sz len:Nat) (z:List V) (parts:List (Nat × Opd)):ja call base fr H (.buildSl sz len z parts)=bbv H sz len (aaf (fun i=>some (i * sz,sz)) z (parts.map fun p=>(p.1,ev fr p.2))):=by
 simp only [ja];cases aaf (fun i=>some (i * sz,sz)) z (parts.map fun p=>(p.1,ev fr p.2)) <;> rfl
end
section
variable {call:kz} {it:yw} {base:Nat}
def AgD (D:List Nat) (f g:List V):Prop:=f.length=g.length∧∀ s,s ∉ D→f.getD s .unk=g.getD s .unk
def readsIn (o:AOper) (D:List Nat):Bool:=o.reads.any D.contains
def less (D:List Nat) (d:Option Nat):List Nat:=match d with
 | some d=>D.filter (· != d)
 | none=>D
def ayi:List Nat→List AOper→Option (List Nat)
 | D,[]=>some D
 | D,o :: os=>if readsIn o D then none else ayi (less D o.dst) os
theorem a5b {D:List Nat} {f g:List V} (h:AgD D f g) (d:Option Nat) (v:V):AgD (less D d) (put d v f) (put d v g):=by
 cases d with
 | none=>exact h
 | some d=>
   refine ⟨by simp only [put,dh];exact h.1,fun s hs=>?_⟩
   simp only [put];by_cases e:s=d
   ·subst e;by_cases hl:s < f.length
    ·rw [acm hl,acm (h.1 ▸ hl)]
    ·rw [abd (by omega),abd (by have:=h.1;omega)]
     simp [List.getD,hl,h.1 ▸ hl]
   ·rw [abw (fun e'=>e e'.symm),abw (fun e'=>e e'.symm)];refine h.2 s fun hD=>hs ?_;simp only [less,List.mem_filter,ol,ne_eq];exact ⟨hD,e⟩
theorem a3i:∀ (ops:List AOper) (D D':List Nat) (f g:List V) (H:Heap),ayi D ops=some D'→AgD D f g→
 (je call base ops f H=none∧je call base ops g H=none)∨∃ f' g' H',je call base ops f H=some (f',H')∧je call base ops g H=some (g',H')∧AgD D' f' g':=by
 intro ops
 induction ops with
 | nil=>intro D D' f g H h ha;cases h;exact .inr ⟨f,g,H,rfl,rfl,ha⟩
 | cons o os ih=>
   intro D D' f g H h ha;simp only [ayi] at h;split at h
   ·cases h
   ·rename_i hr
    have hrd:∀ s∈o.reads,f.getD s .unk=g.getD s .unk:=fun s hs=>ha.2 s fun hD=>hr (by
     unfold readsIn;rw [a0a];exact ⟨s,hs,by simpa using hD⟩)
    have hw:=ab2 hrd;have hc:ja call base f H o.op=ja call base g H o.op:=ad8 _ fun x hx=>adg hx hrd;simp only [je,hw,hc];cases want o g with
    | none=>exact .inl ⟨rfl,rfl⟩
    | some b=>
      cases b with
      | false=>exact ih _ _ _ _ _ h (a5b ha _ _)
      | true=>
        simp only [];cases ja call base g H o.op with
        | none=>exact .inl ⟨rfl,rfl⟩
        | some r=>obtain ⟨v,H'⟩:=r;exact ih _ _ _ _ _ h (a5b ha _ _)
theorem ax8 {D ks:List Nat} {f g:List V} (h:AgD D f g) (hk:D.all ks.contains=true):oh ks f=oh ks g:=by
 refine az9 (by rw [ui,ui,h.1]) fun i h1 h2=>?_
 have e:(oh ks f).getD i .unk=(oh ks g).getD i .unk:=by
  rw [aaq,aaq];split
  ·rfl
  ·rename_i hi;refine h.2 i fun hD=>hi ?_;rw [az] at hk
   simpa using hk i hD
 simpa [List.getD,h1,h2] using e
def mq (D:List Nat):ACode→Bool
 | .seq a _=>mq D a
 | .region ops [] kill=>match ayi D ops with
   | some D'=>D'.all kill.contains
   | none=>false
 | .cond c a b=>(c.slots.all fun s=>!D.contains s) && mq D a && mq D b
 | .block _ c=>mq D c
 | .loop kill _=>D.all kill.contains
 | _=>false
theorem zn {D:List Nat}:∀ (c:ACode) {f g:List V} (H:Heap),mq D c=true→AgD D f g→evC call it base c f H=evC call it base c g H:=by
 intro c
 induction c with
 | seq a b iha _=>intro f g H h ha;simp only [evC,iha H h ha]
 | block id c ih=>intro f g H h ha;simp only [evC,ih H h ha]
 | cond o a b iha ihb=>
   intro f g H h ha;simp only [mq,au] at h
   have:ev f o=ev g o:=by
    cases o with
    | c v=>rfl
    | t s=>exact ha.2 s (by simpa [Opd.slots] using h.1.1)
   simp only [evC,this,iha H h.1.2 ha,ihb H h.2 ha]
 | loop kill c _=>intro f g H h ha;simp only [evC,ax8 ha h]
 | region ops chk kill=>
   intro f g H h ha;cases chk with
   | cons _ _=>cases h
   | nil=>
     simp only [mq] at h;split at h
     ·rename_i D' hD
      rcases a3i (call:=call) (base:=base) ops D D' f g H hD ha with ⟨e1,e2⟩ | ⟨f',g',H',e1,e2,ha'⟩
      ·simp only [evC,e1,e2]
      ·simp only [evC,e1,e2,ax8 ha' h];rfl
     ·cases h
 | _=>intro f g H h;cases h
end
def yl:List V→Nat→Env
 | [],_=>[]
 | v :: vs,k=>(k,v) :: yl vs (k+1)
theorem aty (k:Nat):yl [] k=[]:=rfl
theorem apw (v:V) (vs:List V) (k:Nat):yl (v :: vs) k=(k,v) :: yl vs (k+1):=rfl
theorem aja:∀ (vs:List V) (k t:Nat),k≤t→t < k+vs.length→ahw (yl vs k) t=vs.getD (t - k) .unk:=by
 intro vs
 induction vs with
 | nil=>intro k t h1 h2;simp at h2;omega
 | cons v vs ih=>
   intro k t h1 h2;simp only [yl,ahw,bz] at h2 ⊢;split
   ·rename_i h;subst h;simp
   ·rw [ih (k+1) t (by omega) (by omega)]
    obtain ⟨d,hd⟩:∃ d,t - k=d+1:=⟨t - k - 1,by omega⟩
    have:t - (k+1)=d:=by omega
    rw [hd,this];rfl
theorem mr {CP:Nat→Option CFun} {f:Nat} {c:ACFun} (hf:CP f=some (.code c)) {fst args cap:List V} {k:Nat} (hk:(fst ++ args ++ cap).length=k) (hl:k≤c.ntmps) (hfirst:mq (List.range' k (c.ntmps - k)) c.body=true) {base:Nat} {H:Heap} {r:V × Heap}
 (h:a6o c.results (evC (fe CP) itW base c.body (gp c.ntmps (yl (fst ++ args ++ cap) 0)) H)=some r):fe CP (.fn f fst cap) args base H=some r:=by
 refine ng hf (by omega) ?_
 rw [zn c.body H hfirst (g:=gp c.ntmps (yl (fst ++ args ++ cap) 0))]
 ·exact h
 ·refine ⟨by rw [qd,qd],fun s hs=>?_⟩
  by_cases hn:s < c.ntmps
  ·rw [acn hn,acn hn]
   have hs':s < k:=by
    apply Nat.lt_of_not_le;intro h;apply hs;rw [List.mem_range']
    exact ⟨s - k,by omega,by omega⟩
   rw [agx _ _ 0 s (jg _) hn (by omega),bi (by omega),aja _ 0 s (jg _) (by omega)]
  ·simp [gp,List.getD,hn]
section
variable (call:kz) (it:yw) (base:Nat)
noncomputable def bbb (b:List AOper) (kill:List Nat) (H:Heap):Option (List V)→Option St→Option St
 | some f,_=>evC call it base (.region b [] kill) f H
 | none,o=>o
noncomputable def bdp (H:Heap):Option (List V)→Option St→Option St
 | some f,_=>some (.nrm,f,H)
 | none,o=>o
noncomputable def ae2 (ops:List AOper) (kill:List Nat) (f:List V) (H:Heap):Option St:=evC call it base (.region ops [] kill) f H
theorem anx (b:List AOper) (kill:List Nat) (H:Heap) (f:List V) (o:Option St):bbb call it base b kill H (some f) o=evC call it base (.region b [] kill) f H:=rfl
theorem anw (H:Heap) (f:List V) (o:Option St):bdp H (some f) o=some (.nrm,f,H):=rfl
noncomputable def apb (k:List Nat) (b:List AOper) (kill:List Nat):Bool:=match ayi k b with
 | some D=>D.all kill.contains
 | none=>false
theorem ajf:∀ (a b:List AOper) (f:List V) (H:Heap),je call base (a ++ b) f H=match je call base a f H with
 | some (f',H')=>je call base b f' H'
 | none=>none:=by
 intro a
 induction a with
 | nil=>intro b f H;rfl
 | cons o os ih=>
   intro b f H;simp only [ah,je];cases want o f with
   | none=>rfl
   | some p=>
     cases p with
     | false=>exact ih _ _ _
     | true=>
       simp only [];cases ja call base f H o.op with
       | none=>rfl
       | some r=>exact ih _ _ _
theorem a9a (k:List Nat) (f:List V):AgD k f (oh k f):=⟨(ui k f).symm,fun s hs=>by rw [aaq,bu hs]⟩
theorem an4 {k kill:List Nat} {b:List AOper} (h:apb k b kill=true) (f:List V) (H:Heap):evC call it base (.region b [] kill) f H=evC call it base (.region b [] kill) (oh k f) H:=by
 refine zn (D:=k) (.region b [] kill) H ?_ (a9a k f);unfold apb at h;simp only [mq];exact h
theorem a5a (c d:List AOper) {kc kill:List Nat} (h:apb kc d kill=true) (f:List V) (H:Heap):evC call it base (.region (c ++ d) [] kill) f H=ahm call it base (.region d [] kill) (evC call it base (.region c [] kc) f H):=by
 have e1:evC call it base (.region (c ++ d) [] kill) f H=match je call base c f H with
  | some (f',H')=>evC call it base (.region d [] kill) f' H'
  | none=>none:=by
  simp only [evC,ajf];cases je call base c f H <;> rfl
 rw [e1,evC_ops];cases je call base c f H with
 | none=>rfl
 | some r=>
   obtain ⟨f',H'⟩:=r;simp only [aof,anp];exact an4 call it base h f' H'
theorem awq (a b:List AOper) {ka oa kill:List Nat} (h:apb ka b kill=true) (f:List V) (H:Heap):evC call it base (.region (a ++ b) [] kill) f H=bbb call it base b kill H (rz (xw a ka oa) ka f H) (ae2 call it base (a ++ b) kill f H):=by
 cases ht:rz (xw a ka oa) ka f H with
 | none=>rfl
 | some f2=>
   obtain ⟨f1,h1,h2⟩:=ab4 (call:=call) (base:=base) ht
   have e1:evC call it base (.region (a ++ b) [] kill) f H=evC call it base (.region b [] kill) f1 H:=by
    simp only [evC,ajf,h1];cases je call base b f1 H <;> rfl
   rw [e1,anx,← h2,an4 call it base h]
theorem a0z (a:List AOper) {oa kill:List Nat} (f:List V) (H:Heap):evC call it base (.region a [] kill) f H=bdp H (rz (xw a kill oa) kill f H) (ae2 call it base a kill f H):=by
 cases ht:rz (xw a kill oa) kill f H with
 | none=>rfl
 | some f2=>
   obtain ⟨f1,h1,h2⟩:=ab4 (call:=call) (base:=base) ht;simp only [anw,evC,h1,h2,jc,iq]
theorem aqo (ops:List AOper) (kill:List Nat) (f:List V) (H:Heap):evC call it base (.region ops [] kill) f H=az3 [] ops kill (je call base ops f H):=evC_ops ops kill f H
end
def Rd (H:Heap) (v:V) (l:List V):Prop:=(∀ b,v≠.s (.string b))∧elems H 1 v=some (l.length,l)
theorem Rd.nil (H:Heap):Rd H nk []:=⟨fun _ h=>(by cases h),rfl⟩
theorem Rd.esl (H:Heap):Rd H .esl []:=⟨fun _ h=>(by cases h),rfl⟩
theorem Rd.sl {H:Heap} {id g:Nat} {c:List V} (h:getC H id g=some c) {off n:Nat} (hn:off+n≤c.length):Rd H (.sl id g off n 1) ((c.drop off).take n):=by
 refine ⟨fun _ h=>by (cases h),?_⟩
 have:((c.drop off).take n).length=n:=by simp;omega
 simp only [elems,iq,h,aek,this]
theorem Rd.cases {H:Heap} {v:V} {l:List V} (h:Rd H v l):(l=[]∧(v=nk∨v=.esl))∨(∃ es,v=.psl es 1∧es.flatten=l∧es.length=l.length)∨∃ id g off n c,v=.sl id g off n 1∧getC H id g=some c∧(c.drop off).take n=l∧n=l.length:=by
 obtain ⟨h1,h2⟩:=h;unfold elems at h2;split at h2
 ·simp only [dx,ah1] at h2;exact .inl ⟨h2.2.symm,.inl rfl⟩
 ·simp only [dx,ah1] at h2;exact .inl ⟨h2.2.symm,.inr rfl⟩
 ·rename_i es sz;split at h2
  ·rename_i hz;subst hz;simp only [dx,ah1] at h2;exact .inr (.inl ⟨es,rfl,h2.2,h2.1⟩)
  ·cases h2
 ·rename_i id g off len sz;split at h2
  ·rename_i hz;subst hz;split at h2
   ·rename_i c hc;simp only [aek] at h2;split at h2
    ·simp only [dx,ah1] at h2;exact .inr (.inr ⟨id,g,off,len,c,rfl,hc,h2.2,h2.1⟩)
    ·cases h2
   ·cases h2
  ·cases h2
 ·cases h2
theorem Rd.len {H:Heap} {v:V} {l:List V} (h:Rd H v l):ak2 H .s v=some (.s (.int .i64 l.length)):=by
 rcases h.cases with ⟨rfl,rfl | rfl⟩ | ⟨es,rfl,_,e⟩ | ⟨id,g,off,n,c,rfl,_,_,e⟩
 ·rfl
 ·rfl
 ·simp only [ak2,e];rfl
 ·simp only [ak2,e];rfl
theorem as4 {H G:Heap} {id g:Nat} {c:List V} (h:getC H id g=some c):getC (H ++ G) id g=some c:=by
 unfold getC at h ⊢;split at h
 ·rename_i g' c' hh;rw [List.getElem?_append_left (List.getElem?_eq_some_iff.1 hh).1,hh];exact h
 ·cases h
theorem Rd.app {H:Heap} {v:V} {l:List V} (h:Rd H v l) (G:Heap):Rd (H ++ G) v l:=by
 rcases h.cases with ⟨rfl,rfl | rfl⟩ | ⟨es,rfl,e1,e2⟩ | ⟨id,g,off,n,c,rfl,hc,e1,e2⟩
 ·exact Rd.nil _
 ·exact Rd.esl _
 ·exact ⟨h.1,h.2⟩
 ·refine ⟨h.1,?_⟩
  have:((c.drop off).take n).length=n:=by rw [e1,e2]
  simp only [elems,iq,as4 hc,aek,this,e1];rw [e2,bi rfl]
theorem as2 {H:Heap} {id g:Nat} {c c':List V} (h:getC H id g=some c) (g':Nat):getC (H.set id (.cells g' c')) id g'=some c':=by
 have:id < H.length:=by
  unfold getC at h;split at h
  ·rename_i hh;exact (List.getElem?_eq_some_iff.1 hh).1
  ·cases h
 simp [getC,this]
theorem aa2 {H:Heap} {id j g:Nat} (ob:Ob) (h:id≠j):getC (H.set j ob) id g=getC H id g:=by
 unfold getC;rw [List.getElem?_set_ne (o9 h)]
theorem a0s (H:Heap) (id:Nat) (a b:Ob):(H.set id a).set id b=H.set id b:=List.set_set ..
theorem bay (k:IntKind) (a b:Int):aas .add (.s (.int k a)) (.s (.int k b))=some (.s (.int k (k.wrap (a+b)))):=by simp [aas,aeh]
theorem baj (k:IntKind) (a b:Int):aas .sub (.s (.int k a)) (.s (.int k b))=some (.s (.int k (k.wrap (a - b)))):=by simp [aas,aeh]
theorem bap (k:IntKind) (a b:Int):aas .mul (.s (.int k a)) (.s (.int k b))=some (.s (.int k (k.wrap (a * b)))):=by simp [aas,aeh]
theorem baw (k:IntKind) (a b:Int):aas .eql (.s (.int k a)) (.s (.int k b))=some (.s (.bool (a == b))):=by simp [aas,aeh]
theorem bao (k:IntKind) (a b:Int):aas .neq (.s (.int k a)) (.s (.int k b))=some (.s (.bool (a != b))):=by simp [aas,aeh]
theorem bas (k:IntKind) (a b:Int):aas .lss (.s (.int k a)) (.s (.int k b))=some (.s (.bool (decide (a < b)))):=by simp [aas,aeh]
theorem bat (k:IntKind) (a b:Int):aas .leq (.s (.int k a)) (.s (.int k b))=some (.s (.bool (decide (a≤b)))):=by simp [aas,aeh]
theorem bau (k:IntKind) (a b:Int):aas .gtr (.s (.int k a)) (.s (.int k b))=some (.s (.bool (decide (a > b)))):=by simp [aas,aeh]
theorem bav (k:IntKind) (a b:Int):aas .geq (.s (.int k a)) (.s (.int k b))=some (.s (.bool (decide (a ≥ b)))):=by simp [aas,aeh]
theorem bax (k:IntKind) (a b:Int):aas .and (.s (.int k a)) (.s (.int k b))=some (.s (.int k (k.wrap (BitVec.ofInt k.bits a &&& BitVec.ofInt k.bits b).toNat))):=by simp [aas,aeh]
theorem xb_or (k:IntKind) (a b:Int):aas .or (.s (.int k a)) (.s (.int k b))=some (.s (.int k (k.wrap (BitVec.ofInt k.bits a ||| BitVec.ofInt k.bits b).toNat))):=by simp [aas,aeh]
theorem bai (k:IntKind) (a b:Int):aas .xor (.s (.int k a)) (.s (.int k b))=some (.s (.int k (k.wrap (BitVec.ofInt k.bits a ^^^ BitVec.ofInt k.bits b).toNat))):=by simp [aas,aeh]
theorem avq (k:IntKind) (a b:Int):aas .andNot (.s (.int k a)) (.s (.int k b))=some (.s (.int k (k.wrap (BitVec.ofInt k.bits a &&& ~~~ (BitVec.ofInt k.bits b)).toNat))):=by simp [aas,aeh]
theorem ban (k:IntKind) (a b:Int):aas .quo (.s (.int k a)) (.s (.int k b))=if b=0 then none else some (.s (.int k (k.wrap (a.tdiv b)))):=by by_cases h:b=0 <;> simp [aas,aeh,h]
theorem bam (k:IntKind) (a b:Int):aas .rem (.s (.int k a)) (.s (.int k b))=if b=0 then none else some (.s (.int k (a.tmod b))):=by by_cases h:b=0 <;> simp [aas,aeh,h]
theorem bal (k j:IntKind) (a b:Int):aas .shl (.s (.int k a)) (.s (.int j b))=if b < 0 then none else some (.s (.int k (k.wrap (a * 2 ^ (min b.toNat k.bits))))):=by by_cases h:b < 0 <;> simp [aas,aeh,h]
theorem bak (k j:IntKind) (a b:Int):aas .shr (.s (.int k a)) (.s (.int j b))=if b < 0 then none else some (.s (.int k (a.fdiv (2 ^ (min b.toNat k.bits))))):=by by_cases h:b < 0 <;> simp [aas,aeh,h]
theorem a94 (a b:ByteArray):aas .eql (.s (.string a)) (.s (.string b))=some (.s (.bool (a.data.toList == b.data.toList))):=rfl
theorem a90 (a b:ByteArray):aas .neq (.s (.string a)) (.s (.string b))=some (.s (.bool (!(a.data.toList == b.data.toList)))):=rfl
theorem a92 (a b:ByteArray):aas .lss (.s (.string a)) (.s (.string b))=some (.s (.bool (Op.bytesLess a.data.toList b.data.toList))):=rfl
theorem a95 (a b:ByteArray):aas .add (.s (.string a)) (.s (.string b))=if ((a.size+b.size:Nat):Int) > IntKind.i64.max then none else some (.s (.string (a ++ b))):=by by_cases h:((a.size+b.size:Nat):Int) > IntKind.i64.max <;> simp only [aas,aeh,h,iq,mg,jh,zg]
theorem xq_b (n a b:Bool):baz n (.s (.bool a)) (.s (.bool b))=some (.s (.bool ((a == b) != n))):=rfl
theorem xn_pn (n:Bool):aai .p n (.s (.pointer none))=some (.s (.bool (true != n))):=rfl
theorem xn_pr (n:Bool) (i g o:Nat):aai .p n (.ref i g o)=some (.s (.bool (false != n))):=rfl
theorem xn_pp (n:Bool) (cs:List V):aai .p n (.pref cs)=some (.s (.bool (false != n))):=rfl
theorem xn_sn (n:Bool):aai .s n (.s (.slice none 0 0))=some (.s (.bool (true != n))):=rfl
theorem xn_ss (n:Bool) (i g o l z:Nat):aai .s n (.sl i g o l z)=some (.s (.bool (false != n))):=rfl
theorem xn_sp (n:Bool) (es:List (List V)) (z:Nat):aai .s n (.psl es z)=some (.s (.bool (false != n))):=rfl
theorem xn_se (n:Bool):aai .s n (.esl)=some (.s (.bool (false != n))):=rfl
theorem xn_mn (n:Bool):aai .m n (.s (.map none))=some (.s (.bool (true != n))):=rfl
theorem xn_mm (n:Bool) (i:Nat):aai .m n (.mp i)=some (.s (.bool (false != n))):=rfl
theorem xn_fn (n:Bool):aai .f n (.s .nilFunc)=some (.s (.bool (true != n))):=rfl
theorem xn_ff (n:Bool) (i:Nat) (a b:List V):aai .f n (.fn i a b)=some (.s (.bool (false != n))):=rfl
theorem xn_fy (n:Bool) (i:Nat):aai .f n (.yld i)=some (.s (.bool (false != n))):=rfl
theorem xg (n:Bool) (ls:List Leaf) (xs ys:List V):afe n ls (.agg xs) (.agg ys)=(mh ls xs ys).map fun b=>.s (.bool (b != n)):=rfl
theorem a9y (b:Bool):xUn .not (.s (.bool b))=some (.s (.bool (!b))):=rfl
theorem a9z (k:IntKind) (a:Int):xUn .neg (.s (.int k a))=some (.s (.int k (k.wrap (0 - a)))):=rfl
theorem bah (k j:IntKind) (a:Int):a6c k (.s (.int j a))=some (.s (.int k (k.wrap a))):=rfl
theorem xc_id (b:ByteArray):apo (.s (.string b))=some (.s (.string b)):=rfl
theorem bab (i g o:Nat):abz (.ref i g o)=some (.ref i g o):=rfl
theorem a6a (cs:List V):abz (.pref cs)=some (.pref cs):=rfl
theorem xk_fn (f:Nat) (a b:List V):abz (.fn f a b)=some (.fn f a b):=rfl
theorem baa (i:Nat):abz (.yld i)=some (.yld i):=rfl
theorem a4x (off i g o:Nat):yj off (.ref i g o)=some (.ref i g (o+off)):=rfl
theorem a6b (off:Nat) (cs:List V):yj off (.pref cs)=if off≤cs.length then some (.pref (cs.drop off)) else none:=rfl
theorem baf (g:Bool) (off n:Nat) (cs:List V):anm g off n (.agg cs)=if ((cs.drop off).take n).length=n then shut g ((cs.drop off).take n) else none:=rfl
theorem ato (sz i g o l z:Nat) (k:IntKind) (n:Int):pz sz (.sl i g o l z) (.s (.int k n))=if 0≤n∧n < l∧z=sz then some (.ref i g (o+n.toNat * sz)) else none:=rfl
theorem bae (sz z:Nat) (es:List (List V)) (k:IntKind) (n:Int):pz sz (.psl es z) (.s (.int k n))=if 0≤n∧z=sz then (es[n.toNat]?).map .pref else none:=rfl
theorem bac (b:ByteArray) (k:IntKind) (n:Int):yz (.s (.string b)) (.s (.int k n))=if 0≤n then (b.data.toList[n.toNat]?).map fun c=>.s (.int .u8 c.toNat) else none:=rfl
theorem bag (i:Nat) (vs:List V):afd i (.tup vs)=vs[i]?:=rfl
theorem a96 (H:Heap) (b:ByteArray):ak2 H .p (.s (.string b))=some (.s (.int .i64 b.size)):=rfl
theorem a98 (H:Heap):ak2 H .s (.s (.slice none 0 0))=some (.s (.int .i64 0)):=rfl
theorem a99 (H:Heap):ak2 H .s .esl=some (.s (.int .i64 0)):=rfl
theorem a97 (H:Heap) (es:List (List V)) (z:Nat):ak2 H .s (.psl es z)=some (.s (.int .i64 es.length)):=rfl
theorem xl_sl (H:Heap) (i g o l z:Nat):ak2 H .s (.sl i g o l z)=some (.s (.int .i64 l)):=rfl
theorem a5z (H:Heap):ak2 H .m (.s (.map none))=some (.s (.int .i64 0)):=rfl
theorem xu (H:Heap) (g:Bool) (n i j o:Nat):xh H g n (.ref i j o)=match getC H i j with | some c=>(if ((c.drop o).take n).length=n then shut g ((c.drop o).take n) else none) | none=>none:=rfl
theorem a5y (H:Heap) (g:Bool) (n:Nat) (cs:List V):xh H g n (.pref cs)=if (cs.take n).length=n then shut g (cs.take n) else none:=rfl
theorem xm (mx:Bool) (k:IntKind) (a b:Int):abq mx (.s (.int k a)) (.s (.int k b))=some (.s (.int k (if mx then (if a < b then b else a) else (if b < a then b else a)))):=by simp [abq]
theorem alc (cs:List V):shut true cs=some (.agg cs):=rfl
theorem alb (x:V):shut false [x]=some x:=rfl
def ag2 (d:Nat):Option V→Option Int
 | none=>some d
 | some v=>ai9 v
theorem azq (d:Nat):ag2 d none=some (d:Int):=rfl
theorem a4k (d:Nat) (k:IntKind) (n:Int):ag2 d (some (.s (.int k n)))=some n:=rfl
def a4f (sz id g off len z:Nat):Option Int→Option Int→Option V
 | some l,some h=>if 0≤l∧l≤h∧h≤len∧z=sz then some (.sl id g (off+l.toNat * sz) (h - l).toNat sz) else none
 | _,_=>none
def as9 (sz:Nat) (es:List (List V)) (z:Nat):Option Int→Option Int→Option V
 | some l,some h=>if 0≤l∧l≤h∧h≤es.length∧z=sz then some (.psl ((es.drop l.toNat).take (h - l).toNat) sz) else none
 | _,_=>none
def af2 (v:V):Option Int→Option Int→Option V
 | some l,some h=>if l=0∧h=0 then some v else none
 | _,_=>none
def ac6 (sz:Nat) (v:V) (lo hi:Option V):Option V:=
 match v with
 | .s (.slice none 0 0)=>af2 nk (ag2 0 lo) (ag2 0 hi)
 | .esl=>af2 .esl (ag2 0 lo) (ag2 0 hi)
 | .psl es z=>as9 sz es z (ag2 0 lo) (ag2 es.length hi)
 | .sl id g off len z=>a4f sz id g off len z (ag2 0 lo) (ag2 len hi)
 | _=>none
theorem atm (sz:Nat) (lo hi:Option V):ac6 sz nk lo hi=af2 nk (ag2 0 lo) (ag2 0 hi):=rfl
theorem atn (sz:Nat) (lo hi:Option V):ac6 sz .esl lo hi=af2 .esl (ag2 0 lo) (ag2 0 hi):=rfl
theorem atl (sz:Nat) (es:List (List V)) (z:Nat) (lo hi:Option V):ac6 sz (.psl es z) lo hi=as9 sz es z (ag2 0 lo) (ag2 es.length hi):=rfl
theorem avp (sz id g off len z:Nat) (lo hi:Option V):ac6 sz (.sl id g off len z) lo hi=a4f sz id g off len z (ag2 0 lo) (ag2 len hi):=rfl
theorem avd (sz id g off len z:Nat) (l h:Int):a4f sz id g off len z (some l) (some h)=if 0≤l∧l≤h∧h≤len∧z=sz then some (.sl id g (off+l.toNat * sz) (h - l).toNat sz) else none:=rfl
theorem arx (sz:Nat) (es:List (List V)) (z:Nat) (l h:Int):as9 sz es z (some l) (some h)=if 0≤l∧l≤h∧h≤es.length∧z=sz then some (.psl ((es.drop l.toNat).take (h - l).toNat) sz) else none:=rfl
theorem ary (v:V) (l h:Int):af2 v (some l) (some h)=if l=0∧h=0 then some v else none:=rfl
theorem bcf (fr:List V) (d:Nat) (o:Option Opd):acu fr d o=ag2 d (o.map (ev fr)):=by cases o <;> rfl
theorem asq (call:kz) (base:Nat) (fr:List V) (H:Heap) (sz:Nat) (x:Opd) (lo hi:Option Opd):ja call base fr H (.subSl sz x lo hi none)=RH H (ac6 sz (ev fr x) (lo.map (ev fr)) (hi.map (ev fr))):=by
 simp only [ja,bcf];generalize ev fr x=v;generalize lo.map (ev fr)=lo;generalize hi.map (ev fr)=hi
 cases v <;> first | rfl | skip
 case s v=>
  cases v <;> first | rfl | skip
  rename_i a n m
  cases a <;> first | rfl | skip
  cases n <;> first | rfl | skip
  cases m <;> first | rfl | skip
  simp only [ac6];cases ag2 0 lo with
  | none=>rfl
  | some l=>cases ag2 0 hi with
    | none=>simp only [af2,RH]
    | some h=>
      simp only [af2];by_cases hl:l=0
      ·subst hl;by_cases hh:h=0
       ·subst hh;rfl
       ·simp only [hh,and_false,mg]
        split <;> first | rfl | (rename_i e1 e2;cases e2;exact absurd rfl hh)
      ·simp only [hl,false_and,mg]
       split <;> first | rfl | (rename_i e1 e2;cases e1;exact absurd rfl hl)
 case esl=>
  simp only [ac6];cases ag2 0 lo with
  | none=>rfl
  | some l=>cases ag2 0 hi with
    | none=>simp only [af2,RH]
    | some h=>
      simp only [af2];by_cases hl:l=0
      ·subst hl;by_cases hh:h=0
       ·subst hh;rfl
       ·simp only [hh,and_false,mg]
        split <;> first | rfl | (rename_i e1 e2;cases e2;exact absurd rfl hh)
      ·simp only [hl,false_and,mg]
       split <;> first | rfl | (rename_i e1 e2;cases e1;exact absurd rfl hl)
 case psl es z=>
  simp only [ac6]
  cases ag2 0 lo <;> cases ag2 es.length hi <;> first | rfl | (simp only [as9];split <;> rfl)
 case sl id g off len z=>
  simp only [ac6]
  cases ag2 0 lo <;> cases ag2 len hi <;> first | rfl | (simp only [a4f];split <;> rfl)
theorem a5x (H:Heap) (sz:Nat) (x:Opd) (lo hi:Option Opd) (vs:List V):aca H (.subSl sz x lo hi none) (some vs)=ac6 sz (ev vs x) (lo.map (ev vs)) (hi.map (ev vs)):=by
 simp only [aca,asq];cases ac6 sz (ev vs x) (lo.map (ev vs)) (hi.map (ev vs)) <;> rfl
def a4y (H:Heap) (base sz:Nat) (zero:List V) (v:V):Option Heap:=
 match v with
 | .s (.slice none 0 0)=>some H
 | .esl=>some H
 | .sl id g off len z=>if len=0 then some H else if base≤id∧z=sz then match getC H id g with
    | some c=>if zero.length=sz∧off+len * sz≤c.length∧zero.all V.one then some (H.set id (.cells g (splice c off (List.replicate len zero).flatten))) else none
    | none=>none
   else none
 | _=>none
theorem a10 (call:kz) (base:Nat) (fr:List V) (H:Heap) (sz:Nat) (zero:List V) (x:Opd):ja call base fr H (.clearSl sz zero x)=RS (a4y H base sz zero (ev fr x)):=by
 simp only [ja];generalize ev fr x=v
 cases v <;> first | rfl | skip
 case s v=>
  cases v <;> first | rfl | skip
  rename_i a n m
  cases a <;> first | rfl | skip
  cases n <;> first | rfl | skip
  cases m <;> rfl
 case sl id g off len z=>
  simp only [a4y];split
  ·rfl
  ·split
   ·cases getC H id g with
    | none=>rfl
    | some c=>simp only [];split <;> rfl
   ·rfl
theorem cast0:((0:Nat):Int)=0:=rfl
theorem ba6:Int.toNat 0=0:=rfl
def Ext (H0 H:Heap):Prop:=∃ G,H=H0 ++ G
theorem Ext.refl (H:Heap):Ext H H:=⟨[],by simp⟩
theorem Ext.trans {A B C:Heap} (h:Ext A B) (k:Ext B C):Ext A C:=by
 obtain ⟨G,rfl⟩:=h;obtain ⟨K,rfl⟩:=k
 exact ⟨G ++ K,by simp⟩
theorem Ext.app (H G:Heap):Ext H (H ++ G):=⟨G,rfl⟩
theorem Ext.le {A B:Heap} (h:Ext A B):A.length≤B.length:=by obtain ⟨G,rfl⟩:=h;simp
theorem Ext.get {A B:Heap} (h:Ext A B) {i:Nat} (hi:i < A.length):B[i]?=A[i]?:=by obtain ⟨G,rfl⟩:=h;exact List.getElem?_append_left hi
theorem Ext.of_get {A B:Heap} (hl:A.length≤B.length) (h:∀ i,i < A.length→B[i]?=A[i]?):Ext A B:=by
 refine ⟨B.drop A.length,?_⟩;refine List.ext_getElem? fun i=>?_;by_cases hi:i < A.length
 ·rw [List.getElem?_append_left hi,h i hi]
 ·rw [List.getElem?_append_right (by omega),List.getElem?_drop]
  congr 1;omega
theorem trim_or (m:Nat) (fr:List V) (H:Heap):trim m fr H=H∨(trim m fr H=H.take m∧∀ v∈fr,lh m 8 v=true):=by
 unfold trim;split
 ·rename_i h;simp only [au,az] at h;exact .inr ⟨rfl,h.1⟩
 ·exact .inl rfl
theorem Rd.ext {H H':Heap} {v:V} {l:List V} (h:Rd H v l) (k:Ext H H'):Rd H' v l:=by obtain ⟨G,rfl⟩:=k;exact h.app G
theorem jk {H H':Heap} {id g:Nat} {c:List V} (h:getC H id g=some c) (k:Ext H H'):getC H' id g=some c:=by obtain ⟨G,rfl⟩:=k;exact as4 h
theorem oq {H:Heap} {id g:Nat} {c:List V} (h:getC H id g=some c):id < H.length:=by
 unfold getC at h;split at h
 ·rename_i hh;exact (List.getElem?_eq_some_iff.1 hh).1
 ·cases h
theorem kw (H:Heap) (g:Nat) (c:List V):getC (H ++ [.cells g c]) H.length g=some c:=by simp [getC]
theorem as5 {n:Nat} {en:Env} {s:Nat} {v:V} (hs:s < n) (h:ahw en s=v):v∈gp n en:=by
 unfold gp;rw [zh]
 exact ⟨s,by simpa using hs,h⟩
def obC (g:Nat):Ob→Option (List V)
 | .cells g' c=>if g'=g then some c else none
 | _=>none
theorem ayp (A:Heap) (ob:Ob) (id g:Nat):getC (A ++ [ob]) id g=if id=A.length then obC g ob else getC A id g:=by
 by_cases h:id=A.length
 ·subst h;simp only [getC,List.getElem?_concat_length,iq];cases ob <;> rfl
 ·rw [bu h];by_cases hl:id < A.length
  ·simp only [getC,List.getElem?_append_left hl]
  ·have h1:(A ++ [ob])[id]?=none:=List.getElem?_eq_none (by simp;omega)
   have h2:A[id]?=none:=List.getElem?_eq_none (by omega)
   simp only [getC,h1,h2]
theorem a2a (g:Nat) (c:List V):obC g (.cells g c)=some c:=by simp [obC]
theorem uw (A:Heap) (ob x:Ob):(A ++ [ob]).set A.length x=A ++ [x]:=by simp
theorem kv (A:Heap) (ob:Ob):(A ++ [ob]).length=A.length+1:=by simp
theorem bbu (a b:Nat):(a=a+(b+1))=False:=by simp
theorem bcg (a b:Nat):(a+(b+1)=a)=False:=by simp
theorem a7n (k:IntKind) (n:Int):V.one (.s (.int k n))=true:=rfl
theorem a7k (b:ByteArray):V.one (.s (.string b))=true:=rfl
theorem a19 (b:Bool):V.one (.s (.bool b))=true:=rfl
theorem a18:V.one (.s (.slice none 0 0))=true:=rfl
theorem a7l (i g o:Nat):V.one (.ref i g o)=true:=rfl
theorem bbp (i g o l z:Nat):V.one (.sl i g o l z)=true:=rfl
theorem a7m (es:List (List V)) (z:Nat):V.one (.psl es z)=true:=rfl
theorem a7o:V.one .esl=true:=rfl
theorem bbr (i:Nat):V.one (.mp i)=true:=rfl
theorem bbs (f:Nat) (a b:List V):V.one (.fn f a b)=true:=rfl
theorem azm (cs:List V):V.cells (.agg cs)=cs:=rfl
theorem a8y (v:Value):V.cells (.s v)=[.s v]:=rfl
theorem a4h (i g o l z:Nat):V.cells (.sl i g o l z)=[.sl i g o l z]:=rfl
theorem azk (es:List (List V)) (z:Nat):V.cells (.psl es z)=[.psl es z]:=rfl
theorem azj (i g o:Nat):V.cells (.ref i g o)=[.ref i g o]:=rfl
theorem azl:V.cells .esl=[.esl]:=rfl
theorem a4i (i:Nat):V.cells (.mp i)=[.mp i]:=rfl
theorem ayu (p:Nat→Option (Nat × Nat)) (c:List V):aaf p c []=some c:=rfl
theorem awh (A:Heap) (ob x:Ob) (id:Nat):(A ++ [ob]).set id x=if id=A.length then A ++ [x] else A.set id x ++ [ob]:=by
 by_cases h:id=A.length
 ·subst h;simp
 ·rw [bu h];by_cases hl:id < A.length
  ·rw [anh _ _ hl]
  ·rw [abd (by simp;omega),abd (by omega)]
theorem atw (H:Heap) (base n:Nat) (v:V) (id g off:Nat):ag9 H base n v (.ref id g off)=if base≤id then (match getC H id g with
 | some c=>if v.cells.length=n∧off+n≤c.length∧v.cells.all V.one then some (H.set id (.cells g (splice c off v.cells))) else none
 | none=>none) else none:=rfl
section
variable {CC:CX} {μ:Mu} {Mt:Nat→Prop} {w w':World} {H:Heap} {P:Program}
theorem aqp:∀ (os:List Obj) (w w':World),HR CC μ Mt w H→w'.heap=w.heap ++ os.toArray→w'.os=w.os→w'.tape=w.tape→w'.output=w.output→Post CC μ Mt w H μ Mt w' H:=by
 intro os
 induction os with
 | nil=>intro w w' h h1 h2 h3 h4;exact afq h (by simpa using h1) h2 h3 h4
 | cons o os ih=>
   intro w w' h h1 h2 h3 h4;have k:Post CC μ Mt w H μ Mt { w with heap:=w.heap.push o } H:=aj9 h o rfl rfl rfl rfl;refine k.trans (ih _ w' k.hr ?_ h2 h3 h4);rw [h1];apply qz;simp
end
abbrev PXf (fx:Nat→Option (Array Value × TypeId × Nat × Nat)):PX:=⟨fun _=>false,fx⟩
abbrev PX0:PX:=PXf fun _=>none
theorem a4g (lt:List Nat) (P:Program) (fx:Nat→Option (Array Value × TypeId × Nat × Nat)) (k:Nat):ahh lt P (PXf fx) k=ahh lt P PX0 k:=rfl
theorem ko {P:Program} (fx:Nat→Option (Array Value × TypeId × Nat × Nat)) {lt:List Nat} {k:Nat} {c:ACFun} (h:ahh lt P PX0 k=some (false,c.ntmps,c.results,c.body.bare)):abe P (PXf fx) k (.code c):=a3a ((a4g lt P fx k).trans h)
section
variable {CC:CX} {μ:Mu} {Mt:Nat→Prop} {w w':World} {H:Heap} {P:Program}
def insI (x:Int):List Int→List Int
 | []=>[x]
 | y :: l=>if x≤y then x :: y :: l else y :: insI x l
def bba:List Int→List Int
 | []=>[]
 | x :: l=>insI x (bba l)
def cR:Value→Option (DataW Unit × List MemPlace):=fun _=>some (.nil,[])
end
def wbits (k:Int) (w:Nat):List Int:=((List.range 64).filter fun b=>w.testBit b).map fun (b:Nat)=>k * 64+(b:Int)
def bcd (ks:List Int) (f:Int→Nat):List Int:=(bba ks).flatMap fun k=>wbits k (f k)
structure Wd (ks:List Int) (f:Int→Nat):Prop where
 nd:ks.Nodup
 iff:∀ k,k∈ks↔f k≠0
 lt:∀ k,f k < 2 ^ 64
 nn:∀ k∈ks,0≤k∧k < 2 ^ 57
theorem anl (H:Heap) (f:Nat) (a b:List Opd) (vs:List V):aca H (.mkFn f a b) (some vs)=some (.fn f (a.map (ev vs)) (b.map (ev vs))):=rfl
theorem apu {m:Nat} {fr:List V} {H:Heap} (h:m≤H.length):m≤(trim m fr H).length:=by
 rcases trim_or m fr H with e | ⟨e,_⟩ <;> rw [e]
 ·exact h
 ·rw [ny];omega
theorem ak5 (m:Nat) (fr:List V) (H:Heap):trim m fr H=H∨(trim m fr H=H.take m∧(∀ v∈fr,lh m 8 v=true)∧∀ id g c,id < m→getC H id g=some c→∀ i h o n z,V.sl i h o n z∈c→i < m):=by
 unfold trim;split
 ·rename_i h;simp only [au,az] at h;refine .inr ⟨rfl,h.1,?_⟩;intro id g c hid hc i h' o n z hx;unfold getC at hc;split at hc
  ·rename_i g' c' hh;split at hc
   ·cases hc
    have hm:Ob.cells g' c∈H.take m:=by
     have:(H.take m)[id]?=some (Ob.cells g' c):=by rw [List.getElem?_take_of_lt hid];exact hh
     exact List.mem_of_getElem? this
    have:=h.2 _ hm;simp only [Ob.under,az] at this;have:=this _ hx
    simpa [lh] using this
   ·cases hc
  ·cases hc
 ·exact .inl rfl
theorem ahq {m:Nat} {fr:List V} {H:Heap} {id g:Nat} {c:List V} (hc:getC H id g=some c) (hid:id < m):getC (trim m fr H) id g=some c:=by
 rcases ak5 m fr H with e | ⟨e,_⟩ <;> rw [e]
 ·exact hc
 ·unfold getC at hc ⊢;rw [List.getElem?_take_of_lt hid];exact hc
def apl (m:Nat) (H:Heap) (v:V) (l:List V):Prop:=(l=[]∧(v=nk∨v=.esl))∨∃ id g c,v=.sl id g 0 l.length 1∧getC H id g=some c∧l.length≤c.length∧c.take l.length=l∧m≤id
theorem apl.rd {m:Nat} {H:Heap} {v:V} {l:List V} (h:apl m H v l):Rd H v l:=by
 rcases h with ⟨rfl,rfl | rfl⟩ | ⟨id,g,c,rfl,hc,hl,ht,_⟩
 ·exact Rd.nil H
 ·exact Rd.esl H
 ·have:=Rd.sl hc (off:=0) (n:=l.length) (by omega)
  rwa [fq,ht] at this
theorem ji {H:Heap} {id g:Nat} {c c':List V} (h:getC H id g=some c):getC (H.set id (.cells g c')) id g=some c':=as2 h _
def bV (b:Bool):V:=.s (.bool b)
def a6d (H:Heap) (base:Nat) (kind:TypeDesc) (m k v:V):Option (V × Heap):=
 match m,k with
  | .mp id,.s key=>if base≤id∧adn kind key then match H[id]? with
     | some (.map es)=>match aeg kind key es 0 with
       | some (some (i,_))=>some (und,H.set id (.map (es.set i (key,v))))
       | some none=>some (und,H.set id (.map (es ++ [(key,v)])))
       | none=>none
     | _=>none
    else none
  | _,_=>none
theorem ai0 (call:kz) (base:Nat) (fr:List V) (H:Heap) (kind:TypeDesc) (m k v:Opd):ja call base fr H (.mapUpd kind m k v)=a6d H base kind (ev fr m) (ev fr k) (ev fr v):=rfl
def delMV (H:Heap) (base:Nat) (kind:TypeDesc) (m k:V):Option (V × Heap):=
 match m,k with
  | .mp id,.s key=>if base≤id∧adn kind key then match H[id]? with
     | some (.map es)=>match aeg kind key es 0 with
       | some (some (i,_))=>some (und,H.set id (.map (es.eraseIdx i)))
       | some none=>some (und,H)
       | none=>none
     | _=>none
    else none
  | _,_=>none
theorem axm (call:kz) (base:Nat) (fr:List V) (H:Heap) (kind:TypeDesc) (m k:Opd):ja call base fr H (.delete kind m k)=delMV H base kind (ev fr m) (ev fr k):=rfl
theorem ap1 {H:Heap} {j:Nat} {ob:Ob} (h:H[j]?=some ob):H.set j ob=H:=by
 apply List.ext_getElem?;intro i;by_cases hi:j=i
 ·subst hi;rw [List.getElem?_set_self (List.getElem?_eq_some_iff.1 h).1,h]
 ·rw [List.getElem?_set_ne hi]
def yldE (H:Heap) (id:Nat):Option St→Option (V × Heap)
 | some (e,_,H)=>match H[id]? with
   | some (.loop .busy none t p a b)=>some (bl (e=.nrm),H.set id (.loop (if e=.nrm then .ready else .done) (asi e) t p a b))
   | _=>none
 | none=>none
theorem awj (fr:List V):ap2 [] [] fr=some fr:=rfl
theorem at7 (p:Nat) (ps:List Nat) (v:V) (vs:List V) (n:Nat) (en:Env):ap2 (p :: ps) (v :: vs) (gp n en)=ap2 ps vs (gp n (a1d p v en)):=by
 simp only [ap2,aml]
abbrev WS:=List Int × (Int→Nat)
def el (p:WS):List Int:=bcd p.1 p.2
def rngC (L:Nat) (fr:List V):Option (V × Heap)→Option St
 | some (_,H')=>match H'[L]? with
   | some (.loop .ready none _ _ _ _)=>some (.nrm,fr,trim L fr (H'.set L .dead))
   | some (.loop .done (some e) _ _ _ _)=>some (e,fr,trim L fr (H'.set L .dead))
   | _=>none
 | none=>none
def rngF (call:kz) (base:Nat) (ps:List Nat) (a b:ACode) (fr:List V) (H:Heap):V→Option St
 | .fn k x y=>rngC H.length fr (call (.fn k x y) [.yld H.length] base (H ++ [.loop .ready none fr ps a b]))
 | _=>none
theorem a8r (call:kz) (it:yw) (base:Nat) (f:Opd) (ps:List Nat) (a b:ACode) (fr:List V) (H:Heap):evC call it base (.rangeFunc f ps a b) fr H=rngF call base ps a b fr H (ev fr f):=by
 simp only [evC];cases ev fr f <;> rfl
theorem a6m (call:kz) (base:Nat) (ps:List Nat) (a b:ACode) (fr:List V) (H:Heap) (k:Nat) (x y:List V):rngF call base ps a b fr H (.fn k x y)=rngC H.length fr (call (.fn k x y) [.yld H.length] base (H ++ [.loop .ready none fr ps a b])):=rfl
def a9m (m0 i j:Nat) (H0 H':Heap):Prop:=m0≤H'.length∧∀ id,id < m0→id≠i→id≠j→H'[id]?=H0[id]?
theorem a9m.trim {m0 i j:Nat} {H0 H':Heap} (h:a9m m0 i j H0 H') {m:Nat} (hm:m0≤m) (fr:List V):a9m m0 i j H0 (trim m fr H'):=by
 rcases ak5 m fr H' with e | ⟨e,_⟩ <;> rw [e]
 ·exact h
 ·exact ⟨by rw [ny];have:=h.1;omega,fun id h1 h2 h3=>by rw [List.getElem?_take_of_lt (by omega)];exact h.2 id h1 h2 h3⟩
def andNot (a b:Nat):Nat:=a &&& (2 ^ 64 - 1 - b)
def ak (m0:Nat) (D:List Nat) (H0 H':Heap):Prop:=m0≤H'.length∧∀ id,id < m0→id ∉ D→H'[id]?=H0[id]?
theorem ak.trim {m0:Nat} {D:List Nat} {H0 H':Heap} (h:ak m0 D H0 H') {m:Nat} (hm:m0≤m) (fr:List V):ak m0 D H0 (trim m fr H'):=by
 rcases ak5 m fr H' with e | ⟨e,_⟩ <;> rw [e]
 ·exact h
 ·exact ⟨by rw [ny];have:=h.1;omega,fun id h1 h2=>by rw [List.getElem?_take_of_lt (by omega)];exact h.2 id h1 h2⟩
theorem ak.refl (D:List Nat) (H:Heap):ak H.length D H H:=⟨ag _,fun _ _ _=>rfl⟩
theorem ak.trans {m0 m1:Nat} {D:List Nat} {A B C:Heap} (h:ak m0 D A B) (k:ak m1 D B C) (hm:m0≤m1):ak m0 D A C:=⟨jm hm k.1,fun id h1 h2=>(k.2 id (by omega) h2).trans (h.2 id h1 h2)⟩
theorem ak.getC {m0:Nat} {D:List Nat} {A B:Heap} (h:ak m0 D A B) {id g:Nat} {c:List V} (hc:getC A id g=some c) (h1:id < m0) (h2:id ∉ D):getC B id g=some c:=by
 unfold Go.AM.getC at hc ⊢;rw [h.2 id h1 h2];exact hc
theorem ak.mono {m0:Nat} {D D':List Nat} {A B:Heap} (h:ak m0 D A B) {m1:Nat} (hm:m1≤m0) (hD:∀ id,id < m1→id∈D→id∈D'):ak m1 D' A B:=⟨by have:=h.1;omega,fun id h1 h2=>h.2 id (by omega) fun hx=>h2 (hD id h1 hx)⟩
theorem Ext.d {A B:Heap} (h:Ext A B) (D:List Nat):ak A.length D A B:=⟨h.le,fun id h1 _=>h.get h1⟩
theorem adt (H:Heap) (z:List V) (p:List (Nat × Nat)) (ps:List (Nat × Opd)) (vs:List V):aca H (.build z p ps) (some vs)=(aaf (p[·]?) z (ps.map fun q=>(q.1,ev vs q.2))).map .agg:=by
 simp only [aca,ja];cases aaf (p[·]?) z (ps.map fun q=>(q.1,ev vs q.2)) <;> rfl
def amY:=And.intro @ai0 (And.intro @axm (And.intro @awj (And.intro @at7 (And.intro @a8r (And.intro @a6m @adt)))))
theorem ad5 {w:Nat}:∀ (R:List (List V)),(∀ r∈R,r.length=w)→R.flatten.length=R.length * w:=by
 intro R
 induction R with
 | nil=>intro _;simp
 | cons r R ih=>
   intro h;rw [ug,di,ih (fun x hx=>h x (dn _ hx)),h r fu,bz,uj];omega
theorem asb {w:Nat}:∀ (R:List (List V)),(∀ r∈R,r.length=w)→∀ (i:Nat) (r:List V),R[i]?=some r→(R.flatten.drop (i * w)).take w=r:=by
 intro R
 induction R with
 | nil=>intro _ i r h;simp at h
 | cons s R ih=>
   intro h i r hr;have hs:=h s fu;cases i with
   | zero=>
     simp only [List.getElem?_cons_zero,dx] at hr;subst hr;rw [az0,fq,ug,← hs,a9w]
   | succ i=>
     simp only [List.getElem?_cons_succ] at hr
     rw [ug,show (i+1) * w=s.length+i * w by rw [hs,uj];omega,ac5,l9 (by omega),dm,Nat.add_sub_cancel_left]
     exact ih (fun x hx=>h x (dn _ hx)) i r hr
structure RdW (w:Nat) (H:Heap) (v:V) (R:List (List V)):Prop where
 el:elems H w v=some (R.length,R.flatten)
 len:ak2 H .s v=some (.s (.int .i64 R.length))
 one:v.one=true
 at':∀ (i:Nat) (r:List V),R[i]?=some r→∃ a,pz w v (.s (.int .i64 i))=some a∧xh H true w a=some (.agg r)∧∀ (o:Nat) (x:V),r[o]?=some x→∃ b,yj o a=some b∧xh H false 1 b=some x
theorem RdW.nil (w:Nat) (H:Heap):RdW w H nk []:=⟨rfl,rfl,rfl,fun i r h=>by simp at h⟩
theorem a0k {r:List V} {o:Nat} {x:V} (h:r[o]?=some x):(r.drop o).take 1=[x]:=by
 obtain ⟨ho,rfl⟩:=List.getElem?_eq_some_iff.1 h;rw [ed ho];rfl
theorem RdW.sl {w:Nat} {H:Heap} {id g:Nat} {R:List (List V)} (hc:getC H id g=some R.flatten) (hR:∀ r∈R,r.length=w):RdW w H (.sl id g 0 R.length w) R:=by
 have hl:=ad5 R hR;refine ⟨?_,rfl,rfl,fun i r h=>?_⟩
 ·simp only [elems,iq,hc,fq,← hl,az7]
 ·have hr:=hR r (List.mem_of_getElem? h);have hi:=(List.getElem?_eq_some_iff.1 h).1;have hg:=asb R hR i r h;refine ⟨.ref id g (0+i * w),?_,?_,fun o x hx=>⟨.ref id g (0+i * w+o),rfl,?_⟩⟩
  ·rw [ato,bi ⟨by omega,by omega,rfl⟩,om]
  ·rw [xu,hc,jl];simp only [hg,hr,iq,alc]
  ·have ho:=(List.getElem?_eq_some_iff.1 hx).1
   have e:(R.flatten.drop (0+i * w+o)).take 1=[x]:=by
    have h2:=a0k hx
    rw [← hg,List.drop_take,aal,a9v,akv (by omega)] at h2
    rw [jl];exact h2
   rw [xu,hc];simp only [e,aj,iq,alb]
def qa (m w:Nat) (H:Heap) (v:V) (R:List (List V)):Prop:=(∀ r∈R,r.length=w)∧((R=[]∧v=nk)∨∃ id g,v=.sl id g 0 R.length w∧getC H id g=some R.flatten∧m≤id)
theorem qa.start (m w:Nat) (H:Heap):qa m w H nk []:=⟨fun r h=>by simp at h,.inl ⟨rfl,rfl⟩⟩
theorem qa.rd {m w:Nat} {H:Heap} {v:V} {R:List (List V)} (h:qa m w H v R):RdW w H v R:=by
 obtain ⟨hR,⟨rfl,rfl⟩ | ⟨id,g,rfl,hc,_⟩⟩:=h
 ·exact RdW.nil w H
 ·exact RdW.sl hc hR
theorem qa.keep {m w:Nat} {H H':Heap} {v:V} {R:List (List V)} (h:qa m w H v R) (hk:∀ id g n,v=.sl id g 0 n w→H'[id]?=H[id]?):qa m w H' v R:=by
 obtain ⟨hR,h | ⟨id,g,rfl,hc,hm⟩⟩:=h
 ·exact ⟨hR,.inl h⟩
 ·refine ⟨hR,.inr ⟨id,g,rfl,?_,hm⟩⟩;unfold getC at hc ⊢;rw [hk id g _ rfl];exact hc
theorem qa.lt {m w:Nat} {H:Heap} {v:V} {R:List (List V)} (h:qa m w H v R):∀ id g n,v=.sl id g 0 n w→id < H.length:=by
 obtain ⟨_,⟨_,rfl⟩ | ⟨id,g,rfl,hc,hm⟩⟩:=h
 ·intro id g n e;cases e
 ·intro id' g' n e;cases e;exact oq hc
theorem qa.d {m w:Nat} {H H':Heap} {v:V} {R:List (List V)} (h:qa m w H v R) (k:ak H.length [] H H'):qa m w H' v R:=h.keep fun id g n e=>k.2 id (h.lt id g n e) (by simp)
theorem qa.append {m w:Nat} {H:Heap} {v:V} {R:List (List V)} (h:qa m w H v R) {base bytes:Nat} (hb:base≤m) (hm:m≤H.length) {S:List (List V)} (hS:∀ r∈S,r.length=w) (h0:S≠[]) {x:V} (hx:elems H w x=some (S.length,S.flatten)) (ho:S.flatten.all V.one=true) (hs:(R.length+S.length) * bytes≤2 ^ 47):
 ∃ v' H',oo H base w bytes v x=some (v',H')∧qa m w H' v' (R ++ S)∧H.length≤H'.length∧(∀ id,id < H.length→(∀ g n,v≠.sl id g 0 n w)→H'[id]?=H[id]?):=by
 have hn:¬ S.length=0:=fun e=>h0 (eu e);have hRS:∀ r∈R ++ S,r.length=w→r.length=w:=fun _ _ e=>e
 obtain ⟨hR,⟨rfl,rfl⟩ | ⟨id,g,rfl,hc,hid⟩⟩:=h
 ·have hs':S.length * bytes≤2 ^ 47:=by simpa using hs
  refine ⟨.sl H.length 0 0 S.length w,H ++ [.cells 0 S.flatten],?_,⟨?_,.inr ⟨H.length,0,by simp,?_,hm⟩⟩,by simp,fun id hid _=>List.getElem?_append_left hid⟩
  ·simp only [oo,hx,ho,iq,nk,hn,mg,hs']
  ·simpa using hS
  ·rw [dm];exact kw H 0 _
 ·have hlt:=oq hc
  have hbi:base≤id:=by omega
  have hl:=ad5 R hR
  refine ⟨.sl id (g+1) 0 (R.length+S.length) w,H.set id (.cells (g+1) (R.flatten ++ S.flatten)),?_,⟨?_,.inr ⟨id,g+1,by simp,?_,hid⟩⟩,by simp,fun id' hid' hne=>?_⟩
  ·have h2:0+R.length * w≤R.flatten.length:=by omega
   simp only [oo,hx,ho,iq,ahp,hbi,hc,h2,hn,mg,hs,fq]
   rw [ab6 (by omega)]
  ·intro r hr
   rcases jv.1 hr with hr | hr
   ·exact hR r hr
   ·exact hS r hr
  ·rw [qx];exact as2 hc _
  ·rw [List.getElem?_set_ne];rintro rfl;exact hne g _ rfl
theorem qa.trim_eq {m w L:Nat} {H:Heap} {v:V} {R:List (List V)} (h:qa m w H v R) (h0:R≠[]) (hL:L≤m) {fr:List V} (hv:v∈fr):trim L fr H=H:=by
 obtain ⟨_,⟨rfl,_⟩ | ⟨id,g,rfl,hc,hid⟩⟩:=h
 ·exact absurd rfl h0
 ·rcases trim_or L fr H with e | ⟨_,hu⟩
  ·exact e
  ·have:=hu _ hv;simp only [lh,jo] at this;omega
theorem qa.trim_or {m w L:Nat} {H:Heap} {v:V} {R:List (List V)} (h:qa m w H v R) (hL:L≤m) {fr:List V} (hv:v∈fr):R=[]∧v=nk∨trim L fr H=H:=by
 obtain ⟨_,h | ⟨id,g,rfl,hc,hid⟩⟩:=h
 ·exact .inl h
 ·rcases Go.AM.trim_or L fr H with e | ⟨_,hu⟩
  ·exact .inr e
  ·have:=hu _ hv;simp only [lh,jo] at this;omega
theorem avx (m:Nat) (fr:List V) (H:Heap) {id:Nat} (h:id < m):(trim m fr H)[id]?=H[id]?:=by
 rcases Go.AM.trim_or m fr H with e | ⟨e,_⟩
 ·rw [e]
 ·rw [e,List.getElem?_take_of_lt h]
theorem aj3 (m:Nat) (fr:List V) (H:Heap):trim m fr H=H∨(trim m fr H=H.take m∧(∀ v∈fr,lh m 8 v=true)∧∀ id g c,id < m→getC H id g=some c→∀ v∈c,lh m 8 v=true):=by
 unfold trim;split
 ·rename_i h;rw [au,az,az] at h;refine .inr ⟨rfl,h.1,fun id g c hid hc v hv=>?_⟩;unfold getC at hc;cases ho:H[id]? with
  | none=>rw [ho] at hc;cases hc
  | some o=>
    rw [ho] at hc
    have hm:o∈H.take m:=List.mem_of_getElem? (i:=id) (by rw [List.getElem?_take_of_lt hid];exact ho)
    have:=h.2 o hm;cases o with
    | cells g2 c2=>
      dsimp only at hc;split at hc
      ·cases hc;simp only [Ob.under,az] at this;exact this v hv
      ·cases hc
    | map _=>cases hc
    | loop _ _ _ _ _ _=>cases hc
    | dead=>cases hc
    | bytes _ _=>cases hc
 ·exact .inl rfl
theorem av8 {α:Type} {l:List α} {k:Nat} (h:k < l.length) (d:α):l[k]?=some (l.getD k d):=by rw [List.getD,List.getElem?_eq_getElem h];rfl
section
variable {κ:Type} [DecidableEq κ]
end
theorem w64 {n:Nat} (h:n < 2 ^ 62):IntKind.i64.wrap ((n:Int)+1)=((n+1:Nat):Int):=by rw [IntKind.wrap_i64];omega
theorem a0u (a b:ByteArray):Instr.sameNow .string (.string a) (.string b)=some (decide (a=b)):=by
 have h:(a == b)=decide (a=b):=by
  by_cases e:a=b
  ·subst e;rw [aco rfl,beq_toListBytes];simp
  ·rw [zf e,beq_toListBytes];rw [dw];exact fun h=>e (toList_inj h)
 simp only [Instr.sameNow,h]
theorem afc {H H':Heap} (k:Ext H H') {b:V} {g:Bool} {n:Nat} {x:V} (hx:xh H g n b=some x):xh H' g n b=some x:=by
 cases b with
 | ref i j o=>
   rw [xu] at hx ⊢;cases hc:getC H i j with
   | none=>rw [hc] at hx;cases hx
   | some c=>rw [hc] at hx;rw [jk hc k];exact hx
 | _=>exact hx
theorem RdW.ext2 {w:Nat} {H H':Heap} {v:V} {R:List (List V)} (h:RdW w H v R) (k:Ext H H'):RdW w H' v R:=by
 refine ⟨?_,?_,h.one,?_⟩
 ·have he:=h.el;unfold elems at he ⊢;split <;> simp only at he ⊢
  all_goals first | exact he | skip
  all_goals
   split at he
   ·rename_i e;rw [bi e];cases hc:getC H _ _ with
    | none=>rw [hc] at he;cases he
    | some c=>rw [hc] at he;rw [jk hc k];exact he
   ·cases he
 ·have hl:=h.len;have he:=h.el;unfold elems at he
  split at he <;> simp only [ak2] at hl ⊢ <;> first | exact hl | cases he
 ·intro i r hr;obtain ⟨a,h1,h2,h3⟩:=h.at' i r hr
  have ld:∀ (b:V) (g:Bool) (n:Nat) (x:V),xh H g n b=some x→xh H' g n b=some x:=by
   intro b g n x hx;cases b with
   | ref i j o=>
     rw [xu] at hx ⊢;cases hc:getC H i j with
     | none=>rw [hc] at hx;cases hx
     | some c=>rw [hc] at hx;rw [jk hc k];exact hx
   | _=>exact hx
  exact ⟨a,h1,ld _ _ _ _ h2,fun o x hx=>by obtain ⟨b,b1,b2⟩:=h3 o x hx;exact ⟨b,b1,ld _ _ _ _ b2⟩⟩
section
variable {κ:Type} [DecidableEq κ]
end
end Go.AM
set_option maxRecDepth 100000
namespace Go.Proofs.YtbocmenkkjbigaaDoor
open Go.AM
abbrev Sb (b:ByteArray):V:=.s (.string b)
abbrev Iz (n:Int):V:=.s (.int .i64 n)
structure InsD where
 op:Int
 d:ByteArray
 a:ByteArray
 b:ByteArray
 k:Int
 f:ByteArray
 xs:List ByteArray
 ls:List ByteArray
structure BlkD where
 label:ByteArray
 code:List InsD
structure FunD where
 name:ByteArray
 ps:List ByteArray
 blocks:List BlkD
def asy:InsD:=⟨0,⟨#[]⟩,⟨#[]⟩,⟨#[]⟩,0,⟨#[]⟩,[],[]⟩
def a9s:FunD:=⟨⟨#[]⟩,[],[]⟩
def azy (v:V):Prop:=∀ es z,v≠.psl es z
theorem apl.wide2 {m:Nat} {H:Heap} {v:V} {l:List V} (h:apl m H v l):azy v:=by
 rcases h with ⟨_,rfl | rfl⟩ | ⟨_,_,_,rfl,_⟩ <;> exact fun _ _ e=>by cases e
structure RdX (w:Nat) (H:Heap) (v:V) (R:List (List V)):Prop extends RdW w H v R where
 np:azy v
theorem RdX.ext2 {w:Nat} {H H':Heap} {v:V} {R:List (List V)} (h:RdX w H v R) (k:Ext H H'):RdX w H' v R:=⟨h.toRdW.ext2 k,h.np⟩
theorem qa.rx {m w:Nat} {H:Heap} {v:V} {R:List (List V)} (h:qa m w H v R):RdX w H v R:=⟨h.rd,by
 obtain ⟨_,⟨_,rfl⟩ | ⟨_,_,rfl,_⟩⟩:=h <;> exact fun _ _ e=>by cases e⟩
def xn (x:InsD) (av lv:V):List V:=[.s (.int .u8 x.op),Sb x.d,Sb x.a,Sb x.b,.s (.int .i64 x.k),Sb x.f,av,lv]
def aho (H:Heap) (r:List V) (x:InsD):Prop:=∃ av lv,r=xn x av lv∧Rd H av (x.xs.map Sb)∧azy av∧Rd H lv (x.ls.map Sb)∧azy lv∧x.xs.length < 2 ^ 63∧x.ls.length < 2 ^ 63
def RdL {α:Type} (w:Nat) (P:Heap→List V→α→Prop) (H:Heap) (v:V) (l:List α):Prop:=∃ R:List (List V),RdX w H v R∧R.length=l.length∧l.length < 2 ^ 63∧∀ (i:Nat) (x:α),l[i]?=some x→∃ r:List V,R[i]?=some r∧P H r x
def apk (H:Heap) (r:List V) (b:BlkD):Prop:=∃ cv,r=[Sb b.label,cv]∧RdL 8 aho H cv b.code
def aj1 (H:Heap) (r:List V) (f:FunD):Prop:=∃ pv bv,r=[Sb f.name,pv,bv]∧Rd H pv (f.ps.map Sb)∧azy pv∧f.ps.length < 2 ^ 63∧RdL 2 apk H bv f.blocks
abbrev adr:Heap→V→List FunD→Prop:=RdL 3 aj1
theorem aho.ext {H H':Heap} {r:List V} {x:InsD} (h:aho H r x) (k:Ext H H'):aho H' r x:=by
 obtain ⟨av,lv,h1,h2,h3,h4,h5,h6⟩:=h;exact ⟨av,lv,h1,h2.ext k,h3,h4.ext k,h5,h6⟩
theorem RdL.ext {α:Type} {w:Nat} {P:Heap→List V→α→Prop} (hP:∀ {H H' r x},P H r x→Ext H H'→P H' r x) {H H':Heap} {v:V} {l:List α} (h:RdL w P H v l) (k:Ext H H'):RdL w P H' v l:=by
 obtain ⟨R,h1,h2,h3,h4⟩:=h
 exact ⟨R,h1.ext2 k,h2,h3,fun i x hx=>by obtain ⟨r,r1,r2⟩:=h4 i x hx;exact ⟨r,r1,hP r2 k⟩⟩
theorem apk.ext {H H':Heap} {r:List V} {b:BlkD} (h:apk H r b) (k:Ext H H'):apk H' r b:=by
 obtain ⟨cv,h1,h2⟩:=h;exact ⟨cv,h1,RdL.ext (P:=aho) aho.ext h2 k⟩
theorem aj1.ext {H H':Heap} {r:List V} {f:FunD} (h:aj1 H r f) (k:Ext H H'):aj1 H' r f:=by
 obtain ⟨pv,bv,h1,h2,h3,h4,h5⟩:=h;exact ⟨pv,bv,h1,h2.ext k,h3,h4,RdL.ext (P:=apk) apk.ext h5 k⟩
theorem adr.ext {H H':Heap} {v:V} {fs:List FunD} (h:adr H v fs) (k:Ext H H'):adr H' v fs:=RdL.ext (P:=aj1) aj1.ext h k
theorem RdL.len {α:Type} {w:Nat} {P:Heap→List V→α→Prop} {H:Heap} {v:V} {l:List α} (h:RdL w P H v l):ak2 H .s v=some (.s (.int .i64 l.length)):=by
 obtain ⟨R,h1,h2,_⟩:=h;rw [h1.len,h2]
theorem RdL.one {α:Type} {w:Nat} {P:Heap→List V→α→Prop} {H:Heap} {v:V} {l:List α} (h:RdL w P H v l):v.one=true:=by
 obtain ⟨R,h1,_⟩:=h;exact h1.one
theorem RdL.at2 {α:Type} {w:Nat} {P:Heap→List V→α→Prop} {H:Heap} {v:V} {l:List α} (h:RdL w P H v l) {i:Nat} {x:α} (hx:l[i]?=some x):∃ a r,pz w v (.s (.int .i64 i))=some a∧P H r x∧(∀ H',Ext H H'→xh H' true w a=some (.agg r))∧∀ (o:Nat) (y:V),r[o]?=some y→∃ b,yj o a=some b∧∀ H',Ext H H'→xh H' false 1 b=some y:=by
 obtain ⟨R,h1,h2,h3,h4⟩:=h;obtain ⟨r,r1,r2⟩:=h4 i x hx;obtain ⟨a,a1,a2,a3⟩:=h1.at' i r r1
 exact ⟨a,r,a1,r2,fun H' k=>afc k a2,fun o y hy=>by obtain ⟨b,b1,b2⟩:=a3 o y hy;exact ⟨b,b1,fun H' k=>afc k b2⟩⟩
theorem bco {H:Heap} {v:V} {l:List ByteArray} (h:Rd H v (l.map Sb)):ak2 H .s v=some (.s (.int .i64 l.length)):=by
 have:=h.len
 rwa [abo] at this
end Go.Proofs.YtbocmenkkjbigaaDoor
namespace Go.AM.Tok
def far (p:UInt8→Bool):List UInt8→Nat
 | []=>0
 | c :: l=>if p c then far p l+1 else 0
theorem far_le (p:UInt8→Bool):∀ l,far p l≤l.length
 | []=>ag _
 | c :: l=>by
   unfold far;split
   ·exact Nat.succ_le_succ (far_le p l)
   ·exact jg _
def blank (c:UInt8):Bool:=c == 32 || c == 9 || c == 13 || c == 10
def letter (c:UInt8):Bool:=decide (97≤c.toNat) && decide (c.toNat≤122) || decide (65≤c.toNat) && decide (c.toNat≤90) || c == 95
def digit (c:UInt8):Bool:=decide (48≤c.toNat) && decide (c.toNat≤57)
def within (c:UInt8):Bool:=letter c || digit c || c == 46
def other (c:UInt8):Bool:=c != 10
def sign (c:UInt8):Bool:=c == 61 || c == 44 || c == 58 || c == 40 || c == 41 || c == 123 || c == 125 || c == 91 || c == 93
structure T where
 kind:Nat
 text:List UInt8
 n:Nat
 line:Nat
 col:Nat
 deriving DecidableEq,Inhabited
inductive Out where
 | done (ts:List T)
 | bad (e line col:Nat)
 deriving DecidableEq,Inhabited
def Out.cons (t:T):Out→Out
 | .done ts=>.done (t :: ts)
 | .bad e a b=>.bad e a b
def val (l:List UInt8):Nat:=l.foldl (fun n c=>n * 10+(c.toNat - 48)) 0
def lex (l:List UInt8) (ln cl:Nat):Out:=
 match l with
 | []=>.done [⟨4,[],0,ln,cl⟩]
 | c :: l=>
   if blank c then (if c=10 then lex l (ln+1) 1 else lex l ln (cl+1))
   else if c=59 then lex (l.drop (far other l)) ln (cl+(far other l+1))
   else if letter c then (lex (l.drop (far within l)) ln (cl+(far within l+1))).cons ⟨1,c :: l.take (far within l),0,ln,cl⟩
   else if digit c then
    if 9 < far digit l+1∨(1 < far digit l+1∧c=48)∨far digit l < far within l then .bad 31 ln cl
    else (lex (l.drop (far digit l)) ln (cl+(far digit l+1))).cons ⟨2,c :: l.take (far digit l),val (c :: l.take (far digit l)),ln,cl⟩
   else if sign c then (lex l ln (cl+1)).cons ⟨3,[c],0,ln,cl⟩
   else .bad 30 ln cl
termination_by l.length
decreasing_by all_goals simp only [bz,il];omega
theorem lex_nil (ln cl:Nat):lex [] ln cl=.done [⟨4,[],0,ln,cl⟩]:=by rw [lex]
theorem lex_cons (c:UInt8) (l:List UInt8) (ln cl:Nat):lex (c :: l) ln cl=
 if blank c then (if c=10 then lex l (ln+1) 1 else lex l ln (cl+1))
 else if c=59 then lex (l.drop (far other l)) ln (cl+(far other l+1))
 else if letter c then (lex (l.drop (far within l)) ln (cl+(far within l+1))).cons ⟨1,c :: l.take (far within l),0,ln,cl⟩
 else if digit c then
  if 9 < far digit l+1∨(1 < far digit l+1∧c=48)∨far digit l < far within l then .bad 31 ln cl
  else (lex (l.drop (far digit l)) ln (cl+(far digit l+1))).cons ⟨2,c :: l.take (far digit l),val (c :: l.take (far digit l)),ln,cl⟩
 else if sign c then (lex l ln (cl+1)).cons ⟨3,[c],0,ln,cl⟩
 else .bad 30 ln cl:=by rw [lex]
def spotL:List UInt8→Nat × Nat→Nat × Nat
 | [],p=>p
 | c :: l,p=>spotL l (if c=10 then (p.1+1,1) else (p.1,p.2+1))
theorem zy:∀ (a b:List UInt8) (p:Nat × Nat),spotL (a ++ b) p=spotL b (spotL a p)
 | [],_,_=>rfl
 | c :: a,b,p=>by simp only [ah,spotL,zy a b]
theorem spotL_flat:∀ (l:List UInt8) (p:Nat × Nat),(∀ c∈l,c≠10)→spotL l p=(p.1,p.2+l.length)
 | [],p,_=>rfl
 | c :: l,p,h=>by
   simp only [spotL,h c fu,mg];rw [spotL_flat l _ fun x hx=>h x (dn _ hx)];simp only [bz];rw [vk,Nat.add_comm 1]
theorem far_take (p:UInt8→Bool):∀ (l:List UInt8),∀ c∈l.take (far p l),p c=true
 | []=>by simp
 | x :: l=>by
   intro c hc;unfold far at hc;split at hc
   ·rename_i hx;rw [bq,mf] at hc
    rcases hc with rfl | hc
    ·exact hx
    ·exact far_take p l c hc
   ·simp at hc
theorem amm (p:UInt8→Bool):∀ (l:List UInt8) {c:UInt8} {m:List UInt8},l.drop (far p l)=c :: m→p c=false
 | [],c,m,h=>by simp at h
 | x :: l,c,m,h=>by
   unfold far at h;split at h
   ·rw [d9] at h;exact amm p l h
   ·rename_i hx;rw [fq] at h;cases h
    simpa using hx
theorem ayw (p:UInt8→Bool):∀ (a b:List UInt8),(∀ c∈a,p c=true)→far p (a ++ b)=a.length+far p b
 | [],b,_=>by simp
 | c :: a,b,h=>by
   simp only [ah,far,h c fu,iq,bz];rw [ayw p a b fun x hx=>h x (dn _ hx)];omega
theorem far_len (p:UInt8→Bool) (l:List UInt8):(l.take (far p l)).length=far p l:=by rw [ny,akv (far_le p l)]
theorem len_ne {c:UInt8} (p:UInt8→Bool) (hp:p 10=false) (l:List UInt8) (hc:c≠10):∀ x∈c :: l.take (far p l),x≠10:=by
 intro x hx
 rcases mf.1 hx with rfl | hx
 ·exact hc
 ·rintro rfl;rw [far_take p l _ hx] at hp;cases hp
def gap:Bool→List UInt8→Bool
 | _,[]=>true
 | cm,c :: l=>
   let a:=if c=59 then true else cm
   let b:=if c=10 then false else a
   (b || blank c) && gap b l
theorem ajb:∀ (a b:List UInt8),(∀ c∈a,c≠10)→gap true (a ++ b)=gap true b
 | [],b,_=>rfl
 | c :: a,b,h=>by
   have h10:=h c fu;simp only [ah,gap,h10,mg]
   have:(if c=59 then true else true)=true:=by split <;> rfl
   simp only [this,ak0,o5];exact ajb a b fun x hx=>h x (dn _ hx)
theorem a8f (b:List UInt8):gap true (10 :: b)=gap false (10 :: b):=by simp [gap]
inductive Cov:List UInt8→Nat × Nat→List T→Prop
 | last (g:List UInt8) (p:Nat × Nat):gap false g=true→Cov g p [⟨4,[],0,(spotL g p).1,(spotL g p).2⟩]
 | word (g r:List UInt8) (p:Nat × Nat) (t:T) (ts:List T):gap false g=true→(t.line,t.col)=spotL g p→t.kind≠4→t.text≠[]→Cov r (spotL t.text (spotL g p)) ts→Cov (g ++ (t.text ++ r)) p (t :: ts)
theorem Cov.blank' {c:UInt8} {l:List UInt8} {p:Nat × Nat} {ts:List T} (hb:blank c=true) (h:Cov l (if c=10 then (p.1+1,1) else (p.1,p.2+1)) ts):Cov (c :: l) p ts:=by
 have h59:c≠59:=by rintro rfl;revert hb;decide
 have hg:∀ g,gap false (c :: g)=gap false g:=by
  intro g;simp only [gap,h59,mg]
  have:(if c=10 then false else false)=false:=by split <;> rfl
  simp only [this,hb,bdz,o5]
 generalize hq:(if c=10 then (p.1+1,1) else (p.1,p.2+1))=q at h
 cases h with
 | last g _ h=>
   have:=Cov.last (c :: l) p (by rw [hg];exact h)
   rw [spotL,hq] at this;exact this
 | word g r _ t ts h1 h2 h3 h4 h5=>
   have:=Cov.word (c :: g) r p t ts (by rw [hg];exact h1) (by rw [spotL,hq];exact h2) h3 h4 (by rw [spotL,hq];exact h5)
   rw [ah] at this;exact this
theorem Cov.comm {a l:List UInt8} {p:Nat × Nat} {ts:List T} (ha:∀ x∈a,x≠10) (hl:l=[]∨∃ m,l=10 :: m) (h:Cov l (spotL (59 :: a) p) ts):Cov (59 :: (a ++ l)) p ts:=by
 have hg:∀ g,(g=[]∨∃ m,g=10 :: m)→gap false (59 :: (a ++ g))=gap false g:=by
  intro g hg
  have:gap false (59 :: (a ++ g))=gap true (a ++ g):=by simp [gap]
  rw [this,ajb a g ha]
  rcases hg with rfl | ⟨m,rfl⟩
  ·rfl
  ·exact a8f m
 generalize hq:spotL (59 :: a) p=q at h
 have hs:∀ g,spotL (59 :: (a ++ g)) p=spotL g q:=by
  intro g;rw [show 59 :: (a ++ g)=(59 :: a) ++ g from rfl,zy,hq]
 cases h with
 | last g _ h=>
   have:=Cov.last (59 :: (a ++ l)) p (by rw [hg _ hl];exact h)
   rw [hs] at this;exact this
 | word g r _ t ts h1 h2 h3 h4 h5=>
   have hg2:g=[]∨∃ m,g=10 :: m:=by
    cases g with
    | nil=>exact .inl rfl
    | cons x g=>
      rcases hl with hl | ⟨m,hl⟩
      ·cases hl
      ·cases hl;exact .inr ⟨g,rfl⟩
   have:=Cov.word (59 :: (a ++ g)) r p t ts (by rw [hg _ hg2];exact h1) (by rw [hs];exact h2) h3 h4 (by rw [hs];exact h5)
   rw [show 59 :: (a ++ g) ++ (t.text ++ r)=59 :: (a ++ (g ++ (t.text ++ r))) by simp] at this
   exact this
theorem cons_done {t:T} {o:Out} {ts:List T} (h:Out.cons t o=.done ts):∃ us,o=.done us∧ts=t :: us:=by
 cases o with
 | done us=>cases h;exact ⟨us,rfl,rfl⟩
 | bad=>cases h
theorem amx {t:T} {o:Out} {e a b:Nat} (h:Out.cons t o=.bad e a b):o=.bad e a b:=by
 cases o with
 | done us=>cases h
 | bad=>cases h;rfl
theorem Cov.next {c:UInt8} {l x:List UInt8} {k n:Nat} {p:Nat × Nat} {us:List T} (hk:k≠4) (hc:∀ y∈c :: x,y≠10) (h:Cov l (p.1,p.2+(x.length+1)) us):Cov (c :: (x ++ l)) p (⟨k,c :: x,n,p.1,p.2⟩ :: us):=by
 have:=Cov.word [] l p ⟨k,c :: x,n,p.1,p.2⟩ us rfl rfl hk (by simp) (by rw [spotL_flat _ _ hc];exact h)
 simpa using this
theorem not_ten:∀ {c:UInt8},(letter c=true∨digit c=true∨sign c=true)→c≠10:=by
 rintro c h rfl;revert h;decide
theorem lex_cov:∀ (n:Nat) (l:List UInt8) (p:Nat × Nat) (ts:List T),l.length≤n→lex l p.1 p.2=.done ts→Cov l p ts:=by
 intro n
 induction n with
 | zero=>
   intro l p ts h e
   obtain rfl:l=[]:=eu (by omega)
   rw [lex_nil] at e;cases e;exact Cov.last [] p rfl
 | succ n ih=>
   intro l p ts h e;cases l with
   | nil=>
     rw [lex_nil] at e;cases e;exact Cov.last [] p rfl
   | cons c l=>
     have hl:l.length≤n:=by simpa using h
     have hd:∀ m,(l.drop m).length≤n:=fun m=>by rw [il];omega
     rw [lex_cons] at e;split at e
     ·rename_i hb;refine Cov.blank' hb ?_;split at e
      ·rename_i h10;rw [bi h10];exact ih _ (p.1+1,1) _ hl e
      ·rename_i h10;rw [bu h10];exact ih _ (p.1,p.2+1) _ hl e
     ·split at e
      ·rename_i h59;subst h59;have:=ih _ (p.1,p.2+(far other l+1)) _ (hd _) e;rw [← jr (far other l) l]
       have hn:=len_ne (c:=59) other (by decide) l (by decide)
       refine Cov.comm (fun x hx=>hn x (dn _ hx)) ?_ ?_
       ·cases hx:l.drop (far other l) with
        | nil=>exact .inl rfl
        | cons c m=>
          have:=amm other l hx
          exact .inr ⟨m,by rw [show c=10 by simpa [other] using this]⟩
       ·rw [spotL_flat _ _ hn,bz,far_len];exact this
      ·split at e
       ·rename_i hb h59 hlt;obtain ⟨us,e1,rfl⟩:=cons_done e;have:=ih _ (p.1,p.2+(far within l+1)) _ (hd _) e1
        have h2:=Cov.next (c:=c) (x:=l.take (far within l)) (k:=1) (n:=0) (p:=p) (by decide) (len_ne within (by decide) l (not_ten (.inl hlt))) (by rw [far_len];exact this)
        rwa [jr] at h2
       ·split at e
        ·rename_i hb h59 hlt hdg;split at e
         ·cases e
         ·obtain ⟨us,e1,rfl⟩:=cons_done e;have:=ih _ (p.1,p.2+(far digit l+1)) _ (hd _) e1
          have h2:=Cov.next (c:=c) (x:=l.take (far digit l)) (k:=2) (n:=val (c :: l.take (far digit l))) (p:=p) (by decide) (len_ne digit (by decide) l (not_ten (.inr (.inl hdg)))) (by rw [far_len];exact this)
          rwa [jr] at h2
        ·split at e
         ·rename_i hb h59 hlt hdg hs;obtain ⟨us,e1,rfl⟩:=cons_done e;have:=ih _ (p.1,p.2+1) _ hl e1
          exact Cov.next (c:=c) (x:=[]) (k:=3) (n:=0) (p:=p) (by decide) (by simpa using not_ten (.inr (.inr hs))) this
         ·cases e
theorem agy (p:UInt8→Bool):∀ (l u v:List UInt8),l.drop (far p l)=u ++ v→far p (l.take (far p l) ++ u)=far p l:=by
 intro l u v h;rw [ayw p _ _ (far_take p l),far_len];cases u with
 | nil=>rfl
 | cons c u=>
   have:=amm p l (by rw [h];rfl)
   simp [far,this]
theorem amn (p:UInt8→Bool):∀ (a b:List UInt8),far p a≤far p (a ++ b)
 | [],b=>jg _
 | c :: a,b=>by
   simp only [ah,far];split
   ·exact Nat.succ_le_succ (amn p a b)
   ·exact jg _
def Out.ok:Out→Bool
 | .done _=>true
 | .bad _ _ _=>false
theorem aqy (t:T) (o:Out):(Out.cons t o).ok=o.ok:=by cases o <;> rfl
theorem a5i (ln cl:Nat):(lex [] ln cl).ok=true:=by rw [lex_nil];rfl
def Ahead (l:List UInt8) (p:Nat × Nat) (e a b:Nat):Prop:=(e=30∨e=31)∧∃ u v,l=u ++ v∧v≠[]∧(lex u p.1 p.2).ok=true∧(a,b)=spotL u p
theorem lex_ahead:∀ (n:Nat) (l:List UInt8) (p:Nat × Nat) (e a b:Nat),l.length≤n→lex l p.1 p.2=.bad e a b→Ahead l p e a b:=by
 intro n
 induction n with
 | zero=>
   intro l p e a b h he
   obtain rfl:l=[]:=eu (by omega)
   rw [lex_nil] at he;cases he
 | succ n ih=>
   intro l p e a b h he;cases l with
   | nil=>rw [lex_nil] at he;cases he
   | cons c l=>
     have hl:l.length≤n:=by simpa using h
     have hd:∀ m,(l.drop m).length≤n:=fun m=>by rw [il];omega
     have hh:=he;rw [lex_cons] at he;split at he
     ·rename_i hb;split at he
      ·rename_i h10;obtain ⟨h1,u,v,rfl,h3,h4,h5⟩:=ih _ (p.1+1,1) _ _ _ hl he
       exact ⟨h1,c :: u,v,rfl,h3,by rw [lex_cons,bi hb,bi h10];exact h4,by rw [h5,spotL,bi h10]⟩
      ·rename_i h10;obtain ⟨h1,u,v,rfl,h3,h4,h5⟩:=ih _ (p.1,p.2+1) _ _ _ hl he
       exact ⟨h1,c :: u,v,rfl,h3,by rw [lex_cons,bi hb,bu h10];exact h4,by rw [h5,spotL,bu h10]⟩
     ·rename_i hb;split at he
      ·rename_i h59;obtain ⟨h1,u,v,h2,h3,h4,h5⟩:=ih _ (p.1,p.2+(far other l+1)) _ _ _ (hd _) he;have hf:=agy other l u v h2;refine ⟨h1,c :: (l.take (far other l) ++ u),v,?_,h3,?_,?_⟩
       ·rw [ah,gu,← h2,jr]
       ·rw [lex_cons,bu hb,bi h59,hf];rw [a5w (far_len other l)];exact h4
       ·rw [h5,← ah,zy,spotL_flat (c :: l.take (far other l)) p (len_ne other (by decide) l (by rw [h59];decide)),bz,far_len]
      ·rename_i h59
       have hdrop:∀ (q:UInt8→Bool) (u:List UInt8),(l.take (far q l) ++ u).drop (far q l)=u:=by
        exact fun q u=>a5w (far_len q l)
       split at he
       ·rename_i hlt;obtain ⟨h1,u,v,h2,h3,h4,h5⟩:=ih _ (p.1,p.2+(far within l+1)) _ _ _ (hd _) (amx he);have hf:=agy within l u v h2;have hdr:=hdrop within u;refine ⟨h1,c :: (l.take (far within l) ++ u),v,?_,h3,?_,?_⟩
        ·rw [ah,gu,← h2,jr]
        ·rw [lex_cons,bu hb,bu h59,bi hlt,hf,hdr,aqy];exact h4
        ·rw [h5,← ah,zy,spotL_flat (c :: l.take (far within l)) p (len_ne within (by decide) l (not_ten (.inl hlt))),bz,far_len]
       ·rename_i hlt;split at he
        ·rename_i hdg;split at he
         ·rename_i hcond;cases he
          exact ⟨.inr rfl,[],c :: l,rfl,by simp,a5i _ _,rfl⟩
         ·rename_i hcond;obtain ⟨h1,u,v,h2,h3,h4,h5⟩:=ih _ (p.1,p.2+(far digit l+1)) _ _ _ (hd _) (amx he);have hf:=agy digit l u v h2;have hdr:=hdrop digit u
          have hm:far within (l.take (far digit l) ++ u)≤far within l:=by
           have:=amn within (l.take (far digit l) ++ u) v;rw [gu,← h2,jr] at this;exact this
          refine ⟨h1,c :: (l.take (far digit l) ++ u),v,?_,h3,?_,?_⟩
          ·rw [ah,gu,← h2,jr]
          ·rw [lex_cons,bu hb,bu h59,bu hlt,bi hdg,bu (fun hx=>hcond (by rw [hf] at hx;exact hx.imp id (Or.imp id fun h=>by omega))),hf,hdr,aqy];exact h4
          ·rw [h5,← ah,zy,spotL_flat (c :: l.take (far digit l)) p (len_ne digit (by decide) l (not_ten (.inr (.inl hdg)))),bz,far_len]
        ·rename_i hdg;split at he
         ·rename_i hs;obtain ⟨h1,u,v,rfl,h3,h4,h5⟩:=ih _ (p.1,p.2+1) _ _ _ hl (amx he);refine ⟨h1,c :: u,v,rfl,h3,?_,?_⟩
          ·rw [lex_cons,bu hb,bu h59,bu hlt,bu hdg,bi hs,aqy];exact h4
          ·rw [h5,spotL,bu (not_ten (.inr (.inr hs)))]
         ·cases he
          exact ⟨.inl rfl,[],c :: l,rfl,by simp,a5i _ _,rfl⟩
end Go.AM.Tok
set_option maxRecDepth 100000
namespace Go.Proofs.YtbocmenkkjbigaaDoor
open Go.AM
structure Vw where
 kind:Nat→Nat
 text:Nat→List UInt8
 num:Nat→Nat
 same:Nat→Bool
def tkE:Tok.T:=⟨4,[],0,0,0⟩
def Vw.of (ts:List Tok.T):Vw where
 kind a:=(ts.getD a tkE).kind
 text a:=(ts.getD a tkE).text
 num a:=(ts.getD a tkE).n
 same a:=decide (a > 0) && (ts.getD (a - 1) tkE).line == (ts.getD a tkE).line
abbrev Rx (α:Type):=Nat→Except Nat (α × Nat)
def Rx.bind {α β:Type} (f:Rx α) (g:α→Rx β):Rx β:=fun a=>match f a with
 | .error e=>.error e
 | .ok (x,b)=>g x b
section
variable (V:Vw) (N:Nat)
def bOf (l:List UInt8):ByteArray:=⟨l.toArray⟩
def isT (s:List UInt8) (a:Nat):Bool:=V.same a && V.kind a == 3 && V.text a == s
def mo:Rx ByteArray:=fun a=>if (V.same a && V.kind a == 1)=true then .ok (bOf (V.text a),a+1) else .error a
def q9:Rx Nat:=fun a=>if (V.same a && V.kind a == 2)=true then .ok (V.num a,a+1) else .error a
def qj (s:List UInt8):Rx Unit:=fun a=>if isT V s a=true then .ok ((),a+1) else .error a
def begT (a:Nat):Bool:=V.same a && V.kind a != 4
def bdu:Rx Unit:=fun a=>if begT V a=true then .error a else .ok ((),a)
def secT (s:List UInt8) (a:Nat):Bool:=V.kind a == 1 && (V.kind (a+1) == 3 && V.text (a+1) == s && V.same (a+1))
def za:Nat→List ByteArray→Rx (List ByteArray)
 | 0,_,a=>.error a
 | n+1,acc,a=>if isT V [41] a=true then .ok (acc,a) else
   if acc.length > 0 then (qj V [44]).bind (fun _=>(mo V).bind fun x=>za n (acc ++ [x])) a
   else (mo V).bind (fun x=>za n (acc ++ [x])) a
def listT:Rx (List ByteArray):=(qj V [40]).bind fun _=>(za V N []).bind fun l=>(qj V [41]).bind fun _ a=>.ok (l,a)
def alr:Nat→List ByteArray→List ByteArray→Rx (List ByteArray × List ByteArray)
 | 0,_,_,a=>.error a
 | n+1,ls,xs,a=>(mo V).bind (fun l=>(qj V [58]).bind fun _=>(mo V).bind fun x b=>
   if isT V [44] b=true then (qj V [44]).bind (fun _=>alr n (ls ++ [l]) (xs ++ [x])) b else .ok ((ls ++ [l],xs ++ [x]),b)) a
def opT:Nat→InsD→Rx InsD
 | 1,x | 2,x=>(q9 V).bind fun n a=>.ok ({ x with k:=n },a)
 | 3,x=>fun a=>.ok (x,a)
 | 4,x=>(mo V).bind fun s a=>.ok ({ x with f:=s },a)
 | 5,x | 8,x=>(mo V).bind fun s a=>.ok ({ x with a:=s },a)
 | 6,x=>(qj V [91]).bind fun _=>(alr V N x.ls x.xs).bind fun p=>(qj V [93]).bind fun _ a=>.ok ({ x with ls:=p.1,xs:=p.2 },a)
 | 7,x=>(mo V).bind fun s=>(q9 V).bind fun n a=>.ok ({ x with a:=s,k:=n },a)
 | 9,x=>(mo V).bind fun s=>(qj V [44]).bind fun _=>(mo V).bind fun t a=>.ok ({ x with a:=s,b:=t },a)
 | 10,x=>(mo V).bind fun s=>(listT V N).bind fun l a=>.ok ({ x with f:=s,xs:=l },a)
 | 11,x=>(mo V).bind fun s=>(listT V N).bind fun l a=>.ok ({ x with a:=s,xs:=l },a)
 | 12,x=>(mo V).bind fun s=>(mo V).bind fun t a=>.ok ({ x with ls:=[s,t] },a)
 | 13,x=>(mo V).bind fun s a=>.ok ({ x with ls:=[s] },a)
 | 14,x=>fun a=>if (V.same a && V.kind a == 1)=true then (mo V).bind (fun s a=>.ok ({ x with a:=s },a)) a else .ok (x,a)
 | _,_=>fun a=>.error a
def ale:List (List UInt8 × Nat):=[([97,108,108,111,99,97],1),([109,97,108,108,111,99],2),([110,117,108,108],3),([97,100,100,114],4),([99,111,112,121],5),([108,111,97,100],8),([102,105,101,108,100],7),([112,104,105],6),([99,97,108,108],10),([105,99,97,108,108],11)]
def ao9:List (List UInt8 × Nat):=[([115,116,111,114,101],9),([99,97,108,108],10),([105,99,97,108,108],11),([98,114],12),([103,111,116,111],13),([114,101,116],14)]
def ai7 (l:List (List UInt8 × Nat)) (s:List UInt8):Option Nat:=(l.find? fun p=>p.1 == s).map (·.2)
def ami (d:ByteArray) (l:List (List UInt8 × Nat)):Rx InsD:=fun b=>match ai7 l (V.text b) with
 | none=>if d.data.toList=[] then .error (b+1) else .error b
 | some o=>if V.kind b=1 then opT V N o { asy with op:=o,d:=d } (b+1) else .error b
def aaa:Rx InsD:=fun a=>
 if secT V [61] a=true then (if V.same (a+2)=true then ami V N (bOf (V.text a)) ale (a+2) else .error (a+2))
 else ami V N ⟨#[]⟩ ao9 a
def addI (bs:List BlkD) (x:InsD):List BlkD:=bs.dropLast ++ (bs.getLast?.toList.map fun b=>{ b with code:=b.code ++ [x] })
def aks (nm:ByteArray) (ps:List ByteArray):Nat→List BlkD→Rx FunD
 | 0,_,a=>.error a
 | n+1,bs,a=>
   if begT V a=true then .error a
   else if (V.kind a == 3 && V.text a == [125])=true then (if begT V (a+1)=true then .error (a+1) else .ok (⟨nm,ps,bs⟩,a+1))
   else if secT V [58] a=true then aks nm ps n (bs ++ [⟨bOf (V.text a),[]⟩]) (a+2)
   else if (V.kind a != 1 || bs.length == 0)=true then (if V.kind a=1 then .error (a+1) else .error a)
   else (aaa V N).bind (fun x=>aks nm ps n (addI bs x)) a
def ane:Rx FunD:=fun a=>(mo V).bind (fun nm=>(listT V N).bind fun ps=>(qj V [123]).bind fun _=>aks V N nm ps N []) (a+1)
def ahu:Nat→List FunD→Rx (List FunD)
 | 0,_,a=>.error a
 | n+1,fs,a=>if V.kind a=4 then .ok (fs,a) else
   if (V.kind a != 1 || V.text a != [102,117,110,99])=true then .error a
   else (ane V N).bind (fun f=>ahu n (fs ++ [f])) a
end
def a5f (ts:List Tok.T):Except Nat (List FunD):=match ahu (Vw.of ts) (ts.length+1) (ts.length+1) [] 0 with
 | .error e=>.error e
 | .ok (fs,_)=>.ok fs
end Go.Proofs.YtbocmenkkjbigaaDoor
namespace Go.AM
def am0:=And.intro @a3t (And.intro @a3v (And.intro @a8s (And.intro @a8p (And.intro @ay6 (And.intro @a3w (And.intro @a3u (And.intro @a8q (And.intro @anp (And.intro @avz (And.intro @avy (And.intro @atr (And.intro @att (And.intro @a1t (And.intro @a1s (And.intro @a1u (And.intro @axf (And.intro @axg (And.intro @ave (And.intro @awr (And.intro @aof (And.intro @Bool.not_true (And.intro @Bool.not_false (And.intro @aam (And.intro @qb (And.intro @atu (And.intro @ap3 (And.intro @anv (And.intro @axe (And.intro @a06 (And.intro @awx (And.intro @awy (And.intro @ig (And.intro @o5 (And.intro @a9g (And.intro @a9f (And.intro @evE_t (And.intro @a8n (And.intro @a3k (@aup)))))))))))))))))))))))))))))))))))))))
def am1:=And.intro @auo (And.intro @aqr (And.intro @a8o (And.intro @a3s (And.intro @a3r (And.intro @a8m (And.intro @a3p (And.intro @a3o (And.intro @ay3 (And.intro @au9 (And.intro @au8 (And.intro @amt (And.intro @ajz (And.intro @ajy (And.intro @ao4 (And.intro @ams (And.intro @amr (And.intro @au6 (And.intro @arq (And.intro @arp (And.intro @au7 (And.intro @aru (And.intro @art (And.intro @ao3 (And.intro @ay2 (And.intro @bcc (And.intro @a3q (And.intro @ava (And.intro @amu (And.intro @ay1 (And.intro @arv (And.intro @a3n (And.intro @a3m (And.intro @ay4 (And.intro @a3l (And.intro @au5 (And.intro @ay0 (And.intro @afx (And.intro @aab (@a9k)))))))))))))))))))))))))))))))))))))))
def am2:=And.intro @acn (And.intro @aml (And.intro @ao0 (And.intro @ayn (And.intro @a2x (And.intro @aw3 (And.intro @a1c (And.intro @auz (And.intro @ax9 (And.intro @apv (And.intro @avk (And.intro @not_false_eq_true (And.intro @aea (And.intro @atj (And.intro @bdz (And.intro @ak0 (And.intro @jy (And.intro @aar (And.intro @aa5 (And.intro @om (And.intro @Int.natCast_nonneg (And.intro @Bool.cond_true_left (And.intro @Bool.cond_false_right (And.intro @Bool.cond_false_left (And.intro @Bool.cond_true_right (And.intro @a3c (And.intro @a2m (And.intro @ada (And.intro @anr (And.intro @anq (And.intro @atx (And.intro @avw (And.intro @a01 (And.intro @a00 (And.intro @aws (And.intro @a03 (And.intro @a02 (And.intro @a04 (And.intro @awu (@ayx)))))))))))))))))))))))))))))))))))))))
def am3:=And.intro @au4 (And.intro @arn (And.intro @a15 (And.intro @atq (And.intro @avr (And.intro @awv (And.intro @a1a (And.intro @a1b (And.intro @aww (And.intro @axj (And.intro @ev_t (And.intro @ev_c (And.intro @beq_true (And.intro @beq_false (And.intro @bbo (And.intro @bbm (And.intro @a1z (And.intro @aog (And.intro @aqw (And.intro @axk (And.intro @aqv (And.intro @a1y (And.intro @op_un (And.intro @a7d (And.intro @axn (And.intro @aoh (And.intro @a1x (And.intro @aus (And.intro @a7c (And.intro @a7b (And.intro @axl (And.intro @a6z (And.intro @a14 (And.intro @bbn (And.intro @ai1 (And.intro @a1w (And.intro @a7a (And.intro @axo (And.intro @a7e (@a11)))))))))))))))))))))))))))))))))))))))
def am4:=And.intro @a13 (And.intro @aut (And.intro @auu (And.intro @a9i (And.intro @a9h (And.intro @ayy (And.intro @aun (And.intro @aum (And.intro @Bool.bne_false (And.intro @Bool.bne_true (And.intro @bay (And.intro @baj (And.intro @bap (And.intro @baw (And.intro @bao (And.intro @bas (And.intro @bat (And.intro @bau (And.intro @bav (And.intro @bax (And.intro @xb_or (And.intro @bai (And.intro @avq (And.intro @ban (And.intro @bam (And.intro @bal (And.intro @bak (And.intro @a94 (And.intro @a90 (And.intro @a92 (And.intro @a95 (And.intro @xq_b (And.intro @xn_pn (And.intro @xn_pr (And.intro @xn_pp (And.intro @xn_sn (And.intro @xn_ss (And.intro @xn_sp (And.intro @xn_se (@xn_mn)))))))))))))))))))))))))))))))))))))))
def am5:=And.intro @xn_mm (And.intro @xn_fn (And.intro @xn_ff (And.intro @xn_fy (And.intro @xg (And.intro @a9y (And.intro @a9z (And.intro @bah (And.intro @xc_id (And.intro @bab (And.intro @a6a (And.intro @xk_fn (And.intro @baa (And.intro @a4x (And.intro @a6b (And.intro @baf (And.intro @ato (And.intro @bae (And.intro @bac (And.intro @bag (And.intro @a96 (And.intro @a98 (And.intro @a99 (And.intro @a97 (And.intro @xl_sl (And.intro @a5z (And.intro @xu (And.intro @a5y (And.intro @xm (And.intro @alc (And.intro @alb (And.intro @ag (And.intro @ou (And.intro @and_true (And.intro @ahp (And.intro @jl (And.intro @aek (And.intro @si (And.intro @a0s (@azq)))))))))))))))))))))))))))))))))))))))
def am6:=And.intro @a4k (And.intro @atm (And.intro @atn (And.intro @atl (And.intro @avp (And.intro @avd (And.intro @arx (And.intro @ary (And.intro @asq (And.intro @a5x (And.intro @a10 (And.intro @Int.sub_zero (And.intro @Int.le_refl (And.intro @cast0 (And.intro @ba6 (And.intro @ayp (And.intro @a2a (And.intro @kv (And.intro @bbu (And.intro @bcg (And.intro @a7n (And.intro @a7k (And.intro @a19 (And.intro @a18 (And.intro @a7l (And.intro @bbp (And.intro @a7m (And.intro @a7o (And.intro @bbr (And.intro @bbs (And.intro @azm (And.intro @a8y (And.intro @a4h (And.intro @azk (And.intro @azj (And.intro @azl (And.intro @a4i (And.intro @ayu (And.intro @aty (@apw)))))))))))))))))))))))))))))))))))))))
def am7:=And.intro @anx (And.intro @anw (And.intro @awh (And.intro @atw (@vk))))
def al0:=@Bool.cond_self
def al1:=@ib
def al2:=@jc
def al3:=@cz
def al4:=@jh
def al5:=@ne_eq
def al6:=@mg
def al7:=@iq
def al8:=@af8
def al9:=@avm
def al10:=@cond_true
def al11:=@cond_false
def al12:=@dm
def al13:=@abp
def al14:=@ah
def al15:=@oz
def al16:=@acx
def al17:=@aao
def al18:=@avl
def al19:=@List.getElem?_cons_zero
def al20:=@List.getElem?_cons_succ
def al21:=@fq
def al22:=@d9
def al23:=@bq
def al24:=@dz
def al25:=@List.take_nil
def al26:=@List.drop_nil
def al27:=@bz
def al28:=@gq
def al29:=@zg
def al30:=@gm
def al31:=@gy
def al32:=@dh
def al33:=@List.set_cons_zero
def al34:=@List.set_cons_succ
theorem hT (R:List AOper) (K O:List Nat) (m:Nat) (kp:List (List (Nat × Bool × E) × E)) (os:List (Nat × E)) (items:List RI) (h:xw R K O=some (m,akj items os,os):=by kernel_rfl) (hk:aef items=kp:=by kernel_rfl):∀ (fr:List V) (H:Heap),rz (xw R K O) K fr H=rz (some (m,kp,os)) K fr H:=fun fr H=>by rw [← hk];exact a0i h fr H
theorem hO (R P T:List AOper) (KC K:List Nat) (lit:List AOper) (e:R=P ++ T:=by exact rfl) (e2:P=lit:=by exact rfl) (h:apb KC T K=true:=by kernel_rfl):∀ (call:kz) (it:yw) (base:Nat) (f:List V) (H:Heap),evC call it base (.region R [] K) f H=ahm call it base (.region T [] K) (az3 [] P KC (je call base lit f H)):=fun call it base f H=>by
 subst e;subst e2
 exact (a5a call it base P T (kc:=KC) h f H).trans (by rw [aqo])
theorem hS (R:List AOper) (ka oa K:List Nat) {P T:List AOper} (e:R=P ++ T:=by exact rfl) (h:apb ka T K=true:=by kernel_rfl):∀ (call:kz) (it:yw) (base:Nat) (f:List V) (H:Heap),evC call it base (.region R [] K) f H=bbb call it base T K H (rz (xw P ka oa) ka f H) (ae2 call it base R K f H):=fun call it base f H=>by
 subst e;exact awq call it base P T h f H
theorem hU (R:List AOper) (ka oa K:List Nat) (m:Nat) (kp:List (List (Nat × Bool × E) × E)) (os:List (Nat × E)) (items:List RI) {P T:List AOper} (e:R=P ++ T:=by exact rfl) (h:apb ka T K=true:=by kernel_rfl) (h2:xw P ka oa=some (m,akj items os,os):=by kernel_rfl) (hk:aef items=kp:=by kernel_rfl):(∀ (fr:List V) (H:Heap),rz (xw P ka oa) ka fr H=rz (some (m,kp,os)) ka fr H)∧∀ (call:kz) (it:yw) (base:Nat) (f:List V) (H:Heap),evC call it base (.region R [] K) f H=bbb call it base T K H (rz (xw P ka oa) ka f H) (ae2 call it base R K f H):=⟨hT P ka oa m kp os items h2 hk,hS R ka oa K e h⟩
theorem hL (R:List AOper) (K O:List Nat):∀ (call:kz) (it:yw) (base:Nat) (f:List V) (H:Heap),evC call it base (.region R [] K) f H=bdp H (rz (xw R K O) K f H) (ae2 call it base R K f H):=fun call it base f H=>a0z call it base R f H
theorem hV (R:List AOper) (K O:List Nat) (m:Nat) (kp:List (List (Nat × Bool × E) × E)) (os:List (Nat × E)) (items:List RI) (h:xw R K O=some (m,akj items os,os):=by kernel_rfl) (hk:aef items=kp:=by kernel_rfl):(∀ (fr:List V) (H:Heap),rz (xw R K O) K fr H=rz (some (m,kp,os)) K fr H)∧∀ (call:kz) (it:yw) (base:Nat) (f:List V) (H:Heap),evC call it base (.region R [] K) f H=bdp H (rz (xw R K O) K f H) (ae2 call it base R K f H):=⟨hT R K O m kp os items h hk,hL R K O⟩
theorem hX (R:List AOper) (K:List Nat) {a:AOper} (e:R=[a]:=by exact rfl):∀ (call:kz) (it:yw) (base:Nat) (f:List V) (H:Heap),evC call it base (.region R [] K) f H=az3 [] R K (je call base [a] f H):=fun call it base f H=>by
 subst e;exact aqo call it base [a] K f H
theorem hE (c b:ACode) (e:c=b:=by exact rfl):∀ (call:kz) (it:yw) (base:Nat) (fr:List V) (H:Heap),evC call it base c fr H=evC call it base b fr H:=fun _ _ _ _ _=>by rw [e]
theorem hP (R:List AOper) (KC K:List Nat) {T:List AOper} {a:AOper} (e:R=a :: T:=by exact rfl) (h:apb KC T K=true:=by kernel_rfl):∀ (call:kz) (it:yw) (base:Nat) (f:List V) (H:Heap),evC call it base (.region R [] K) f H=ahm call it base (.region T [] K) (az3 [] [a] KC (je call base [a] f H)):=hO R [a] T KC K [a] e rfl h
def q (d:Nat) (o:AOp):AOper:=⟨some d,o,none⟩
def qg (d:Nat) (o:AOp) (n:Nat) (b:Bool):AOper:=⟨some d,o,some (n,b)⟩
abbrev LO:=List AOper
def oL (d n:Nat):AOper:=⟨some d,.load false 1 (.t n),none⟩
def gL (d n g:Nat) (b:Bool):AOper:=⟨some d,.load false 1 (.t n),some (g,b)⟩
def oF (d k n:Nat):AOper:=⟨some d,.fieldAddr k (.t n),none⟩
def gF (d k n g:Nat) (b:Bool):AOper:=⟨some d,.fieldAddr k (.t n),some (g,b)⟩
def oM (d n:Nat):AOper:=⟨some d,.move (.t n),none⟩
def gM (d n g:Nat) (b:Bool):AOper:=⟨some d,.move (.t n),some (g,b)⟩
abbrev eL (x:E):E:=.op (.load false 1 (.t 0)) [x]
abbrev eF (k:Nat) (x:E):E:=.op (.fieldAddr k (.t 0)) [x]
def sb (l:List Nat):RI:=.sub 0 l []
theorem hQ (l:List Nat) (n:Nat) (h:l.contains n=true:=by kernel_rfl):l.contains n=true:=h
theorem hK (l:List Nat) (n:Nat) (h:l.contains n=false:=by kernel_rfl):l.contains n=false:=h
theorem ai {a b:Prop} (h:a) (k:b):a∧b:=⟨h,k⟩
def aa:=ai @a7f (ai @amY (ai @bbl (ai @bl.eq_1 (ai @i64.eq_1 (ai @splice.eq_1 (ai @aaf.eq_1 (ai @aaf.eq_2 (ai @am0 (ai @am1 (ai @am2 (ai @am3 (ai @am4 (ai @am5 (ai @am6 (ai @am7 (ai @al0.{1} (ai @al1.{0} (ai @al2.{0} (ai @al3.{0} (ai @al4.{0,0} (ai @al5.{1} (ai @al6.{1} (ai @al7.{1} (ai @al8.{0} (ai @al9.{0} (ai @al10.{1} (ai @al11.{1} (ai @al12.{0} (ai @al13.{0} (ai @al14.{0} (ai @al15.{0,0} (ai @al16.{0,0} (ai @al17.{0} (ai @al18.{0} (ai @al19.{0} (ai @al20.{0} (ai @al21.{0} (ai @al22.{0} (ai @al23.{0} (ai @al24.{0} (ai @al25.{0} (ai @al26.{0} (ai @al27.{0} (ai @al28.{0} (ai @al29.{0,0} (ai @al30.{0} (ai @al31.{0} (ai @al32.{0} (ai @al33.{0} (@al34.{0}))))))))))))))))))))))))))))))))))))))))))))))))))
open Go.RowKit
abbrev aad:=TypeId × V × Heap
abbrev atf:=V→List V→Nat→Heap→aad→Prop
def ajm (call:kz) (base:Nat):Nat→List AOper→List V→Heap→Option (V × List V × Heap)
 | _,[],_,_=>none
 | 0,o :: _,fr,H=>match want o fr with
   | some true=>match o.op with
     | .call f xs=>some (ev fr f,xs.map (ev fr),H)
     | _=>none
   | _=>none
 | n+1,o :: os,fr,H=>match want o fr with
   | none=>none
   | some false=>ajm call base n os (put o.dst und fr) H
   | some true=>match ja call base fr H o.op with
     | some (v,H')=>ajm call base n os (put o.dst v fr) H'
     | none=>none
def yo (u:V):kz:=fun _ _ _ H=>some (u,H)
abbrev ab8:=List AOper→List V→Prop
def bcp (call:kz) (pan:atf) (base:Nat) (C:ab8) (ops:List AOper) (chk:List (Nat × Nat)) (fr:List V) (H:Heap) (r:aad):Prop:=
 C ops fr∧(∃ i v args H1,ajm call base i ops fr H=some (v,args,H1)∧pan v args base H1 r)∧
 ∃ u fr' H',je (yo u) base ops fr H=some (fr',H')∧chk.all (aa1 (yo u) base ops fr H fr')=true
inductive PanL (b:List V→Heap→Option St) (x:List V→Heap→aad→Prop) (kill:List Nat) (m:Nat):List V→Heap→aad→Prop
 | here {fr:List V} {H:Heap} {r:aad} (h:x fr H r):PanL b x kill m fr H r
 | next {fr fr':List V} {H H':Heap} {r:aad} (h:b fr H=some (.nrm,fr',H')) (k:PanL b x kill m (oh kill fr') (trim m (oh kill fr') H') r):PanL b x kill m fr H r
def abb (call:kz) (pan:atf) (it:yw) (base:Nat) (C:ab8):ACode→List V→Heap→aad→Prop
 | .region ops chk _,fr,H,r=>bcp call pan base C ops chk fr H r
 | .seq a b,fr,H,r=>abb call pan it base C a fr H r∨∃ fr1 H1,evC call it base a fr H=some (.nrm,fr1,H1)∧abb call pan it base C b fr1 H1 r
 | .cond c a b,fr,H,r=>(ev fr c=.s (.bool true)∧abb call pan it base C a fr H r)∨(ev fr c=.s (.bool false)∧abb call pan it base C b fr H r)
 | .block _ c,fr,H,r=>abb call pan it base C c fr H r
 | .loop kill c,fr,H,r=>PanL (fun fr H=>evC call it base c fr H) (fun fr H r=>abb call pan it base C c fr H r) kill H.length (oh kill fr) H r
 | _,_,_,_=>False
def ae5 (o:Oper):Bool:=
 match o.op with
 | .call { callee:=.value _,.. }=>true
 | _=>false
def aqx (ops:Array Oper):Bool:=(List.range ops.size).all fun i=>(List.range ops.size).all fun j=>!(ae5 (ops.getD i default) && ae5 (ops.getD j default)) || i == j
def alv:Code→Bool
 | .region _ ops draw=>!draw || aqx ops
 | .seq a b=>alv a && alv b
 | .cond _ a b=>alv a && alv b
 | .block _ c=>alv c
 | .loop c=>alv c
 | .rangeFunc _ _ a b=>alv a && alv b
 | _=>true
def bdn (ops:Array Oper):Prop:=∀ (i j:Nat) (o o':Oper),ops[i]?=some o→ops[j]?=some o'→ae5 o=true→ae5 o'=true→i=j
theorem axp {ops:Array Oper} (h:aqx ops=true):bdn ops:=by
 intro i j o o' hi hj h1 h2;unfold aqx at h;have li:=(Array.getElem?_eq_some_iff.1 hi).1;have lj:=(Array.getElem?_eq_some_iff.1 hj).1
 have:=az.1 (az.1 h i (by simpa using li)) j (by simpa using lj)
 have e1:ops.getD i default=o:=by rw [Array.getD_eq_getD_getElem?,hi];rfl
 have e2:ops.getD j default=o':=by rw [Array.getD_eq_getD_getElem?,hj];rfl
 rw [e1,e2,h1,h2] at this
 simpa using this
theorem bdn.perm {ops:Array Oper} {π:List Nat} (hp:PermOk π ops) (h:bdn ops):bdn (rq π ops):=by
 intro i j o o' hi hj h1 h2
 have get:∀ (i:Nat) (o:Oper),(rq π ops)[i]?=some o→∃ k o0,π[i]?=some k∧ops[k]?=some o0∧o=adf π o0:=fun i o hi=>by
  have li:i < π.length:=by rw [← adk (ops:=ops)];exact (Array.getElem?_eq_some_iff.1 hi).1
  have hk:π[i]?=some π[i]:=List.getElem?_eq_getElem li;have hl:=hp.lt _ (qo li);have ho:ops[π[i]]?=some ops[π[i]]:=Array.getElem?_eq_getElem hl;have:=aaw hk ho;rw [hi] at this;exact ⟨_,_,hk,ho,fw this⟩
 obtain ⟨k,o0,k1,k2,rfl⟩:=get i o hi;obtain ⟨k',o0',k1',k2',rfl⟩:=get j o' hj;have:=h k k' o0 o0' k2 k2' h1 h2;subst this;have e1:=alp hp.nd k1;have e2:=alp hp.nd k1';omega
section
variable {CC:CX} {μ μ':Mu} {Mt Mt':Nat→Prop} {w w':World} {H H':Heap} {P:Program} {pure':PX} {call:kz} {pan:atf}
def a9t (CC:CX) (μ:Mu) (Mt:Nat→Prop) (w:World) (H:Heap) (r:aad) (ch:List PanicEntry) (w':World):Prop:=
 ∃ c μ' Mt',ch=[{ v:=.iface r.1 c,recovered:=false }]∧VR μ' Mt' w' r.2.1 c∧Post CC μ Mt w H μ' Mt' w' r.2.2
def a9l (l:List AOper) (fr frx:List V):Prop:=∀ s,(∀ o∈l,o.dst≠some s)→frx.getD s .unk=fr.getD s .unk
def az5 (CC:CX) (C:ab8) (μ:Mu) (Mt:Nat→Prop) (w:World) (H:Heap) (ds:List Deferred) (r:aad) (ch:List PanicEntry) (a':Act) (w':World):Prop:=
 ∃ c μ' Mt' l fr frx,ch=[{ v:=.iface r.1 c,recovered:=false }]∧VR μ' Mt' w' r.2.1 c∧Post CC μ Mt w H μ' Mt' w' r.2.2∧Marks w.heap.size μ' w' a'.defers ds∧C l fr∧a9l l fr frx∧FR μ' Mt' w' frx a'.tmps
def ar4 (CC:CX) (μ:Mu) (Mt:Nat→Prop) (w:World) (H:Heap) (r:aad) (ch:List PanicEntry) (l:List AOper) (fr:List V) (a':Act) (w':World):Prop:=
 ∃ c μ' Mt' frx,ch=[{ v:=.iface r.1 c,recovered:=false }]∧VR μ' Mt' w' r.2.1 c∧Post CC μ Mt w H μ' Mt' w' r.2.2∧a9l l fr frx∧FR μ' Mt' w' frx a'.tmps
structure SimPan (P:Program) (CC:CX) (pan:atf):Prop where
 fn:∀ (f:Nat) (fst cap args:List V) (base:Nat) (H:Heap) (r:aad),pan (.fn f fst cap) args base H r→
  (∀ xs w,(callFunc f xs).run P w=.ok (.enter f xs) w)∧
  ∀ (μ:Mu) (Mt:Nat→Prop) (w:World) (cs:List Value),HR CC μ Mt w H→VRs μ Mt w (fst ++ args ++ cap) cs→∀ n,CallsIn Fence.wide n P f cs.toArray w (fun e w'=>∃ ch,e=.panicked ch∧a9t CC μ Mt w H r ch w')
 only:∀ v args base H r,pan v args base H r→∃ f fst cap,v=.fn f fst cap
 floor:∀ v args base H r,pan v args base H r→Floor base H r.2.2
theorem az5.trans {C:ab8} {μ1:Mu} {Mt1:Nat→Prop} {w1:World} {H1:Heap} {ds ds1:List Deferred} {r:aad} {ch:List PanicEntry} {a':Act} (hp:Post CC μ Mt w H μ1 Mt1 w1 H1) (hm:Marks w.heap.size μ1 w1 ds1 ds) (h:az5 CC C μ1 Mt1 w1 H1 ds1 r ch a' w'):az5 CC C μ Mt w H ds r ch a' w':=by
 obtain ⟨c,μ2,Mt2,l,fr,frx,e,v,p,m,x⟩:=h;exact ⟨c,μ2,Mt2,l,fr,frx,e,v,hp.trans p,hm.trans p hp.tr.size m,x⟩
theorem ar4.trans {μ1:Mu} {Mt1:Nat→Prop} {w1:World} {H1:Heap} {r:aad} {ch:List PanicEntry} {l:List AOper} {fr:List V} {a':Act} (hp:Post CC μ Mt w H μ1 Mt1 w1 H1) (h:ar4 CC μ1 Mt1 w1 H1 r ch l fr a' w'):ar4 CC μ Mt w H r ch l fr a' w':=by
 obtain ⟨c,μ2,Mt2,frx,e,v,p,x⟩:=h;exact ⟨c,μ2,Mt2,frx,e,v,hp.trans p,x⟩
theorem ar4.e {C:ab8} {r:aad} {ch:List PanicEntry} {l:List AOper} {fr:List V} {a':Act} (hc:C l fr) (h:ar4 CC μ Mt w H r ch l fr a' w'):az5 CC C μ Mt w H a'.defers r ch a' w':=by
 obtain ⟨c,μ2,Mt2,frx,e,v,p,k,f⟩:=h;exact ⟨c,μ2,Mt2,l,fr,frx,e,v,p,Marks.refl _ _ _ _,hc,k,f⟩
theorem a9t.g (h0:HR CC μ Mt w H) {r:aad} {ch:List PanicEntry} {l:List AOper} {fr frx:List V} {a':Act} (h:a9t CC μ Mt w H r ch w') (hk:a9l l fr frx) (hf:FR μ Mt w frx a'.tmps):ar4 CC μ Mt w H r ch l fr a' w':=by
 obtain ⟨c,μ2,Mt2,e,v,p⟩:=h;exact ⟨c,μ2,Mt2,frx,e,v,p,hk,hf.post h0 p⟩
theorem aso (hx:SimPan P CC pan) (h:HR CC μ Mt w H) {a:Act} {fr:List V} (hf:FR μ Mt w fr a.tmps) {o:Oper} {f:Opd} {xs:List Opd} (hc:ar5 P pure' o (.call f xs)) {base:Nat} {r:aad}
 (hp:pan (ev fr f) (xs.map (ev fr)) base H r) {ro:Option Nat} {n:Nat} {next:Act→World→Prop} {Q:Exit→Act→World→Prop} (hQ:∀ ch w',a9t CC μ Mt w H r ch w'→Q (.panic ch) a w'):o.wpIn (Fw ro) n P a w next Q:=by
 rcases hc with hc | ⟨f',xs',hc,e⟩ | ⟨k,xs',hc,e⟩ | ⟨_,_,_,_,hc,e⟩ | e
 case inr.inl=>cases e
 case inr.inr.inl=>cases e
 case inr.inr.inr.inl=>cases e
 case inr.inr.inr.inr=>cases e
 rcases p9 hc with ⟨g,args,ats,xs',y,ho,hxs,hy,⟨k,_,e⟩ | e⟩ | ⟨_,hnc,_⟩
 ·cases e
 ·cases e;refine ⟨fun _ _=>trivial,?_⟩
  rw [Oper.semAt_eq _ _ _ (by simp [ho])]
  have hexec:execOp a.eval o=(do let d ← resolve a.eval { callee:=.value g,args,argTypes:=ats } o.type;invoke d.target d.args):=by
   unfold execOp;rw [ho]
  rw [hexec];obtain ⟨k,x,z,ek⟩:=hx.only _ _ _ _ _ hp;have hv:=jf hf hy;rw [ek] at hv hp;generalize hfc:a.eval g=fc at hv;cases hv with
  | fn _ _ _ fst' cap' h1 h2 h3 h4=>
    obtain ⟨hent,hcall⟩:=hx.fn k x z _ base H r hp;have ha:=agt hf hxs
    have hvs:VRs μ Mt w (x ++ xs.map (ev fr) ++ z) (fst' ++ args.map a.eval ++ cap').toList:=by
     have hx':VRs μ Mt w x fst'.toList:=⟨by simpa using h1,fun i p q hp hq=>h3 i p q hp (by simpa using hq)⟩
     have hy':VRs μ Mt w z cap'.toList:=⟨by simpa using h2,fun i p q hp hq=>h4 i p q hp (by simpa using hq)⟩
     simpa using (hx'.append ha).append hy'
    have hrun:(do let d ← resolve a.eval { callee:=.value g,args,argTypes:=ats } o.type;invoke d.target d.args:Sem Next).run P w=.ok (.enter k (fst' ++ args.map a.eval ++ cap')) w:=by
     simp only [resolve,hfc,Deferred.ofValue,Sem.run_bind,Sem.run_pure,Result.andThen_ok,invoke,hent]
    rw [hrun];have hc:=hcall μ Mt w _ h hvs (n - 1);simp only [qh] at hc
    refine ⟨fun h=>by simp [Fw] at h,hc.mono ?_⟩
    rintro e w1 ⟨ch,rfl,hq⟩;exact hQ ch w1 hq
 ·simp [AOp.isCall] at hnc
theorem aoe {base:Nat}:∀ (l:List AOper) (i:Nat) {fr:List V} {H:Heap} {v:V} {args:List V} {H1:Heap},ajm call base i l fr H=some (v,args,H1)→
 ∃ o f xs fr1,l[i]?=some o∧o.op=.call f xs∧je call base (l.take i) fr H=some (fr1,H1)∧want o fr1=some true∧v=ev fr1 f∧args=xs.map (ev fr1):=by
 intro l
 induction l with
 | nil=>intro i fr H v args H1 h;cases i <;> cases h
 | cons o l ih=>
   intro i fr H v args H1 h;cases i with
   | zero=>
     simp only [ajm] at h;split at h
     ·rename_i hw;split at h
      ·rename_i f xs ho;cases h;exact ⟨o,f,xs,fr,rfl,ho,rfl,hw,rfl,rfl⟩
      ·cases h
     ·cases h
   | succ i=>
     simp only [ajm] at h;split at h
     ·cases h
     ·rename_i hw;obtain ⟨o',f,xs,fr1,h1,h2,h3,h4⟩:=ih i h
      refine ⟨o',f,xs,fr1,by simpa using h1,h2,?_,h4⟩
      simp only [bq,je,hw];exact h3
     ·rename_i hw;split at h
      ·rename_i u H2 he;obtain ⟨o',f,xs,fr1,h1,h2,h3,h4⟩:=ih i h
       refine ⟨o',f,xs,fr1,by simpa using h1,h2,?_,h4⟩
       simp only [bq,je,hw,he];exact h3
      ·cases h
theorem ady {d:Option Nat} {v:V} {fr:List V} {s:Nat} (h:d≠some s):(put d v fr).getD s .unk=fr.getD s .unk:=by
 by_cases hs:s < fr.length
 ·rw [adz _ _ _ _ hs,bu h]
 ·have h1:(put d v fr)[s]?=none:=List.getElem?_eq_none (by rw [zk];omega)
  have h2:fr[s]?=none:=List.getElem?_eq_none (by omega)
  simp [List.getD,h1,h2]
theorem ar4.put {r:aad} {ch:List PanicEntry} {l:List AOper} {fr:List V} {a':Act} {o:AOper} {v:V} (ho:o∈l) (h:ar4 CC μ Mt w H r ch l (Go.AM.put o.dst v fr) a' w'):ar4 CC μ Mt w H r ch l fr a' w':=by
 obtain ⟨c,μ2,Mt2,frx,e,u,p,k,f⟩:=h;exact ⟨c,μ2,Mt2,frx,e,u,p,fun s hs=>(k s hs).trans (ady (hs o ho)),f⟩
theorem awz (hs:SimCall P CC call) [BtOk CC P] (hx:SimPan P CC pan) {ops:Array Oper} {l:List AOper} (hr:apj P pure' ops l) {base:Nat} {ro:Option Nat} {n:Nat} {Q:Exit→Act→World→Prop} {v:V} {args:List V} {H1:Heap} {r:aad}:
 ∀ (i k:Nat) (fr:List V) (H:Heap) (a:Act) (w:World) (μ:Mu) (Mt:Nat→Prop),HR CC μ Mt w H→FR μ Mt w fr a.tmps→ajm call base i (l.drop k) fr H=some (v,args,H1)→pan v args base H1 r→
   (∀ ch a' w',a'.defers=a.defers→ar4 CC μ Mt w H r ch l fr a' w'→Q (.panic ch) a' w')→wpOpsIn (Fw ro) n P ops Q ((List.range ops.size).drop k) a w:=by
 intro i
 induction i with
 | zero=>
   intro k fr H a w μ Mt h hf hev hp hQ
   have hlt:k < l.length:=by
    refine aga fun hc=>?_
    rw [uk (by omega)] at hev
    cases hev
   have hlo:k < ops.size:=by rw [← hr.1];exact hlt
   have e1:(List.range ops.size).drop k=k :: (List.range ops.size).drop (k+1):=by
    rw [ed (by simpa using hlo)];simp
   rw [e1];rw [ed hlt] at hev;have ho:ops[k]?=some ops[k]:=Array.getElem?_eq_getElem hlo;obtain ⟨hd,hc,hg⟩:=hr.2 k ops[k] l[k] ho (List.getElem?_eq_getElem hlt);rw [wpOpsIn_cons];unfold wpOpIn;simp only [ho];simp only [ajm] at hev;split at hev
   ·rename_i hw;rw [x8 hg hf hw];simp only [iq];split at hev
    ·rename_i f xs hop;cases hev;rw [hop] at hc;exact aso hx h hf hc hp fun ch w' hq=>hQ ch a w' rfl (hq.g h (fun _ _=>rfl) hf)
    ·cases hev
   ·cases hev
 | succ i ih=>
   intro k fr H a w μ Mt h hf hev hp hQ
   have hlt:k < l.length:=by
    refine aga fun hc=>?_
    rw [uk (by omega)] at hev
    cases hev
   have hlo:k < ops.size:=by rw [← hr.1];exact hlt
   have e1:(List.range ops.size).drop k=k :: (List.range ops.size).drop (k+1):=by
    rw [ed (by simpa using hlo)];simp
   rw [e1];rw [ed hlt] at hev;have ho:ops[k]?=some ops[k]:=Array.getElem?_eq_getElem hlo;obtain ⟨hd,hc,hg⟩:=hr.2 k ops[k] l[k] ho (List.getElem?_eq_getElem hlt);rw [wpOpsIn_cons];unfold wpOpIn;simp only [ho];simp only [ajm] at hev;split at hev
   ·cases hev
   ·rename_i hw;rw [x8 hg hf hw];simp only [jy,mg];refine ⟨fun _ _=>trivial,?_⟩;refine ih (k+1) _ H _ w μ Mt h (hd ▸ hf.put _ (.s _)) hev hp (fun ch a' w' hd' hq=>hQ ch a' w' ?_ (ar4.put (qo hlt) hq));rw [hd',put_defers]
   ·rename_i hw;rw [x8 hg hf hw];simp only [iq];split at hev
    ·rename_i u H2 hop;refine abv hs h hf hc hop ?_;rintro q w1 ⟨c,μ1,Mt1,e,hv,hpp⟩;cases e;refine ih (k+1) _ H2 _ w1 μ1 Mt1 hpp.hr (hd ▸ (hf.post h hpp).put _ hv) hev hp (fun ch a' w' hd' hq=>hQ ch a' w' ?_ ((ar4.put (qo hlt) hq).trans hpp));rw [hd',put_defers]
    ·cases hev
theorem ajh {c c':kz} {base:Nat} {fr:List V} {H:Heap} {op:AOp} (h:op.isCall=false):ja c base fr H op=ja c' base fr H op:=by
 cases op <;> first | rfl | (simp [AOp.isCall] at h;done)
theorem apd (u:V):∀ v args base H r H',yo u v args base H=some (r,H')→H.length≤H'.length∧∀ id,id < base→id < H.length→H'[id]?=H[id]?:=by
 intro v args base H r H' h;cases h;exact ⟨ag _,fun _ _ _=>rfl⟩
theorem ako {o:Oper} {ao:AOp} (h:ar5 P pure' o ao) (hc:ao.isCall=true):ae5 o=true:=by
 have key:∀ ao',xq P pure' o=some ao'→ao'.isCall=true→ae5 o=true:=fun ao' h2 hc2=>by
  rcases p9 h2 with ⟨g,args,ats,xs',y,ho,_⟩ | ⟨_,hnc,_⟩
  ·unfold ae5;rw [ho]
  ·rw [hnc] at hc2;cases hc2
 rcases h with h | ⟨f',xs',h,e⟩ | ⟨k,xs',h,e⟩ | ⟨_,_,_,_,h,e⟩ | e
 ·exact key _ h hc
 ·exact key _ h rfl
 ·exact key _ h rfl
 ·rw [e] at hc;cases hc
 ·rw [e] at hc;cases hc
theorem asc (hs:SimCall P CC call) [BtOk CC P] (hx:SimPan P CC pan) {ops:Array Oper} {l:List AOper} {chk:List (Nat × Nat)} (hr:apj P pure' ops l) (hd:aee (Region.before ops).toList chk l=true∧ac4 ops=true) (hone:bdn ops)
 {base:Nat} {ro:Option Nat} {n:Nat} {Q:Exit→Act→World→Prop} {fr:List V} {H:Heap} {r:aad} {C:ab8} (hev:bcp call pan base C l chk fr H r) {a:Act} {w:World} {μ:Mu} {Mt:Nat→Prop} (h:HR CC μ Mt w H) (hf:FR μ Mt w fr a.tmps)
 (hQ:∀ ch a' w',a'.defers=a.defers→ar4 CC μ Mt w H r ch l fr a' w'→Q (.panic ch) a' w'):wpAnyIn (Fw ro) n P .any ops Q ops.size (Array.replicate ops.size false) a { w with drawn:=w.drawn+1 }:=by
 obtain ⟨_,⟨i,v,args,H1,hX,hp⟩,u,frE,HE,hE,hchk⟩:=hev;obtain ⟨o,f,xs,fr1,h1,h2,h3,h4,rfl,rfl⟩:=aoe l i hX;have hil:i < l.length:=(List.getElem?_eq_some_iff.1 h1).1;have hgi:l.getD i default=o:=y5 h1
 have hno:∀ k,k < l.length→k≠i→(l.getD k default).op.isCall=false:=by
  intro k hk hne;cases hc:(l.getD k default).op.isCall with
  | false=>rfl
  | true=>
    exfalso
    have hk':k < ops.size:=by rw [← hr.1];exact hk
    have hi':i < ops.size:=by rw [← hr.1];exact hil
    have gk:l[k]?=some (l.getD k default):=by rw [List.getElem?_eq_getElem hk,y5 (List.getElem?_eq_getElem hk)]
    have ck:=(hr.2 k ops[k] _ (Array.getElem?_eq_getElem hk') gk).2.1;have ci:=(hr.2 i ops[i] _ (Array.getElem?_eq_getElem hi') h1).2.1
    exact hne (hone k i _ _ (Array.getElem?_eq_getElem hk') (Array.getElem?_eq_getElem hi') (ako ck hc) (ako ci (by rw [h2];rfl)))
 have hoA:aaz (Region.before ops).toList chk l=true:=by
  cases e:aaz (Region.before ops).toList chk l with
  | true=>rfl
  | false=>
    exfalso;have h5:=hd.1;unfold aee at h5;rw [e,atj,au] at h5;have h6:=h5.2;unfold ad2 at h6;simp only [au,az] at h6;have h7:=h6.1.2 o (List.mem_of_getElem? h1);rw [h2] at h7;simp [auy,AOp.cls,AOp.isCall,AOp.isNew,AOp.isSt,AOp.isCR] at h7
 obtain ⟨F,G,val,a1,a2,a3,a4,a5⟩:=ajd _ _ _ _ _ hE;have R:Row P pure' (yo u) base ops l chk fr frE H HE F G val:=⟨hr,hoA,hd.2,a1,a2,a3,a4,a5,hchk,apd u⟩
 have pre:∀ k,k≤i→je call base (l.take k) fr H=some (F k,G k):=by
  intro k
  induction k with
  | zero=>intro _;rw [dz,a1,a2];rfl
  | succ k ih=>
    intro hk
    have hkl:k < l.length:=by omega
    have hg:l[k]?=some (l.getD k default):=by rw [List.getElem?_eq_getElem hkl,y5 (List.getElem?_eq_getElem hkl)]
    rw [List.take_add_one,hg,ado,ih (by omega)]
    obtain ⟨t1,t2⟩:=a5 k _ hg;simp only [af6,je]
    rcases t2 with ⟨hw,hv,hG⟩ | ⟨hw,hop⟩
    ·rw [hw,t1,hv,hG]
    ·rw [hw];simp only
     rw [ajh (c':=yo u) (hno k hkl (by omega)),hop,t1]
 have hpi:=pre i (ag _);rw [h3] at hpi;cases hpi
 have hM:(l.getD i default).op.isM=true:=by rw [hgi,h2];rfl
 have hrep:∀ k,(Array.replicate ops.size false).getD k false=false:=by
  intro k;by_cases hk:k < ops.size <;> simp [hk]
 have p1:Post CC μ Mt w H μ Mt { w with drawn:=w.drawn+1 } H:=afq h rfl rfl rfl rfl
 refine ase R h (some i) (fun j e=>by cases e;exact hil) (fun k ok hok hkl hne hc frX μ1 Mt1 w1 a1' p vv K next hh hff he hn=>?_) (fun j oj e hoj hc=>?_) ops.size _ a _ μ Mt 0 (by simp [hr.1]) ?_ ?_ (fun j _=>hrep j) (jg _) (fun k hk=>by omega) (fun k _ _ _=>hrep k) (by rw [a2];exact p1) ?_ rfl (fun e=>by cases e)
 ·have hnc:=hno k hkl (fun e=>hne (by rw [e]))
  rw [ajh (c':=call) hnc] at he;exact abv hs hh hff hc he hn
 ·cases e
  refine ⟨hM,by rw [hgi];exact h4,fun frX μ1 Mt1 w1 a1' next hpp hff hrd hkp hds=>?_⟩
  rw [hgi,h2] at hc
  have hev':ev frX f=ev (F i) f∧xs.map (ev frX)=xs.map (ev (F i)):=by
   have hop:∀ x∈(AOp.call f xs).opds,ev frX x=ev (F i) x:=fun x hx=>adg (o:=o) (by rw [h2];exact hx) (by rw [← hgi];exact hrd)
   exact ⟨hop f fu,pg fun x hx=>hop x (dn _ hx)⟩
  refine aso hx hpp.hr hff hc (by rw [hev'.1,hev'.2];exact hp) fun ch w' hq=>hQ ch a1' w' hds ((hq.g hpp.hr (fun s hs=>hkp s fun k hk=>?_) hff).trans hpp)
  have gk:l[k]?=some (l.getD k default):=by rw [List.getElem?_eq_getElem hk,y5 (List.getElem?_eq_getElem hk)]
  exact hs _ (List.mem_of_getElem? gk)
 ·unfold sw;refine jm aky ?_;simp [hr.1]
 ·intro j hj
  exact absurd ((hrep j).symm.trans hj) (by simp)
 ·have:(SF (qw l) val fr l.length fun k=>(Array.replicate ops.size false).getD k false)=fr:=by
   refine abl o8 fun s hs=>?_;rw [o8] at hs;rw [aah,bi hs,abk (i:=0) l.length fun k _ _=>?_]
   ·simp [lw]
   ·rw [hrep k];simp
  rw [this];exact hf.post h p1
def bcn (P:Program) (CC:CX) (C:ab8) (ro:Option Nat) (n:Nat) (c:Code) (X:List V→Heap→aad→Prop):Prop:=
 ∀ (fr:List V) (H:Heap) (r:aad),X fr H r→∀ (μ:Mu) (Mt:Nat→Prop) (w:World) (a:Act) (Q:Exit→Act→World→Prop),HR CC μ Mt w H→FR μ Mt w fr a.tmps→(∀ l,ro=some l→∃ r,w.heap[l]?=some (.loop r))→
   (∀ ch a' w',az5 CC C μ Mt w H a.defers r ch a' w'→Q (.panic ch) a' w')→c.wpIn (Fw ro) n P Q a w
theorem axx {C:ab8} {ro:Option Nat} {n:Nat} {c:Code} {b:List V→Heap→Option St} {x:List V→Heap→aad→Prop} (hb:bdv P CC ro n c b) (hxx:bcn P CC C ro n c x) (kill:List Nat) (m:Nat) {fr:List V} {H:Heap} {r:aad} (hl:PanL b x kill m fr H r):
 ∀ (μ:Mu) (Mt:Nat→Prop) (w:World) (a:Act) (Q:Exit→Act→World→Prop) (μ0:Mu) (Mt0:Nat→Prop) (w0:World) (H0:Heap) (ds:List Deferred),HR CC μ0 Mt0 w0 H0→H0.length≤m→m≤H.length→
   Post CC μ0 Mt0 w0 H0 μ Mt w H→Marks w0.heap.size μ w a.defers ds→FR μ Mt w fr a.tmps→(∀ l,ro=some l→∃ r,w.heap[l]?=some (.loop r))→
   (∀ ch a' w',az5 CC C μ0 Mt0 w0 H0 ds r ch a' w'→Q (.panic ch) a' w')→∃ k,Code.roundsIn (Fw ro) n P c Q k a w:=by
 induction hl with
 | here h=>
   intro μ Mt w a Q μ0 Mt0 w0 H0 ds h0 hm0 hm hp hmk hf hro hQ;refine ⟨1,?_⟩;rw [roundsIn_succ];refine hxx _ _ _ h μ Mt w a _ hp.hr hf hro fun ch a' w' hq=>hQ ch a' w' (az5.trans hp hmk hq)
 | next h k ih=>
   rename_i fr1 fr2 H1 H2 r1;intro μ Mt w a Q μ0 Mt0 w0 H0 ds h0 hm0 hm hp hmk hf hro hQ;have key:∀ (l:List V) (K:Heap) (q:aad),PanL b x kill m l K q→∃ N,∀ (μ:Mu) (Mt:Nat→Prop) (w:World) (a:Act) (Q:Exit→Act→World→Prop) (μ0:Mu) (Mt0:Nat→Prop) (w0:World) (H0:Heap) (ds:List Deferred),HR CC μ0 Mt0 w0 H0→H0.length≤m→m≤K.length→
    Post CC μ0 Mt0 w0 H0 μ Mt w K→Marks w0.heap.size μ w a.defers ds→FR μ Mt w l a.tmps→(∀ l,ro=some l→∃ r,w.heap[l]?=some (.loop r))→
    (∀ ch a' w',az5 CC C μ0 Mt0 w0 H0 ds q ch a' w'→Q (.panic ch) a' w')→Code.roundsIn (Fw ro) n P c Q N a w:=by
    intro l K q hq
    induction hq with
    | here h=>
      refine ⟨1,fun μ Mt w a Q μ0 Mt0 w0 H0 ds h0 hm0 hm hp hmk hf hro hQ=>?_⟩;rw [roundsIn_succ];exact hxx _ _ _ h μ Mt w a _ hp.hr hf hro fun ch a' w' hq=>hQ ch a' w' (az5.trans hp hmk hq)
    | next h k ih=>
      obtain ⟨N,hN⟩:=ih;refine ⟨N+1,fun μ Mt w a Q μ0 Mt0 w0 H0 ds h0 hm0 hm hp hmk hf hro hQ=>?_⟩;rw [roundsIn_succ];refine hb _ _ .nrm _ _ h μ Mt w a _ hp.hr hf hro ?_;rintro a1 w1 ⟨μ1,Mt1,p1,f1,m1⟩;have hpp:=hp.trans p1;obtain ⟨μ2,p2,f2,s2,l2⟩:=afg hpp h0.dom hm0 (jm hm p1.len) (f1.kill kill);have mk2:=(hmk.trans p1 hp.tr.size m1).sub s2;refine hN μ2 Mt1 w1 a1 Q μ0 Mt0 w0 H0 ds h0 hm0 l2 p2 mk2 f2 (fun l hl=>?_) hQ;obtain ⟨r,hr⟩:=hro l hl;exact p1.tr.loops l r hr
   obtain ⟨N,hN⟩:=key _ _ _ (.next h k)
   exact ⟨N,hN μ Mt w a Q μ0 Mt0 w0 H0 ds h0 hm0 hm hp hmk hf hro hQ⟩
theorem asj (hs:SimCall P (CR P pure') call) (hx:SimPan P (CR P pure') pan) (hmix:P.follows .mixedOrders=true) (nn base:Nat) {C:ab8} {c:Code} {ac:ACode} (hc:CodeR P pure' c ac) (hone:alv c=true):
 ∀ (ro:Option Nat) (n:Nat),bcn P (CR P pure') C ro n c (abb call pan (fun b k m=>ru b k m nn) base C ac):=by
 induction hc with
 | skip=>intro ro n fr H r h;exact h.elim
 | label l=>intro ro n fr H r h;exact h.elim
 | exit id=>intro ro n fr H r h;exact h.elim
 | ret=>intro ro n fr H r h;exact h.elim
 | regionE=>intro ro n fr H r h;exact h.elim
 | regionPE=>intro ro n fr H r h;exact h.elim
 | rangeFunc=>intro ro n fr H r h;exact h.elim
 | region id ops draw l chk kill hr hd=>
   intro ro n fr H r hev μ Mt w a Q h hf hro hQ;have hev:bcp call pan base C l chk fr H r:=hev
   have hq:∀ ch a' w',a'.defers=a.defers→ar4 (CR P pure') μ Mt w H r ch l fr a' w'→Q (.panic ch) a' w':=fun ch a' w' hd' hq=>hQ ch a' w' (by rw [← hd'];exact hq.e (C:=C) hev.1)
   cases draw with
   | false=>
     obtain ⟨_,⟨i,v,args,H1,hX,hp⟩,_⟩:=hev;refine wpIn_region ?_
     have:=awz (Q:=Q) (ro:=ro) (n:=n) hs hx hr i 0 fr H a w μ Mt h hf (by simpa using hX) hp hq
     simpa using this
   | true=>exact wpIn_region_any hmix (asc hs hx hr (hd rfl) (axp (by simpa [alv] using hone)) hev h hf hq)
 | regionP id ops π l chk kill hp hr hd=>
   intro ro n fr H r hev μ Mt w a Q h hf hro hQ
   have hq:∀ ch a' w',a'.defers=a.defers→ar4 (CR P pure') μ Mt w H r ch l fr a' w'→Q (.panic ch) a' w':=fun ch a' w' hd' hq=>hQ ch a' w' (by rw [← hd'];exact hq.e (C:=C) hev.1)
   exact wpIn_region_any hmix (aat hp (asc hs hx hr hd ((axp (by simpa [alv] using hone)).perm (an8 hp)) hev h hf hq))
 | seq x y ax ay hcx _ ihx ihy=>
   intro ro n fr H r hev μ Mt w a Q h hf hro hQ;simp only [alv,au] at hone;refine wpIn_seq ?_
   rcases hev with hev | ⟨fr1,H1,h1,h2⟩
   ·exact ihx hone.1 ro n _ _ _ hev μ Mt w a _ h hf hro fun ch a' w' hq=>hQ ch a' w' hq
   ·refine ag0 hs hmix nn base hcx ro n _ _ _ _ _ h1 μ Mt w a _ h hf hro ?_;rintro a1 w1 ⟨μ1,Mt1,p1,f1,m1⟩;refine ihy hone.2 ro n _ _ _ h2 μ1 Mt1 w1 a1 Q p1.hr f1 (fun l hl=>?_) (fun ch a2 w2 hq=>hQ ch a2 w2 (az5.trans p1 m1 hq));obtain ⟨q,hq⟩:=hro l hl;exact p1.tr.loops l q hq
 | cond c o x y ax ay hco _ _ ihx ihy=>
   intro ro n fr H r hev μ Mt w a Q h hf hro hQ;simp only [alv,au] at hone;have hv:=jf hf hco
   rcases hev with ⟨he,hev⟩ | ⟨he,hev⟩
   ·rw [he] at hv;exact wpIn_cond_true (x9 hv) (ihx hone.1 ro n _ _ _ hev μ Mt w a Q h hf hro hQ)
   ·rw [he] at hv;exact wpIn_cond_false (x9 hv) (ihy hone.2 ro n _ _ _ hev μ Mt w a Q h hf hro hQ)
 | block id c x _ ih=>
   intro ro n fr H r hev μ Mt w a Q h hf hro hQ;refine wpIn_block ?_;exact ih hone ro n _ _ _ hev μ Mt w a _ h hf hro fun ch a' w' hq=>hQ ch a' w' hq
 | loop c kill x hcx ih=>
   intro ro n fr H r hev μ Mt w a Q h hf hro hQ;obtain ⟨k,hk⟩:=axx (ag0 hs hmix nn base hcx ro n) (ih hone ro n) kill H.length hev μ Mt w a Q μ Mt w H a.defers h (ag _) (ag _) (Post.refl h) (Marks.refl _ _ _ _) (hf.kill kill) hro hQ;exact wpIn_loop_rounds k hk
theorem aur {base:Nat} (hfl:∀ v args base H r H',call v args base H=some (r,H')→H.length≤H'.length∧∀ id,id < base→id < H.length→H'[id]?=H[id]?) {i:Nat} {l:List AOper} {fr:List V} {H:Heap} {v:V} {args:List V} {H1:Heap} (h:ajm call base i l fr H=some (v,args,H1)):Floor base H H1:=by
 obtain ⟨o,f,xs,fr1,_,_,h3,_⟩:=aoe l i h;exact ae7 hfl _ h3
theorem akb (hfl:∀ v args base H r H',call v args base H=some (r,H')→H.length≤H'.length∧∀ id,id < base→id < H.length→H'[id]?=H[id]?) (hpf:∀ v args base H r,pan v args base H r→Floor base H r.2.2) (nn base:Nat) {C:ab8}:∀ (ac:ACode) {fr:List V} {H:Heap} {r:aad},abb call pan (fun b k m=>ru b k m nn) base C ac fr H r→Floor base H r.2.2:=by
 intro ac
 induction ac with
 | region ops chk kill=>
   intro fr H r he;obtain ⟨_,⟨i,v,args,H1,h1,h2⟩,_⟩:=he;exact (aur hfl h1).trans (hpf _ _ _ _ _ h2)
 | seq a b iha ihb=>
   intro fr H r he
   rcases he with he | ⟨fr1,H1,h1,h2⟩
   ·exact iha he
   ·exact (um hfl nn a h1).trans (ihb h2)
 | cond o a b iha ihb=>
   intro fr H r he
   rcases he with ⟨_,h2⟩ | ⟨_,h2⟩
   ·exact iha h2
   ·exact ihb h2
 | block id a ih=>intro fr H r he;exact ih (fr:=fr) he
 | loop kill a ih=>
   intro fr H r he;have he:PanL (fun fr H=>evC call (fun b k m=>ru b k m nn) base a fr H) (fun fr H r=>abb call pan (fun b k m=>ru b k m nn) base C a fr H r) kill H.length (oh kill fr) H r:=he
   suffices h:∀ (m:Nat) fr K r,PanL (fun fr H=>evC call (fun b k m=>ru b k m nn) base a fr H) (fun fr H r=>abb call pan (fun b k m=>ru b k m nn) base C a fr H r) kill m fr K r→m≤K.length→m≤r.2.2.length∧∀ id,id < base→id < m→r.2.2[id]?=K[id]? by
    obtain ⟨h1,h2⟩:=h _ _ _ _ he (ag _);exact ⟨h1,h2⟩
   intro m fr K r hl
   induction hl with
   | here h=>
     intro hm;have f:=ih h;exact ⟨jm hm f.1,fun id h1 h2=>f.2 id h1 (ic h2 hm)⟩
   | next h _ ih2=>
     intro hm;have f:=um hfl nn a h;rename_i fr1 fr' K1 K' r1 _;obtain ⟨t1,t2⟩:=afh (fr:=oh kill fr') (jm hm f.1);obtain ⟨r1,r2⟩:=ih2 t1;exact ⟨r1,fun id h1 h2=>(r2 id h1 h2).trans ((t2 id h2).trans (f.2 id h1 (ic h2 hm)))⟩
 | _=>intro fr H r he;exact he.elim
end
open Go.RowKit
def az2 (CP:Nat→Option CFun) (PP:Nat→List V→Nat→Heap→aad→Prop) (X:Nat→Bool):Nat→atf
 | 0=>fun _ _ _ _ _=>False
 | n+1=>fun v args base H r=>∃ f fst cap,v=.fn f fst cap∧
    ((X f=true∧∃ c,CP f=some (.code c)∧abb (wu CP n) (az2 CP PP X n) (fun b k m=>ru b k m n) base (fun _ _=>True) c.body (fst ++ args ++ cap ++ List.replicate (c.ntmps - (fst ++ args ++ cap).length) und) H r)∨PP f (fst ++ args ++ cap) base H r)
section
variable {CC:CX} {μ μ':Mu} {Mt Mt':Nat→Prop} {w w':World} {H H':Heap} {P:Program} {pure':PX}
theorem alz {μ0:Mu} {Mt0:Nat→Prop} {w0:World} {H0:Heap} {fn:Func} {tmps:Array Value} {x:V} {c:Value} {R:Ending→World→Prop} {n:Nat} {ch:List PanicEntry}
 (hfin:∀ w',Post CC μ0 Mt0 w0 H0 μ Mt w' H→VR μ Mt w' x c→R (.panicked ch) w'):
 ∀ (L:List Nat) (w:World),Post CC μ0 Mt0 w0 H0 μ Mt w H→VR μ Mt w x c→L.Nodup→(∀ D∈L,w0.heap.size≤D∧w.heap[D]?=some (.deferred (some []))∧∀ id g b,μ id g≠some (D,b))→
   LeavesInM Fence.wide n P fn tmps R (L.map ass) (.panicking ch) w:=by
 intro L
 induction L with
 | nil=>intro w hp hf _ _;exact hfin w hp hf
 | cons D L ih=>
   intro w hp hf hnd hL;obtain ⟨h1,h2,h3⟩:=hL D fu
   refine ⟨by simp,.inl ⟨D,_,rfl,run_takeDeferred h2,?_⟩⟩
   obtain ⟨p1,hv⟩:=aix (y:=none) hp h1 h2 h3;refine ih _ p1 (hv hf) (abn.1 hnd).2 (fun E hE=>?_);obtain ⟨k1,k2,k3⟩:=hL E (dn _ hE)
   have hne:E≠D:=fun e=>by subst e;exact (abn.1 hnd).1 hE
   exact ⟨k1,(World.putObj_heap_other hne).trans k2,k3⟩
def a9j (P:Program) (pure':PX) (PP:Nat→List V→Nat→Heap→aad→Prop):Prop:=
 ∀ k vs base H r,PP k vs base H r→Floor base H r.2.2∧(∀ xs w,(callFunc k xs).run P w=.ok (.enter k xs) w)∧
   ∀ μ Mt w cs,HR (CR P pure') μ Mt w H→VRs μ Mt w vs cs→∀ n,CallsIn Fence.wide n P k cs.toArray w (fun e w'=>∃ ch,e=.panicked ch∧a9t (CR P pure') μ Mt w H r ch w')
variable {CP:Nat→Option CFun} {PP:Nat→List V→Nat→Heap→aad→Prop} {X:Nat→Bool}
theorem a1p (hmix:P.follows .mixedOrders=true) (hCP:∀ k c,CP k=some c→abe P pure' k c) (hone:∀ k fn body,X k=true→P.funcs[k]?=some fn→fn.body=some body→alv body=true) (hPP:a9j P pure' PP):∀ n,SimPan P (CR P pure') (az2 CP PP X n):=by
 intro n
 induction n with
 | zero=>exact ⟨fun _ _ _ _ _ _ _ h=>h.elim,fun _ _ _ _ _ h=>h.elim,fun _ _ _ _ _ h=>h.elim⟩
 | succ n ih=>
   refine ⟨fun f fst cap args base H r h=>?_,fun v args base H r h=>by obtain ⟨f,fst,cap,e,_⟩:=h;exact ⟨f,fst,cap,e⟩,fun v args base H r h=>by
    obtain ⟨f,fst,cap,e,⟨_,c,_,hpan⟩ | hpan⟩:=h
    ·exact akb (aa6 hmix hCP n).floor ih.floor n base c.body hpan
    ·exact (hPP _ _ _ _ _ hpan).1⟩
   obtain ⟨f',fst',cap',e,h⟩:=h;cases e
   rcases h with ⟨hX,c,hc,hpan⟩ | h
   ·obtain ⟨fn,body,h1,h2,h3,h4,h5,h6⟩:=hCP f _ hc;refine ⟨Go.Proofs.enters_of h1 h3 h2,fun μ Mt w cs hh hvs m=>?_⟩;refine callsIn_of_wp_marks h1 h2 trivial ?_
    have hf0:FR μ Mt w (fst ++ args ++ cap ++ List.replicate (c.ntmps - (fst ++ args ++ cap).length) und) (cs.toArray ++ Array.replicate (fn.ntmps - cs.toArray.size) Go.undef):=by
     unfold FR;have:=hvs.append (zz (μ:=μ) (Mt:=Mt) (w:=w) (c.ntmps - (fst ++ args ++ cap).length));simp only [aem,ab9,ni,h5];rw [hvs.1] at this ⊢;exact this
    refine asj (aa6 hmix hCP n) ih hmix n base h4 (hone _ _ _ hX h1 h2) none m _ H r hpan μ Mt w { tmps:=cs.toArray ++ Array.replicate (fn.ntmps - cs.toArray.size) Go.undef,defers:=[] } _ hh hf0 (fun l hl=>by cases hl) ?_
    rintro ch a' w' ⟨cv,μ1,Mt1,_,_,_,e1,v1,p1,⟨L,hL,hnd,hLs⟩,_⟩;show LeavesInM Fence.wide m P fn a'.tmps _ a'.defers (.panicking ch) w';rw [hL,abp];exact alz (μ:=μ1) (Mt:=Mt1) (x:=r.2.1) (c:=cv) (fun w2 p2 v2=>⟨ch,rfl,cv,μ1,Mt1,e1,v2,p2⟩) L w' p1 v1 hnd hLs
   ·exact (hPP f _ base H r h).2
end
section
variable {CP:Nat→Option CFun} {PP:Nat→List V→Nat→Heap→aad→Prop} {X:Nat→Bool}
def PLe (p p':atf):Prop:=∀ v args base H r,p v args base H r→p' v args base H r
theorem aqt {c c':kz} (h:Le c c') {base:Nat}:∀ (i:Nat) (l:List AOper) {fr:List V} {H:Heap} {r:V × List V × Heap},ajm c base i l fr H=some r→ajm c' base i l fr H=some r:=by
 intro i
 induction i with
 | zero=>intro l fr H r he;cases l <;> exact he
 | succ i ih=>
   intro l fr H r he;cases l with
   | nil=>exact he
   | cons o l=>
     simp only [ajm] at he ⊢;split at he
     ·cases he
     ·exact ih l he
     ·split at he
      ·rename_i v H1 h1;rw [amo h h1];exact ih l he
      ·cases he
theorem a6l {C:ab8} {c c':kz} {p p':atf} (h:Le c c') (k:PLe p p') {base:Nat} {ops:List AOper} {chk:List (Nat × Nat)} {fr:List V} {H:Heap} {r:aad} (he:bcp c p base C ops chk fr H r):bcp c' p' base C ops chk fr H r:=by
 obtain ⟨h0,⟨i,v,args,H1,h1,h2⟩,h3⟩:=he;exact ⟨h0,⟨i,v,args,H1,aqt h i ops h1,k _ _ _ _ _ h2⟩,h3⟩
theorem axc {b b':List V→Heap→Option St} {x x':List V→Heap→aad→Prop} (hb:∀ fr H r,b fr H=some r→b' fr H=some r) (hx:∀ fr H r,x fr H r→x' fr H r) {kill:List Nat} {m:Nat} {fr:List V} {H:Heap} {r:aad} (h:PanL b x kill m fr H r):PanL b' x' kill m fr H r:=by
 induction h with
 | here h=>exact .here (hx _ _ _ h)
 | next h _ ih=>exact .next (hb _ _ _ h) ih
theorem alu {C:ab8} {c c':kz} {p p':atf} (h:Le c c') (k:PLe p p') {n n':Nat} (hn:n≤n') {base:Nat}:∀ (ac:ACode) {fr:List V} {H:Heap} {r:aad},abb c p (itN n) base C ac fr H r→abb c' p' (itN n') base C ac fr H r:=by
 intro ac
 induction ac with
 | region ops chk kill=>intro fr H r he;exact a6l h k he
 | seq a b iha ihb=>
   intro fr H r he
   rcases he with he | ⟨fr1,H1,h1,h2⟩
   ·exact .inl (iha he)
   ·exact .inr ⟨fr1,H1,ahg h hn a h1,ihb h2⟩
 | cond o a b iha ihb=>
   intro fr H r he
   rcases he with ⟨h1,h2⟩ | ⟨h1,h2⟩
   ·exact .inl ⟨h1,iha h2⟩
   ·exact .inr ⟨h1,ihb h2⟩
 | block id a ih=>intro fr H r he;exact ih (fr:=fr) he
 | loop kill a ih=>intro fr H r he;exact axc (fun fr H r e=>ahg h hn a e) (fun fr H r e=>ih e) he
 | _=>intro fr H r he;exact he.elim
theorem axb:∀ n,PLe (az2 CP PP X n) (az2 CP PP X (n+1)):=by
 intro n
 induction n with
 | zero=>intro v args base H r h;exact h.elim
 | succ n ih=>
   intro v args base H r h;obtain ⟨f,fst,cap,e,h⟩:=h;refine ⟨f,fst,cap,e,?_⟩
   rcases h with ⟨hX,c,hc,h⟩ | h
   ·exact .inl ⟨hX,c,hc,alu (ag1 n) ih (a5v n) c.body h⟩
   ·exact .inr h
theorem als {n m:Nat} (h:n≤m):PLe (az2 CP PP X n) (az2 CP PP X m):=by
 induction h with
 | refl=>exact fun _ _ _ _ _ h=>h
 | step _ ih=>exact fun v args base H r h=>axb _ _ _ _ _ _ (ih _ _ _ _ _ h)
def anc (CP:Nat→Option CFun) (PP:Nat→List V→Nat→Heap→aad→Prop) (X:Nat→Bool):atf:=fun v args base H r=>∃ n,az2 CP PP X n v args base H r
theorem axi {base:Nat}:∀ (i:Nat) (l:List AOper) {fr:List V} {H:Heap} {r:V × List V × Heap},ajm (fe CP) base i l fr H=some r→∃ n,ajm (wu CP n) base i l fr H=some r:=by
 intro i
 induction i with
 | zero=>intro l fr H r he;refine ⟨0,?_⟩;cases l <;> exact he
 | succ i ih=>
   intro l fr H r he;cases l with
   | nil=>exact ⟨0,he⟩
   | cons o l=>
     simp only [ajm] at he;split at he
     ·cases he
     ·rename_i hw;obtain ⟨n,hn⟩:=ih l he;refine ⟨n,?_⟩;simp only [ajm,hw];exact hn
     ·rename_i hw;split at he
      ·rename_i v H1 h1;obtain ⟨n1,hn1⟩:=ao2 h1;obtain ⟨n2,hn2⟩:=ih l he;refine ⟨max n1 n2,?_⟩;simp only [ajm,hw];rw [amo (ve (ow n1 n2)) hn1];exact aqt (ve (j6 n1 n2)) i l hn2
      ·cases he
theorem aoc {C:ab8} {base:Nat}:∀ (ac:ACode) {fr:List V} {H:Heap} {r:aad},abb (fe CP) (anc CP PP X) itW base C ac fr H r→∃ n,abb (wu CP n) (az2 CP PP X n) (itN n) base C ac fr H r:=by
 intro ac
 induction ac with
 | region ops chk kill=>
   intro fr H r he;obtain ⟨h0,⟨i,v,args,H1,h1,n2,h2⟩,h3⟩:=he;obtain ⟨n1,hn1⟩:=axi i ops h1;exact ⟨max n1 n2,h0,⟨i,v,args,H1,aqt (ve (ow n1 n2)) i ops hn1,als (j6 n1 n2) _ _ _ _ _ h2⟩,h3⟩
 | seq a b iha ihb=>
   intro fr H r he
   rcases he with he | ⟨fr1,H1,h1,h2⟩
   ·obtain ⟨n,hn⟩:=iha he;exact ⟨n,.inl hn⟩
   ·obtain ⟨n1,hn1⟩:=yc a h1;obtain ⟨n2,hn2⟩:=ihb h2;exact ⟨max n1 n2,.inr ⟨fr1,H1,yn (ow n1 n2) hn1,alu (ve (j6 n1 n2)) (als (j6 n1 n2)) (j6 n1 n2) b hn2⟩⟩
 | cond o a b iha ihb=>
   intro fr H r he
   rcases he with ⟨h1,h2⟩ | ⟨h1,h2⟩
   ·obtain ⟨n,hn⟩:=iha h2;exact ⟨n,.inl ⟨h1,hn⟩⟩
   ·obtain ⟨n,hn⟩:=ihb h2;exact ⟨n,.inr ⟨h1,hn⟩⟩
 | block id a ih=>intro fr H r he;exact ih (fr:=fr) he
 | loop kill a ih=>
   intro fr H r he;have he:PanL (fun fr H=>evC (fe CP) itW base a fr H) (fun fr H r=>abb (fe CP) (anc CP PP X) itW base C a fr H r) kill H.length (oh kill fr) H r:=he
   suffices h:∀ m fr H r,PanL (fun fr H=>evC (fe CP) itW base a fr H) (fun fr H r=>abb (fe CP) (anc CP PP X) itW base C a fr H r) kill m fr H r→∃ n,PanL (fun fr H=>evC (wu CP n) (itN n) base a fr H) (fun fr H r=>abb (wu CP n) (az2 CP PP X n) (itN n) base C a fr H r) kill m fr H r from h _ _ _ _ he
   intro m fr H r he
   induction he with
   | here h=>obtain ⟨n,hn⟩:=ih h;exact ⟨n,.here hn⟩
   | next h _ ih2=>
     obtain ⟨n1,hn1⟩:=yc a h;obtain ⟨n2,hn2⟩:=ih2
     refine ⟨max n1 n2,.next (yn (ow n1 n2) hn1) (axc (fun fr H r e=>?_) (fun fr H r e=>?_) hn2)⟩
     ·exact yn (j6 n1 n2) e
     ·exact alu (ve (j6 n1 n2)) (als (j6 n1 n2)) (j6 n1 n2) a e
 | _=>intro fr H r he;exact he.elim
theorem aax {f:Nat} {c:ACFun} (hX:X f=true) (hf:CP f=some (.code c)) {fst args cap:List V} (hl:(fst ++ args ++ cap).length≤c.ntmps) {base:Nat} {H:Heap} {r:aad}
 (h:abb (fe CP) (anc CP PP X) itW base (fun _ _=>True) c.body (gp c.ntmps (qi c.ntmps (fst ++ args ++ cap) 0)) H r):anc CP PP X (.fn f fst cap) args base H r:=by
 obtain ⟨n,hn⟩:=aoc c.body h;refine ⟨n+1,f,fst,cap,rfl,.inl ⟨hX,c,hf,?_⟩⟩;rw [start_eq hl];exact hn
theorem axa {f:Nat} {fst args cap:List V} {base:Nat} {H:Heap} {r:aad} (h:PP f (fst ++ args ++ cap) base H r):anc CP PP X (.fn f fst cap) args base H r:=⟨1,f,fst,cap,rfl,.inr h⟩
theorem fo {C:ab8} {call:kz} {pan:atf} {it:yw} {base:Nat} {a b:ACode} {fr fr1:List V} {H H1:Heap} {r:aad} (h:evC call it base a fr H=some (.nrm,fr1,H1)) (k:abb call pan it base C b fr1 H1 r):abb call pan it base C (.seq a b) fr H r:=.inr ⟨_,_,h,k⟩
theorem lu {C:ab8} {call:kz} {pan:atf} {it:yw} {base:Nat} {a b:ACode} {fr:List V} {H:Heap} {r:aad} (h:abb call pan it base C a fr H r):abb call pan it base C (.seq a b) fr H r:=.inl h
end
open Go.RowKit
section
variable {P:Program} {pure':PX} {CP:Nat→Option CFun}
theorem acd {F:Fence} {n:Nat} {ops:Array Oper} {Q:Exit→Act→World→Prop} {i:Nat} {rest:List Nat} {a:Act} {w:World} {o:Oper} (ho:ops[i]?=some o) (hg:o.guard=none) (h:o.wpIn F n P a w (wpOpsIn F n P ops Q rest) Q):wpOpsIn F n P ops Q (i :: rest) a w:=by
 rw [wpOpsIn_cons];unfold wpOpIn;simp only [ho]
 rw [bi (by simp [Region.wanted,hg])]
 exact h
theorem a5j {μ:Mu} {Mt:Nat→Prop} {w:World} {fr:List V} {t:Array Value} (h:FR μ Mt w fr t):t.size=fr.length:=by
 have:=h.1
 simpa using this.symm
theorem amk {CC:CX} {μ μ':Mu} {Mt Mt':Nat→Prop} {w w':World} {H H':Heap} {a:Act} {o:Oper} {d:Nat} {v:V} {r:Value} {fr:List V} (h:HR CC μ Mt w H) (p:Post CC μ Mt w H μ' Mt' w' H') (hf:FR μ Mt w fr a.tmps) (hd:o.dst=some d) (hv:VR μ' Mt' w' v r):FR μ' Mt' w' (put (some d) v fr) (a.put o.dst r).tmps:=by
 rw [hd];exact (hf.post h p).put (some d) hv
theorem a3g (hmix:P.follows .mixedOrders=true) (hCP:∀ k c,CP k=some c→abe P pure' k c) {k kn m id:Nat} {fn:Func} {o0 o1 o2 o3 o4:Oper} {Tf:TypeId} {z:List V}
 (hf : P.funcs[k]? = some fn) (hb : fn.body = some (.region id #[o0, o1, o2, o3, o4] false)) (hnm : (fn.name == "runtime.NumGoroutine") = false) (hnt : fn.ntmps = 6)
 (c0:xq P pure'.b o0=some (.move (.t 0))) (d0:o0.dst=some 2) (g0:o0.guard=none)
 (c1:xq P pure'.b o1=some (.call (.c (.fn kn [] [])) [.t 2])) (d1:o1.dst=some 3) (g1:o1.guard=none)
 (c2:xq P pure'.b o2=some (.build z [(0,m)] [(0,.t 3)])) (hz:z.length=m) (d2:o2.dst=some 4) (g2:o2.guard=none)
 (e3:o3.op=.makeInterface Tf (.tmp 4)) (d3:o3.dst=some 5) (g3:o3.guard=none) (hTf:P.concrete Tf=true)
 (e4:o4.op=.panic (.tmp 5)) (g4:o4.guard=none):
 ∀ (vs:List V) (base:Nat) (H:Heap) (r:aad),(∃ v cs H1 n,vs=[v]∧wu CP n (.fn kn [] []) [v] base H=some (.agg cs,H1)∧cs.length=m∧cs.all V.one=true∧r=(Tf,.agg cs,H1))→
   Floor base H r.2.2∧(∀ xs w,(callFunc k xs).run P w=.ok (.enter k xs) w)∧
   ∀ μ Mt w cs,HR (CR P pure') μ Mt w H→VRs μ Mt w vs cs→∀ n,CallsIn Fence.wide n P k cs.toArray w (fun e w'=>∃ ch,e=.panicked ch∧a9t (CR P pure') μ Mt w H r ch w'):=by
 rintro vs base H r ⟨v,cs,H1,n,rfl,hcall,hlen,hall,rfl⟩;have hs:=aa6 hmix hCP n;refine ⟨hs.floor _ _ _ _ _ _ hcall,Go.Proofs.enters_of hf hnm hb,fun μ Mt w cvs h hvs nn=>?_⟩
 obtain ⟨cv,rfl⟩:∃ cv,cvs=[cv]:=by
  have:=hvs.1
  match cvs,this with
  | [x],_=>exact ⟨x,rfl⟩
 refine callsIn_of_wp_marks hf hb trivial (wpIn_region ?_);have hv0:VR μ Mt w v cv:=hvs.2 0 v cv rfl rfl;obtain ⟨a0,ha0⟩:∃ a0:Act,{ tmps:=[cv].toArray ++ Array.replicate (fn.ntmps - [cv].toArray.size) Go.undef,defers:=[] }=a0:=⟨_,rfl⟩
 have hf0:FR μ Mt w [v,und,und,und,und,und] a0.tmps:=by
  unfold FR;have:=hvs.append (zz (μ:=μ) (Mt:=Mt) (w:=w) 5);rw [← ha0,hnt]
  simpa using this
 have hd0:a0.defers=[]:=by rw [← ha0]
 rw [ha0];show wpOpsIn (Fw none) nn P #[o0,o1,o2,o3,o4] _ [0,1,2,3,4] a0 w;refine acd (o:=o0) rfl g0 (abv hs h hf0 (.inl c0) (base:=base) (v:=v) (H':=H) rfl ?_);rintro r0 w0 ⟨q0,μ0,Mt0,E0,V0,p0⟩;cases E0;have f1:FR μ0 Mt0 w0 [v,und,v,und,und,und] (a0.put o0.dst r0).tmps:=amk h p0 hf0 d0 V0;obtain ⟨a1,ha1⟩:∃ a1,a0.put o0.dst r0=a1:=⟨_,rfl⟩;rw [ha1] at f1 ⊢;refine acd (o:=o1) rfl g1 (abv hs p0.hr f1 (.inl c1) (base:=base) (v:=.agg cs) (H':=H1) hcall ?_);rintro r1 w1 ⟨q1,μ1,Mt1,E1,V1,p1⟩;cases E1;have f2:FR μ1 Mt1 w1 [v,und,v,.agg cs,und,und] (a1.put o1.dst r1).tmps:=amk p0.hr p1 f1 d1 V1;obtain ⟨a2,ha2⟩:∃ a2,a1.put o1.dst r1=a2:=⟨_,rfl⟩;rw [ha2] at f2 ⊢
 have hbd:ja (wu CP n) base [v,und,v,.agg cs,und,und] H1 (.build z [(0,m)] [(0,.t 3)])=some (.agg cs,H1):=by
  have hsp:splice z 0 cs=cs:=by
   unfold splice
   rw [dz,dm,l9 (by omega),abp]
  simp only [ja,oz,acx,aaf,ev,gy,gm,List.getElem?_cons_zero,V.cells,hlen,hz,hall,jl,ag,ou,iq,hsp]
 refine acd (o:=o2) rfl g2 (abv hs p1.hr f2 (.inl c2) (base:=base) (v:=.agg cs) (H':=H1) hbd ?_);rintro r2 w2 ⟨q2,μ2,Mt2,E2,V2,p2⟩;cases E2;have f3:FR μ2 Mt2 w2 [v,und,v,.agg cs,.agg cs,und] (a2.put o2.dst r2).tmps:=amk p1.hr p2 f2 d2 V2;obtain ⟨a3,ha3⟩:∃ a3,a2.put o2.dst r2=a3:=⟨_,rfl⟩;rw [ha3] at f3 ⊢
 have hd3:a3.defers=[]:=by rw [← ha3,put_defers,← ha2,put_defers,← ha1,put_defers,hd0]
 refine acd (o:=o3) rfl g3 ⟨fun _ _=>trivial,?_⟩
 rw [Oper.semAt_eq _ _ _ (by simp [e3])]
 have hx3:∀ (a:Act) (w:World),(execOp a.eval o3).run P w=.ok (.value (.iface Tf (a.eval (.tmp 4)))) w:=by
  intro a w;unfold execOp;simp only [e3,Sem.run_bind,run_makeInterface w Tf _ hTf,Result.andThen_ok,Sem.run_pure]
 rw [hx3];show wpOpsIn (Fw none) nn P #[o0,o1,o2,o3,o4] _ [4] (a3.put o3.dst _) w2;refine acd (o:=o4) rfl g4 ⟨fun _ _=>trivial,?_⟩
 rw [Oper.semAt_eq _ _ _ (by simp [e4])]
 have hx4:∀ (a:Act) (w:World) (T:TypeId) (x:Value),a.eval (.tmp 5)=.iface T x→(execOp a.eval o4).run P w=.halt (.panic (.iface T x)) w:=by
  intro a w T x hx;unfold execOp;simp only [e4,hx,Sem.run_bind,run_panic_iface];rfl
 have hsz:=a5j f3;simp only [bz,gq] at hsz
 rw [hx4 _ _ Tf (a3.eval (.tmp 4)) (by rw [d3];simp [Act.eval,Act.put,hsz])]
 show LeavesInM Fence.wide nn P fn _ _ (a3.put o3.dst _).defers _ w2;rw [put_defers,hd3];exact ⟨_,rfl,_,μ2,Mt2,rfl,f3.getD 4,(p0.trans p1).trans p2⟩
end
open Go.RowKit
section
variable {CC:CX} {μ μ':Mu} {Mt Mt':Nat→Prop} {w w':World} {H H':Heap} {P:Program} {pure':PX} {call:kz}
def ae6:Code→Bool
 | .skip=>true
 | .label _=>true
 | .region _ _ _=>true
 | .seq a b=>ae6 a && ae6 b
 | .cond _ a b=>ae6 a && ae6 b
 | .ret=>true
 | .exit _=>true
 | _=>false
theorem ang.kill {ds:List Deferred} {fr':List V} {a':Act} (kill:List Nat) (h:ang CC μ Mt w H ds fr' H' a' w'):ang CC μ Mt w H ds (oh kill fr') H' a' w':=by
 obtain ⟨μ',Mt',h1,h2,h3⟩:=h;exact ⟨μ',Mt',h1,h2.kill kill,h3⟩
theorem ang.trans {μ1:Mu} {Mt1:Nat→Prop} {w1:World} {H1:Heap} {ds ds1:List Deferred} {fr':List V} {a':Act} (hp:Post CC μ Mt w H μ1 Mt1 w1 H1) (hd:ds1=ds) (h:ang CC μ1 Mt1 w1 H1 ds1 fr' H' a' w'):ang CC μ Mt w H ds fr' H' a' w':=by
 obtain ⟨μ',Mt',h1,h2,h3⟩:=h;exact ⟨μ',Mt',hp.trans h1,h2,h3.trans hd⟩
theorem afz (hs:SimCall P (CR P pure') call) (hmix:P.follows .mixedOrders=true) (nn base:Nat) {c:Code} {ac:ACode} (hc:CodeR P pure' c ac) (hfl:ae6 c=true):
 ∀ (ro:Option Nat) (n:Nat) (fr:List V) (H:Heap) (e:Ex) (fr':List V) (H':Heap),evC call (fun b k m=>ru b k m nn) base ac fr H=some (e,fr',H')→∀ (μ:Mu) (Mt:Nat→Prop) (w:World) (a:Act) (Q:Exit→Act→World→Prop),HR (CR P pure') μ Mt w H→FR μ Mt w fr a.tmps→
   (∀ a' w',ang (CR P pure') μ Mt w H a.defers fr' H' a' w'→Q (bds e) a' w')→c.wpIn (Fw ro) n P Q a w:=by
 induction hc with
 | skip=>
   intro ro n fr H e fr' H' hev μ Mt w a Q h hf hQ;simp only [evC] at hev;cases hev;exact wpIn_skip (hQ a w ⟨μ,Mt,Post.refl h,hf,rfl⟩)
 | label l=>
   intro ro n fr H e fr' H' hev μ Mt w a Q h hf hQ;simp only [evC] at hev;cases hev;exact wpIn_label (hQ a w ⟨μ,Mt,Post.refl h,hf,rfl⟩)
 | exit id=>
   intro ro n fr H e fr' H' hev μ Mt w a Q h hf hQ;simp only [evC] at hev;cases hev;exact wpIn_exit (hQ a w ⟨μ,Mt,Post.refl h,hf,rfl⟩)
 | ret=>
   intro ro n fr H e fr' H' hev μ Mt w a Q h hf hQ;simp only [evC] at hev;cases hev;exact wpIn_ret (hQ a w ⟨μ,Mt,Post.refl h,hf,rfl⟩)
 | block=>cases hfl
 | loop=>cases hfl
 | rangeFunc=>cases hfl
 | region id ops draw l chk kill hr hd=>
   intro ro n fr H e fr' H' hev μ Mt w a Q h hf hQ;simp only [evC] at hev;split at hev
   ·rename_i fr1 H1 h1;split at hev
    ·rename_i hchk;cases hev;cases draw with
     | false=>
       refine wpIn_region ?_
       have:=aln (Q:=Q) (ro:=ro) (n:=n) hs hr ops.size 0 fr H a w μ Mt (by omega) h hf (by simpa using h1) (fun a' w' hq=>hQ a' w' (hq.kill kill))
       simpa using this
     | true=>exact wpIn_region_any hmix (aiu hs hr (hd rfl) h1 hchk h hf fun a' w' hq=>hQ a' w' (hq.kill kill))
    ·cases hev
   ·cases hev
 | regionE id ops draw l kill outs hr hd=>
   intro ro n fr H e fr' H' hev μ Mt w a Q h hf hQ;simp only [evC] at hev;split at hev
   ·rename_i f2 h2;cases hev;obtain ⟨f1,h1,rfl⟩:=ab4 (call:=call) (base:=base) h2;cases draw with
    | false=>
      refine wpIn_region ?_
      have:=aln (Q:=Q) (ro:=ro) (n:=n) hs hr ops.size 0 fr H a w μ Mt (by omega) h hf (by simpa using h1) (fun a' w' hq=>hQ a' w' (hq.kill kill))
      simpa using this
    | true=>exact wpIn_region_any hmix (aiu hs hr (hd rfl) h1 rfl h hf fun a' w' hq=>hQ a' w' (hq.kill kill))
   ·cases hev
 | regionP id ops π l chk kill hp hr hd=>
   intro ro n fr H e fr' H' hev μ Mt w a Q h hf hQ;simp only [evC] at hev;split at hev
   ·rename_i fr1 H1 h1;split at hev
    ·rename_i hchk;cases hev;exact wpIn_region_any hmix (aat hp (aiu hs hr hd h1 hchk h hf fun a' w' hq=>hQ a' w' (hq.kill kill)))
    ·cases hev
   ·cases hev
 | regionPE id ops π l kill outs hp hr hd=>
   intro ro n fr H e fr' H' hev μ Mt w a Q h hf hQ;simp only [evC] at hev;split at hev
   ·rename_i f2 h2;cases hev;obtain ⟨f1,h1,rfl⟩:=ab4 (call:=call) (base:=base) h2;exact wpIn_region_any hmix (aat hp (aiu hs hr hd h1 rfl h hf fun a' w' hq=>hQ a' w' (hq.kill kill)))
   ·cases hev
 | seq x y ax ay _ _ ihx ihy=>
   intro ro n fr H e fr' H' hev μ Mt w a Q h hf hQ;simp only [ae6,au] at hfl;simp only [evC] at hev;split at hev
   ·rename_i fr1 H1 h1;refine wpIn_seq (ihx hfl.1 ro n _ _ _ _ _ h1 μ Mt w a _ h hf ?_);rintro a1 w1 ⟨μ1,Mt1,p1,f1,d1⟩;exact ihy hfl.2 ro n _ _ _ _ _ hev μ1 Mt1 w1 a1 Q p1.hr f1 fun a2 w2 hq=>hQ a2 w2 (ang.trans p1 d1 hq)
   ·rename_i hne;refine wpIn_seq (ihx hfl.1 ro n _ _ _ _ _ hev μ Mt w a _ h hf ?_);intro a1 w1 h1;have:=hQ a1 w1 h1;cases e with
    | nrm=>exact (hne _ _ hev).elim
    | ext id=>exact this
    | ret=>exact this
 | cond c o x y ax ay hco _ _ ihx ihy=>
   intro ro n fr H e fr' H' hev μ Mt w a Q h hf hQ;simp only [ae6,au] at hfl;simp only [evC] at hev;have hv:=jf hf hco;split at hev
   ·rename_i he;rw [he] at hv;exact wpIn_cond_true (x9 hv) (ihx hfl.1 ro n _ _ _ _ _ hev μ Mt w a Q h hf hQ)
   ·rename_i he;rw [he] at hv;exact wpIn_cond_false (x9 hv) (ihy hfl.2 ro n _ _ _ _ _ hev μ Mt w a Q h hf hQ)
   ·cases hev
theorem bbj [BtOk CC P] (h:HR CC μ Mt w H) {a:Act} {fr:List V} (hf:FR μ Mt w fr a.tmps) {o:Oper} {ao:AOp} {base:Nat} {v:V} (hc:ar5 P pure' o ao) (hnc:ao.isCall=false) (hev:ja call base fr H ao=some (v,H')):
 ∃ cv w1,((execOp a.eval o).run P w=.ok (.value cv) w1∨((execOp a.eval o).run P w=.ok .skip w1∧cv=Go.undef))∧ana CC μ Mt w H v H' (.returned cv) w1:=by
 have key:∀ (ao':AOp) (b:Nat),xq P pure' o=some ao'→ao'.isCall=false→ja call b fr H ao'=some (v,H')→∃ cv w1,((execOp a.eval o).run P w=.ok (.value cv) w1∨((execOp a.eval o).run P w=.ok .skip w1∧cv=Go.undef))∧ana CC μ Mt w H v H' (.returned cv) w1:=by
  intro ao' b h2 hn he
  rcases p9 h2 with ⟨g,args,ats,xs',y,ho,_,_,⟨k,_,e⟩ | e⟩ | ⟨hc',hn',hnd⟩
  ·rw [e] at hn;cases hn
  ·rw [e] at hn;cases hn
  ·obtain ⟨cv,w1,μ1,Mt1,hr,hvr,hp⟩:=aiz h hf hc' hn' he
   rcases hr with hr | ⟨hr,rfl⟩
   ·exact ⟨cv,w1,.inl hr,cv,μ1,Mt1,rfl,hvr,hp⟩
   ·exact ⟨_,w1,.inr ⟨hr,rfl⟩,_,μ1,Mt1,rfl,hvr,hp⟩
 rcases hc with hc | ⟨f',xs',hc,e⟩ | ⟨k,xs',hc,e⟩ | ⟨sz,b,s,x,hc,e⟩ | e
 ·exact key _ base hc hnc hev
 ·rw [e] at hnc;cases hnc
 ·rw [e] at hnc;cases hnc
 ·subst e;exact key (.append sz b s x) H.length hc rfl hev
 ·subst e;cases hev
theorem a1v [BtOk CC P] {ops:Array Oper} {l:List AOper} (hr:apj P pure' ops l) {base n:Nat} {Q:Exit→Act→List Frame→World→Prop} {cs:List Frame} {fr':List V} {H':Heap}:
 ∀ (j k:Nat) (fr:List V) (H:Heap) (a:Act) (w:World) (μ:Mu) (Mt:Nat→Prop),j+k=ops.size→(∀ i,k≤i→i < l.length→(l.getD i default).op.isCall=false)→HR CC μ Mt w H→FR μ Mt w fr a.tmps→je call base (l.drop k) fr H=some (fr',H')→
   (∀ a' w',ang CC μ Mt w H a.defers fr' H' a' w'→Q .normal a' cs w')→wpOpsSIn Fence.wide n P ops Q ((List.range ops.size).drop k) a cs w:=by
 intro j
 induction j with
 | zero=>
   intro k fr H a w μ Mt hk _ h hf hev hQ
   have hk':k=ops.size:=by omega
   subst hk'
   rw [uk (by simp)]
   rw [uk (by rw [hr.1];exact ag _)] at hev
   cases hev;exact hQ a w ⟨μ,Mt,Post.refl h,hf,rfl⟩
 | succ j ih=>
   intro k fr H a w μ Mt hk hno h hf hev hQ
   have hlt:k < ops.size:=by omega
   have hltl:k < l.length:=by rw [hr.1];exact hlt
   have e1:(List.range ops.size).drop k=k :: (List.range ops.size).drop (k+1):=by
    rw [ed (by simpa using hlt)];simp
   rw [e1];rw [ed hltl] at hev;have ho:ops[k]?=some ops[k]:=Array.getElem?_eq_getElem hlt;obtain ⟨hd,hc,hg⟩:=hr.2 k ops[k] l[k] ho (List.getElem?_eq_getElem hltl)
   have hnk:l[k].op.isCall=false:=by
    have:=hno k (ag _) hltl
    rwa [y5 (List.getElem?_eq_getElem hltl)] at this
   simp only [wpOpsSIn,ho];refine ⟨fun _ _=>trivial,?_⟩;simp only [je] at hev;split at hev
   ·cases hev
   ·rename_i hw;rw [x8 hg hf hw];simp only [jy,mg]
    refine ih (k+1) _ H _ w μ Mt (by omega) (fun i h1 h2=>hno i (by omega) h2) h (hd ▸ hf.put _ (.s _)) hev (fun a' w' hq=>hQ a' w' ?_)
    rw [put_defers] at hq;exact hq
   ·rename_i hw;rw [x8 hg hf hw];simp only [iq];split at hev
    ·rename_i v H1 hop;obtain ⟨cv,w1,hrun,c',μ1,Mt1,e,hv,hp⟩:=bbj (call:=call) h hf hc hnk hop;cases e
     have next:wpOpsSIn Fence.wide n P ops Q ((List.range ops.size).drop (k+1)) (a.put ops[k].dst cv) cs w1:=by
      refine ih (k+1) _ H1 _ w1 μ1 Mt1 (by omega) (fun i h1 h2=>hno i (by omega) h2) hp.hr (hd ▸ (hf.post h hp).put _ hv) hev (fun a' w' hq=>hQ a' w' ?_)
      rw [put_defers] at hq;exact ang.trans hp rfl hq
     rcases hrun with hrun | ⟨hrun,rfl⟩
     ·rw [hrun];exact next
     ·rw [hrun];exact next
    ·cases hev
inductive RecC (Tf:TypeId) (z:V) (μ:Mu) (Mt:Nat→Prop) (w:World):FrameMode→FrameMode→V→Prop
 | pan (x:V) (c:Value) (h:VR μ Mt w x c):RecC Tf z μ Mt w (.panicking [{ v:=.iface Tf c,recovered:=false }]) (.panicking [{ v:=.iface Tf c,recovered:=true }]) (.tup [x,.s (.bool true)])
 | nil:RecC Tf z μ Mt w .returning .returning (.tup [z,.s (.bool false)])
variable {CP:Nat→Option CFun}
theorem a6q (hmix:P.follows .mixedOrders=true) (hCP:∀ k c,CP k=some c→abe P pure' k c) {k id0 r0 r1 N:Nat} {fn:Func} {c2:Code} {ac2:ACode} {ops0:Array Oper} {l0:List AOper} {xT Tf:TypeId} {oR oA:Oper} {ats:Array TypeId}
 (hf:P.funcs[k]?=some fn) (hb:fn.body=some (.seq (.region id0 ops0 false) c2)) (hres:fn.results=#[]) (hnt:fn.ntmps=N)
 (hreg:apj P pure' ops0 l0) (hc2:CodeR P pure' c2 ac2) (hfl:ae6 c2=true) (hno:∀ i,2≤i→i < l0.length→(l0.getD i default).op.isCall=false)
 (hR:ops0[0]?=some oR) (eR:oR.op=.call { callee:=.builtin .recover,args:=#[],argTypes:=ats }) (dR:oR.dst=some r0) (gR:oR.guard=none)
 (hA:ops0[1]?=some oA) (eA:oA.op=.typeAssert (.tmp r0) xT Tf true) (dA:oA.dst=some r1) (gA:oA.guard=none) (hr0:r0 < N)
 (hok:∀ (v:Value) (w:World),(Instr.typeAssert (.iface Tf v) xT Tf true).run P w=.ok (.tuple #[v,.bool true]) w)
 {z:V} {zv:Value} (hnil:∀ (w:World),(Instr.typeAssert .nilIface xT Tf true).run P w=.ok (.tuple #[zv,.bool false]) w) (hz:∀ (μ:Mu) (Mt:Nat→Prop) (w:World),VR μ Mt w z zv)
 {u u':FrameMode} {y:V} {μ:Mu} {Mt:Nat→Prop} {w:World} {H:Heap} (h:HR (CR P pure') μ Mt w H) {vs:List V} {cs:List Value} (hvs:VRs μ Mt w vs cs) (hvl:vs.length≤N) (hu:RecC Tf z μ Mt w u u' y)
 {n base:Nat} {fr3 fr4:List V} {H3 H4:Heap} (h3:je (wu CP n) base (l0.drop 2) (put (some r1) y (put (some r0) .unk (vs ++ List.replicate (N - vs.length) und))) H=some (fr3,H3))
 (h4:evC (wu CP n) (fun b k m=>ru b k m n) base ac2 fr3 H3=some (.nrm,fr4,H4)) {m:Nat} {R:Ending→FrameMode→World→Prop} (hQ:∀ v μ' Mt' w',Post (CR P pure') μ Mt w H μ' Mt' w' H4→R (.returned v) u' w'):
 CallsDIn Fence.wide m P k cs.toArray u w R:=by
 have hs:=aa6 hmix hCP n;refine callsDIn_of_wpSIn hf hb trivial fun c0 cs0 hc0=>wpSIn_seq (wpSIn_region ?_);obtain ⟨a0,ha0⟩:∃ a0:Act,{ tmps:=cs.toArray ++ Array.replicate (fn.ntmps - cs.toArray.size) Go.undef,defers:=[] }=a0:=⟨_,rfl⟩
 have hd0:a0.defers=[]:=by rw [← ha0]
 have hf0:FR μ Mt w (vs ++ List.replicate (N - vs.length) und) a0.tmps:=by
  unfold FR;have:=hvs.append (zz (μ:=μ) (Mt:=Mt) (w:=w) (N - vs.length));rw [← ha0,hnt];simp only [aem,ab9,ni];rw [hvs.1] at this ⊢;exact this
 rw [ha0];have hlA:1 < ops0.size:=(Array.getElem?_eq_some_iff.1 hA).1;have hlA2:2≤ops0.size:=hlA
 have er:List.range ops0.size=0 :: 1 :: (List.range ops0.size).drop 2:=by
  have e1:List.range ops0.size=(List.range ops0.size).drop 0:=rfl
  rw [ed (by simp;omega),ed (by simp;omega)] at e1
  simpa using e1
 rw [er]
 have hrun0:∀ (a:Act) (w:World),(execOp a.eval oR).run P w=.ok .recover w:=by
  intro a w;unfold execOp;simp only [eR,resolve,Sem.run_bind,Sem.run_pure,Result.andThen_ok,invoke,Go.builtin]
 have tail:∀ (v0:Value) (y0:Value) (cs1:List Frame),cs1={ c0 with mode:=u' } :: cs0→VR μ Mt w y y0→wpOpsSIn Fence.wide m P ops0 (Exit.thenS (c2.wpSIn Fence.wide m P (bodyPostS P fn c0 cs0 R)) (bodyPostS P fn c0 cs0 R)) ((List.range ops0.size).drop 2) ((a0.put oR.dst v0).put oA.dst y0) cs1 w:=by
  intro v0 y0 cs1 hcs hy
  have hfr:FR μ Mt w (put (some r1) y (put (some r0) .unk (vs ++ List.replicate (N - vs.length) und))) ((a0.put oR.dst v0).put oA.dst y0).tmps:=by
   rw [dR,dA];exact (hf0.put (some r0) (.unk _)).put (some r1) hy
  refine a1v (call:=wu CP n) hreg (ops0.size - 2) 2 _ H _ w μ Mt (by omega) hno h hfr h3 ?_
  rintro a1 w1 ⟨μ1,Mt1,p1,f1,d1⟩;rw [put_defers,put_defers,hd0] at d1;refine wpSIn_of_wpIn rfl ?_;refine afz hs hmix n base hc2 hfl none m _ _ _ _ _ h4 μ1 Mt1 w1 a1 _ p1.hr f1 ?_;rintro a2 w2 ⟨μ2,Mt2,p2,f2,d2⟩
  obtain ⟨rv,hrv,_⟩:=aci (fn:=fn) (ars:=[]) (r:=.tup []) p2.hr f2 (by rw [hres];rfl) rfl
  exact ⟨by rw [d2,d1],u',hcs,rv,hrv,hQ rv μ2 Mt2 w2 (p1.trans p2)⟩
 have hx1:∀ (v0 y0:Value) (a:Act),a.tmps.size=N→(Instr.typeAssert v0 xT Tf true).run P w=.ok y0 w→(execOp (a.put oR.dst v0).eval oA).run P w=.ok (.value y0) w:=by
  intro v0 y0 a hsz hrun
  have hev:(a.put oR.dst v0).eval (.tmp r0)=v0:=by
   rw [dR];simp [Act.eval,Act.put,hsz,hr0]
  unfold execOp;simp only [eA,hev,Sem.run_bind,hrun,Result.andThen_ok,Sem.run_pure]
 have hsz:a0.tmps.size=N:=by
  rw [a5j hf0,di,List.length_replicate];omega
 simp only [wpOpsSIn,hR,hA];refine ⟨fun _ _=>trivial,?_⟩
 rw [bi (by simp [Region.wanted,gR]),hrun0]
 cases hu with
 | pan x c hx=>
   have hrec:recoverD (c0 :: cs0)=some (.iface Tf c,{ c0 with mode:=.panicking [{ v:=.iface Tf c,recovered:=true }] } :: cs0):=by
    simp only [recoverD,hc0]
   simp only [hrec];refine ⟨fun _ _=>trivial,?_⟩
   rw [bi (by simp [Region.wanted,gA]),hx1 _ _ _ hsz (hok c w)]
   refine tail _ _ _ rfl (.tup _ _ rfl fun i p q hp hq=>?_)
   match i with
   | 0=>simp at hp hq;subst hp;subst hq;exact hx
   | 1=>simp at hp hq;subst hp;subst hq;exact .s _
   | i+2=>simp at hp
 | nil=>
   have hrec:recoverD (c0 :: cs0)=none:=by
    simp only [recoverD,hc0]
   simp only [hrec];refine ⟨fun _ _=>trivial,?_⟩
   rw [bi (by simp [Region.wanted,gA]),hx1 _ _ _ hsz (hnil w)]
   refine tail _ _ _ (by rw [← hc0]) (.tup _ _ rfl fun i p q hp hq=>?_)
   match i with
   | 0=>simp at hp hq;subst hp;subst hq;exact hz _ _ _
   | 1=>simp at hp hq;subst hp;subst hq;exact .s _
   | i+2=>simp at hp
end
open Go.RowKit
section
variable {CC:CX} {μ μ':Mu} {Mt Mt':Nat→Prop} {w w':World} {H H':Heap} {P:Program} {pure':PX} {CP:Nat→Option CFun} {PP:Nat→List V→Nat→Heap→aad→Prop} {X:Nat→Bool}
theorem aft {μ0:Mu} {Mt0:Nat→Prop} {w0:World} {H0:Heap} {fn:Func} {tmps:Array Value} {x:V} {c:Value} {frx:List V} {R:Ending→World→Prop} {n:Nat} {u:FrameMode} {ds:List Deferred} (hu:u≠.run)
 (hfin:∀ w',Post CC μ0 Mt0 w0 H0 μ Mt w' H→FR μ Mt w' frx tmps→VR μ Mt w' x c→LeavesInM Fence.wide n P fn tmps R ds u w'):
 ∀ (L:List Nat) (w:World),Post CC μ0 Mt0 w0 H0 μ Mt w H→FR μ Mt w frx tmps→VR μ Mt w x c→L.Nodup→(∀ D∈L,w0.heap.size≤D∧w.heap[D]?=some (.deferred (some []))∧∀ id g b,μ id g≠some (D,b))→
   LeavesInM Fence.wide n P fn tmps R (L.map ass ++ ds) u w:=by
 intro L
 induction L with
 | nil=>intro w hp hf hv _ _;exact hfin w hp hf hv
 | cons D L ih=>
   intro w hp hf hv hnd hL;obtain ⟨h1,h2,h3⟩:=hL D fu;refine ⟨hu,.inl ⟨D,_,rfl,run_takeDeferred h2,?_⟩⟩;obtain ⟨p1,hk⟩:=aix (y:=none) hp h1 h2 h3;refine ih _ p1 ⟨hf.1,fun i a b ha hb=>hk (hf.2 i a b ha hb)⟩ (hk hv) (abn.1 hnd).2 (fun E hE=>?_);obtain ⟨k1,k2,k3⟩:=hL E (dn _ hE)
   have hne:E≠D:=fun e=>by subst e;exact (abn.1 hnd).1 hE
   exact ⟨k1,(World.putObj_heap_other hne).trans k2,k3⟩
def bcq (P:Program) (pure':PX) (CP:Nat→Option CFun) (k r0 r1 N:Nat) (Tf:TypeId) (z:V) (l0:List AOper) (ac2:ACode):Prop:=
 (∀ xs w,(callFunc k xs).run P w=.ok (.enter k xs) w)∧
 ∀ {u u':FrameMode} {y:V} {μ:Mu} {Mt:Nat→Prop} {w:World} {H:Heap},HR (CR P pure') μ Mt w H→∀ {vs:List V} {cs:List Value},VRs μ Mt w vs cs→vs.length≤N→RecC Tf z μ Mt w u u' y→
   ∀ {n base:Nat} {fr3 fr4:List V} {H3 H4:Heap},je (wu CP n) base (l0.drop 2) (put (some r1) y (put (some r0) .unk (vs ++ List.replicate (N - vs.length) und))) H=some (fr3,H3)→
   evC (wu CP n) (fun b k m=>ru b k m n) base ac2 fr3 H3=some (.nrm,fr4,H4)→∀ {m:Nat} {R:Ending→FrameMode→World→Prop},(∀ v μ' Mt' w',Post (CR P pure') μ Mt w H μ' Mt' w' H4→R (.returned v) u' w')→CallsDIn Fence.wide m P k cs.toArray u w R
structure DefF where
 N:Nat
 A0:ACode
 A1:ACode
 A2:ACode
 AR:ACode
 a:Nat
 b:Nat
 c:Nat
 d:Nat
 k1:Nat
 r0:Nat
 r1:Nat
 N1:Nat
 Tf:TypeId
 z:V
 l0:List AOper
 ac2:ACode
 rs:List ARes
def DefF.cond (D:DefF) (g0 g1 g2:V):ab8:=fun l fr=>(fr.getD D.a .unk=g0∧fr.getD D.b .unk=g1∧fr.getD D.c .unk=g2)∧∀ o∈l,o.dst≠some D.a∧o.dst≠some D.b∧o.dst≠some D.c
def DefF.recR (D:DefF) (call:kz) (it:yw) (base:Nat) (y g0 g1 g2:V) (H H':Heap):Prop:=
 ∃ f3 H3 f4,je call base (D.l0.drop 2) (put (some D.r1) y (put (some D.r0) .unk ([g0,g1,g2] ++ List.replicate (D.N1 - 3) und))) H=some (f3,H3)∧evC call it base D.ac2 f3 H3=some (.nrm,f4,H')
def DefF.ans (D:DefF) (call:kz) (it:yw) (pan:atf) (vs:List V) (base:Nat) (H:Heap) (v:V) (H':Heap):Prop:=
 ∃ fr1 H1 fr2 H2,evC call it base D.A0 (vs ++ List.replicate (D.N - vs.length) und) H=some (.nrm,fr1,H1)∧evC call it base D.A1 fr1 H1=some (.nrm,fr2,H2)∧
 ((∃ fr3,evC call it base D.A2 fr2 H2=some (.ret,fr3,H')∧qc D.rs fr3 H'=some v)∨
  ∃ fr3 H3 g0 g1 g2,evC call it base D.A2 fr2 H2=some (.nrm,fr3,H3)∧D.d < fr3.length∧fr3.getD D.a .unk=g0∧fr3.getD D.b .unk=g1∧fr3.getD D.c .unk=g2∧
   ((∃ e fr5 H5,(e=.nrm∨e=.ret)∧evC call it base D.AR (put (some D.d) (.fn D.k1 [] [g0,g1,g2]) fr3) H3=some (e,fr5,H5)∧D.recR call it base (.tup [D.z,.s (.bool false)]) g0 g1 g2 H5 H'∧qc D.rs fr5 H'=some v)∨
    ∃ x Hp,abb call pan it base (D.cond g0 g1 g2) D.AR (put (some D.d) (.fn D.k1 [] [g0,g1,g2]) fr3) H3 (D.Tf,x,Hp)∧D.recR call it base (.tup [x,.s (.bool true)]) g0 g1 g2 Hp H'∧qc D.rs (put (some D.d) (.fn D.k1 [] [g0,g1,g2]) fr3) H'=some v))
theorem DefF.recR_le {D:DefF} {c c':kz} (h:Le c c') {n n':Nat} (hn:n≤n') {base:Nat} {y g0 g1 g2:V} {H H':Heap} (k:D.recR c (itN n) base y g0 g1 g2 H H'):D.recR c' (itN n') base y g0 g1 g2 H H':=by
 obtain ⟨f3,H3,f4,h1,h2⟩:=k;exact ⟨f3,H3,f4,afw h _ h1,ahg h hn _ h2⟩
theorem DefF.recR_cont {D:DefF} {base:Nat} {y g0 g1 g2:V} {H H':Heap} (k:D.recR (fe CP) itW base y g0 g1 g2 H H'):∃ n,D.recR (wu CP n) (itN n) base y g0 g1 g2 H H':=by
 obtain ⟨f3,H3,f4,h1,h2⟩:=k;obtain ⟨n1,e1⟩:=akk _ h1;obtain ⟨n2,e2⟩:=yc _ h2;exact ⟨max n1 n2,f3,H3,f4,afw (ve (ow n1 n2)) _ e1,yn (j6 n1 n2) e2⟩
theorem DefF.ans_cont {D:DefF} {vs:List V} {base:Nat} {H:Heap} {v:V} {H':Heap} (h:D.ans (fe CP) itW (anc CP PP X) vs base H v H'):∃ n,D.ans (wu CP n) (itN n) (az2 CP PP X n) vs base H v H':=by
 obtain ⟨fr1,H1,fr2,H2,h1,h2,h⟩:=h;obtain ⟨n1,e1⟩:=yc _ h1;obtain ⟨n2,e2⟩:=yc _ h2
 rcases h with ⟨fr3,h3,hr⟩ | ⟨fr3,H3,g0,g1,g2,h3,hd,k0,k1,k2,h⟩
 ·obtain ⟨n3,e3⟩:=yc _ h3
  refine ⟨max n1 (max n2 n3),fr1,H1,fr2,H2,yn (by omega) e1,yn (by omega) e2,.inl ⟨fr3,yn (by omega) e3,hr⟩⟩
 ·obtain ⟨n3,e3⟩:=yc _ h3
  rcases h with ⟨e,fr5,H5,he,h5,hrec,hr⟩ | ⟨x,Hp,hp,hrec,hr⟩
  ·obtain ⟨n4,e4⟩:=yc _ h5;obtain ⟨n5,e5⟩:=DefF.recR_cont hrec
   exact ⟨max (max n1 n2) (max n3 (max n4 n5)),fr1,H1,fr2,H2,yn (by omega) e1,yn (by omega) e2,.inr ⟨fr3,H3,g0,g1,g2,yn (by omega) e3,hd,k0,k1,k2,.inl ⟨e,fr5,H5,he,yn (by omega) e4,DefF.recR_le (ve (by omega)) (by omega) e5,hr⟩⟩⟩
  ·obtain ⟨n4,e4⟩:=aoc _ hp;obtain ⟨n5,e5⟩:=DefF.recR_cont hrec
   exact ⟨max (max n1 n2) (max n3 (max n4 n5)),fr1,H1,fr2,H2,yn (by omega) e1,yn (by omega) e2,.inr ⟨fr3,H3,g0,g1,g2,yn (by omega) e3,hd,k0,k1,k2,.inr ⟨x,Hp,alu (ve (by omega)) (als (by omega)) (by omega) _ e4,DefF.recR_le (ve (by omega)) (by omega) e5,hr⟩⟩⟩
theorem alk {rs:List ARes} {fr fr':List V} {H:Heap} (h:∀ r∈rs,fr.getD r.slot .unk=fr'.getD r.slot .unk):qc rs fr H=qc rs fr' H:=by
 have key:∀ rs:List ARes,(∀ r∈rs,fr.getD r.slot .unk=fr'.getD r.slot .unk)→rs.mapM (ahb fr H)=rs.mapM (ahb fr' H):=by
  intro rs
  induction rs with
  | nil=>intro _;rfl
  | cons r rs ih=>
    intro h
    have e:ahb fr H r=ahb fr' H r:=by
     have:=h r fu;cases r <;> simp only [ahb,ARes.slot] at this ⊢ <;> rw [this]
    simp only [lg,e,ih fun q hq=>h q (dn _ hq)]
 unfold qc;rw [key rs h]
theorem a8x (hmix:P.follows .mixedOrders=true) (hCP:∀ k c,CP k=some c→abe P pure' k c) (hone:∀ k fn body,X k=true→P.funcs[k]?=some fn→fn.body=some body→alv body=true) (hPP:a9j P pure' PP)
 {D:DefF} {k idD:Nat} {fn:Func} {m0 m1 m2 mR:Code} {oF oD:Oper} {ats:Array TypeId}
 (hf : P.funcs[k]? = some fn) (hb : fn.body = some (.seq m0 (.seq m1 (.seq m2 (.seq (.region idD #[oF, oD] false) mR))))) (hnm : (fn.name == "runtime.NumGoroutine") = false) (hnt : fn.ntmps = D.N)
 (c0:CodeR P pure' m0 D.A0) (f0:ae6 m0=true) (c1:CodeR P pure' m1 D.A1) (f1:ae6 m1=true) (c2:CodeR P pure' m2 D.A2) (f2:ae6 m2=true) (cR:CodeR P pure' mR D.AR) (oR:alv mR=true)
 (cF:xq P pure'.b oF=some (.mkFn D.k1 [] [.t D.a,.t D.b,.t D.c])) (dF:oF.dst=some D.d) (gF:oF.guard=none)
 (eD:oD.op=.defer { callee:=.value (.tmp D.d),args:=#[],argTypes:=ats }) (dD:oD.dst=none) (gD:oD.guard=none) (hdN:D.d≠D.a∧D.d≠D.b∧D.d≠D.c)
 (hrs:fn.results.toList.mapM (ae8 P)=some D.rs) (hrs2:∀ r∈D.rs,r.slot=D.a∨r.slot=D.b∨r.slot=D.c) (hN1:3≤D.N1)
 (hrec:bcq P pure' CP D.k1 D.r0 D.r1 D.N1 D.Tf D.z D.l0 D.ac2) {g:List V→Nat→Heap→Option (V × Heap)} (hg:∀ vs base H r H',g vs base H=some (r,H')→D.ans (fe CP) itW (anc CP PP X) vs base H r H'):abe P pure' k (.prim g):=by
 refine ⟨Go.Proofs.enters_of hf hnm hb,fun vs base H r H' hgr=>?_⟩;obtain ⟨n,hn⟩:=DefF.ans_cont (hg _ _ _ _ _ hgr);have hs:=aa6 hmix hCP n;have hx:=a1p (PP:=PP) (X:=X) hmix hCP hone hPP n;obtain ⟨fr1,H1,fr2,H2,h1,h2,hn⟩:=hn;have F1:=(um hs.floor n _ h1).trans (um hs.floor n _ h2)
 have recFloor:∀ {y g0 g1 g2:V} {K K':Heap},D.recR (wu CP n) (itN n) base y g0 g1 g2 K K'→Floor base K K':=fun h=>by
  obtain ⟨f3,H3,f4,q1,q2⟩:=h;exact (ae7 hs.floor _ q1).trans (um hs.floor n _ q2)
 refine ⟨?_,fun μ Mt w cs h hvs m=>?_⟩
 ·rcases hn with ⟨fr3,h3,_⟩ | ⟨fr3,H3,g0,g1,g2,h3,_,_,_,_,⟨e,fr5,H5,_,h5,hr,_⟩ | ⟨x,Hp,hp,hr,_⟩⟩
  ·exact F1.trans (um hs.floor n _ h3)
  ·exact (F1.trans (um hs.floor n _ h3)).trans ((um hs.floor n _ h5).trans (recFloor hr))
  ·exact (F1.trans (um hs.floor n _ h3)).trans ((akb hs.floor hx.floor n base _ hp).trans (recFloor hr))
 ·refine callsIn_of_wp_marks hf hb trivial ?_;obtain ⟨a0,ha0⟩:∃ a0:Act,{ tmps:=cs.toArray ++ Array.replicate (fn.ntmps - cs.toArray.size) Go.undef,defers:=[] }=a0:=⟨_,rfl⟩
  have hd0:a0.defers=[]:=by rw [← ha0]
  have hf0:FR μ Mt w (vs ++ List.replicate (D.N - vs.length) und) a0.tmps:=by
   unfold FR;have:=hvs.append (zz (μ:=μ) (Mt:=Mt) (w:=w) (D.N - vs.length));rw [← ha0,hnt];simp only [aem,ab9,ni];rw [hvs.1] at this ⊢;exact this
  rw [ha0];refine wpIn_seq (afz hs hmix n base c0 f0 none m _ _ _ _ _ h1 μ Mt w a0 _ h hf0 ?_);rintro a1 w1 ⟨μ1,Mt1,p1,q1,d1⟩;rw [hd0] at d1;refine wpIn_seq (afz hs hmix n base c1 f1 none m _ _ _ _ _ h2 μ1 Mt1 w1 a1 _ p1.hr q1 ?_);rintro a2 w2 ⟨μ2,Mt2,p2,q2,d2⟩;rw [d1] at d2
  have leave:∀ {frx:List V} {ax:Act} {wx:World} {μx:Mu} {Mtx:Nat→Prop} {Hx:Heap},Post (CR P pure') μ Mt w H μx Mtx wx Hx→FR μx Mtx wx frx ax.tmps→qc D.rs frx Hx=some r→Hx=H'→LeavesInM Fence.wide m P fn ax.tmps (ana (CR P pure') μ Mt w H r H') [] .returning wx:=fun pp ff hr hH=>by
   subst hH;obtain ⟨cv,k1,k2⟩:=aci pp.hr ff hrs hr;exact ⟨cv,k1,cv,_,_,rfl,k2,pp⟩
  rcases hn with ⟨fr3,h3,hres⟩ | ⟨fr3,H3,g0,g1,g2,h3,hdl,e0,e1,e2,hn⟩
  ·refine wpIn_seq (afz hs hmix n base c2 f2 none m _ _ _ _ _ h3 μ2 Mt2 w2 a2 _ p2.hr q2 ?_);rintro a3 w3 ⟨μ3,Mt3,p3,q3,d3⟩;rw [d2] at d3;show LeavesInM Fence.wide m P fn a3.tmps _ a3.defers .returning w3;rw [d3];exact leave ((p1.trans p2).trans p3) q3 hres rfl
  ·refine wpIn_seq (afz hs hmix n base c2 f2 none m _ _ _ _ _ h3 μ2 Mt2 w2 a2 _ p2.hr q2 ?_);rintro a3 w3 ⟨μ3,Mt3,p3,q3,d3⟩;rw [d2] at d3;have pp3:=(p1.trans p2).trans p3;refine wpIn_seq (wpIn_region ?_);show wpOpsIn (Fw none) m P #[oF,oD] _ [0,1] a3 w3
   refine acd (o:=oF) rfl gF (abv hs p3.hr q3 (.inl cF) (base:=base) (v:=.fn D.k1 [] [g0,g1,g2]) (H':=H3) (by simp only [ja,oz,acx,ev,e0,e1,e2]) ?_)
   rintro rF w4 ⟨qF,μ4,Mt4,E4,V4,p4⟩;cases E4;have q4:FR μ4 Mt4 w4 (put (some D.d) (.fn D.k1 [] [g0,g1,g2]) fr3) (a3.put oF.dst rF).tmps:=amk p3.hr p4 q3 dF V4;obtain ⟨a4,ha4⟩:∃ a4,a3.put oF.dst rF=a4:=⟨_,rfl⟩
   have d4:a4.defers=[]:=by rw [← ha4,put_defers,d3]
   rw [ha4] at q4 ⊢;have pp4:=pp3.trans p4
   have hval:VR μ4 Mt4 w4 (.fn D.k1 [] [g0,g1,g2]) (a4.eval (.tmp D.d)):=by
    have hg:=q4.getD D.d;rw [adz _ _ _ _ hdl,bi rfl] at hg;exact hg
   obtain ⟨fst',cap',hfv,hfs,hvg⟩:∃ (fst' cap':Array Value),a4.eval (.tmp D.d)=.func (.func D.k1) fst' cap'∧fst'=#[]∧VRs μ4 Mt4 w4 [g0,g1,g2] cap'.toList:=by
    generalize a4.eval (.tmp D.d)=fv at hval;cases hval with
    | fn _ _ _ fst' cap' k1 k2 k3 k4=>exact ⟨fst',cap',rfl,acy (by simpa using k1.symm),by simpa using k2,fun i p q hp hq=>k4 i p q hp (by simpa using hq)⟩
   subst hfs;refine acd (o:=oD) rfl gD ⟨fun _ _=>trivial,?_⟩
   have hxD:(Oper.semAt none a4.eval oD).run P w4=.ok (.defer { target:=.fn (.func D.k1) cap',args:=#[] }) w4:=by
    rw [Oper.semAt_none];unfold execOp;simp only [eD,resolve,hfv,Deferred.ofValue,Sem.run_bind,Sem.run_pure,Result.andThen_ok];simp
   show Oper.uponIn (Fw none) m P oD a4 _ _ ((Oper.semAt none a4.eval oD).run P w4);rw [hxD];simp only [Oper.uponIn,wpOpsIn];rw [dD,d4];show Code.wpIn (Fw none) m P mR _ { a4 with defers:=[{ target:=.fn (.func D.k1) cap',args:=#[] }] } w4
   have hinv:∀ w,(invoke (.fn (.func D.k1) cap') #[]).run P w=.ok (.enter D.k1 cap') w:=fun w=>by
    simp only [invoke,hrec.1];rw [Array.empty_append]
   have leaveD:∀ {u u':FrameMode} {y:V} {frx:List V} {tx:Array Value} {wx:World} {μx:Mu} {Mtx:Nat→Prop} {Hx:Heap},u≠.run→settle u'=.returning→Post (CR P pure') μ4 Mt4 w4 H3 μx Mtx wx Hx→FR μx Mtx wx frx tx→RecC D.Tf D.z μx Mtx wx u u' y→D.recR (wu CP n) (itN n) base y g0 g1 g2 Hx H'→qc D.rs frx H'=some r→
    LeavesInM Fence.wide m P fn tx (ana (CR P pure') μ Mt w H r H') [{ target:=.fn (.func D.k1) cap',args:=#[] }] u wx:=fun {u u' y frx tx wx μx Mtx Hx} hu hu' pp ff hc hr hres=>by
    obtain ⟨f3,K3,f4,r1,r2⟩:=hr
    refine ⟨hu,.inr ⟨fun h=>by simp [Fence.wide] at h,.func D.k1,cap',D.k1,cap',rfl,hinv wx,fun _ _=>trivial,?_⟩⟩
    have hcd:=hrec.2 (m:=m - 1) pp.hr (pp.vrs p4.hr hvg) (show [g0,g1,g2].length≤D.N1 from hN1) hc (n:=n) (base:=base) r1 r2 (R:=fun e u' w'=>∃ v,e=.returned v∧LeavesInM Fence.wide m P fn tx (ana (CR P pure') μ Mt w H r H') [] (settle u') w') (fun v μy Mty wy py=>by
     refine ⟨v,rfl,?_⟩;rw [hu'];obtain ⟨cv,k1,k2⟩:=aci py.hr (ff.post pp.hr py) hrs hres;exact ⟨cv,k1,cv,_,_,rfl,k2,(pp4.trans pp).trans py⟩)
    rw [qh] at hcd;refine hcd.mono ?_;rintro e1 u1 wz ⟨v,rfl,hh⟩;exact hh
   rcases hn with ⟨e,fr5,H5,he,h5,hr,hres⟩ | ⟨x,Hp,hp,hr,hres⟩
   ·refine ag0 hs hmix n base cR none m _ _ _ _ _ h5 μ4 Mt4 w4 { a4 with defers:=[{ target:=.fn (.func D.k1) cap',args:=#[] }] } _ p4.hr q4 (fun l hl=>by cases hl) ?_
    rintro a5 w5 ⟨μ5,Mt5,p5,q5,L,hL,hnd,hLs⟩
    have fin:LeavesInM Fence.wide m P fn a5.tmps (ana (CR P pure') μ Mt w H r H') a5.defers .returning w5:=by
     rw [hL]
     exact aft (by simp) (x:=und) (c:=Go.undef) (fun w6 p6 q6 _=>leaveD (by simp) rfl p6 q6 .nil hr hres) L w5 p5 q5 (.s _) hnd hLs
    rcases he with rfl | rfl
    ·exact fin
    ·exact fin
   ·refine asj hs hx hmix n base cR oR none m _ _ _ hp μ4 Mt4 w4 { a4 with defers:=[{ target:=.fn (.func D.k1) cap',args:=#[] }] } _ p4.hr q4 (fun l hl=>by cases hl) ?_
    rintro ch a5 w5 ⟨cv,μ5,Mt5,lx,frl,frx,rfl,hvx,p5,⟨L,hL,hnd,hLs⟩,hC,hK,q5⟩;show LeavesInM Fence.wide m P fn a5.tmps _ a5.defers _ w5;rw [hL];obtain ⟨⟨b0,b1,b2⟩,hdst⟩:=hC
    have hres':qc D.rs frx H'=some r:=by
     rw [← hres];refine alk fun q hq=>?_
     rcases hrs2 q hq with h | h | h <;> rw [h]
     ·rw [hK _ (fun o ho=>(hdst o ho).1),b0,ady (fun e=>hdN.1 (fw e)),e0]
     ·rw [hK _ (fun o ho=>(hdst o ho).2.1),b1,ady (fun e=>hdN.2.1 (fw e)),e1]
     ·rw [hK _ (fun o ho=>(hdst o ho).2.2),b2,ady (fun e=>hdN.2.2 (fw e)),e2]
    exact aft (by simp) (fun w6 p6 q6 v6=>leaveD (by simp) rfl p6 q6 (.pan x cv v6) hr hres') L w5 p5 q5 hvx hnd hLs
end
end Go.AM
