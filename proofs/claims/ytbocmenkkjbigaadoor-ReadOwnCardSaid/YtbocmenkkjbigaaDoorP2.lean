/- Texts of the proof: Am20, Am21, Am22, Am23, AmS, AmT, AmF, AmG, AmL, AmQ0, AmQ, AmW, AmB, BitsP, AmM, AmN, AmO, AmY, AmZ, AmI, AmU, AmU2, AmH, RdnA1, TokP, TokP2, TokP3, RdP1, AmP, AmPk, AmPn, AmPn2, AmPr, AmPr2, AmPr3. -/
import Derived.Test.YtbocmenkkjbigaaDoorP0
import Derived.Test.YtbocmenkkjbigaaDoorP1
import Derived.ProofKit
import Derived.ReadAgain
import Derived.Laws.BitsLemmas
import Derived.Shelf.Sort.Plain
import Derived.Shelf.SlIterI.Nil
import Derived.Shelf.SlMaps.Clone
import Derived.Shelf.Spec.TrailingZeros
import Derived.KernelRfl
import Derived.RecoverIn
import Derived.Laws.Build
import Derived.WalkSmall
set_option linter.all false
namespace Go.AM
open Go.RowKit
section
variable {μ μ':Mu} {Mt Mt':Nat→Prop} {w w':World} {H H':Heap} {P:Program} {pure':PX} {call:kz}
def abh (P:Program) (pure':PX) (k:Nat):CFun→Prop
 | .code c => ∃ fn body, P.funcs[k]? = some fn ∧ fn.body = some body ∧ (fn.name == "runtime.NumGoroutine") = false ∧ CodeR P pure' body c.body ∧ fn.ntmps = c.ntmps ∧ fn.results.toList.mapM (ae5 P) = some c.results
 | .prim g=>(∀ xs w,(callFunc k xs).run P w=.ok (.enter k xs) w)∧∀ vs base H r H',g vs base H=some (r,H')→Floor base H H'∧
    ∀ μ Mt w cs,HR (CR P pure') μ Mt w H→VRs μ Mt w vs cs→∀ n,CallsIn Fence.wide n P k cs.toArray w (ank (CR P pure') μ Mt w H r H')
theorem awk:∀ (ps:List Nat) (vs:List V) (cs:List Value) {fr fr':List V} {t:Array Value},ap7 ps vs fr=some fr'→VRs μ Mt w vs cs→FR μ Mt w fr t→
 ps.length=cs.length∧FR μ Mt w fr' ((ps.zip cs).foldl (fun t p=>t.setIfInBounds p.1 p.2) t):=by
 intro ps
 induction ps with
 | nil=>
   intro vs cs fr fr' t h hv hf;cases vs with
   | nil=>
     cases h
     have:cs=[]:=by have:=hv.1;cases cs <;> simp at this ⊢
     subst this;exact ⟨rfl,hf⟩
   | cons v vs=>cases h
 | cons p ps ih=>
   intro vs cs fr fr' t h hv hf;cases vs with
   | nil=>cases h
   | cons v vs=>
     cases cs with
     | nil=>have:=hv.1;simp at this
     | cons c cs=>
       have hv':VRs μ Mt w vs cs:=⟨by have:=hv.1;simpa using this,fun i a b ha hb=>hv.2 (i+1) a b (by simpa using ha) (by simpa using hb)⟩
       have hf':FR μ Mt w (fr.set p v) (t.setIfInBounds p c):=by
        have:=VRs.set hf p (hv.2 0 v c rfl rfl)
        simpa [FR] using this
       obtain ⟨h1,h2⟩:=ih vs cs h hv' hf'
       exact ⟨by simp [h1],by simpa using h2⟩
theorem aaf (n:Nat):VRs μ Mt w (List.replicate n und) (List.replicate n Go.undef):=
 ⟨by simp,fun i a b ha hb=>by
  have h1:=List.mem_of_getElem? ha;have h2:=List.mem_of_getElem? hb;rw [af6] at h1 h2;rw [h1.2,h2.2];exact .s _⟩
variable {CP:Nat→Option CFun}
theorem apb (hs:SimCall P (CR P pure') call) (hmix:P.follows .mixedOrders=true) (nn:Nat) (hCP:∀ k c,CP k=some c→abh P pure' k c)
 {f:Nat} {fst cap args:List V} {base:Nat} {r:V} (hev:vk CP call (fun b k m=>q9 b k m nn) (.fn f fst cap) args base H=some (r,H')):
 (∀ xs w,(callFunc f xs).run P w=.ok (.enter f xs) w)∧Floor base H H'∧
 ∀ (μ:Mu) (Mt:Nat→Prop) (w:World) (cs:List Value),HR (CR P pure') μ Mt w H→VRs μ Mt w (fst ++ args ++ cap) cs→∀ n,CallsIn Fence.wide n P f cs.toArray w (ank (CR P pure') μ Mt w H r H'):=by
 simp only [vk] at hev;split at hev
 ·rename_i c hc;obtain ⟨fn,body,h1,h2,h3,h4,h5,h6⟩:=hCP f _ hc;have fin:∀ (e:Ex) (fr':List V) (H1:Heap),(e=.nrm∨e=.ret)→evC call (fun b k m=>q9 b k m nn) base c.body (fst ++ args ++ cap ++ List.replicate (c.ntmps - (fst ++ args ++ cap).length) und) H=some (e,fr',H1)→
   (qd c.results fr' H1).map (fun v=>(v,H1))=some (r,H')→(∀ xs w,(callFunc f xs).run P w=.ok (.enter f xs) w)∧Floor base H H'∧
   ∀ (μ:Mu) (Mt:Nat→Prop) (w:World) (cs:List Value),HR (CR P pure') μ Mt w H→VRs μ Mt w (fst ++ args ++ cap) cs→∀ n,CallsIn Fence.wide n P f cs.toArray w (ank (CR P pure') μ Mt w H r H'):=by
   intro e fr' H1 he hb hres;rw [af] at hres;obtain ⟨v,hv,e1⟩:=hres;cases e1;refine ⟨Go.Proofs.enters_of h1 h3 h2,ut hs.floor nn _ hb,fun μ Mt w cs h hvs n=>?_⟩;refine callsIn_of_wp_marks h1 h2 trivial ?_
   have hf0:FR μ Mt w (fst ++ args ++ cap ++ List.replicate (c.ntmps - (fst ++ args ++ cap).length) und) (cs.toArray ++ Array.replicate (fn.ntmps - cs.toArray.size) Go.undef):=by
    unfold FR;have:=hvs.append (aaf (μ:=μ) (Mt:=Mt) (w:=w) (c.ntmps - (fst ++ args ++ cap).length));simp only [aek,acb,nz,h5];rw [hvs.1] at this ⊢;exact this
   refine ag6 hs hmix nn base h4 none n _ H e fr' H' hb μ Mt w { tmps:=cs.toArray ++ Array.replicate (fn.ntmps - cs.toArray.size) Go.undef,defers:=[] } _ h hf0 (fun l hl=>by cases hl) ?_
   rintro a' w' ⟨μ1,Mt1,p1,f1,L,hL,hnd,hLs⟩
   have key:LeavesInM Fence.wide n P fn a'.tmps (ank (CR P pure') μ Mt w H r H') a'.defers .returning w':=by
    rw [hL,abt];refine aox (μ:=μ1) (Mt:=Mt1) (fr:=fr') (fun w2 p2 f2=>?_) L w' p1 f1 hnd hLs;obtain ⟨cv,k1,k2⟩:=ack p2.hr f2 h6 hv;exact ⟨cv,k1,cv,μ1,Mt1,rfl,k2,p2⟩
   rcases he with rfl | rfl
   ·exact key
   ·exact key
  split at hev
  ·rename_i fr' H1 hb;exact fin .nrm fr' H1 (.inl rfl) hb hev
  ·rename_i fr' H1 hb;exact fin .ret fr' H1 (.inr rfl) hb hev
  ·cases hev
 ·rename_i g hc;obtain ⟨h1,h2⟩:=hCP f _ hc;obtain ⟨h3,h4⟩:=h2 _ _ _ _ _ hev;exact ⟨h1,h3,h4⟩
 ·cases hev
theorem akx (hs:SimCall P (CR P pure') call) (hmix:P.follows .mixedOrders=true) (nn:Nat)
 {id:Nat} {args:List V} {base:Nat} {r:V} (hev:vk CP call (fun b k m=>q9 b k m nn) (.yld id) args base H=some (r,H')):
 Floor base H H'∧∀ (μ:Mu) (Mt:Nat→Prop) (w:World) (cs:List Value) (B:Nat),HR (CR P pure') μ Mt w H→VRs μ Mt w args cs→μ id 0=some (B,0)→
  ∃ f tmps assign body,(Instr.yield B cs.toArray).run P w=.ok (.round B f tmps assign body) w∧∀ n,RoundIn Fence.wide n P B f tmps assign body w (ank (CR P pure') μ Mt w H r H'):=by
 simp only [vk] at hev;split at hev
 case isFalse=>cases hev
 rename_i hbase;split at hev
 case h_2=>cases hev
 rename_i tmps params assign body hH;split at hev
 case h_2=>cases hev
 rename_i fr0 hset;split at hev
 case h_2=>cases hev
 rename_i fr1 H1 hasg;split at hev
 case h_2=>cases hev
 rename_i t1 ps1 as1 b1 hH1;split at hev
 case h_2=>cases hev
 rename_i e fr2 H3 hbody;split at hev
 case h_2=>cases hev
 rename_i t3 ps3 as3 b3 hH3;cases hev
 have setF:∀ (G:Heap) (o:Ob),Floor base G (G.set id o):=fun G o=>⟨by simp,fun i h1 _=>by rw [List.getElem?_set_ne (by omega)]⟩
 refine ⟨(ut hs.floor nn _ hasg).trans ((setF _ _).trans ((ut hs.floor nn _ hbody).trans (setF _ _))),?_⟩;intro μ Mt w cs B h hvs hm;obtain ⟨o,ho,hr⟩:=h.objs _ _ 0 _ _ hH rfl hm
 cases o <;> first | exact hr.elim | skip
 rename_i rec;obtain ⟨_,q1,q2,q3,q4,q5,q6⟩:=hr;obtain ⟨hlen,hf0⟩:=awk params args cs hset hvs (t:=rec.tmps) q3
 have hsz:cs.toArray.size=rec.params.size:=by
  rw [← q4] at hlen;simpa using hlen.symm
 have hfold:(rec.params.zip cs.toArray).foldl (fun tmps (t,a)=>tmps.setIfInBounds t a) rec.tmps=(params.zip cs).foldl (fun t p=>t.setIfInBounds p.1 p.2) rec.tmps:=by
  rw [← af8,Array.toList_zip,q4]
 refine ⟨_,_,_,_,run_yield ho hsz,fun n=>?_⟩;refine roundIn_of_wpIn (F:=Fence.wide) trivial ?_;rw [hfold]
 refine ag6 hs hmix nn base q5 (some B) n fr0 H .nrm fr1 H1 hasg μ Mt w { tmps:=(params.zip cs).foldl (fun t p=>t.setIfInBounds p.1 p.2) rec.tmps,defers:=[] } _ h hf0 (fun l hl=>by cases hl;exact ⟨rec,ho⟩) ?_
 rintro a1 w1 ⟨μ1,Mt1,p1,f1,_⟩;have hm1:=p1.ext _ _ _ hm;obtain ⟨o1,ho1,hr1⟩:=p1.hr.objs _ _ 0 _ _ hH1 rfl hm1
 cases o1 <;> first | exact hr1.elim | skip
 rename_i rec1;obtain ⟨_,s1,s2,s3,s4,s5,s6⟩:=hr1
 have hwf1:ObW H1.length (.loop .busy none t1 ps1 as1 b1):=by have:=p1.hr.wfn hH1 rfl hm1;exact this
 have p2:Post (CR P pure') μ1 Mt1 w1 H1 (ajx μ1 id 0 (B,0)) Mt1 (w1.putObj B (.loop { rec1 with state:=.busy })) (H1.set id (.loop .busy none t1 ps1 as1 b1)):=by
  refine adx p1.hr 0 0 hH1 rfl hm1 ho1 (fun _ _ _ e=>by cases e) (fun _ _=>⟨_,rfl⟩) (.inl ⟨rfl,rfl⟩) (fun j hj=>hj) (fun _ _ e=>by cases e) rfl rfl rfl rfl hwf1 ?_
  intro _ μ' Mt' hμ hM;have hne:∀ K,K≠B→(w1.putObj B (.loop { rec1 with state:=.busy })).heap[K]?=w1.heap[K]?:=fun K hK=>World.putObj_heap_other hK;refine ⟨rfl,rfl,trivial,?_,s4,s5,s6⟩;refine VRs.mono hμ (fun K hK hm=>(hM K hK).1 hm) (fun K _ hn=>hne K (fun e=>hn (e ▸ (p1.hr.isMut _ _ _ _ hm1).1))) (fun K a0 e0 fr0 hK=>?_) s3
  have:K≠B:=fun e=>by subst e;rw [ho1] at hK;cases hK
  exact ⟨a0,_,(hne K this).trans hK,rfl⟩
 refine ⟨_,run_beginRound ho1 s1,?_⟩;have pp:=p1.trans p2;have hB2:∃ r,(w1.putObj B (.loop { rec1 with state:=.busy })).heap[B]?=some (.loop r):=⟨_,World.putObj_heap_same (lt_of_some ho1)⟩
 refine ag6 hs hmix nn base q6 (some B) n fr1 _ e fr2 H3 ?_ _ _ _ a1 _ p2.hr (f1.post p1.hr p2) (fun l hl=>by cases hl;exact hB2) ?_
 ·exact hbody
 ·rintro a3 w3 ⟨μ3,Mt3,p3,_,_⟩;have hm3:μ3 id 0=some (B,0):=p3.ext _ _ _ (oq _ _ _ _);obtain ⟨o3,ho3,hr3⟩:=p3.hr.objs _ _ 0 _ _ hH3 rfl hm3
  cases o3 <;> first | exact hr3.elim | skip
  rename_i rec3;obtain ⟨_,u1,u2,u3,u4,u5,u6⟩:=hr3
  have hwf3:∀ st pe,ObW H3.length (.loop st pe t3 ps3 as3 b3):=fun _ _=>by have:=p3.hr.wfn hH3 rfl hm3;exact this
  have fin:∀ (jump:Option Code),ah7 (if e=.nrm then .ready else .done) (asv e) jump→jump.isNone=decide (e=.nrm)→(if jump.isNone then LoopState.ready else .done)=(if e=.nrm then .ready else .done)→
   ∃ v w',(Instr.endRound B jump).run P w3=.ok v w'∧ank (CR P pure') μ Mt w H (bl (decide (e=.nrm))) (H3.set id (.loop (if e=.nrm then .ready else .done) (asv e) t3 ps3 as3 b3)) (.returned v) w':=by
   intro jump hok hj hst
   refine ⟨_,_,run_endRound jump ho3,_,_,_,rfl,by rw [hj];exact .s _,(pp.trans p3).trans (adx (g':=0) (b':=0) p3.hr hH3 rfl hm3 ho3 (fun _ _ _ e=>by cases e) (fun _ _=>⟨_,rfl⟩) (.inl ⟨rfl,rfl⟩) (fun j hj=>hj) (fun _ _ e=>by cases e) rfl rfl rfl rfl (hwf3 _ _) ?_)⟩
   intro _ μ' Mt' hμ hM
   have hne:∀ K,K≠B→(w3.putObj B (.loop { rec3 with state:=if jump.isNone then .ready else .done,pending:=jump })).heap[K]?=w3.heap[K]?:=fun K hK=>World.putObj_heap_other hK
   refine ⟨rfl,hst,hok,?_,u4,u5,u6⟩;refine VRs.mono hμ (fun K hK hm=>(hM K hK).1 hm) (fun K _ hn=>hne K (fun e=>hn (e ▸ (p3.hr.isMut _ _ _ _ hm3).1))) (fun K a0 e0 fr0 hK=>?_) u3
   have:K≠B:=fun e=>by subst e;rw [ho3] at hK;cases hK
   exact ⟨a0,_,(hne K this).trans hK,rfl⟩
  cases e with
  | nrm=>exact fin none rfl rfl rfl
  | ext i=>exact fin (some (.exit i)) rfl rfl rfl
  | ret=>exact fin (some .ret) rfl rfl rfl
theorem avh (hs:SimCall P (CR P pure') call) (hmix:P.follows .mixedOrders=true) (nn:Nat) (hCP:∀ k c,CP k=some c→abh P pure' k c):SimCall P (CR P pure') (vk CP call (fun b k m=>q9 b k m nn)) where
 fn f fst cap args base H r H' h:=by
  obtain ⟨h1,_,h3⟩:=apb hs hmix nn hCP h;exact ⟨h1,h3⟩
 yld id args base H r H' h:=(akx hs hmix nn h).2
 other v args base H h1 h2:=by
  cases v <;> first | rfl | exact absurd rfl (h1 _ _ _) | exact absurd rfl (h2 _)
 floor v args base H r H' h:=by
  by_cases h1:∃ f a b,v=.fn f a b
  ·obtain ⟨f,a,b,rfl⟩:=h1;exact (apb hs hmix nn hCP h).2.1
  ·by_cases h2:∃ id,v=.yld id
   ·obtain ⟨id,rfl⟩:=h2;exact (akx hs hmix nn h).1
   ·exfalso
    cases v <;> first | exact h1 ⟨_,_,_,rfl⟩ | exact h2 ⟨_,rfl⟩ | (simp [vk] at h;done)
theorem aa9 (hmix:P.follows .mixedOrders=true) (hCP:∀ k c,CP k=some c→abh P pure' k c):∀ n,SimCall P (CR P pure') (xh CP n)
 | 0=>⟨fun _ _ _ _ _ _ _ _ h=>(by cases h),fun _ _ _ _ _ _ h=>(by cases h),fun _ _ _ _ _ _=>rfl,fun _ _ _ _ _ _ h=>(by cases h)⟩
 | n+1=>avh (aa9 hmix hCP n) hmix n hCP
theorem ar9 (hmix:P.follows .mixedOrders=true) (hCP:∀ k c,CP k=some c→abh P pure' k c) {n k:Nat} {args:List V} {r:V} (h:xh CP n (.fn k [] []) args 0 []=some (r,H')) {w:World} {cs:Array Value}
 (hargs:VRs (fun _ _=>none) (fun _=>False) w args cs.toList) (hfx:∀ (B:Nat) (o:Array Value × TypeId × Nat × Nat),pure'.fx B=some o→w.heap[B]?=some (.cells o.1 o.2.1 o.2.2)):
 Calls P k cs w fun e w'=>∃ c μ' Mt',e=.returned c∧VR μ' Mt' w' r c∧(∀ B,B < w.heap.size→w'.heap[B]?=w.heap[B]?)∧Tr (fun _ _=>none) w w':=by
 have h0:HR (CR P pure') (fun _ _=>none) (fun _=>False) w []:=⟨fun _ _ _ h=>by simp at h,fun _ _ _ _ h=>by simp at h,fun _ _ _ _ _ h=>by simp at h,fun _ _ _ _ _ _ _ h=>by simp at h,fun _ _ _ _ _ h=>by simp at h,fun _ _ _ _ h=>by simp at h,fun B o e=>⟨hfx B o e,fun h=>h⟩,fun _ _ _ h=>by simp at h⟩
 have:=((aa9 hmix hCP n).fn k [] [] args 0 [] r H' h).2 _ _ w cs.toList h0 (by simpa using hargs) 0
 simp only [qh] at this;refine callsIn_wide.1 (CallsIn.mono this ?_);rintro e w' ⟨c,μ',Mt',rfl,hv,hp⟩
 exact ⟨c,μ',Mt',rfl,hv,fun B hB=>hp.tr.keep B hB (fun _ _ _ h=>by simp at h),hp.tr⟩
end
section
variable {P:Program} {pure':PX}
theorem aos {α β:Type} {f:α→Option β}:∀ {l:List α} {us:List β},l.mapM f=some us→us.length=l.length∧∀ (i:Nat) (v:α) (u:β),l[i]?=some v→us[i]?=some u→f v=some u:=by
 intro l
 induction l with
 | nil=>intro us h;simp at h;subst h;exact ⟨rfl,fun i v u h=>by simp at h⟩
 | cons x l ih=>
   intro us h;simp only [ll,bq,az,ae] at h;obtain ⟨v,hv,us',hus,e⟩:=h;cases e;obtain ⟨h1,h2⟩:=ih hus
   refine ⟨by simp [h1],fun i a u ha hu=>?_⟩
   cases i with
   | zero=>simp at ha hu;subst ha;subst hu;exact hv
   | succ i=>exact h2 i a u (by simpa using ha) (by simpa using hu)
theorem akf {lt:List Nat} {bf:List Nat} {l:List AOper} {i:Nat} {a:AOper} (h:(wu lt bf l)[i]?=some a):∃ b,l[i]?=some b∧(a=b∨(∃ f xs,b.op=.call f xs∧a={ b with op:=.callR f xs })∨∃ k xs,b.op=.callP k xs∧a={ b with op:=.callQ k xs }):=by
 unfold wu at h
 have hi:i < l.length:=by have:=(List.getElem?_eq_some_iff.1 h).1;simpa using this
 have hg:l[i]?=some l[i]:=List.getElem?_eq_getElem hi;refine ⟨l[i],hg,?_⟩;rw [List.getElem?_map,List.getElem?_range hi] at h;have hd:l.getD i default=l[i]:=zf hg;simp only [jq,hd,dn] at h;split at h
 ·rename_i f xs hop;split at h
  ·exact .inl h.symm
  ·exact .inr (.inl ⟨f,xs,hop,h.symm⟩)
 ·rename_i f xs hop;split at h
  ·exact .inl h.symm
  ·exact .inr (.inr ⟨f,xs,hop,h.symm⟩)
 ·exact .inl h.symm
theorem alg {l:List AOper} {i:Nat} {a:AOper} (h:(ab3 l)[i]?=some a):∃ b,l[i]?=some b∧(a=b∨∃ sz n s x,b.op=.append sz n s x∧a={ b with op:=.appR sz n s x }):=by
 unfold ab3 at h;rw [List.getElem?_map,af] at h;obtain ⟨b,hb,e⟩:=h;refine ⟨b,hb,?_⟩;split at e
 ·rename_i sz n s x hop;exact .inr ⟨sz,n,s,x,hop,e.symm⟩
 ·exact .inl e.symm
theorem aht (l:List AOper):(ab3 l).length=l.length:=by simp [ab3]
theorem afi {lt:List Nat} {bf:List Nat} {l:List AOper}:(wu lt bf l).length=l.length:=by simp [wu]
theorem acr {lt:List Nat} {ops:Array Oper} {draw:Bool} {l:List AOper} {chk:List (Nat × Nat)} (h:acs P lt pure' ops draw=some (l,chk)):
 apn P pure' ops l∧(draw=true→aec (Region.before ops).toList chk l=true∧ac3 ops=true):=by
 unfold acs at h;simp only [az,ae] at h;obtain ⟨l0,hl0,h⟩:=h;obtain ⟨h1,h2⟩:=aos hl0
 have one:∀ (i:Nat) (o:Oper) (a:AOper),ops[i]?=some o→l0[i]?=some a→a.dst=o.dst∧(xx P pure' o=some a.op∨a.op=.stuck)∧ado ops o.guard=some a.guard:=by
  intro i o a ho ha
  have:=h2 i o a (by simpa using ho) ha
  unfold atm at this;simp only [az,ae,bq,dn] at this;obtain ⟨g,hg,e⟩:=this;subst e;refine ⟨rfl,?_,hg⟩;cases hop:xx P pure' o with
  | none=>exact .inr rfl
  | some op=>exact .inl rfl
 split at h
 ·rename_i hd
  have fin:∀ c,aec (Region.before ops).toList c (wu lt (Region.before ops).toList l0)=true→ac3 ops=true→apn P pure' ops (wu lt (Region.before ops).toList l0)∧(draw=true→aec (Region.before ops).toList c (wu lt (Region.before ops).toList l0)=true∧ac3 ops=true):=by
   intro c hok hbk
   refine ⟨⟨by rw [afi,h1];simp,fun i o a ho ha=>?_⟩,fun _=>⟨hok,hbk⟩⟩
   obtain ⟨b,hb,e⟩:=akf ha;obtain ⟨k1,k2,k3⟩:=one i o b ho hb
   rcases e with rfl | ⟨f,xs,hop,rfl⟩ | ⟨f,xs,hop,rfl⟩
   ·exact ⟨k1,k2.imp id fun h=>.inr (.inr (.inr h)),k3⟩
   ·exact ⟨k1,.inr (.inl ⟨f,xs,by rw [← hop];exact k2.resolve_right (by rw [hop];intro h;cases h),rfl⟩),k3⟩
   ·exact ⟨k1,.inr (.inr (.inl ⟨f,xs,by rw [← hop];exact k2.resolve_right (by rw [hop];intro h;cases h),rfl⟩)),k3⟩
  split at h
  ·rename_i hok;simp only [ak] at hok;simp only [bq,dn] at h;cases h
   exact fin _ (by simp [aec,hok.1]) hok.2
  ·split at h
   ·rename_i hok;simp only [ak] at hok;simp only [bq,dn] at h;cases h
    exact fin _ (by simp [aec,hok.1]) hok.2
   ·split at h
    ·rename_i hok;simp only [ak] at hok;simp only [bq,dn] at h;cases h
     refine ⟨⟨by rw [aht,afi,h1];simp,fun i o a ho ha=>?_⟩,fun _=>⟨by simp [aec,hok.1],hok.2⟩⟩
     obtain ⟨b0,hb0,e0⟩:=alg ha;obtain ⟨b,hb,e⟩:=akf hb0;obtain ⟨k1,k2,k3⟩:=one i o b ho hb
     rcases e0 with rfl | ⟨sz,n,s,x,hop,rfl⟩
     ·rcases e with rfl | ⟨f,xs,hop,rfl⟩ | ⟨f,xs,hop,rfl⟩
      ·exact ⟨k1,k2.imp id fun h=>.inr (.inr (.inr h)),k3⟩
      ·exact ⟨k1,.inr (.inl ⟨f,xs,by rw [← hop];exact k2.resolve_right (by rw [hop];intro h;cases h),rfl⟩),k3⟩
      ·exact ⟨k1,.inr (.inr (.inl ⟨f,xs,by rw [← hop];exact k2.resolve_right (by rw [hop];intro h;cases h),rfl⟩)),k3⟩
     ·rcases e with rfl | ⟨f,xs,hop',rfl⟩ | ⟨f,xs,hop',rfl⟩
      ·exact ⟨k1,.inr (.inr (.inr (.inl ⟨sz,n,s,x,by rw [← hop];exact k2.resolve_right (by rw [hop];intro h;cases h),rfl⟩))),k3⟩
      ·cases hop
      ·cases hop
    ·cases h
 ·rename_i hd;simp only [bq,dn] at h;cases h
  refine ⟨⟨by rw [h1];simp,fun i o a ho ha=>?_⟩,fun e=>absurd e hd⟩
  obtain ⟨k1,k2,k3⟩:=one i o a ho ha;exact ⟨k1,k2.imp id fun h=>.inr (.inr (.inr h)),k3⟩
theorem z8 {lt:List Nat}:∀ (c:Code) (ac:ACode),xe P lt pure' c=some ac.bare→CodeR P pure' c ac:=by
 intro c
 induction c with
 | skip=>intro ac h;simp only [xe,dn] at h;cases ac <;> simp only [ACode.bare] at h <;> first | exact .skip | cases h
 | exit id=>intro ac h;simp only [xe,dn] at h;cases ac <;> simp only [ACode.bare] at h <;> first | (cases h;done) | (cases h;exact .exit _)
 | label l=>intro ac h;simp only [xe,dn] at h;cases ac <;> simp only [ACode.bare] at h <;> first | exact .label _ | cases h
 | ret=>intro ac h;simp only [xe,dn] at h;cases ac <;> simp only [ACode.bare] at h <;> first | exact .ret | cases h
 | scope c=>intro ac h;simp [xe] at h
 | goto l=>intro ac h;simp [xe] at h
 | refuse w=>intro ac h;simp [xe] at h
 | region id ops draw=>
   intro ac h;simp only [xe] at h;split at h
   ·rename_i q hr;obtain ⟨l,chk⟩:=q;simp only [dn] at h;obtain ⟨h1,h2⟩:=acr hr;have e:=h
    cases ac <;> simp only [ACode.bare] at e <;> first | (cases e;done) | (cases e;exact .region _ _ _ _ _ _ h1 h2) | (cases e;exact .regionE _ _ _ _ _ _ h1 h2)
   ·split at h
    ·rename_i hdp;rw [ak] at hdp;obtain ⟨rfl,hp⟩:=hdp;rw [af] at h;obtain ⟨⟨l,chk⟩,hr,e⟩:=h;obtain ⟨h1,h2⟩:=acr hr
     cases ac <;> simp only [ACode.bare] at e <;> first | (cases e;done) | (cases e;exact .regionP _ _ _ _ _ _ hp h1 (h2 rfl)) | (cases e;exact .regionPE _ _ _ _ _ _ hp h1 (h2 rfl))
    ·cases h
 | seq a b iha ihb=>
   intro ac h;simp only [xe,az,ae,bq,dn] at h;obtain ⟨x,hx,y,hy,e⟩:=h
   cases ac <;> simp only [ACode.bare] at e <;> first | (cases e;done) | (cases e;exact .seq _ _ _ _ (iha _ hx) (ihb _ hy))
 | cond c a b iha ihb=>
   intro ac h;simp only [xe,az,ae,bq,dn] at h;obtain ⟨o,ho,x,hx,y,hy,e⟩:=h
   cases ac <;> simp only [ACode.bare] at e <;> first | (cases e;done) | (cases e;exact .cond _ _ _ _ _ _ ho (iha _ hx) (ihb _ hy))
 | block id c ih=>
   intro ac h;simp only [xe,az,ae,bq,dn] at h;obtain ⟨x,hx,e⟩:=h
   cases ac <;> simp only [ACode.bare] at e <;> first | (cases e;done) | (cases e;exact .block _ _ _ (ih _ hx))
 | loop c ih=>
   intro ac h;simp only [xe,az,ae,bq,dn] at h;obtain ⟨x,hx,e⟩:=h
   cases ac <;> simp only [ACode.bare] at e <;> first | (cases e;done) | (cases e;exact .loop _ _ _ (ih _ hx))
 | rangeFunc f ps a b iha ihb=>
   intro ac h;simp only [xe,az,ae,bq,dn] at h;obtain ⟨o,ho,x,hx,y,hy,e⟩:=h
   cases ac <;> simp only [ACode.bare] at e <;> first | (cases e;done) | (cases e;exact .rangeFunc _ _ _ _ _ _ _ ho (iha _ hx) (ihb _ hy))
def aho (lt:List Nat) (P:Program) (pure':PX) (k:Nat):Option (Bool × Nat × List ARes × ACode):=
 match P.funcs[k]? with
 | some fn=>match fn.body with
   | some body=>match xe P lt pure' body,fn.results.toList.mapM (ae5 P) with
     | some a, some rs => some (fn.name == "runtime.NumGoroutine", fn.ntmps, rs, a)
     | _,_=>none
   | none=>none
 | none=>none
abbrev w9 (P:Program) (pure':PX) (k:Nat):Option (Bool × Nat × List ARes × ACode):=aho [] P pure' k
theorem a2v {lt:List Nat} {k:Nat} {c:ACFun} (h:aho lt P pure' k=some (false,c.ntmps,c.results,c.body.bare)):abh P pure' k (.code c):=by
 unfold aho at h;split at h
 ·rename_i fn hfn;split at h
  ·rename_i body hb;split at h
   ·rename_i a rs ha hrs;simp only [dn,ad7] at h;obtain ⟨h1,h2,h3,h4⟩:=h
    exact ⟨fn,body,hfn,hb,h1,z8 _ _ (by rw [ha,h4]),h2,by rw [hrs,h3]⟩
   ·cases h
  ·cases h
 ·cases h
end
def Le (c c':kz):Prop:=∀ v args base H r,c v args base H=some r→c' v args base H=some r
theorem amz {c c':kz} (h:Le c c') {base:Nat} {fr:List V} {H:Heap} {op:AOp} {r:V × Heap} (he:je c base fr H op=some r):je c' base fr H op=some r:=by
 cases op
 case call f xs=>exact h _ _ _ _ _ he
 case callR f xs=>exact h _ _ _ _ _ he
 case callP f xs=>
  simp only [je] at he ⊢;split at he
  ·rename_i us hus;split at he
   ·rename_i v H' hc;rw [h _ _ _ _ _ hc];exact he
   ·cases he
  ·cases he
 case callQ f xs=>
  simp only [je] at he ⊢;split at he
  ·rename_i hp;rw [ed hp];split at he
   ·rename_i v H' hc;rw [h _ _ _ _ _ hc];exact he
   ·cases he
  ·cases he
 all_goals exact he
theorem afv {c c':kz} (h:Le c c') {base:Nat}:∀ (l:List AOper) {fr:List V} {H:Heap} {r:List V × Heap},jl c base l fr H=some r→jl c' base l fr H=some r:=by
 intro l
 induction l with
 | nil=>intro fr H r he;exact he
 | cons o l ih=>
   intro fr H r he;simp only [jl] at he ⊢;split at he
   ·cases he
   ·exact ih he
   ·split at he
    ·rename_i v H1 h1;rw [amz h h1];exact ih he
    ·cases he
theorem ajk {c:kz} {base:Nat}:∀ (l:List AOper) {fr:List V} {H:Heap} {r:List V × Heap},jl c base l fr H=some r→∀ k,∃ r',jl c base (l.take k) fr H=some r':=by
 intro l fr H r h k;rw [← l8 k l,adm] at h;cases he:jl c base (l.take k) fr H with
 | none=>rw [he] at h;cases h
 | some r'=>exact ⟨r',rfl⟩
theorem ao1 {c c':kz} (h:Le c c') {base:Nat} {l:List AOper} {fr fr':List V} {H:Heap} {r:List V × Heap} (he:jl c base l fr H=some r):aa5 c' base l fr H fr'=aa5 c base l fr H fr':=by
 have hk:∀ k,jl c' base (l.take k) fr H=jl c base (l.take k) fr H:=fun k=>by
  obtain ⟨r',hr⟩:=ajk l he k;rw [hr];exact afv h _ hr
 funext p
 simp only [aa5,aba,hk]
theorem afu {b b':List V→Heap→Option St} (hb:∀ fr H r,b fr H=some r→b' fr H=some r) {kill:List Nat} {m:Nat}:∀ {n n':Nat},n≤n'→∀ {fr:List V} {H:Heap} {r:St},q9 b kill m n fr H=some r→q9 b' kill m n' fr H=some r:=by
 intro n
 induction n with
 | zero=>intro n' _ fr H r h;simp [q9] at h
 | succ n ih=>
   intro n' hn fr H r h
   obtain ⟨k,rfl⟩:∃ k,n'=k+1:=⟨n' - 1,by omega⟩
   simp only [q9] at h ⊢;split at h
   ·rename_i fr1 H1 h1;rw [hb _ _ _ h1]
    exact ih (by omega) h
   ·rename_i e fr1 H1 hne h1;rw [hb _ _ _ h1];split
    ·rename_i e' ;cases e';exact (hne rfl).elim
    ·rename_i e';cases e';exact h
    ·rename_i e';cases e'
   ·cases h
abbrev itN (n:Nat):yn:=fun b k m=>q9 b k m n
theorem ahn {c c':kz} (h:Le c c') {n n':Nat} (hn:n≤n') {base:Nat}:∀ (ac:ACode) {fr:List V} {H:Heap} {r:St},evC c (itN n) base ac fr H=some r→evC c' (itN n') base ac fr H=some r:=by
 intro ac
 induction ac with
 | skip=>intro fr H r he;exact he
 | regionE ops kill outs=>intro fr H r he;exact he
 | region ops chk kill=>
   intro fr H r he;simp only [evC] at he ⊢;split at he
   ·rename_i fr1 H1 h1;rw [afv h ops h1];simp only [ao1 h h1];exact he
   ·cases he
 | seq a b iha ihb=>
   intro fr H r he;simp only [evC] at he ⊢;split at he
   ·rename_i fr1 H1 h1;rw [iha h1];exact ihb he
   ·rename_i hne;have:=iha he;rw [this];split
    ·rename_i e;cases e;exact (hne _ _ he).elim
    ·rfl
 | cond o a b iha ihb=>
   intro fr H r he;simp only [evC] at he ⊢;split at he
   ·exact iha he
   ·exact ihb he
   ·cases he
 | block id a ih=>
   intro fr H r he;simp only [evC] at he ⊢;split at he
   ·rename_i id' fr1 H1 h1;rw [ih h1];exact he
   ·rename_i hne;rw [ih he];split
    ·rename_i e;cases e;exact (hne _ _ _ he).elim
    ·rfl
 | loop kill a ih=>
   intro fr H r he;simp only [evC] at he ⊢;exact afu (fun fr H r=>ih) hn he
 | rangeFunc f ps a b _ _=>
   intro fr H r he;simp only [evC] at he ⊢;split at he
   ·split at he
    ·rename_i v H2 hc;rw [h _ _ _ _ _ hc];exact he
    ·cases he
   ·cases he
 | exit id=>intro fr H r he;exact he
 | ret=>intro fr H r he;exact he
theorem ay8 {CP:Nat→Option CFun} {c c':kz} (h:Le c c') {n n':Nat} (hn:n≤n'):Le (vk CP c (itN n)) (vk CP c' (itN n')):=by
 intro v args base H r he
 cases v <;> simp only [vk] at he ⊢ <;> first | (cases he;done) | skip
 case fn f x y=>
  split at he
  ·rename_i cf hcf;split at he
   ·rename_i fr1 H1 h1;rw [ahn h hn _ h1];exact he
   ·rename_i fr1 H1 h1;rw [ahn h hn _ h1];exact he
   ·cases he
  ·exact he
  ·cases he
 case yld id=>
  split at he
  case isFalse=>cases he
  rename_i hb;rw [ed hb];split at he
  case h_2=>cases he
  split at he
  case h_2=>cases he
  split at he
  case h_2=>cases he
  rename_i h1;rw [ahn h hn _ h1];simp only [];split at he
  case h_2=>cases he
  split at he
  case h_2=>cases he
  rename_i h2;rw [ahn h hn _ h2];exact he
theorem ag7 {CP:Nat→Option CFun}:∀ n,Le (xh CP n) (xh CP (n+1))
 | 0=>fun _ _ _ _ _ h=>by cases h
 | n+1=>ay8 (ag7 n) (Nat.le_succ n)
theorem vz {CP:Nat→Option CFun} {n m:Nat} (h:n≤m):Le (xh CP n) (xh CP m):=by
 induction m with
 | zero=>have:n=0:=by omega
         subst this;exact fun _ _ _ _ _ h=>h
 | succ m ih=>
   by_cases hn:n=m+1
   ·subst hn;exact fun _ _ _ _ _ h=>h
   ·exact fun v a b H r hr=>ag7 m v a b H r (ih (by omega) v a b H r hr)
open Classical in
noncomputable def dw (CP:Nat→Option CFun):kz:=fun v args base H=>if h:∃ r n,xh CP n v args base H=some r then some h.choose else none
open Classical in
noncomputable def itW:yn:=fun b k m fr H=>if h:∃ r n,q9 b k m n fr H=some r then some h.choose else none
variable {CP:Nat→Option CFun}
theorem atn {n:Nat} {v:V} {args:List V} {base:Nat} {H:Heap} {r:V × Heap} (h:xh CP n v args base H=some r):dw CP v args base H=some r:=by
 have hx:∃ r n,xh CP n v args base H=some r:=⟨r,n,h⟩;unfold dw;rw [dif_pos hx];obtain ⟨m,hm⟩:=hx.choose_spec;have h1:=vz (o8 n m) _ _ _ _ _ h;have h2:=vz (kg n m) _ _ _ _ _ hm;rw [h1] at h2;exact h2.symm
theorem acu {v:V} {args:List V} {base:Nat} {H:Heap} {r:V × Heap} (h:dw CP v args base H=some r):∃ n,xh CP n v args base H=some r:=by
 unfold dw at h;split at h
 ·rename_i hx;obtain ⟨m,hm⟩:=hx.choose_spec;exact ⟨m,hm.trans h⟩
 ·cases h
theorem ayj {b:List V→Heap→Option St} {k:List Nat} {m n:Nat} {fr:List V} {H:Heap} {r:St} (h:q9 b k m n fr H=some r):itW b k m fr H=some r:=by
 have hx:∃ r n,q9 b k m n fr H=some r:=⟨r,n,h⟩;unfold itW;rw [dif_pos hx];obtain ⟨j,hj⟩:=hx.choose_spec;have h1:=afu (fun _ _ _ h=>h) (o8 n j) h;have h2:=afu (fun _ _ _ h=>h) (kg n j) hj;rw [h1] at h2;exact h2.symm
theorem as6 {b:List V→Heap→Option St} {k:List Nat} {m:Nat} {fr:List V} {H:Heap} {r:St} (h:itW b k m fr H=some r):∃ n,q9 b k m n fr H=some r:=by
 unfold itW at h;split at h
 ·rename_i hx;obtain ⟨j,hj⟩:=hx.choose_spec;exact ⟨j,hj.trans h⟩
 ·cases h
theorem ao8 {base:Nat} {fr:List V} {H:Heap} {op:AOp} {r:V × Heap} (he:je (dw CP) base fr H op=some r):∃ n,je (xh CP n) base fr H op=some r:=by
 cases op
 case call f xs=>exact acu he
 case callR f xs=>exact acu he
 case callP f xs=>
  simp only [je] at he;split at he
  ·rename_i us hus;split at he
   ·rename_i v H' hc;obtain ⟨n,hn⟩:=acu hc;refine ⟨n,?_⟩;simp only [je,hus,hn];exact he
   ·cases he
  ·cases he
 case callQ f xs=>
  simp only [je] at he;split at he
  ·rename_i hp;split at he
   ·rename_i v H' hc;obtain ⟨n,hn⟩:=acu hc;refine ⟨n,?_⟩;simp only [je,ed hp,hn];exact he
   ·cases he
  ·cases he
 all_goals exact ⟨0,he⟩
theorem akv {base:Nat}:∀ (l:List AOper) {fr:List V} {H:Heap} {r:List V × Heap},jl (dw CP) base l fr H=some r→∃ n,jl (xh CP n) base l fr H=some r:=by
 intro l
 induction l with
 | nil=>intro fr H r he;exact ⟨0,he⟩
 | cons o l ih=>
   intro fr H r he;simp only [jl] at he;split at he
   ·cases he
   ·rename_i hw;obtain ⟨n,hn⟩:=ih he
    exact ⟨n,by simp only [jl,hw,hn]⟩
   ·rename_i hw;split at he
    ·rename_i v H1 h1;obtain ⟨n1,hn1⟩:=ao8 h1;obtain ⟨n2,hn2⟩:=ih he;refine ⟨max n1 n2,?_⟩;simp only [jl,hw,amz (vz (o8 n1 n2)) hn1];exact afv (vz (kg n1 n2)) l hn2
    ·cases he
theorem au6 {bW:List V→Heap→Option St} {b:Nat→List V→Heap→Option St} (hmono:∀ n m,n≤m→∀ fr H r,b n fr H=some r→b m fr H=some r) (hb:∀ fr H r,bW fr H=some r→∃ n,b n fr H=some r) {kill:List Nat} {m:Nat}:
 ∀ (k:Nat) {fr:List V} {H:Heap} {r:St},q9 bW kill m k fr H=some r→∃ n,q9 (b n) kill m k fr H=some r:=by
 intro k
 induction k with
 | zero=>intro fr H r h;simp [q9] at h
 | succ k ih=>
   intro fr H r h;simp only [q9] at h;split at h
   ·rename_i fr1 H1 h1;obtain ⟨n1,hn1⟩:=hb _ _ _ h1;obtain ⟨n2,hn2⟩:=ih h;refine ⟨max n1 n2,?_⟩;simp only [q9,hmono _ _ (o8 n1 n2) _ _ _ hn1];exact afu (hmono _ _ (kg n1 n2)) (ag _) hn2
   ·rename_i e fr1 H1 hne h1;obtain ⟨n1,hn1⟩:=hb _ _ _ h1;refine ⟨n1,?_⟩;simp only [q9,hn1];cases e with
    | nrm=>exact (hne rfl).elim
    | ext id=>exact h
    | ret=>exact h
   ·cases h
noncomputable def evN (CP:Nat→Option CFun) (base:Nat) (ac:ACode) (n:Nat):List V→Heap→Option St:=evC (xh CP n) (itN n) base ac
theorem yw {base:Nat} {ac:ACode} {n m:Nat} (h:n≤m) {fr:List V} {H:Heap} {r:St} (he:evN CP base ac n fr H=some r):evN CP base ac m fr H=some r:=ahn (vz h) h ac he
theorem yg {base:Nat}:∀ (ac:ACode) {fr:List V} {H:Heap} {r:St},evC (dw CP) itW base ac fr H=some r→∃ n,evN CP base ac n fr H=some r:=by
 intro ac
 induction ac with
 | skip=>intro fr H r he;exact ⟨0,he⟩
 | regionE ops kill outs=>intro fr H r he;exact ⟨0,he⟩
 | region ops chk kill=>
   intro fr H r he;simp only [evC] at he;split at he
   ·rename_i fr1 H1 h1;obtain ⟨n,hn⟩:=akv ops h1;have hl:Le (xh CP n) (dw CP):=fun _ _ _ _ _ h=>atn h;refine ⟨n,?_⟩;simp only [evN,evC,hn];simp only [ao1 hl hn] at he;exact he
   ·cases he
 | seq a b iha ihb=>
   intro fr H r he;simp only [evC] at he;split at he
   ·rename_i fr1 H1 h1;obtain ⟨n1,hn1⟩:=iha h1;obtain ⟨n2,hn2⟩:=ihb he;refine ⟨max n1 n2,?_⟩;have k1:=yw (o8 n1 n2) hn1;have k2:=yw (kg n1 n2) hn2;simp only [evN,evC] at k1 ⊢;rw [k1];exact k2
   ·rename_i hne;obtain ⟨n,hn⟩:=iha he;refine ⟨n,?_⟩;simp only [evN,evC] at hn ⊢;rw [hn];split
    ·rename_i e;cases e;exact (hne _ _ he).elim
    ·rfl
 | cond o a b iha ihb=>
   intro fr H r he;simp only [evC] at he;split at he
   ·rename_i hc;obtain ⟨n,hn⟩:=iha he
    exact ⟨n,by simp only [evN,evC,hc];exact hn⟩
   ·rename_i hc;obtain ⟨n,hn⟩:=ihb he
    exact ⟨n,by simp only [evN,evC,hc];exact hn⟩
   ·cases he
 | block id a ih=>
   intro fr H r he;simp only [evC] at he;split at he
   ·rename_i id' fr1 H1 h1;obtain ⟨n,hn⟩:=ih h1
    exact ⟨n,by simp only [evN,evC] at hn ⊢;rw [hn];exact he⟩
   ·rename_i hne;obtain ⟨n,hn⟩:=ih he;refine ⟨n,?_⟩;simp only [evN,evC] at hn ⊢;rw [hn];split
    ·rename_i e;cases e;exact (hne _ _ _ he).elim
    ·rfl
 | loop kill a ih=>
   intro fr H r he;simp only [evC] at he;obtain ⟨k,hk⟩:=as6 he;obtain ⟨n,hn⟩:=au6 (b:=evN CP base a) (fun n m h fr H r=>yw h) (fun fr H r=>ih) k hk;refine ⟨max n k,?_⟩;simp only [evN,evC];exact afu (fun fr H r h=>yw (o8 n k) h) (kg n k) hn
 | rangeFunc f ps a b _ _=>
   intro fr H r he;simp only [evC] at he;split at he
   ·rename_i k x y hf;split at he
    ·rename_i v H2 hc;obtain ⟨n,hn⟩:=acu hc;refine ⟨n,?_⟩;simp only [evN,evC,hf,hn];exact he
    ·cases he
   ·cases he
 | exit id=>intro fr H r he;exact ⟨0,he⟩
 | ret=>intro fr H r he;exact ⟨0,he⟩
theorem ar4 {v:V} {args:List V} {base:Nat} {H:Heap} {r:V × Heap} (he:vk CP (dw CP) itW v args base H=some r):∃ n,vk CP (xh CP n) (itN n) v args base H=some r:=by
 cases v <;> simp only [vk] at he ⊢ <;> first | (cases he;done) | skip
 case fn f x y=>
  split at he
  ·rename_i cf hcf;split at he
   ·rename_i fr1 H1 h1;obtain ⟨n,hn⟩:=yg _ h1;refine ⟨n,?_⟩;simp only [evN] at hn;simp only [hn];exact he
   ·rename_i fr1 H1 h1;obtain ⟨n,hn⟩:=yg _ h1;refine ⟨n,?_⟩;simp only [evN] at hn;simp only [hn];exact he
   ·cases he
  ·rename_i g hg;exact ⟨0,he⟩
  ·cases he
 case yld id=>
  split at he
  case isFalse=>cases he
  rename_i hb;split at he
  case h_2=>cases he
  rename_i hH;split at he
  case h_2=>cases he
  rename_i hset;split at he
  case h_2=>cases he
  rename_i h1;split at he
  case h_2=>cases he
  rename_i hH1;split at he
  case h_2=>cases he
  rename_i h2;obtain ⟨n1,hn1⟩:=yg _ h1;obtain ⟨n2,hn2⟩:=yg _ h2;have k1:=yw (o8 n1 n2) hn1;have k2:=yw (kg n1 n2) hn2;refine ⟨max n1 n2,?_⟩;simp only [evN] at k1 k2;simp only [hb,jc,hset,k1,hH1,k2];exact he
theorem aae {v:V} {args:List V} {base:Nat} {H:Heap} {r:V × Heap} (he:vk CP (dw CP) itW v args base H=some r):dw CP v args base H=some r:=by
 obtain ⟨n,hn⟩:=ar4 he;exact atn (n:=n+1) hn
theorem bb6 {b:List V→Heap→Option St} {k:List Nat} {m:Nat} {fr fr':List V} {H H':Heap} {r:St} (h1:b fr H=some (.nrm,fr',H')) (h2:itW b k m (ou k fr') (trim m (ou k fr') H')=some r):itW b k m fr H=some r:=by
 obtain ⟨n,hn⟩:=as6 h2;refine ayj (n:=n+1) ?_;simp only [q9,h1];exact hn
theorem as5 {b:List V→Heap→Option St} {k:List Nat} {m:Nat} {fr fr':List V} {H H':Heap} {e:Ex} (hne:e≠.nrm) (h1:b fr H=some (e,fr',H')):itW b k m fr H=some (e,ou k fr',trim m (ou k fr') H'):=by
 refine ayj (n:=1) ?_;simp only [q9,h1]
open Go.RowKit Go.ChangeShapes Go.WideShapes Go.ChangeAt
section
variable {P:Program} {pure':PX} {CP:Nat→Option CFun} {H:Type} {enc:TypeId × Value→H}
theorem a7p {w w':World} {may:MemPlace→Prop} (hk:∀ B,B < w.heap.size→w'.heap[B]?=w.heap[B]?) (ht:Tr (fun _ _=>none) w w'):w.keptBut w' may:=by
 refine ⟨ht.os,ht.output,fun i hi=>?_⟩;rw [hk i hi];cases w.heap[i]? with
 | none=>rfl
 | some o=>cases o <;> simp
theorem aw8 {f:Func} {s:ChangeSpec} {again:Bool} {W W':World} {args:Array Value} {v:Value} {ds gs:List (DataW H)} {before:List MemPlace}
 (hW:DataW.Whole enc P f.params.toList s.vars false W args.toList ds gs before) {pa pv:List MemPlace}
 (hres:∀ (b:Nat) (sp:Nat→Bool) (hd:Bool),DataW.TrodAll enc P W' b sp hd f.resultTypes.toList (v.resultList f.resultTypes.size) (s.fn H (ds ++ gs)).results [])
 (hargs:∀ sp:Nat→Bool,(∀ p∈before,sp p.block=true)→DataW.TrodAll enc P W' 0 sp true f.params.toList args.toList (s.fn H (ds ++ gs)).args pa)
 (hvars:∀ sp:Nat→Bool,(∀ p∈before,sp p.block=true)→DataW.TrodVars enc P W' sp s.vars (s.fn H (ds ++ gs)).vars pv)
 (hps:before=pa ++ pv) (hk:W.keptBut W' (·∈before)) (hfz:∀ b off,MemPlace.cell b off∈before→W'.frozen? ⟨b,off,none⟩=W.frozen? ⟨b,off,none⟩)
 (hok:∀ (j:Nat) (t:TypeId) (r:Value),f.resultTypes[j]?=some t→(v.resultList f.resultTypes.size)[j]?=some r→Value.okWide P W' .any 0 t r):
 s.post enc P f false true false again W args v W':=by
 have old:∀ p∈before,(fun b=>decide (b < W.heap.size)) p.block=true:=fun p hp=>by simpa using hW.lt p hp
 refine ⟨ds,gs,before,[],pa,pv,hW,hres _ _ _,hargs _ old,hvars _ old,World.keptBut_mono (fun p hp=>⟨hp,?_⟩) hk,fun _=>?_⟩
 ·rw [hps,jw] at hp;exact .inr hp
 ·obtain ⟨_,_,_,_,_,hz,_⟩:=hW
  refine ⟨hok,_,_,([] ++ pa) ++ pv,⟨[] ++ pa,pv,trodAll_append (hargs _ fun _ _=>rfl) (hres _ _ _),hvars _ fun _ _=>rfl,rfl,fun b off hp=>?_,fun h=>by cases h⟩,fun p hp _=>by rw [hps];simpa using hp⟩
  have hb:MemPlace.cell b off∈before:=by rw [hps];simpa using hp
  rw [hfz b off hb];exact hz b off hb
theorem afe {w w':World} {base:Nat} {sp:Nat→Bool} {held:Bool}:∀ {ts:List TypeId} {vs:List Value} {ds:List (DataW H)} {ps:List MemPlace},DataW.TrodAll enc P w base sp held ts vs ds ps→(∀ p∈ps,w.sameAt w' p)→DataW.TrodAll enc P w' base sp held ts vs ds ps
 | [],[],[],_,h,_=>h
 | _ :: _,_ :: _,_ :: _,_,⟨p,q,⟨n,h1⟩,h2,e⟩,hs=>⟨p,q,⟨n,DataW.trod_carry n _ _ _ h1 (fun x hx=>hs x (by rw [e];exact jd _ hx))⟩,afe h2 (fun x hx=>hs x (by rw [e];exact l9 _ hx)),e⟩
theorem trodAll_length {w:World} {base:Nat} {sp:Nat→Bool} {held:Bool}:∀ {ts:List TypeId} {vs:List Value} {ds:List (DataW H)} {ps:List MemPlace},DataW.TrodAll enc P w base sp held ts vs ds ps→ds.length=ts.length
 | [],[],[],_,_=>rfl
 | _ :: _,_ :: _,_ :: _,_,⟨_,_,_,h2,_⟩=>by simp [trodAll_length h2]
theorem awo {w w':World} {p:MemPlace} (h:w'.heap[p.block]?=w.heap[p.block]?):w.sameAt w' p:=by
 cases p with
 | cell b off=>
   show w'.cell? ⟨b,off,none⟩=w.cell? ⟨b,off,none⟩;have h:w'.heap[b]?=w.heap[b]?:=h;simp only [World.cell?,h]
 | map b=>exact h
theorem ao0 (hmix:P.follows .mixedOrders=true) (hCP:∀ k c,CP k=some c→abh P pure' k c) (hl:laidOutB P=true) (hm:mapsRowed P=true)
 (hz:((List.range P.types.size).all fun t=>match P.underlying t with | some (.slice e)=>decide (0 < P.cellsOf e) | _=>true)=true)
 {k:Nat} {fn:Func} {s:ChangeSpec} {tb:TypeId} (hvars:s.vars=[]) (hres:fn.resultTypes=#[tb]) (htb:P.underlying tb=some .bool) (hpar:∀ t∈fn.params.toList,t < P.types.size)
 (hspec:∀ ds:List (DataW H),ds.length=fn.params.toList.length→s.fn H ds={ results:=[.lit (.bool true)],args:=ds })
 {W:World} {args:Array Value} {ds gs:List (DataW H)} {before:List MemPlace} (hW:DataW.Whole enc P fn.params.toList s.vars false W args.toList ds gs before)
 (hv:∃ vs,VRs (fun _ _=>none) (fun _=>False) W vs args.toList∧∃ n H',xh CP n (.fn k [] []) vs 0 []=some (bl true,H')) (hfx:∀ (B:Nat) (o:Array Value × TypeId × Nat × Nat),pure'.fx B=some o→W.heap[B]?=some (.cells o.1 o.2.1 o.2.2)):
 Calls P k args W fun e W'=>∃ v,e=.returned v∧s.post enc P fn false true false false W args v W':=by
 obtain ⟨vs,hvs,n,H',hc⟩:=hv;refine (ar9 hmix hCP hc hvs hfx).mono ?_;rintro e W' ⟨c,μ',Mt',rfl,hr,hk,htr⟩;have hcv:c=.bool true:=yf hr;subst hcv;have hlt:=hW.lt;have hW0:=hW;obtain ⟨p,q,h1,h2,e1,h3,h4⟩:=hW;rw [hvars] at h2
 obtain ⟨rfl,rfl⟩:gs=[]∧q=[]:=by
  cases gs with
  | nil=>exact ⟨rfl,h2⟩
  | cons g gs=>exact h2.elim
 have hbp:before=p:=by simpa using e1
 have hds:=trodAll_length h1
 have hfn:s.fn H (ds ++ [])={ results:=[.lit (.bool true)],args:=ds }:=by rw [abt];exact hspec ds hds
 refine ⟨_,rfl,aw8 (pa:=before) (pv:=[]) hW0 (fun b sp hd=>?_) (fun sp hsp=>?_) (fun sp _=>?_) (by simp) (a7p hk htr) (fun b off hp=>?_) (ok_one hres rfl (okWide_bool_mk htb true))⟩
 ·rw [hfn,hres]
  exact ⟨[],[],⟨1,by simp [DataW.trod,Value.cells,htb]⟩,rfl,rfl⟩
 ·rw [hfn]
  have h5:=DataW.TrodAll.respare (kids_rows hl hm) (fun t e ht he=>slices_full_of P hz t e ht he) hpar h1 (spare':=sp) (fun x hx=>hsp x (by rw [hbp];exact hx))
  rw [hbp]
  exact afe h5 fun x hx=>awo (hk _ (hlt x (by rw [hbp];exact hx)))
 ·rw [hfn,hvars];rfl
 ·simp only [World.frozen?,hk b (hlt _ hp)]
end
theorem auv (p x y:Bool):ame (some (.s (.bool p))) (some (.s (.bool x))) (some (.s (.bool y)))=some (.s (.bool (bif p then x else y))):=by cases p <;> rfl
theorem auu (x y:Option V):ame (some (.s (.bool true))) x y=x:=rfl
theorem aqx (x y:Option V):ame (some (.s (.bool false))) x y=y:=rfl
theorem aco {fr:List V} {s:Nat} {v:V} (h:s < fr.length):(fr.set s v).getD s .unk=v:=by simp [h]
theorem abz {fr:List V} {s t:Nat} {v:V} (h:s≠t):(fr.set s v).getD t .unk=fr.getD t .unk:=by simp [h]
theorem aag (fr:List V):ou [] fr=fr:=rfl
theorem ol {m:Nat} {fr:List V} {H:Heap} (h:H.length=m):trim m fr H=H:=by
 unfold trim;split
 ·rw [← h];exact az7
 ·rfl
inductive RI where
 | keep (g:List (Nat × Bool × E)) (e:E)
 | sub (src:Nat) (path slots:List Nat)
 | tt (i:Nat)
 | cc (v:V)
 deriving Inhabited
def acg:List Nat→List Nat→E→List (Nat × Bool × E) × E
 | [],_,e=>([],e)
 | i :: p,ss,.op _ xs=>acg p ss (xs.getD i (.c .unk))
 | 0 :: p,ss,.pick c _ _=>acg p ss c
 | 1 :: p,s :: ss,.pick c a _=>((s,true,c) :: (acg p ss a).1,(acg p ss a).2)
 | 2 :: p,s :: ss,.pick c _ b=>((s,false,c) :: (acg p ss b).1,(acg p ss b).2)
 | _,_,_=>([],.c .unk)
def aee:List RI→List (List (Nat × Bool × E) × E)
 | []=>[]
 | .keep g e :: r=>(g,e) :: aee r
 | _ :: r=>aee r
def frees:List RI→List E
 | []=>[]
 | .keep [] e :: r=>e :: frees r
 | _ :: r=>frees r
def RI.get (S:List E):RI→List (Nat × Bool × E) × E
 | .keep g e=>(g,e)
 | .sub s p ss=>acg p ss (S.getD s (.c .unk))
 | .tt i=>([],.t i)
 | .cc v=>([],.c v)
def aku (items:List RI) (os:List (Nat × E)):List (List (Nat × Bool × E) × E):=items.map (RI.get (os.map (·.2) ++ frees items))
theorem a3e {fr:List V} {H:Heap}:∀ {xs:List E} {i:Nat},(am8 fr H xs).isSome=true→(evE fr H (xs.getD i (.c .unk))).isSome=true:=by
 intro xs
 induction xs with
 | nil=>intro i _;simp [evE]
 | cons x xs ih=>
   intro i h;simp only [am8] at h;cases hx:evE fr H x with
   | none=>simp [hx] at h
   | some v=>
     cases hs:am8 fr H xs with
     | none=>simp [hx,hs] at h
     | some vs=>
       cases i with
       | zero=>simp [hx]
       | succ i=>simpa using ih (i:=i) (by rw [hs];rfl)
theorem age {fr:List V} {H:Heap}:∀ (p ss:List Nat) (e:E),(evE fr H e).isSome=true→ahi fr H (acg p ss e).1 (acg p ss e).2=true:=by
 intro p
 induction p with
 | nil=>intro ss e h;simp only [acg,ahi];exact h
 | cons i p ih=>
   intro ss e h;cases e with
   | op o xs=>
     simp only [acg];refine ih _ _ (a3e ?_);simp only [evE] at h;cases hs:am8 fr H xs with
     | none=>simp [hs] at h
     | some vs=>rfl
   | pick c a b=>
     simp only [evE] at h;cases hc:evE fr H c with
     | none=>simp [hc,ame] at h
     | some v=>
       rw [hc] at h
       match i,ss with
       | 0,ss=>simp only [acg];exact ih _ _ (by rw [hc];rfl)
       | 1,[]=>simp only [acg,ahi,evE];rfl
       | 2,[]=>simp only [acg,ahi,evE];rfl
       | 1,s :: ss=>
         simp only [acg,ahi,hc];unfold ame at h;split at h
         ·rename_i e;cases e;simp only [a02,jc];exact ih _ _ h
         ·rename_i e;cases e;simp [a02]
         ·cases h
       | 2,s :: ss=>
         simp only [acg,ahi,hc];unfold ame at h;split at h
         ·rename_i e;cases e;simp [a02]
         ·rename_i e;cases e;simp only [a02,jc];exact ih _ _ h
         ·cases h
       | i+3,ss=>simp only [acg,ahi,evE];rfl
   | t j=>simp only [acg,ahi,evE];rfl
   | c v=>simp only [acg,ahi,evE];rfl
theorem an2 {fr:List V} {H:Heap}:∀ {os:List (Nat × E)} {f g:List V},yl fr H os f=some g→∀ p∈os,(evE fr H p.2).isSome=true:=by
 intro os
 induction os with
 | nil=>intro f g _ p hp;cases hp
 | cons q os ih=>
   intro f g h p hp;simp only [yl] at h;cases hq:evE fr H q.2 with
   | none=>simp [hq] at h
   | some v=>
     simp only [hq] at h
     rcases nk.1 hp with rfl | hp
     ·rw [hq];rfl
     ·exact ih h p hp
theorem aye:∀ {items:List RI} {g:List (Nat × Bool × E)} {e:E},RI.keep g e∈items→(g,e)∈aee items:=by
 intro items
 induction items with
 | nil=>intro g e h;cases h
 | cons x r ih=>
   intro g e h
   rcases nk.1 h with h2 | h2
   ·subst h2;simp [aee]
   ·have h3:=ih h2;clear h
    cases x <;> simp only [aee] <;> first | exact dh _ h3 | exact h3
theorem ax1:∀ {items:List RI} {g:List (Nat × Bool × E)} {e:E},(g,e)∈aee items→RI.keep g e∈items:=by
 intro items
 induction items with
 | nil=>intro g e h;cases h
 | cons x r ih=>
   intro g e h;cases x with
   | keep g' e'=>
     simp only [aee] at h
     rcases nk.1 h with h | h
     ·cases h;exact d9
     ·exact dh _ (ih h)
   | _=>exact dh _ (ih h)
theorem ayv:∀ {items:List RI} {e:E},e∈frees items→([],e)∈aee items:=by
 intro items
 induction items with
 | nil=>intro e h;cases h
 | cons x r ih=>
   intro e h;cases x with
   | keep g e'=>
     cases g with
     | nil=>
       simp only [frees] at h;simp only [aee]
       rcases nk.1 h with rfl | h
       ·exact d9
       ·exact dh _ (ih h)
     | cons a g=>simp only [frees] at h;simp only [aee];exact dh _ (ih h)
   | _=>exact ih h
theorem ao7 (m:Nat) (items:List RI) (os:List (Nat × E)) (kill:List Nat) (fr:List V) (H:Heap):
 ru (some (m,aku items os,os)) kill fr H=ru (some (m,aee items,os)) kill fr H:=by
 simp only [ru];by_cases hm:m≤fr.length
 ·rw [ed hm,ed hm];by_cases hk:(aee items).all (fun r=>ahi fr H r.1 r.2)=true
  ·rw [ed hk];cases hs:yl fr H os (ou kill fr) with
   | none=>split <;> rfl
   | some g=>
     rw [ed];rw [aj];intro r hr;unfold aku at hr;rw [zq] at hr;obtain ⟨x,hx,rfl⟩:=hr;cases x with
     | keep gg e=>
       rw [aj] at hk;exact hk _ (aye hx)
     | tt i=>rfl
     | cc v=>rfl
     | sub s p ss=>
       simp only [RI.get];by_cases hl:s < (os.map (·.2) ++ frees items).length
       ·have hd:(os.map (·.2) ++ frees items).getD s (.c .unk)=(os.map (·.2) ++ frees items)[s]:=by simp only [List.getD,List.getElem?_eq_getElem hl];rfl
        rw [hd]
        rcases jw.1 (ql hl) with h1 | h1
        ·rw [zq] at h1;obtain ⟨q,hq,e⟩:=h1;rw [← e];exact age p ss _ (an2 hs q hq)
        ·rw [aj] at hk;have h5:=hk _ (ayv h1)
         exact age p ss _ (by simpa [ahi] using h5)
       ·have hd:(os.map (·.2) ++ frees items).getD s (.c .unk)=.c .unk:=by rw [List.getD,List.getElem?_eq_none (Nat.le_of_not_lt hl)];rfl
        rw [hd];exact age (fr:=fr) (H:=H) p ss _ rfl
  ·rw [gu hk,gu];intro h;apply hk;rw [aj] at h ⊢;intro r hr;obtain ⟨g,e⟩:=r;exact h _ (zq.2 ⟨_,ax1 hr,rfl⟩)
 ·rw [gu hm,gu hm]
theorem a0i {ops:List AOper} {kill outs:List Nat} {m:Nat} {items:List RI} {os:List (Nat × E)} (h:xy ops kill outs=some (m,aku items os,os)) (fr:List V) (H:Heap):
 ru (xy ops kill outs) kill fr H=ru (some (m,aee items,os)) kill fr H:=by rw [h,ao7]
abbrev Env:=List (Nat × V)
def ah4:Env→Nat→V
 | [],_=>.unk
 | (k,x) :: e,s=>if s=k then x else ah4 e s
def a09 (s:Nat) (v:V):Env→Env
 | []=>[(s,v)]
 | (k,x) :: e=>if s=k then (s,v) :: e else if s < k then (s,v) :: (k,x) :: e else (k,x) :: a09 s v e
def zi (ks:List Nat):Env→Env
 | []=>[]
 | (k,x) :: e=>if ks.contains k then zi ks e else (k,x) :: zi ks e
def fe (n:Nat) (en:Env):List V:=(List.range n).map (ah4 en)
theorem a2q (s t:Nat) (v:V):∀ en:Env,ah4 (a09 s v en) t=if t=s then v else ah4 en t:=by
 intro en
 induction en with
 | nil=>rfl
 | cons p e ih=>
   obtain ⟨k,x⟩:=p;simp only [a09];split
   ·rename_i h;subst h;simp only [ah4];split <;> rfl
   ·split
    ·simp only [ah4]
    ·rename_i h1 h2;simp only [ah4,ih];by_cases h3:t=k
     ·subst h3;rw [ed rfl,gu (fun e=>h1 e.symm),ed rfl]
     ·rw [gu h3,gu h3]
theorem ayq (ks:List Nat) (t:Nat):∀ en:Env,ah4 (zi ks en) t=if ks.contains t then .unk else ah4 en t:=by
 intro en
 induction en with
 | nil=>simp [zi,ah4]
 | cons p e ih=>
   obtain ⟨k,x⟩:=p;simp only [zi];by_cases h1:ks.contains k=true
   ·rw [ed h1,ih];split
    ·rfl
    ·rename_i h2;simp only [ah4];rw [gu];rintro rfl;exact h2 h1
   ·rw [gu h1];simp only [ah4,ih];by_cases h3:t=k
    ·subst h3;rw [ed rfl,gu h1,ed rfl]
    ·rw [gu h3,gu h3]
theorem qf (n:Nat) (en:Env):(fe n en).length=n:=by simp [fe]
theorem acp {n:Nat} {en:Env} {s:Nat} (h:s < n):(fe n en).getD s .unk=ah4 en s:=by simp [fe,h]
theorem a8i {n:Nat} {en:Env} {fr:List V} (hl:fr.length=n) (h:∀ s,s < n→fr.getD s .unk=ah4 en s):fr=fe n en:=by
 refine az9 (by rw [hl,qf]) fun i h1 h2=>?_
 have:=h i (by omega)
 simp only [fe,List.getElem_map,List.getElem_range];rw [← this];simp [h1]
theorem amx (n:Nat) (en:Env) (s:Nat) (v:V):(fe n en).set s v=fe n (a09 s v en):=by
 refine a8i (by rw [bu,qf]) fun t ht=>?_
 rw [a2q];split
 ·rename_i h;subst h;exact aco (by rw [qf];exact ht)
 ·rename_i h;rw [abz (fun e=>h e.symm),acp ht]
theorem ao6 (n:Nat) (en:Env) (ks:List Nat):ou ks (fe n en)=fe n (zi ks en):=by
 refine a8i (by rw [ul,qf]) fun t ht=>?_
 rw [aau,ayq];by_cases h:t∈ks
 ·rw [ed h,ed (by simpa using h)]
 ·rw [gu h,gu (by simpa using h),acp ht]
def qb (n:Nat):List V→Nat→Env
 | [],k=>(List.range' k (n - k)).map fun s=>(s,und)
 | v :: vs,k=>(k,v) :: qb n vs (k+1)
theorem ag4 (n:Nat):∀ (vs:List V) (k t:Nat),k≤t→t < n→vs.length+k≤n→ah4 (qb n vs k) t=if t - k < vs.length then vs.getD (t - k) .unk else und:=by
 intro vs
 induction vs with
 | nil=>
   intro k t h1 h2 _;simp only [qb,gq,ak4,mr]
   have:∀ (m j:Nat),j≤t→t < j+m→ah4 ((List.range' j m).map fun s=>(s,und)) t=und:=by
    intro m
    induction m with
    | zero=>intro j a b;omega
    | succ m ih=>
      intro j a b;simp only [List.range'_succ,o9,ah4];split
      ·rfl
      ·exact ih (j+1) (by omega) (by omega)
   exact this _ k h1 (by omega)
 | cons v vs ih=>
   intro k t h1 h2 h3;simp only [qb,ah4,cu] at h3 ⊢;split
   ·rename_i h;subst h;simp
   ·rename_i h
    rw [ih (k+1) t (by omega) h2 (by omega)]
    obtain ⟨d,hd⟩:∃ d,t - k=d+1:=⟨t - k - 1,by omega⟩
    have:t - (k+1)=d:=by omega
    rw [hd,this];simp only [Nat.add_lt_add_iff_right,ib]
theorem start_eq {n:Nat} {vs:List V} (h:vs.length≤n):vs ++ List.replicate (n - vs.length) und=fe n (qb n vs 0):=by
 refine a8i (by simp;omega) fun t ht=>?_
 rw [ag4 n vs 0 t (iw _) ht (by omega)]
 split
 ·rename_i h1;simp at h1;simp only [List.getD,List.getElem?_append_left h1,bdu]
 ·rename_i h1;simp at h1;simp only [List.getD,List.getElem?_append_right h1,List.getElem?_replicate]
  rw [ed (by omega)]
  rfl
theorem a2r (s:Nat):ah4 [] s=.unk:=rfl
theorem ayr (k:Nat) (x:V) (e:Env) (s:Nat):ah4 ((k,x) :: e) s=if s=k then x else ah4 e s:=rfl
theorem a08 (s:Nat) (v:V):a09 s v []=[(s,v)]:=rfl
theorem aw7 (s:Nat) (v:V) (k:Nat) (x:V) (e:Env):a09 s v ((k,x) :: e)=if s=k then (s,v) :: e else if s < k then (s,v) :: (k,x) :: e else (k,x) :: a09 s v e:=rfl
theorem ayd (ks:List Nat):zi ks []=[]:=rfl
theorem au5 (ks:List Nat) (k:Nat) (x:V) (e:Env):zi ks ((k,x) :: e)=if ks.contains k then zi ks e else (k,x) :: zi ks e:=rfl
theorem bb7 (b:List V→Heap→Option St) (k:List Nat) (m:Nat) (fr:List V) (H:Heap):itW b k m fr H=match b fr H with
 | some (.nrm,fr',H')=>itW b k m (ou k fr') (trim m (ou k fr') H')
 | some (e,fr',H')=>some (e,ou k fr',trim m (ou k fr') H')
 | none=>none:=by
 cases hb:b fr H with
 | none=>
   simp only [];cases hi:itW b k m fr H with
   | none=>rfl
   | some r=>
     obtain ⟨n,hn⟩:=as6 hi;cases n with
     | zero=>simp [q9] at hn
     | succ n=>simp [q9,hb] at hn
 | some r=>
   obtain ⟨e,fr',H'⟩:=r;cases e with
   | nrm=>
     simp only [];cases hi:itW b k m (ou k fr') (trim m (ou k fr') H') with
     | some r=>exact bb6 hb hi
     | none=>
       cases hj:itW b k m fr H with
       | none=>rfl
       | some r=>
         obtain ⟨n,hn⟩:=as6 hj;cases n with
         | zero=>simp [q9] at hn
         | succ n=>
           simp only [q9,hb] at hn;rw [ayj hn] at hi;cases hi
   | ext id=>exact as5 (by simp) hb
   | ret=>exact as5 (by simp) hb
noncomputable def agd (call:kz) (it:yn) (base:Nat) (b:ACode):Option St→Option St
 | some (.nrm,fr,H)=>evC call it base b fr H
 | r=>r
def a5a (id:Nat):Option St→Option St
 | some (.ext id',fr,H)=>some (if id'=id then .nrm else .ext id',fr,H)
 | r=>r
noncomputable def condC (call:kz) (it:yn) (base:Nat) (a b:ACode) (fr:List V) (H:Heap):V→Option St
 | .s (.bool p)=>bif p then evC call it base a fr H else evC call it base b fr H
 | _=>none
def rowC (H:Heap):Option (List V)→Option St
 | some fr=>some (.nrm,fr,H)
 | none=>none
def opsK (kill:List Nat) (chk:List V→Bool):Option (List V × Heap)→Option St
 | some (fr,H)=>bif chk fr then some (.nrm,ou kill fr,H) else none
 | none=>none
def axp (chk:List (Nat × Nat)) (ops:List AOper) (kill:List Nat):Option (List V × Heap)→Option St
 | some (fr,H)=>bif chk.all (aha ops fr) then some (.nrm,ou kill fr,H) else none
 | none=>none
section
variable {call:kz} {it:yn} {base:Nat}
theorem a3o (fr:List V) (H:Heap):evC call it base .skip fr H=some (.nrm,fr,H):=rfl
theorem a3q (id:Nat) (fr:List V) (H:Heap):evC call it base (.exit id) fr H=some (.ext id,fr,H):=rfl
theorem a8s (fr:List V) (H:Heap):evC call it base .ret fr H=some (.ret,fr,H):=rfl
theorem a8p (a b:ACode) (fr:List V) (H:Heap):evC call it base (.seq a b) fr H=agd call it base b (evC call it base a fr H):=rfl
theorem ay9 (id:Nat) (c:ACode) (fr:List V) (H:Heap):evC call it base (.block id c) fr H=a5a id (evC call it base c fr H):=rfl
theorem a3r (c:Opd) (a b:ACode) (fr:List V) (H:Heap):evC call it base (.cond c a b) fr H=condC call it base a b fr H (ev fr c):=by
 simp only [evC];cases ev fr c with
 | s v=>cases v with
   | bool p=>cases p <;> rfl
   | _=>rfl
 | _=>rfl
theorem a3p (kill:List Nat) (c:ACode) (fr:List V) (H:Heap):evC call it base (.loop kill c) fr H=it (evC call it base c) kill H.length (ou kill fr) H:=rfl
theorem a8q (ops:List AOper) (kill outs:List Nat) (fr:List V) (H:Heap):evC call it base (.regionE ops kill outs) fr H=rowC H (ru (xy ops kill outs) kill fr H):=rfl
theorem evC_ops (ops:List AOper) (kill:List Nat) (fr:List V) (H:Heap):evC call it base (.region ops [] kill) fr H=axp [] ops kill (jl call base ops fr H):=by
 simp only [evC];cases jl call base ops fr H with
 | none=>rfl
 | some p=>rfl
theorem atg {ops:List AOper} {chk:List (Nat × Nat)} {kill:List Nat} {fr:List V} {H:Heap} {fr':List V} {H':Heap} (h:jl call base ops fr H=some (fr',H')) (hc:chk.all (aa5 call base ops fr H fr')=true):evC call it base (.region ops chk kill) fr H=some (.nrm,ou kill fr',H'):=by
 simp only [evC,h,hc,jc]
theorem apc {ops:List AOper} {chk:List (Nat × Nat)} {kill:List Nat} {fr:List V} {H:Heap} {fr':List V} {H':Heap} (h:jl call base ops fr H=some (fr',H')) (hc:chk.all (aha ops fr')=true):evC call it base (.region ops chk kill) fr H=some (.nrm,ou kill fr',H'):=by
 refine atg h ?_;rw [aj] at hc ⊢;intro p hp;simp only [aa5,hc p hp,az2]
theorem anz (b:ACode) (fr:List V) (H:Heap):agd call it base b (some (.nrm,fr,H))=evC call it base b fr H:=rfl
theorem av4 (b:ACode) (i:Nat) (fr:List V) (H:Heap):agd call it base b (some (.ext i,fr,H))=some (.ext i,fr,H):=rfl
theorem av1 (b:ACode) (fr:List V) (H:Heap):agd call it base b (some (.ret,fr,H))=some (.ret,fr,H):=rfl
theorem at5 (b:ACode):agd call it base b none=none:=rfl
theorem at6 (b:ACode) (p:Bool) (x y:Option St):agd call it base b (bif p then x else y)=bif p then agd call it base b x else agd call it base b y:=by cases p <;> rfl
theorem a1o (id:Nat) (fr:List V) (H:Heap):a5a id (some (.nrm,fr,H))=some (.nrm,fr,H):=rfl
theorem a1n (id:Nat) (fr:List V) (H:Heap):a5a id (some (.ret,fr,H))=some (.ret,fr,H):=rfl
theorem a1p (id i:Nat) (fr:List V) (H:Heap):a5a id (some (.ext i,fr,H))=some (if i=id then .nrm else .ext i,fr,H):=rfl
theorem axk (id:Nat):a5a id none=none:=rfl
theorem axl (id:Nat) (p:Bool) (x y:Option St):a5a id (bif p then x else y)=bif p then a5a id x else a5a id y:=by cases p <;> rfl
theorem avj (a b:ACode) (fr:List V) (H:Heap) (p:Bool):condC call it base a b fr H (.s (.bool p))=bif p then evC call it base a fr H else evC call it base b fr H:=rfl
theorem awv (H:Heap) (fr:List V):rowC H (some fr)=some (.nrm,fr,H):=rfl
theorem aom (ops:List AOper) (kill:List Nat) (fr:List V) (H:Heap):axp [] ops kill (some (fr,H))=some (.nrm,ou kill fr,H):=rfl
end
def a0j (fr:List V) (H:Heap) (os:List (Nat × E)) (kill:List Nat) (r:Bool):Option (List V):=bif r then yl fr H os (ou kill fr) else none
def outE (fr:List V) (H:Heap) (os:List (Nat × E)) (fr':List V) (s:Nat):Option V→Option (List V)
 | some v=>yl fr H os (fr'.set s v)
 | none=>none
theorem arv {m:Nat} {R:List (List (Nat × Bool × E) × E)} {os:List (Nat × E)} {kill:List Nat} {fr:List V} {H:Heap} (h:m≤fr.length):ru (some (m,R,os)) kill fr H=a0j fr H os kill (R.all fun r=>ahi fr H r.1 r.2):=by
 simp only [ru,ed h,a0j];cases R.all fun r=>ahi fr H r.1 r.2 <;> rfl
theorem at7 (fr:List V) (H:Heap) (os:List (Nat × E)) (kill:List Nat):a0j fr H os kill true=yl fr H os (ou kill fr):=rfl
theorem ap8 (fr:List V) (H:Heap) (fr':List V):yl fr H [] fr'=some fr':=rfl
theorem an4 (fr:List V) (H:Heap) (s:Nat) (e:E) (os:List (Nat × E)) (fr':List V):yl fr H ((s,e) :: os) fr'=outE fr H os fr' s (evE fr H e):=rfl
theorem axj (fr:List V) (H:Heap) (os:List (Nat × E)) (fr':List V) (s:Nat) (v:V):outE fr H os fr' s (some v)=yl fr H os (fr'.set s v):=rfl
theorem a01 (fr:List V) (H:Heap) (e:E):ahi fr H [] e=(evE fr H e).isSome:=rfl
theorem aw1 (fr:List V) (H:Heap) (s:Nat) (b:Bool) (x:E) (G:List (Nat × Bool × E)) (e:E):ahi fr H ((s,b,x) :: G) e=a02 (evE fr H x) b (ahi fr H G e):=rfl
theorem aw2 (p b r:Bool):a02 (some (.s (.bool p))) b r=bif p == b then r else true:=by cases p <;> cases b <;> cases r <;> rfl
def V1 (f:V→Option V):Option V→Option V
 | some x=>f x
 | none=>none
def V2 (f:V→V→Option V):Option V→Option V→Option V
 | some x,some y=>f x y
 | _,_=>none
theorem a9f (f:V→Option V) (x:V):V1 f (some x)=f x:=rfl
theorem a9e (f:V→V→Option V) (x y:V):V2 f (some x) (some y)=f x y:=rfl
theorem evE_t (fr:List V) (H:Heap) (i:Nat):evE fr H (.t i)=some (fr.getD i .unk):=rfl
theorem a8n (fr:List V) (H:Heap) (v:V):evE fr H (.c v)=some v:=rfl
theorem a3f (fr:List V) (H:Heap) (c a b:E):evE fr H (.pick c a b)=ame (evE fr H c) (evE fr H a) (evE fr H b):=rfl
def aax (op:BinOp):V→V→Option V
 | .s a,.s b=>(aeg op a b).map .s
 | _,_=>none
def baw (neg:Bool):V→V→Option V
 | .s (.bool a),.s (.bool b)=>some (bl ((a == b) != neg))
 | _,_=>none
def xEqP (H:Heap) (neg:Bool):V→V→Option V
 | .ref i g _,.ref j h _=>if i=j then none else match getC H i g,getC H j h with
   | some _,some _=>some (bl neg)
   | _,_=>none
 | _,_=>none
def aap (k:NK) (neg:Bool) (x:V):Option V:=(x.isNil k).map fun b=>bl (b != neg)
def afc (neg:Bool) (ls:List Leaf):V→V→Option V
 | .agg xs,.agg ys=>(ny ls xs ys).map fun b=>bl (b != neg)
 | _,_=>none
def xUn (op:UnOp) (x:V):Option V:=match op,x with
 | .not,.s (.bool b)=>some (bl (!b))
 | .neg,.s (.int k n)=>some (.s (.int k (k.wrap (0 - n))))
 | .xor,.s (.int k n)=>(aeg .xor (.int k (if k.signed then -1 else k.max)) (.int k n)).map .s
 | _,_=>none
def a5v (k:IntKind):V→Option V
 | .s (.int _ n)=>some (.s (.int k (k.wrap n)))
 | _=>none
def apu:V→Option V
 | .s (.string b)=>some (.s (.string b))
 | _=>none
def ab2:V→Option V
 | .ref id g off=>some (.ref id g off)
 | .pref cs=>some (.pref cs)
 | .fn f a b=>some (.fn f a b)
 | .yld id=>some (.yld id)
 | _=>none
def yo (off:Nat):V→Option V
 | .ref id g o=>some (.ref id g (o+off))
 | .pref cs=>if off≤cs.length then some (.pref (cs.drop off)) else none
 | _=>none
def anv (g:Bool) (off n:Nat):V→Option V
 | .agg cs=>if ((cs.drop off).take n).length=n then shut g ((cs.drop off).take n) else none
 | _=>none
def kr (sz:Nat):V→V→Option V
 | .sl id g off len sz',.s (.int _ n)=>if 0≤n∧n < len∧sz'=sz then some (.ref id g (off+n.toNat * sz)) else none
 | .psl es sz',.s (.int _ n)=>if 0≤n∧sz'=sz then (es[n.toNat]?).map .pref else none
 | _,_=>none
def ze:V→V→Option V
 | .s (.string b),.s (.int _ n)=>if 0≤n then (b.data.toList[n.toNat]?).map fun c=>.s (.int .u8 c.toNat) else none
 | _,_=>none
def afb (i:Nat):V→Option V
 | .tup vs=>vs[i]?
 | _=>none
def aju (H:Heap):NK→V→Option V
 | .p,.s (.string b)=>some (i64 b.size)
 | .s,.s (.slice none 0 0)=>some (i64 0)
 | .m,.s (.map none)=>some (i64 0)
 | .s,.esl=>some (i64 0)
 | .s,.psl es _=>some (i64 es.length)
 | .s,.sl _ _ _ len _=>some (i64 len)
 | .m,.mp id=>match H[id]? with
   | some (.map es)=>some (i64 es.length)
   | _=>none
 | _,_=>none
def aem (H:Heap) (kind:TypeDesc) (zero:V) (ok:Bool) (m k:V):Option V:=(je (fun _ _ _ _=>none) 0 [m,k] H (.mapGet kind zero (.t 0) (.t 1) ok)).map (·.1)
def abu (mx:Bool):V→V→Option V
 | .s (.int k a),.s (.int k' b)=>if k=k' then some (.s (.int k (if mx then (if a < b then b else a) else (if b < a then b else a)))) else none
 | _,_=>none
def uj (H:Heap) (g:Bool) (n:Nat) (a:V):Option V:=aal H g n a
def ace (H:Heap) (o:AOp):Option (List V)→Option V
 | some vs=>(je (fun _ _ _ _=>none) 0 vs H o).map (·.1)
 | none=>none
def L1 (x:Option V) (xs:Option (List V)):Option (List V):=match x,xs with
 | some v,some vs=>some (v :: vs)
 | _,_=>none
theorem a9j (v:V) (vs:List V):L1 (some v) (some vs)=some (v :: vs):=rfl
section
variable (fr:List V) (H:Heap) (x y:E)
theorem afw:am8 fr H []=some []:=rfl
theorem aah (xs:List E):am8 fr H (x :: xs)=L1 (evE fr H x) (am8 fr H xs):=by
 simp only [am8];cases evE fr H x <;> cases am8 fr H xs <;> rfl
theorem ahm (o:AOp) (xs:List E):evE fr H (.op o xs)=ace H o (am8 fr H xs):=by
 simp only [evE];cases am8 fr H xs with
 | none=>rfl
 | some vs=>simp only [ace];cases je (fun _ _ _ _=>none) 0 vs H o <;> rfl
theorem op1 {o:AOp} {f:V→Option V} (h:∀ v,ace H o (some [v])=f v):evE fr H (.op o [x])=V1 f (evE fr H x):=by
 rw [ahm,aah,afw];cases evE fr H x with
 | none=>rfl
 | some v=>exact h v
theorem op2 {o:AOp} {f:V→V→Option V} (h:∀ v u,ace H o (some [v,u])=f v u):evE fr H (.op o [x,y])=V2 f (evE fr H x) (evE fr H y):=by
 rw [ahm,aah,aah,afw];cases evE fr H x with
 | none=>rfl
 | some v=>cases evE fr H y with
   | none=>rfl
   | some u=>exact h v u
theorem a7f {o:AOp} {f:V→V→Option V} {c:V} (h:∀ v,ace H o (some [v,c])=f v c):evE fr H (.op o [x,.c c])=V2 f (evE fr H x) (some c):=by
 rw [ahm,aah,aah,afw,a8n];cases evE fr H x with
 | none=>rfl
 | some v=>exact h v
theorem a7e {o:AOp} {f:V→V→Option V} {c:V} (h:∀ v,ace H o (some [c,v])=f c v):evE fr H (.op o [.c c,y])=V2 f (some c) (evE fr H y):=by
 rw [ahm,aah,aah,afw,a8n];cases evE fr H y with
 | none=>rfl
 | some v=>exact h v
theorem a8o (op:BinOp):evE fr H (.op (.bin op (.t 0) (.t 1)) [x,y])=V2 (aax op) (evE fr H x) (evE fr H y):=op2 _ _ _ _ fun v u=>by
 cases v <;> first | rfl | (cases u <;> first | rfl | (simp only [ace,je,ev,gm,ib,aax];cases aeg op _ _ <;> rfl))
theorem a3n (op:BinOp) (c:V):evE fr H (.op (.bin op (.t 0) (.c c)) [x,.c c])=V2 (aax op) (evE fr H x) (some c):=a7f _ _ _ fun v=>by
 cases v <;> first | rfl | (cases c <;> first | rfl | (simp only [ace,je,ev,gm,ib,aax];cases aeg op _ _ <;> rfl))
theorem a3m (op:BinOp) (c:V):evE fr H (.op (.bin op (.c c) (.t 1)) [.c c,y])=V2 (aax op) (some c) (evE fr H y):=a7e _ _ _ fun v=>by
 cases c <;> first | rfl | (cases v <;> first | rfl | (simp only [ace,je,ev,gm,ib,aax];cases aeg op _ _ <;> rfl))
theorem a8m (n:Bool):evE fr H (.op (.eqB n (.t 0) (.t 1)) [x,y])=V2 (baw n) (evE fr H x) (evE fr H y):=op2 _ _ _ _ fun v u=>by
 cases v <;> first | rfl | (rename_i q;cases q <;> first | rfl | (cases u <;> first | rfl | (rename_i p;cases p <;> rfl)))
theorem a3k (n:Bool) (c:V):evE fr H (.op (.eqB n (.t 0) (.c c)) [x,.c c])=V2 (baw n) (evE fr H x) (some c):=a7f _ _ _ fun v=>by
 cases v <;> first | rfl | (rename_i q;cases q <;> first | rfl | (cases c <;> first | rfl | (rename_i p;cases p <;> rfl)))
theorem a3j (n:Bool) (c:V):evE fr H (.op (.eqB n (.c c) (.t 1)) [.c c,y])=V2 (baw n) (some c) (evE fr H y):=a7e _ _ _ fun v=>by
 cases c <;> first | rfl | (rename_i q;cases q <;> first | rfl | (cases v <;> first | rfl | (rename_i p;cases p <;> rfl)))
theorem ay6 (n:Bool) (ls:List Leaf):evE fr H (.op (.eqAgg n ls (.t 0) (.t 1)) [x,y])=V2 (afc n ls) (evE fr H x) (evE fr H y):=op2 _ _ _ _ fun v u=>by
 cases v <;> first | rfl | (cases u <;> first | rfl | (simp only [ace,je,ev,gm,ib,afc];cases ny ls _ _ <;> rfl))
theorem avf (n:Bool) (ls:List Leaf) (c:V):evE fr H (.op (.eqAgg n ls (.t 0) (.c c)) [x,.c c])=V2 (afc n ls) (evE fr H x) (some c):=a7f _ _ _ fun v=>by
 cases v <;> first | rfl | (cases c <;> first | rfl | (simp only [ace,je,ev,gm,ib,afc];cases ny ls _ _ <;> rfl))
theorem ave (n:Bool) (ls:List Leaf) (c:V):evE fr H (.op (.eqAgg n ls (.c c) (.t 1)) [.c c,y])=V2 (afc n ls) (some c) (evE fr H y):=a7e _ _ _ fun v=>by
 cases c <;> first | rfl | (cases v <;> first | rfl | (simp only [ace,je,ev,gm,ib,afc];cases ny ls _ _ <;> rfl))
theorem anb (sz:Nat):evE fr H (.op (.indexAddr sz (.t 0) (.t 1)) [x,y])=V2 (kr sz) (evE fr H x) (evE fr H y):=op2 _ _ _ _ fun v u=>by
 cases v <;> first | rfl | (cases u <;> first | rfl | (rename_i q;cases q <;> first | rfl | (simp only [ace,je,ev,gm,ib,kr];split <;> first | rfl | (split <;> rename_i e <;> simp [e]))))
theorem aj8 (sz:Nat) (c:V):evE fr H (.op (.indexAddr sz (.t 0) (.c c)) [x,.c c])=V2 (kr sz) (evE fr H x) (some c):=a7f _ _ _ fun v=>by
 cases v <;> first | rfl | (cases c <;> first | rfl | (rename_i q;cases q <;> first | rfl | (simp only [ace,je,ev,gm,ib,kr];split <;> first | rfl | (split <;> rename_i e <;> simp [e]))))
theorem aj7 (sz:Nat) (c:V):evE fr H (.op (.indexAddr sz (.c c) (.t 1)) [.c c,y])=V2 (kr sz) (some c) (evE fr H y):=a7e _ _ _ fun v=>by
 cases c <;> first | rfl | (cases v <;> first | rfl | (rename_i q;cases q <;> first | rfl | (simp only [ace,je,ev,gm,ib,kr];split <;> first | rfl | (split <;> rename_i e <;> simp [e]))))
theorem apa:evE fr H (.op (.indexStr (.t 0) (.t 1)) [x,y])=V2 (ze) (evE fr H x) (evE fr H y):=op2 _ _ _ _ fun v u=>by
 cases v <;> first | rfl | (rename_i q;cases q <;> first | rfl | (cases u <;> first | rfl | (rename_i p;cases p <;> first | rfl | (simp only [ace,je,ev,gm,ib,ze];split <;> first | rfl | (split <;> rename_i e <;> simp [e])))))
theorem ana (c:V):evE fr H (.op (.indexStr (.t 0) (.c c)) [x,.c c])=V2 (ze) (evE fr H x) (some c):=a7f _ _ _ fun v=>by
 cases v <;> first | rfl | (rename_i q;cases q <;> first | rfl | (cases c <;> first | rfl | (rename_i p;cases p <;> first | rfl | (simp only [ace,je,ev,gm,ib,ze];split <;> first | rfl | (split <;> rename_i e <;> simp [e])))))
theorem am9 (c:V):evE fr H (.op (.indexStr (.c c) (.t 1)) [.c c,y])=V2 (ze) (some c) (evE fr H y):=a7e _ _ _ fun v=>by
 cases c <;> first | rfl | (rename_i q;cases q <;> first | rfl | (cases v <;> first | rfl | (rename_i p;cases p <;> first | rfl | (simp only [ace,je,ev,gm,ib,ze];split <;> first | rfl | (split <;> rename_i e <;> simp [e])))))
theorem avc (mx:Bool):evE fr H (.op (.minmax mx (.t 0) (.t 1)) [x,y])=V2 (abu mx) (evE fr H x) (evE fr H y):=op2 _ _ _ _ fun v u=>by
 cases v <;> first | rfl | (rename_i q;cases q <;> first | rfl | (cases u <;> first | rfl | (rename_i p;cases p <;> first | rfl | (simp only [ace,je,ev,gm,ib,abu];split <;> rfl))))
theorem ar0 (mx:Bool) (c:V):evE fr H (.op (.minmax mx (.t 0) (.c c)) [x,.c c])=V2 (abu mx) (evE fr H x) (some c):=a7f _ _ _ fun v=>by
 cases v <;> first | rfl | (rename_i q;cases q <;> first | rfl | (cases c <;> first | rfl | (rename_i p;cases p <;> first | rfl | (simp only [ace,je,ev,gm,ib,abu];split <;> rfl))))
theorem arz (mx:Bool) (c:V):evE fr H (.op (.minmax mx (.c c) (.t 1)) [.c c,y])=V2 (abu mx) (some c) (evE fr H y):=a7e _ _ _ fun v=>by
 cases c <;> first | rfl | (rename_i q;cases q <;> first | rfl | (cases v <;> first | rfl | (rename_i p;cases p <;> first | rfl | (simp only [ace,je,ev,gm,ib,abu];split <;> rfl))))
theorem avd (kd:TypeDesc) (z:V) (ok:Bool):evE fr H (.op (.mapGet kd z (.t 0) (.t 1) ok) [x,y])=V2 (aem H kd z ok) (evE fr H x) (evE fr H y):=op2 _ _ _ _ fun v u=>by
 rfl
theorem ar2 (kd:TypeDesc) (z:V) (ok:Bool) (c:V):evE fr H (.op (.mapGet kd z (.t 0) (.c c) ok) [x,.c c])=V2 (aem H kd z ok) (evE fr H x) (some c):=a7f _ _ _ fun v=>by
 rfl
theorem ar1 (kd:TypeDesc) (z:V) (ok:Bool) (c:V):evE fr H (.op (.mapGet kd z (.c c) (.t 1) ok) [.c c,y])=V2 (aem H kd z ok) (some c) (evE fr H y):=a7e _ _ _ fun v=>by
 rfl
theorem ao9:evE fr H (.op (.nilCheck (.t 0)) [x])=V1 (ab2) (evE fr H x):=op1 _ _ _ fun v=>by
 cases v <;> rfl
theorem ay5 (k:NK) (n:Bool):evE fr H (.op (.eqNil k n (.t 0)) [x])=V1 (aap k n) (evE fr H x):=op1 _ _ _ fun v=>by
 simp only [ace,je,ev,gm,aap];cases V.isNil k v <;> rfl
theorem bcb (op:UnOp):evE fr H (.op (.un op (.t 0)) [x])=V1 (xUn op) (evE fr H x):=op1 _ _ _ fun v=>by
 cases op <;> first | (cases v <;> first | rfl | (rename_i q;cases q <;> first | rfl | (simp only [ace,je,ev,gm,xUn];cases aeg _ _ _ <;> rfl)))
theorem a3l (k:IntKind):evE fr H (.op (.conv k (.t 0)) [x])=V1 (a5v k) (evE fr H x):=op1 _ _ _ fun v=>by
 cases v <;> first | rfl | (rename_i q;cases q <;> rfl)
theorem avg:evE fr H (.op (.convId (.t 0)) [x])=V1 (apu) (evE fr H x):=op1 _ _ _ fun v=>by
 cases v <;> first | rfl | (rename_i q;cases q <;> rfl)
theorem anc (off:Nat):evE fr H (.op (.fieldAddr off (.t 0)) [x])=V1 (yo off) (evE fr H x):=op1 _ _ _ fun v=>by
 cases v <;> first | rfl | (simp only [ace,je,ev,gm,yo];split <;> rfl)
theorem ay4 (g:Bool) (off n:Nat):evE fr H (.op (.field g off n (.t 0)) [x])=V1 (anv g off n) (evE fr H x):=op1 _ _ _ fun v=>by
 cases v <;> first | rfl | (simp only [ace,je,ev,gm,anv];split <;> first | rfl | (cases shut g _ <;> rfl))
theorem ar3 (i:Nat):evE fr H (.op (.extract (.t 0) i) [x])=V1 (afb i) (evE fr H x):=op1 _ _ _ fun v=>by
 cases v <;> first | rfl | (simp only [ace,je,ev,gm,afb];split <;> rename_i e <;> simp [e])
theorem a3i (k:NK):evE fr H (.op (.lenS k (.t 0)) [x])=V1 (aju H k) (evE fr H x):=op1 _ _ _ fun v=>by
 cases k <;> cases v <;> first | rfl | (rename_i q;cases q <;> first | rfl | (rename_i a;cases a <;> rfl) | (rename_i a b c;cases a <;> first | rfl | (cases b <;> first | rfl | (cases c <;> rfl)))) | (rename_i j;simp only [ace,je,ev,gm,aju];generalize H[j]?=o;cases o <;> first | rfl | (rename_i ob;cases ob <;> rfl))
theorem a3h (g:Bool) (n:Nat):evE fr H (.op (.load g n (.t 0)) [x])=V1 (uj H g n) (evE fr H x):=op1 _ _ _ fun v=>by
 simp only [ace,je,ev,gm,uj];cases aal H g n v <;> rfl
theorem ay7 (z:List V) (p:List (Nat × Nat)) (ps:List (Nat × Opd)) (xs:List E):evE fr H (.op (.build z p ps) xs)=ace H (.build z p ps) (am8 fr H xs):=ahm _ _ _ _
theorem a3g (f:Nat) (a b:List Opd) (xs:List E):evE fr H (.op (.mkFn f a b) xs)=ace H (.mkFn f a b) (am8 fr H xs):=ahm _ _ _ _
theorem avb (a:Opd) (lo hi:Option Opd) (xs:List E):evE fr H (.op (.subStr a lo hi) xs)=ace H (.subStr a lo hi) (am8 fr H xs):=ahm _ _ _ _
theorem ay3 (sz:Nat) (a:Opd) (lo hi mx:Option Opd) (xs:List E):evE fr H (.op (.subSl sz a lo hi mx) xs)=ace H (.subSl sz a lo hi mx) (am8 fr H xs):=ahm _ _ _ _
end
theorem arw {m:Nat} {os:List (Nat × E)} {kill:List Nat} {fr:List V} {H:Heap} (h:m≤fr.length):ru (some (m,[],os)) kill fr H=yl fr H os (ou kill fr):=by
 simp only [ru,ed h,jh,jc]
theorem a2x {m:Nat} {os:List (Nat × E)} {kill:List Nat} {n:Nat} {en:Env} {H:Heap} (h:m≤n):ru (some (m,[],os)) kill (fe n en) H=yl (fe n en) H os (fe n (zi kill en)):=by
 rw [arw (by rw [qf];exact h),ao6]
theorem a2h {m:Nat} {R:List (List (Nat × Bool × E) × E)} {os:List (Nat × E)} {kill:List Nat} {n:Nat} {en:Env} {H:Heap} (h:m≤n):ru (some (m,R,os)) kill (fe n en) H=a0j (fe n en) H os kill (R.all fun r=>ahi (fe n en) H r.1 r.2):=by
 rw [arv (by rw [qf];exact h)]
noncomputable def stepW (b:List V→Heap→Option St) (k:List Nat) (m:Nat):Option St→Option St
 | some (.nrm,fr',H')=>itW b k m (ou k fr') (trim m (ou k fr') H')
 | some (e,fr',H')=>some (e,ou k fr',trim m (ou k fr') H')
 | none=>none
theorem jo (b:List V→Heap→Option St) (k:List Nat) (m:Nat) (fr:List V) (H:Heap):itW b k m fr H=stepW b k m (b fr H):=by
 rw [bb7];cases b fr H with
 | none=>rfl
 | some r=>obtain ⟨e,f,h⟩:=r;cases e <;> rfl
section
variable (b:List V→Heap→Option St) (k:List Nat) (m:Nat)
theorem ac9 (fr:List V) (H:Heap):stepW b k m (some (.nrm,fr,H))=itW b k m (ou k fr) (trim m (ou k fr) H):=rfl
theorem an1 (i:Nat) (fr:List V) (H:Heap):stepW b k m (some (.ext i,fr,H))=some (.ext i,ou k fr,trim m (ou k fr) H):=rfl
theorem an0 (fr:List V) (H:Heap):stepW b k m (some (.ret,fr,H))=some (.ret,ou k fr,trim m (ou k fr) H):=rfl
theorem auc (p:Bool) (x y:Option St):stepW b k m (bif p then x else y)=bif p then stepW b k m x else stepW b k m y:=by cases p <;> rfl
end
theorem avz (fr:List V) (H:Heap):trim H.length fr H=H:=ol rfl
def a6i (rs:List ARes):Option St→Option (V × Heap)
 | some (.nrm,fr,H)=>(qd rs fr H).map fun v=>(v,H)
 | some (.ret,fr,H)=>(qd rs fr H).map fun v=>(v,H)
 | _=>none
theorem a0w (rs:List ARes) (fr:List V) (H:Heap):a6i rs (some (.nrm,fr,H))=(qd rs fr H).map fun v=>(v,H):=rfl
theorem a0v (rs:List ARes) (fr:List V) (H:Heap):a6i rs (some (.ret,fr,H))=(qd rs fr H).map fun v=>(v,H):=rfl
theorem aww (rs:List ARes) (p:Bool) (x y:Option St):a6i rs (bif p then x else y)=bif p then a6i rs x else a6i rs y:=by cases p <;> rfl
theorem a0y (t:ARes) (fr:List V) (H:Heap):qd [t] fr H=ahh fr H t:=by
 simp only [qd,ll,atu];cases ahh fr H t <;> rfl
theorem a0x (t u:ARes) (fr:List V) (H:Heap):qd [t,u] fr H=match ahh fr H t,ahh fr H u with | some x,some y=>some (.tup [x,y]) | _,_=>none:=by
 simp only [qd,ll,atu];cases ahh fr H t <;> cases ahh fr H u <;> rfl
theorem a0z (t:Nat) (fr:List V) (H:Heap):ahh fr H (.tmp t)=some (fr.getD t .unk):=rfl
theorem awy (t:Nat) (g:Bool) (n:Nat) (fr:List V) (H:Heap):ahh fr H (.cell t g n)=aal H g n (fr.getD t .unk):=rfl
theorem oh {CP:Nat→Option CFun} {f:Nat} {c:ACFun} (hf:CP f=some (.code c)) {fst args cap:List V} (hl:(fst ++ args ++ cap).length≤c.ntmps) {base:Nat} {H:Heap} {r:V × Heap}
 (h:a6i c.results (evC (dw CP) itW base c.body (fe c.ntmps (qb c.ntmps (fst ++ args ++ cap) 0)) H)=some r):dw CP (.fn f fst cap) args base H=some r:=by
 refine aae ?_;simp only [vk,hf];rw [start_eq hl];cases he:evC (dw CP) itW base c.body (fe c.ntmps (qb c.ntmps (fst ++ args ++ cap) 0)) H with
 | none=>rw [he] at h;cases h
 | some s=>
   rw [he] at h;obtain ⟨e,f2,H2⟩:=s;cases e <;> exact h
theorem ap1 (n:Nat) (v:V) (vs:List V) (k:Nat):qb n (v :: vs) k=(k,v) :: qb n vs (k+1):=rfl
def opK (call:kz) (base:Nat) (o:AOper) (os:List AOper) (fr:List V) (H:Heap):Option Bool→Option (List V × Heap)
 | some true=>match je call base fr H o.op with
   | some (v,H')=>jl call base os (put o.dst v fr) H'
   | none=>none
 | some false=>jl call base os (put o.dst und fr) H
 | none=>none
def a9n (call:kz) (base:Nat) (d:Option Nat) (os:List AOper) (fr:List V):Option (V × Heap)→Option (List V × Heap)
 | some (v,H')=>jl call base os (put d v fr) H'
 | none=>none
def avv (b:Bool):V→Option Bool
 | .s (.bool x)=>some (x == b)
 | .s (.tuple _)=>some false
 | _=>none
section
variable {call:kz} {base:Nat}
theorem ay0 (fr:List V) (H:Heap):jl call base [] fr H=some (fr,H):=rfl
theorem ava (d:Option Nat) (op:AOp) (os:List AOper) (fr:List V) (H:Heap):jl call base (⟨d,op,none⟩ :: os) fr H=a9n call base d os fr (je call base fr H op):=by
 simp only [jl,want];cases je call base fr H op <;> rfl
theorem arx (d:Option Nat) (op:AOp) (t:Nat) (b:Bool) (os:List AOper) (fr:List V) (H:Heap):jl call base (⟨d,op,some (t,b)⟩ :: os) fr H=opK call base ⟨d,op,some (t,b)⟩ os fr H (avv b (fr.getD t .unk)):=by
 have:want ⟨d,op,some (t,b)⟩ fr=avv b (fr.getD t .unk):=by
  simp only [want];cases fr.getD t .unk with
  | s v=>cases v <;> rfl
  | _=>rfl
 simp only [jl,this];cases avv b (fr.getD t .unk) with
 | none=>rfl
 | some p=>cases p <;> rfl
theorem a1z (d:Option Nat) (op:AOp) (g:Option (Nat × Bool)) (os:List AOper) (fr:List V) (H:Heap) (p:Bool):opK call base ⟨d,op,g⟩ os fr H (some p)=bif p then a9n call base d os fr (je call base fr H op) else jl call base os (put d und fr) H:=by
 cases p
 ·rfl
 ·simp only [opK];cases je call base fr H op <;> rfl
theorem at1 (b x:Bool):avv b (.s (.bool x))=some (x == b):=rfl
theorem avu (b:Bool):avv b und=some false:=rfl
theorem awz (d:Option Nat) (os:List AOper) (fr:List V) (v:V) (H:Heap):a9n call base d os fr (some (v,H))=jl call base os (put d v fr) H:=rfl
theorem a06 (d:Nat) (v:V) (n:Nat) (en:Env):put (some d) v (fe n en)=fe n (a09 d v en):=amx n en d v
theorem a07 (v:V) (fr:List V):put none v fr=fr:=rfl
theorem aw0 (d:Option Nat) (os:List AOper) (fr:List V) (p:Bool) (x y:Option (V × Heap)):a9n call base d os fr (bif p then x else y)=bif p then a9n call base d os fr x else a9n call base d os fr y:=by cases p <;> rfl
theorem axo (chk:List (Nat × Nat)) (ops:List AOper) (kill:List Nat) (p:Bool) (x y:Option (List V × Heap)):axp chk ops kill (bif p then x else y)=bif p then axp chk ops kill x else axp chk ops kill y:=by cases p <;> rfl
end
theorem ev_t (fr:List V) (i:Nat):ev fr (.t i)=fr.getD i .unk:=rfl
theorem ev_c (fr:List V) (v:V):ev fr (.c v)=v:=rfl
def a6q (H:Heap) (x y:V):V→Option (V × Heap)
 | .s (.bool p)=>bif p then some (x,H) else some (y,H)
 | _=>none
theorem ay1 (call:kz) (base:Nat) (fr:List V) (H:Heap) (c a b:Opd):je call base fr H (.pick c a b)=a6q H (ev fr a) (ev fr b) (ev fr c):=by
 simp only [je];cases ev fr c with
 | s v=>cases v with
   | bool p=>cases p <;> rfl
   | _=>rfl
 | _=>rfl
theorem aut (H:Heap) (x y:V) (p:Bool):a6q H x y (.s (.bool p))=bif p then some (x,H) else some (y,H):=rfl
theorem aus (H:Heap) (x y:Bool) (p:Bool):a6q H (.s (.bool x)) (.s (.bool y)) (.s (.bool p))=some (.s (.bool (bif p then x else y)),H):=by cases p <;> rfl
def RH (H:Heap):Option V→Option (V × Heap)
 | some v=>some (v,H)
 | none=>none
theorem a9h (H:Heap) (v:V):RH H (some v)=some (v,H):=rfl
def RS:Option Heap→Option (V × Heap)
 | some H=>some (und,H)
 | none=>none
theorem a9g (H:Heap):RS (some H)=some (und,H):=rfl
section
variable (call:kz) (base:Nat) (fr:List V) (H:Heap) (x y:Opd)
theorem bbn (op:BinOp):je call base fr H (.bin op x y)=RH H (aax op (ev fr x) (ev fr y)):=by
 simp only [je];generalize ev fr x=v;generalize ev fr y=u
 cases v <;> first | rfl | (cases u <;> first | rfl | (simp only [aax];cases aeg op _ _ <;> rfl))
theorem bbl (n:Bool):je call base fr H (.eqB n x y)=RH H (baw n (ev fr x) (ev fr y)):=by
 simp only [je];generalize ev fr x=v;generalize ev fr y=u
 cases v <;> first | rfl | (rename_i q;cases q <;> first | rfl | (cases u <;> first | rfl | (rename_i p;cases p <;> rfl)))
theorem bbk (n:Bool):je call base fr H (.eqP n x y)=RH H (xEqP H n (ev fr x) (ev fr y)):=by
 simp only [je];generalize ev fr x=v;generalize ev fr y=u
 cases v <;> first | rfl | (cases u <;> first | rfl | skip)
 rename_i i g _ j h _;simp only [xEqP];split
 ·rfl
 ·cases getC H i g with
  | none=>rfl
  | some c=>cases getC H j h <;> rfl
theorem a1u (n:Bool) (ls:List Leaf):je call base fr H (.eqAgg n ls x y)=RH H (afc n ls (ev fr x) (ev fr y)):=by
 simp only [je];generalize ev fr x=v;generalize ev fr y=u
 cases v <;> first | rfl | (cases u <;> first | rfl | (simp only [afc];cases ny ls _ _ <;> rfl))
theorem aon (sz:Nat):je call base fr H (.indexAddr sz x y)=RH H (kr sz (ev fr x) (ev fr y)):=by
 simp only [je];generalize ev fr x=v;generalize ev fr y=u
 cases v <;> first | rfl | (cases u <;> first | rfl | (rename_i q;cases q <;> first | rfl | (simp only [kr];split <;> first | rfl | (split <;> rename_i e <;> simp [e,RH]))))
theorem aq2:je call base fr H (.indexStr x y)=RH H (ze (ev fr x) (ev fr y)):=by
 simp only [je];generalize ev fr x=v;generalize ev fr y=u
 cases v <;> first | rfl | (rename_i q;cases q <;> first | rfl | (cases u <;> first | rfl | (rename_i p;cases p <;> first | rfl | (simp only [ze];split <;> first | rfl | (split <;> rename_i e <;> simp [e,RH])))))
theorem axq (mx:Bool):je call base fr H (.minmax mx x y)=RH H (abu mx (ev fr x) (ev fr y)):=by
 simp only [je];generalize ev fr x=v;generalize ev fr y=u
 cases v <;> first | rfl | (rename_i q;cases q <;> first | rfl | (cases u <;> first | rfl | (rename_i p;cases p <;> first | rfl | (simp only [abu];split <;> rfl))))
theorem aq1:je call base fr H (.nilCheck x)=RH H (ab2 (ev fr x)):=by
 simp only [je];generalize ev fr x=v;cases v <;> rfl
theorem a1t (k:NK) (n:Bool):je call base fr H (.eqNil k n x)=RH H (aap k n (ev fr x)):=by
 simp only [je];generalize ev fr x=v;simp only [aap];cases V.isNil k v <;> rfl
theorem op_un (op:UnOp):je call base fr H (.un op x)=RH H (xUn op (ev fr x)):=by
 simp only [je];generalize ev fr x=v
 cases op <;> first | (cases v <;> first | rfl | (rename_i q;cases q <;> first | rfl | (simp only [xUn];cases aeg _ _ _ <;> rfl)))
theorem a6z (k:IntKind):je call base fr H (.conv k x)=RH H (a5v k (ev fr x)):=by
 simp only [je];generalize ev fr x=v
 cases v <;> first | rfl | (rename_i q;cases q <;> rfl)
theorem axt:je call base fr H (.convId x)=RH H (apu (ev fr x)):=by
 simp only [je];generalize ev fr x=v
 cases v <;> first | rfl | (rename_i q;cases q <;> rfl)
theorem aoo (off:Nat):je call base fr H (.fieldAddr off x)=RH H (yo off (ev fr x)):=by
 simp only [je];generalize ev fr x=v
 cases v <;> first | rfl | (simp only [yo];split <;> rfl)
theorem a1s (g:Bool) (off n:Nat):je call base fr H (.field g off n x)=RH H (anv g off n (ev fr x)):=by
 simp only [je];generalize ev fr x=v
 cases v <;> first | rfl | (simp only [anv];split <;> first | rfl | (cases shut g _ <;> rfl))
theorem auy (i:Nat):je call base fr H (.extract x i)=RH H (afb i (ev fr x)):=by
 simp only [je];generalize ev fr x=v
 cases v <;> first | rfl | (simp only [afb];split <;> rename_i e <;> simp [e,RH])
theorem a6y (k:NK):je call base fr H (.lenS k x)=RH H (aju H k (ev fr x)):=by
 cases k <;> (simp only [je];generalize ev fr x=v;cases v <;> first | rfl | (rename_i q;cases q <;> first | rfl | (rename_i a;cases a <;> rfl) | (rename_i a b c;cases a <;> first | rfl | (cases b <;> first | rfl | (cases c <;> rfl)))) | (rename_i j;simp only [aju];generalize H[j]?=o;cases o <;> first | rfl | (rename_i ob;cases ob <;> rfl)))
theorem a6x (g:Bool) (n:Nat):je call base fr H (.load g n x)=RH H (uj H g n (ev fr x)):=by
 simp only [je];generalize ev fr x=v;simp only [uj];cases aal H g n v <;> rfl
theorem axr (kd:TypeDesc) (z:V) (ok:Bool):je call base fr H (.mapGet kd z x y ok)=RH H (aem H kd z ok (ev fr x) (ev fr y)):=by
 have h:∀ r,je call base fr H (.mapGet kd z x y ok)=some r→r.2=H:=fun r h=>by obtain ⟨v,H'⟩:=r;exact (ahl rfl h).1
 have h2:je (fun _ _ _ _=>none) 0 [ev fr x,ev fr y] H (.mapGet kd z (.t 0) (.t 1) ok)=je call base fr H (.mapGet kd z x y ok):=rfl;simp only [aem,h2];cases hr:je call base fr H (.mapGet kd z x y ok) with
 | none=>rfl
 | some r=>obtain ⟨v,H'⟩:=r;have:=h _ hr;simp only at this;subst this;rfl
theorem a6v:je call base fr H (.move x)=some (ev fr x,H):=rfl
theorem a1y (z:List V):je call base fr H (.alloc z)=some (.ref H.length 0 0,H ++ [.cells 0 z]):=rfl
theorem bbm:je call base fr H (.box x)=if (ev fr x).cells.all V.one then some (.ref H.length 0 0,H ++ [.cells 0 (ev fr x).cells]) else none:=rfl
theorem ai8:je call base fr H .mapNew=some (.mp H.length,H ++ [.map []]):=rfl
theorem a1r (n:Nat):je call base fr H (.store n x y)=RS (ahf H base n (ev fr y) (ev fr x)):=by
 simp only [je];cases ahf H base n (ev fr y) (ev fr x) <;> rfl
theorem a6w (f:Nat) (a b:List Opd):je call base fr H (.mkFn f a b)=some (.fn f (a.map (ev fr)) (b.map (ev fr)),H):=rfl
theorem a7b (sz bytes:Nat):je call base fr H (.appR sz bytes x y)=o5 H H.length sz bytes (ev fr x) (ev fr y):=rfl
theorem axu (sz bytes:Nat):je call base fr H (.append sz bytes x y)=o5 H base sz bytes (ev fr x) (ev fr y):=rfl
theorem a7a (args:List Opd):je call base fr H (.call x args)=call (ev fr x) (args.map (ev fr)) base H:=rfl
theorem a1w (args:List Opd):je call base fr H (.callR x args)=call (ev fr x) (args.map (ev fr)) H.length H:=rfl
theorem a1x (z:List V) (places:List (Nat × Nat)) (parts:List (Nat × Opd)):je call base fr H (.build z places parts)=RH H ((aam (places[·]?) z (parts.map fun p=>(p.1,ev fr p.2))).map .agg):=by
 simp only [je];cases aam (places[·]?) z (parts.map fun p=>(p.1,ev fr p.2)) <;> rfl
def bbu (H:Heap) (sz len:Nat):Option (List V)→Option (V × Heap)
 | some cs=>some (if len=0 then .esl else .sl H.length 0 0 len sz,H ++ [.cells 0 cs])
 | none=>none
theorem au0 (sz len:Nat) (cs:List V):bbu H sz len (some cs)=some (if len=0 then .esl else .sl H.length 0 0 len sz,H ++ [.cells 0 cs]):=rfl
theorem auz (sz len:Nat) (z:List V) (parts:List (Nat × Opd)):je call base fr H (.buildSl sz len z parts)=bbu H sz len (aam (fun i=>some (i * sz,sz)) z (parts.map fun p=>(p.1,ev fr p.2))):=by
 simp only [je];cases aam (fun i=>some (i * sz,sz)) z (parts.map fun p=>(p.1,ev fr p.2)) <;> rfl
end
section
variable {call:kz} {it:yn} {base:Nat}
def AgD (D:List Nat) (f g:List V):Prop:=f.length=g.length∧∀ s,s ∉ D→f.getD s .unk=g.getD s .unk
def readsIn (o:AOper) (D:List Nat):Bool:=o.reads.any D.contains
def less (D:List Nat) (d:Option Nat):List Nat:=match d with
 | some d=>D.filter (· != d)
 | none=>D
def aym:List Nat→List AOper→Option (List Nat)
 | D,[]=>some D
 | D,o :: os=>if readsIn o D then none else aym (less D o.dst) os
theorem a4v {D:List Nat} {f g:List V} (h:AgD D f g) (d:Option Nat) (v:V):AgD (less D d) (put d v f) (put d v g):=by
 cases d with
 | none=>exact h
 | some d=>
   refine ⟨by simp only [put,bu];exact h.1,fun s hs=>?_⟩
   simp only [put];by_cases e:s=d
   ·subst e;by_cases hl:s < f.length
    ·rw [aco hl,aco (h.1 ▸ hl)]
    ·rw [abg (by omega),abg (by have:=h.1;omega)]
     simp [List.getD,hl,h.1 ▸ hl]
   ·rw [abz (fun e'=>e e'.symm),abz (fun e'=>e e'.symm)];refine h.2 s fun hD=>hs ?_;simp only [less,List.mem_filter,p8,ne_eq];exact ⟨hD,e⟩
theorem a3d:∀ (ops:List AOper) (D D':List Nat) (f g:List V) (H:Heap),aym D ops=some D'→AgD D f g→
 (jl call base ops f H=none∧jl call base ops g H=none)∨∃ f' g' H',jl call base ops f H=some (f',H')∧jl call base ops g H=some (g',H')∧AgD D' f' g':=by
 intro ops
 induction ops with
 | nil=>intro D D' f g H h ha;cases h;exact .inr ⟨f,g,H,rfl,rfl,ha⟩
 | cons o os ih=>
   intro D D' f g H h ha;simp only [aym] at h;split at h
   ·cases h
   ·rename_i hr
    have hrd:∀ s∈o.reads,f.getD s .unk=g.getD s .unk:=fun s hs=>ha.2 s fun hD=>hr (by
     unfold readsIn;rw [a0a];exact ⟨s,hs,by simpa using hD⟩)
    have hw:=ab5 hrd;have hc:je call base f H o.op=je call base g H o.op:=ad5 _ fun x hx=>adf hx hrd;simp only [jl,hw,hc];cases want o g with
    | none=>exact .inl ⟨rfl,rfl⟩
    | some b=>
      cases b with
      | false=>exact ih _ _ _ _ _ h (a4v ha _ _)
      | true=>
        simp only [];cases je call base g H o.op with
        | none=>exact .inl ⟨rfl,rfl⟩
        | some r=>obtain ⟨v,H'⟩:=r;exact ih _ _ _ _ _ h (a4v ha _ _)
theorem ayc {D ks:List Nat} {f g:List V} (h:AgD D f g) (hk:D.all ks.contains=true):ou ks f=ou ks g:=by
 refine az9 (by rw [ul,ul,h.1]) fun i h1 h2=>?_
 have e:(ou ks f).getD i .unk=(ou ks g).getD i .unk:=by
  rw [aau,aau];split
  ·rfl
  ·rename_i hi;refine h.2 i fun hD=>hi ?_;rw [aj] at hk
   simpa using hk i hD
 simpa [List.getD,h1,h2] using e
def ni (D:List Nat):ACode→Bool
 | .seq a _=>ni D a
 | .region ops [] kill=>match aym D ops with
   | some D'=>D'.all kill.contains
   | none=>false
 | .cond c a b=>(c.slots.all fun s=>!D.contains s) && ni D a && ni D b
 | .block _ c=>ni D c
 | .loop kill _=>D.all kill.contains
 | _=>false
theorem zz {D:List Nat}:∀ (c:ACode) {f g:List V} (H:Heap),ni D c=true→AgD D f g→evC call it base c f H=evC call it base c g H:=by
 intro c
 induction c with
 | seq a b iha _=>intro f g H h ha;simp only [evC,iha H h ha]
 | block id c ih=>intro f g H h ha;simp only [evC,ih H h ha]
 | cond o a b iha ihb=>
   intro f g H h ha;simp only [ni,ak] at h
   have:ev f o=ev g o:=by
    cases o with
    | c v=>rfl
    | t s=>exact ha.2 s (by simpa [Opd.slots] using h.1.1)
   simp only [evC,this,iha H h.1.2 ha,ihb H h.2 ha]
 | loop kill c _=>intro f g H h ha;simp only [evC,ayc ha h]
 | region ops chk kill=>
   intro f g H h ha;cases chk with
   | cons _ _=>cases h
   | nil=>
     simp only [ni] at h;split at h
     ·rename_i D' hD
      rcases a3d (call:=call) (base:=base) ops D D' f g H hD ha with ⟨e1,e2⟩ | ⟨f',g',H',e1,e2,ha'⟩
      ·simp only [evC,e1,e2]
      ·simp only [evC,e1,e2,ayc ha' h];rfl
     ·cases h
 | _=>intro f g H h;cases h
end
def yt:List V→Nat→Env
 | [],_=>[]
 | v :: vs,k=>(k,v) :: yt vs (k+1)
theorem aud (k:Nat):yt [] k=[]:=rfl
theorem ap2 (v:V) (vs:List V) (k:Nat):yt (v :: vs) k=(k,v) :: yt vs (k+1):=rfl
theorem ajg:∀ (vs:List V) (k t:Nat),k≤t→t < k+vs.length→ah4 (yt vs k) t=vs.getD (t - k) .unk:=by
 intro vs
 induction vs with
 | nil=>intro k t h1 h2;simp at h2;omega
 | cons v vs ih=>
   intro k t h1 h2;simp only [yt,ah4,cu] at h2 ⊢;split
   ·rename_i h;subst h;simp
   ·rw [ih (k+1) t (by omega) (by omega)]
    obtain ⟨d,hd⟩:∃ d,t - k=d+1:=⟨t - k - 1,by omega⟩
    have:t - (k+1)=d:=by omega
    rw [hd,this];rfl
theorem ng {CP:Nat→Option CFun} {f:Nat} {c:ACFun} (hf:CP f=some (.code c)) {fst args cap:List V} {k:Nat} (hk:(fst ++ args ++ cap).length=k) (hl:k≤c.ntmps) (hfirst:ni (List.range' k (c.ntmps - k)) c.body=true) {base:Nat} {H:Heap} {r:V × Heap}
 (h:a6i c.results (evC (dw CP) itW base c.body (fe c.ntmps (yt (fst ++ args ++ cap) 0)) H)=some r):dw CP (.fn f fst cap) args base H=some r:=by
 refine oh hf (by omega) ?_
 rw [zz c.body H hfirst (g:=fe c.ntmps (yt (fst ++ args ++ cap) 0))]
 ·exact h
 ·refine ⟨by rw [qf,qf],fun s hs=>?_⟩
  by_cases hn:s < c.ntmps
  ·rw [acp hn,acp hn]
   have hs':s < k:=by
    apply Nat.lt_of_not_le;intro h;apply hs;rw [List.mem_range']
    exact ⟨s - k,by omega,by omega⟩
   rw [ag4 _ _ 0 s (iw _) hn (by omega),ed (by omega),ajg _ 0 s (iw _) (by omega)]
  ·simp [fe,List.getD,hn]
section
variable (call:kz) (it:yn) (base:Nat)
noncomputable def ba9 (b:List AOper) (kill:List Nat) (H:Heap):Option (List V)→Option St→Option St
 | some f,_=>evC call it base (.region b [] kill) f H
 | none,o=>o
noncomputable def bdo (H:Heap):Option (List V)→Option St→Option St
 | some f,_=>some (.nrm,f,H)
 | none,o=>o
noncomputable def aez (ops:List AOper) (kill:List Nat) (f:List V) (H:Heap):Option St:=evC call it base (.region ops [] kill) f H
theorem an6 (b:List AOper) (kill:List Nat) (H:Heap) (f:List V) (o:Option St):ba9 call it base b kill H (some f) o=evC call it base (.region b [] kill) f H:=rfl
theorem an5 (H:Heap) (f:List V) (o:Option St):bdo H (some f) o=some (.nrm,f,H):=rfl
noncomputable def apf (k:List Nat) (b:List AOper) (kill:List Nat):Bool:=match aym k b with
 | some D=>D.all kill.contains
 | none=>false
theorem ajl:∀ (a b:List AOper) (f:List V) (H:Heap),jl call base (a ++ b) f H=match jl call base a f H with
 | some (f',H')=>jl call base b f' H'
 | none=>none:=by
 intro a
 induction a with
 | nil=>intro b f H;rfl
 | cons o os ih=>
   intro b f H;simp only [au,jl];cases want o f with
   | none=>rfl
   | some p=>
     cases p with
     | false=>exact ih _ _ _
     | true=>
       simp only [];cases je call base f H o.op with
       | none=>rfl
       | some r=>exact ih _ _ _
theorem a8z (k:List Nat) (f:List V):AgD k f (ou k f):=⟨(ul k f).symm,fun s hs=>by rw [aau,gu hs]⟩
theorem aob {k kill:List Nat} {b:List AOper} (h:apf k b kill=true) (f:List V) (H:Heap):evC call it base (.region b [] kill) f H=evC call it base (.region b [] kill) (ou k f) H:=by
 refine zz (D:=k) (.region b [] kill) H ?_ (a8z k f);unfold apf at h;simp only [ni];exact h
theorem awt (c d:List AOper) {kc kill:List Nat} (h:apf kc d kill=true) (f:List V) (H:Heap):evC call it base (.region (c ++ d) [] kill) f H=agd call it base (.region d [] kill) (evC call it base (.region c [] kc) f H):=by
 have e1:evC call it base (.region (c ++ d) [] kill) f H=match jl call base c f H with
  | some (f',H')=>evC call it base (.region d [] kill) f' H'
  | none=>none:=by
  simp only [evC,ajl];cases jl call base c f H <;> rfl
 rw [e1,evC_ops];cases jl call base c f H with
 | none=>rfl
 | some r=>
   obtain ⟨f',H'⟩:=r;simp only [aom,anz];exact aob call it base h f' H'
theorem aws (a b:List AOper) {ka oa kill:List Nat} (h:apf ka b kill=true) (f:List V) (H:Heap):evC call it base (.region (a ++ b) [] kill) f H=ba9 call it base b kill H (ru (xy a ka oa) ka f H) (aez call it base (a ++ b) kill f H):=by
 cases ht:ru (xy a ka oa) ka f H with
 | none=>rfl
 | some f2=>
   obtain ⟨f1,h1,h2⟩:=ab6 (call:=call) (base:=base) ht
   have e1:evC call it base (.region (a ++ b) [] kill) f H=evC call it base (.region b [] kill) f1 H:=by
    simp only [evC,ajl,h1];cases jl call base b f1 H <;> rfl
   rw [e1,an6,← h2,aob call it base h]
theorem a0u (a:List AOper) {oa kill:List Nat} (f:List V) (H:Heap):evC call it base (.region a [] kill) f H=bdo H (ru (xy a kill oa) kill f H) (aez call it base a kill f H):=by
 cases ht:ru (xy a kill oa) kill f H with
 | none=>rfl
 | some f2=>
   obtain ⟨f1,h1,h2⟩:=ab6 (call:=call) (base:=base) ht;simp only [an5,evC,h1,h2,jh,jc]
theorem aly (ops:List AOper) (kill:List Nat) (f:List V) (H:Heap):evC call it base (.region ops [] kill) f H=axp [] ops kill (jl call base ops f H):=evC_ops ops kill f H
end
def Rd (H:Heap) (v:V) (l:List V):Prop:=(∀ b,v≠.s (.string b))∧elems H 1 v=some (l.length,l)
theorem Rd.nil (H:Heap):Rd H mi []:=⟨fun _ h=>(by cases h),rfl⟩
theorem Rd.esl (H:Heap):Rd H .esl []:=⟨fun _ h=>(by cases h),rfl⟩
theorem Rd.sl {H:Heap} {id g:Nat} {c:List V} (h:getC H id g=some c) {off n:Nat} (hn:off+n≤c.length):Rd H (.sl id g off n 1) ((c.drop off).take n):=by
 refine ⟨fun _ h=>by (cases h),?_⟩
 have:((c.drop off).take n).length=n:=by simp;omega
 simp only [elems,jc,h,aaw,this]
theorem Rd.cases {H:Heap} {v:V} {l:List V} (h:Rd H v l):(l=[]∧(v=mi∨v=.esl))∨(∃ es,v=.psl es 1∧es.flatten=l∧es.length=l.length)∨∃ id g off n c,v=.sl id g off n 1∧getC H id g=some c∧(c.drop off).take n=l∧n=l.length:=by
 obtain ⟨h1,h2⟩:=h;unfold elems at h2;split at h2
 ·simp only [dn,ad7] at h2;exact .inl ⟨h2.2.symm,.inl rfl⟩
 ·simp only [dn,ad7] at h2;exact .inl ⟨h2.2.symm,.inr rfl⟩
 ·rename_i es sz;split at h2
  ·rename_i hz;subst hz;simp only [dn,ad7] at h2;exact .inr (.inl ⟨es,rfl,h2.2,h2.1⟩)
  ·cases h2
 ·rename_i id g off len sz;split at h2
  ·rename_i hz;subst hz;split at h2
   ·rename_i c hc;simp only [aaw] at h2;split at h2
    ·simp only [dn,ad7] at h2;exact .inr (.inr ⟨id,g,off,len,c,rfl,hc,h2.2,h2.1⟩)
    ·cases h2
   ·cases h2
  ·cases h2
 ·cases h2
theorem Rd.len {H:Heap} {v:V} {l:List V} (h:Rd H v l):aju H .s v=some (.s (.int .i64 l.length)):=by
 rcases h.cases with ⟨rfl,rfl | rfl⟩ | ⟨es,rfl,_,e⟩ | ⟨id,g,off,n,c,rfl,_,_,e⟩
 ·rfl
 ·rfl
 ·simp only [aju,e];rfl
 ·simp only [aju,e];rfl
def a9d:V→Prop
 | .psl es _=>∀ e∈es,e.length=1
 | _=>True
theorem art {es:List (List V)} (h:∀ e∈es,e.length=1):∀ {i:Nat} {x:V},es.flatten[i]?=some x→es[i]?=some [x]:=by
 induction es with
 | nil=>intro i x hx;simp at hx
 | cons e es ih=>
   intro i x hx;have he:=h e d9
   match e,he with
   | [y],_=>
     cases i with
     | zero=>simp at hx ⊢;exact hx
     | succ i=>simp at hx ⊢;exact ih (fun e he=>h e (dh _ he)) hx
theorem Rd.at {H:Heap} {v:V} {l:List V} (h:Rd H v l) (hw:a9d v) {i:Nat} {x:V} (hx:l[i]?=some x):V1 (uj H false 1) (kr 1 v (.s (.int .i64 i)))=some x:=by
 have hi:i < l.length:=(List.getElem?_eq_some_iff.1 hx).1
 have h0:(0:Int)≤(i:Int):=by omega
 rcases h.cases with ⟨rfl,_⟩ | ⟨es,rfl,e1,e2⟩ | ⟨id,g,off,n,c,rfl,hc,e1,e2⟩
 ·simp at hx
 ·have:es[i]?=some [x]:=art hw (by rw [e1];exact hx)
  simp only [kr,h0,afd,jc,mq,this,jq,V1,uj,aal];rfl
 ·have hn:((i:Int) < (n:Int)):=by omega
  have hcx:c[off+i]?=some x:=by
   have:((c.drop off).take n)[i]?=some x:=by rw [e1];exact hx
   rw [List.getElem?_take_of_lt (by omega),List.getElem?_drop] at this
   exact this
  have:((c.drop (off+i)).take 1)=[x]:=by
   have hlt:=(List.getElem?_eq_some_iff.1 hcx).1;rw [di hlt];have:=(List.getElem?_eq_some_iff.1 hcx).2;simp [this]
  simp only [kr,h0,hn,o7,jc,mq,aaw,V1,uj,aal,hc,this];rfl
theorem atc {H G:Heap} {id g:Nat} {c:List V} (h:getC H id g=some c):getC (H ++ G) id g=some c:=by
 unfold getC at h ⊢;split at h
 ·rename_i g' c' hh;rw [List.getElem?_append_left (List.getElem?_eq_some_iff.1 hh).1,hh];exact h
 ·cases h
theorem Rd.app {H:Heap} {v:V} {l:List V} (h:Rd H v l) (G:Heap):Rd (H ++ G) v l:=by
 rcases h.cases with ⟨rfl,rfl | rfl⟩ | ⟨es,rfl,e1,e2⟩ | ⟨id,g,off,n,c,rfl,hc,e1,e2⟩
 ·exact Rd.nil _
 ·exact Rd.esl _
 ·exact ⟨h.1,h.2⟩
 ·refine ⟨h.1,?_⟩
  have:((c.drop off).take n).length=n:=by rw [e1,e2]
  simp only [elems,jc,atc hc,aaw,this,e1];rw [e2,ed rfl]
theorem amv {H:Heap} {id g:Nat} {c c':List V} (h:getC H id g=some c) (g':Nat):getC (H.set id (.cells g' c')) id g'=some c':=by
 have:id < H.length:=by
  unfold getC at h;split at h
  ·rename_i hh;exact (List.getElem?_eq_some_iff.1 hh).1
  ·cases h
 simp [getC,this]
theorem zy {H:Heap} {id j g:Nat} (ob:Ob) (h:id≠j):getC (H.set j ob) id g=getC H id g:=by
 unfold getC;rw [List.getElem?_set_ne (qc h)]
theorem a0r (H:Heap) (id:Nat) (a b:Ob):(H.set id a).set id b=H.set id b:=List.set_set ..
theorem bav (k:IntKind) (a b:Int):aax .add (.s (.int k a)) (.s (.int k b))=some (.s (.int k (k.wrap (a+b)))):=by simp [aax,aeg]
theorem bag (k:IntKind) (a b:Int):aax .sub (.s (.int k a)) (.s (.int k b))=some (.s (.int k (k.wrap (a - b)))):=by simp [aax,aeg]
theorem bam (k:IntKind) (a b:Int):aax .mul (.s (.int k a)) (.s (.int k b))=some (.s (.int k (k.wrap (a * b)))):=by simp [aax,aeg]
theorem bat (k:IntKind) (a b:Int):aax .eql (.s (.int k a)) (.s (.int k b))=some (.s (.bool (a == b))):=by simp [aax,aeg]
theorem bal (k:IntKind) (a b:Int):aax .neq (.s (.int k a)) (.s (.int k b))=some (.s (.bool (a != b))):=by simp [aax,aeg]
theorem ban (k:IntKind) (a b:Int):aax .lss (.s (.int k a)) (.s (.int k b))=some (.s (.bool (decide (a < b)))):=by simp [aax,aeg]
theorem bao (k:IntKind) (a b:Int):aax .leq (.s (.int k a)) (.s (.int k b))=some (.s (.bool (decide (a≤b)))):=by simp [aax,aeg]
theorem bap (k:IntKind) (a b:Int):aax .gtr (.s (.int k a)) (.s (.int k b))=some (.s (.bool (decide (a > b)))):=by simp [aax,aeg]
theorem bas (k:IntKind) (a b:Int):aax .geq (.s (.int k a)) (.s (.int k b))=some (.s (.bool (decide (a ≥ b)))):=by simp [aax,aeg]
theorem bau (k:IntKind) (a b:Int):aax .and (.s (.int k a)) (.s (.int k b))=some (.s (.int k (k.wrap (BitVec.ofInt k.bits a &&& BitVec.ofInt k.bits b).toNat))):=by simp [aax,aeg]
theorem xb_or (k:IntKind) (a b:Int):aax .or (.s (.int k a)) (.s (.int k b))=some (.s (.int k (k.wrap (BitVec.ofInt k.bits a ||| BitVec.ofInt k.bits b).toNat))):=by simp [aax,aeg]
theorem baf (k:IntKind) (a b:Int):aax .xor (.s (.int k a)) (.s (.int k b))=some (.s (.int k (k.wrap (BitVec.ofInt k.bits a ^^^ BitVec.ofInt k.bits b).toNat))):=by simp [aax,aeg]
theorem avt (k:IntKind) (a b:Int):aax .andNot (.s (.int k a)) (.s (.int k b))=some (.s (.int k (k.wrap (BitVec.ofInt k.bits a &&& ~~~ (BitVec.ofInt k.bits b)).toNat))):=by simp [aax,aeg]
theorem bak (k:IntKind) (a b:Int):aax .quo (.s (.int k a)) (.s (.int k b))=if b=0 then none else some (.s (.int k (k.wrap (a.tdiv b)))):=by by_cases h:b=0 <;> simp [aax,aeg,h]
theorem baj (k:IntKind) (a b:Int):aax .rem (.s (.int k a)) (.s (.int k b))=if b=0 then none else some (.s (.int k (a.tmod b))):=by by_cases h:b=0 <;> simp [aax,aeg,h]
theorem bai (k j:IntKind) (a b:Int):aax .shl (.s (.int k a)) (.s (.int j b))=if b < 0 then none else some (.s (.int k (k.wrap (a * 2 ^ (min b.toNat k.bits))))):=by by_cases h:b < 0 <;> simp [aax,aeg,h]
theorem bah (k j:IntKind) (a b:Int):aax .shr (.s (.int k a)) (.s (.int j b))=if b < 0 then none else some (.s (.int k (a.fdiv (2 ^ (min b.toNat k.bits))))):=by by_cases h:b < 0 <;> simp [aax,aeg,h]
theorem a9z (a b:ByteArray):aax .eql (.s (.string a)) (.s (.string b))=some (.s (.bool (a.data.toList == b.data.toList))):=rfl
theorem a9x (a b:ByteArray):aax .neq (.s (.string a)) (.s (.string b))=some (.s (.bool (!(a.data.toList == b.data.toList)))):=rfl
theorem a9y (a b:ByteArray):aax .lss (.s (.string a)) (.s (.string b))=some (.s (.bool (Op.bytesLess a.data.toList b.data.toList))):=rfl
theorem a90 (a b:ByteArray):aax .add (.s (.string a)) (.s (.string b))=if ((a.size+b.size:Nat):Int) > IntKind.i64.max then none else some (.s (.string (a ++ b))):=by by_cases h:((a.size+b.size:Nat):Int) > IntKind.i64.max <;> simp only [aax,aeg,h,jc,mr,jq,zo]
theorem xq_b (n a b:Bool):baw n (.s (.bool a)) (.s (.bool b))=some (.s (.bool ((a == b) != n))):=rfl
theorem xn_pn (n:Bool):aap .p n (.s (.pointer none))=some (.s (.bool (true != n))):=rfl
theorem xn_pr (n:Bool) (i g o:Nat):aap .p n (.ref i g o)=some (.s (.bool (false != n))):=rfl
theorem xn_pp (n:Bool) (cs:List V):aap .p n (.pref cs)=some (.s (.bool (false != n))):=rfl
theorem xn_sn (n:Bool):aap .s n (.s (.slice none 0 0))=some (.s (.bool (true != n))):=rfl
theorem xn_ss (n:Bool) (i g o l z:Nat):aap .s n (.sl i g o l z)=some (.s (.bool (false != n))):=rfl
theorem xn_sp (n:Bool) (es:List (List V)) (z:Nat):aap .s n (.psl es z)=some (.s (.bool (false != n))):=rfl
theorem xn_se (n:Bool):aap .s n (.esl)=some (.s (.bool (false != n))):=rfl
theorem xn_mn (n:Bool):aap .m n (.s (.map none))=some (.s (.bool (true != n))):=rfl
theorem xn_mm (n:Bool) (i:Nat):aap .m n (.mp i)=some (.s (.bool (false != n))):=rfl
theorem xn_fn (n:Bool):aap .f n (.s .nilFunc)=some (.s (.bool (true != n))):=rfl
theorem xn_ff (n:Bool) (i:Nat) (a b:List V):aap .f n (.fn i a b)=some (.s (.bool (false != n))):=rfl
theorem xn_fy (n:Bool) (i:Nat):aap .f n (.yld i)=some (.s (.bool (false != n))):=rfl
theorem xg (n:Bool) (ls:List Leaf) (xs ys:List V):afc n ls (.agg xs) (.agg ys)=(ny ls xs ys).map fun b=>.s (.bool (b != n)):=rfl
theorem a9v (b:Bool):xUn .not (.s (.bool b))=some (.s (.bool (!b))):=rfl
theorem a9w (k:IntKind) (a:Int):xUn .neg (.s (.int k a))=some (.s (.int k (k.wrap (0 - a)))):=rfl
theorem bae (k j:IntKind) (a:Int):a5v k (.s (.int j a))=some (.s (.int k (k.wrap a))):=rfl
theorem xc_id (b:ByteArray):apu (.s (.string b))=some (.s (.string b)):=rfl
theorem a98 (i g o:Nat):ab2 (.ref i g o)=some (.ref i g o):=rfl
theorem a5t (cs:List V):ab2 (.pref cs)=some (.pref cs):=rfl
theorem xk_fn (f:Nat) (a b:List V):ab2 (.fn f a b)=some (.fn f a b):=rfl
theorem a97 (i:Nat):ab2 (.yld i)=some (.yld i):=rfl
theorem a4s (off i g o:Nat):yo off (.ref i g o)=some (.ref i g (o+off)):=rfl
theorem a5u (off:Nat) (cs:List V):yo off (.pref cs)=if off≤cs.length then some (.pref (cs.drop off)) else none:=rfl
theorem bab (g:Bool) (off n:Nat) (cs:List V):anv g off n (.agg cs)=if ((cs.drop off).take n).length=n then shut g ((cs.drop off).take n) else none:=rfl
theorem atz (sz i g o l z:Nat) (k:IntKind) (n:Int):kr sz (.sl i g o l z) (.s (.int k n))=if 0≤n∧n < l∧z=sz then some (.ref i g (o+n.toNat * sz)) else none:=rfl
theorem baa (sz z:Nat) (es:List (List V)) (k:IntKind) (n:Int):kr sz (.psl es z) (.s (.int k n))=if 0≤n∧z=sz then (es[n.toNat]?).map .pref else none:=rfl
theorem a99 (b:ByteArray) (k:IntKind) (n:Int):ze (.s (.string b)) (.s (.int k n))=if 0≤n then (b.data.toList[n.toNat]?).map fun c=>.s (.int .u8 c.toNat) else none:=rfl
theorem bac (i:Nat) (vs:List V):afb i (.tup vs)=vs[i]?:=rfl
theorem a92 (H:Heap) (b:ByteArray):aju H .p (.s (.string b))=some (.s (.int .i64 b.size)):=rfl
theorem a95 (H:Heap):aju H .s (.s (.slice none 0 0))=some (.s (.int .i64 0)):=rfl
theorem a96 (H:Heap):aju H .s .esl=some (.s (.int .i64 0)):=rfl
theorem a94 (H:Heap) (es:List (List V)) (z:Nat):aju H .s (.psl es z)=some (.s (.int .i64 es.length)):=rfl
theorem xl_sl (H:Heap) (i g o l z:Nat):aju H .s (.sl i g o l z)=some (.s (.int .i64 l)):=rfl
theorem a5s (H:Heap):aju H .m (.s (.map none))=some (.s (.int .i64 0)):=rfl
theorem zl (H:Heap) (g:Bool) (n i j o:Nat):uj H g n (.ref i j o)=match getC H i j with | some c=>(if ((c.drop o).take n).length=n then shut g ((c.drop o).take n) else none) | none=>none:=rfl
theorem a5r (H:Heap) (g:Bool) (n:Nat) (cs:List V):uj H g n (.pref cs)=if (cs.take n).length=n then shut g (cs.take n) else none:=rfl
theorem xm (mx:Bool) (k:IntKind) (a b:Int):abu mx (.s (.int k a)) (.s (.int k b))=some (.s (.int k (if mx then (if a < b then b else a) else (if b < a then b else a)))):=by simp [abu]
theorem asn (cs:List V):shut true cs=some (.agg cs):=rfl
theorem asl (x:V):shut false [x]=some x:=rfl
theorem Rd.at' {H:Heap} {v:V} {l:List V} (h:Rd H v l) (hw:a9d v) {i:Nat} {x:V} (hx:l[i]?=some x):∃ a,kr 1 v (.s (.int .i64 i))=some a∧uj H false 1 a=some x:=by
 have:=h.at hw hx;cases ha:kr 1 v (.s (.int .i64 i)) with
 | none=>rw [ha] at this;cases this
 | some a=>rw [ha] at this;exact ⟨a,rfl,this⟩
def ag8 (d:Nat):Option V→Option Int
 | none=>some d
 | some v=>ajf v
theorem azs (d:Nat):ag8 d none=some (d:Int):=rfl
theorem a4f (d:Nat) (k:IntKind) (n:Int):ag8 d (some (.s (.int k n)))=some n:=rfl
def a4a (sz id g off len z:Nat):Option Int→Option Int→Option V
 | some l,some h=>if 0≤l∧l≤h∧h≤len∧z=sz then some (.sl id g (off+l.toNat * sz) (h - l).toNat sz) else none
 | _,_=>none
def atj (sz:Nat) (es:List (List V)) (z:Nat):Option Int→Option Int→Option V
 | some l,some h=>if 0≤l∧l≤h∧h≤es.length∧z=sz then some (.psl ((es.drop l.toNat).take (h - l).toNat) sz) else none
 | _,_=>none
def af1 (v:V):Option Int→Option Int→Option V
 | some l,some h=>if l=0∧h=0 then some v else none
 | _,_=>none
def ac5 (sz:Nat) (v:V) (lo hi:Option V):Option V:=
 match v with
 | .s (.slice none 0 0)=>af1 mi (ag8 0 lo) (ag8 0 hi)
 | .esl=>af1 .esl (ag8 0 lo) (ag8 0 hi)
 | .psl es z=>atj sz es z (ag8 0 lo) (ag8 es.length hi)
 | .sl id g off len z=>a4a sz id g off len z (ag8 0 lo) (ag8 len hi)
 | _=>none
theorem atx (sz:Nat) (lo hi:Option V):ac5 sz mi lo hi=af1 mi (ag8 0 lo) (ag8 0 hi):=rfl
theorem aty (sz:Nat) (lo hi:Option V):ac5 sz .esl lo hi=af1 .esl (ag8 0 lo) (ag8 0 hi):=rfl
theorem atw (sz:Nat) (es:List (List V)) (z:Nat) (lo hi:Option V):ac5 sz (.psl es z) lo hi=atj sz es z (ag8 0 lo) (ag8 es.length hi):=rfl
theorem avs (sz id g off len z:Nat) (lo hi:Option V):ac5 sz (.sl id g off len z) lo hi=a4a sz id g off len z (ag8 0 lo) (ag8 len hi):=rfl
theorem avi (sz id g off len z:Nat) (l h:Int):a4a sz id g off len z (some l) (some h)=if 0≤l∧l≤h∧h≤len∧z=sz then some (.sl id g (off+l.toNat * sz) (h - l).toNat sz) else none:=rfl
theorem ar6 (sz:Nat) (es:List (List V)) (z:Nat) (l h:Int):atj sz es z (some l) (some h)=if 0≤l∧l≤h∧h≤es.length∧z=sz then some (.psl ((es.drop l.toNat).take (h - l).toNat) sz) else none:=rfl
theorem ar7 (v:V) (l h:Int):af1 v (some l) (some h)=if l=0∧h=0 then some v else none:=rfl
theorem bce (fr:List V) (d:Nat) (o:Option Opd):acv fr d o=ag8 d (o.map (ev fr)):=by cases o <;> rfl
theorem as0 (call:kz) (base:Nat) (fr:List V) (H:Heap) (sz:Nat) (x:Opd) (lo hi:Option Opd):je call base fr H (.subSl sz x lo hi none)=RH H (ac5 sz (ev fr x) (lo.map (ev fr)) (hi.map (ev fr))):=by
 simp only [je,bce];generalize ev fr x=v;generalize lo.map (ev fr)=lo;generalize hi.map (ev fr)=hi
 cases v <;> first | rfl | skip
 case s v=>
  cases v <;> first | rfl | skip
  rename_i a n m
  cases a <;> first | rfl | skip
  cases n <;> first | rfl | skip
  cases m <;> first | rfl | skip
  simp only [ac5];cases ag8 0 lo with
  | none=>rfl
  | some l=>cases ag8 0 hi with
    | none=>simp only [af1,RH]
    | some h=>
      simp only [af1];by_cases hl:l=0
      ·subst hl;by_cases hh:h=0
       ·subst hh;rfl
       ·simp only [hh,and_false,mr]
        split <;> first | rfl | (rename_i e1 e2;cases e2;exact absurd rfl hh)
      ·simp only [hl,false_and,mr]
       split <;> first | rfl | (rename_i e1 e2;cases e1;exact absurd rfl hl)
 case esl=>
  simp only [ac5];cases ag8 0 lo with
  | none=>rfl
  | some l=>cases ag8 0 hi with
    | none=>simp only [af1,RH]
    | some h=>
      simp only [af1];by_cases hl:l=0
      ·subst hl;by_cases hh:h=0
       ·subst hh;rfl
       ·simp only [hh,and_false,mr]
        split <;> first | rfl | (rename_i e1 e2;cases e2;exact absurd rfl hh)
      ·simp only [hl,false_and,mr]
       split <;> first | rfl | (rename_i e1 e2;cases e1;exact absurd rfl hl)
 case psl es z=>
  simp only [ac5]
  cases ag8 0 lo <;> cases ag8 es.length hi <;> first | rfl | (simp only [atj];split <;> rfl)
 case sl id g off len z=>
  simp only [ac5]
  cases ag8 0 lo <;> cases ag8 len hi <;> first | rfl | (simp only [a4a];split <;> rfl)
theorem a5q (H:Heap) (sz:Nat) (x:Opd) (lo hi:Option Opd) (vs:List V):ace H (.subSl sz x lo hi none) (some vs)=ac5 sz (ev vs x) (lo.map (ev vs)) (hi.map (ev vs)):=by
 simp only [ace,as0];cases ac5 sz (ev vs x) (lo.map (ev vs)) (hi.map (ev vs)) <;> rfl
def a4t (H:Heap) (base sz:Nat) (zero:List V) (v:V):Option Heap:=
 match v with
 | .s (.slice none 0 0)=>some H
 | .esl=>some H
 | .sl id g off len z=>if len=0 then some H else if base≤id∧z=sz then match getC H id g with
    | some c=>if zero.length=sz∧off+len * sz≤c.length∧zero.all V.one then some (H.set id (.cells g (splice c off (List.replicate len zero).flatten))) else none
    | none=>none
   else none
 | _=>none
theorem a1v (call:kz) (base:Nat) (fr:List V) (H:Heap) (sz:Nat) (zero:List V) (x:Opd):je call base fr H (.clearSl sz zero x)=RS (a4t H base sz zero (ev fr x)):=by
 simp only [je];generalize ev fr x=v
 cases v <;> first | rfl | skip
 case s v=>
  cases v <;> first | rfl | skip
  rename_i a n m
  cases a <;> first | rfl | skip
  cases n <;> first | rfl | skip
  cases m <;> rfl
 case sl id g off len z=>
  simp only [a4t];split
  ·rfl
  ·split
   ·cases getC H id g with
    | none=>rfl
    | some c=>simp only [];split <;> rfl
   ·rfl
theorem ajr:((0:Nat):Int)=0:=rfl
theorem ba3:Int.toNat 0=0:=rfl
def Ext (H0 H:Heap):Prop:=∃ G,H=H0 ++ G
theorem Ext.refl (H:Heap):Ext H H:=⟨[],by simp⟩
theorem Ext.trans {A B C:Heap} (h:Ext A B) (k:Ext B C):Ext A C:=by
 obtain ⟨G,rfl⟩:=h;obtain ⟨K,rfl⟩:=k
 exact ⟨G ++ K,by simp⟩
theorem Ext.app (H G:Heap):Ext H (H ++ G):=⟨G,rfl⟩
theorem Ext.le {A B:Heap} (h:Ext A B):A.length≤B.length:=by obtain ⟨G,rfl⟩:=h;simp
theorem Ext.get {A B:Heap} (h:Ext A B) {i:Nat} (hi:i < A.length):B[i]?=A[i]?:=by obtain ⟨G,rfl⟩:=h;exact List.getElem?_append_left hi
theorem Ext.of_get {A B:Heap} (hl:A.length≤B.length) (h:∀ i,i < A.length→B[i]?=A[i]?):Ext A B:=by
 refine ⟨B.drop A.length,?_⟩;refine List.ext_getElem? fun i=>?_;by_cases hi:i < A.length
 ·rw [List.getElem?_append_left hi,h i hi]
 ·rw [List.getElem?_append_right (by omega),List.getElem?_drop]
  congr 1;omega
theorem Ext.take {A B:Heap} (h:Ext A B) {m:Nat} (hm:A.length≤m):Ext A (B.take m):=
 Ext.of_get (by rw [nu];have:=h.le;omega) fun i hi=>by rw [List.getElem?_take_of_lt (by omega),h.get hi]
theorem trim_or (m:Nat) (fr:List V) (H:Heap):trim m fr H=H∨(trim m fr H=H.take m∧∀ v∈fr,lm m 8 v=true):=by
 unfold trim;split
 ·rename_i h;simp only [ak,aj] at h;exact .inr ⟨rfl,h.1⟩
 ·exact .inl rfl
theorem Ext.trim {A B:Heap} (h:Ext A B) {m:Nat} (hm:A.length≤m) (fr:List V):Ext A (trim m fr B):=by
 rcases trim_or m fr B with e | ⟨e,_⟩ <;> rw [e]
 ·exact h
 ·exact h.take hm
theorem Rd.ext {H H':Heap} {v:V} {l:List V} (h:Rd H v l) (k:Ext H H'):Rd H' v l:=by obtain ⟨G,rfl⟩:=k;exact h.app G
theorem gy {H H':Heap} {id g:Nat} {c:List V} (h:getC H id g=some c) (k:Ext H H'):getC H' id g=some c:=by obtain ⟨G,rfl⟩:=k;exact atc h
theorem oz {H:Heap} {id g:Nat} {c:List V} (h:getC H id g=some c):id < H.length:=by
 unfold getC at h;split at h
 ·rename_i hh;exact (List.getElem?_eq_some_iff.1 hh).1
 ·cases h
theorem ji (H:Heap) (g:Nat) (c:List V):getC (H ++ [.cells g c]) H.length g=some c:=by simp [getC]
theorem atd {n:Nat} {en:Env} {s:Nat} {v:V} (hs:s < n) (h:ah4 en s=v):v∈fe n en:=by
 unfold fe;rw [zq]
 exact ⟨s,by simpa using hs,h⟩
def obC (g:Nat):Ob→Option (List V)
 | .cells g' c=>if g'=g then some c else none
 | _=>none
theorem ays (A:Heap) (ob:Ob) (id g:Nat):getC (A ++ [ob]) id g=if id=A.length then obC g ob else getC A id g:=by
 by_cases h:id=A.length
 ·subst h;simp only [getC,List.getElem?_concat_length,jc];cases ob <;> rfl
 ·rw [gu h];by_cases hl:id < A.length
  ·simp only [getC,List.getElem?_append_left hl]
  ·have h1:(A ++ [ob])[id]?=none:=List.getElem?_eq_none (by simp;omega)
   have h2:A[id]?=none:=List.getElem?_eq_none (by omega)
   simp only [getC,h1,h2]
theorem a13 (g:Nat) (c:List V):obC g (.cells g c)=some c:=by simp [obC]
theorem qo (A:Heap) (ob x:Ob):(A ++ [ob]).set A.length x=A ++ [x]:=by simp
theorem jf (A:Heap) (ob:Ob):(A ++ [ob]).length=A.length+1:=by simp
theorem bbt (a b:Nat):(a=a+(b+1))=False:=by simp
theorem bcf (a b:Nat):(a+(b+1)=a)=False:=by simp
theorem Rd.one {H:Heap} {v:V} {l:List V} (h:Rd H v l):v.one=true:=by
 rcases h.cases with ⟨_,rfl | rfl⟩ | ⟨es,rfl,_⟩ | ⟨id,g,off,n,c,rfl,_⟩ <;> rfl
theorem a7j (k:IntKind) (n:Int):V.one (.s (.int k n))=true:=rfl
theorem a7g (b:ByteArray):V.one (.s (.string b))=true:=rfl
theorem a11 (b:Bool):V.one (.s (.bool b))=true:=rfl
theorem a10:V.one (.s (.slice none 0 0))=true:=rfl
theorem a7h (i g o:Nat):V.one (.ref i g o)=true:=rfl
theorem bbo (i g o l z:Nat):V.one (.sl i g o l z)=true:=rfl
theorem a7i (es:List (List V)) (z:Nat):V.one (.psl es z)=true:=rfl
theorem a7k:V.one .esl=true:=rfl
theorem bbq (i:Nat):V.one (.mp i)=true:=rfl
theorem bbr (f:Nat) (a b:List V):V.one (.fn f a b)=true:=rfl
theorem azo (cs:List V):V.cells (.agg cs)=cs:=rfl
theorem a8v (v:Value):V.cells (.s v)=[.s v]:=rfl
theorem a4c (i g o l z:Nat):V.cells (.sl i g o l z)=[.sl i g o l z]:=rfl
theorem azm (es:List (List V)) (z:Nat):V.cells (.psl es z)=[.psl es z]:=rfl
theorem azl (i g o:Nat):V.cells (.ref i g o)=[.ref i g o]:=rfl
theorem azn:V.cells .esl=[.esl]:=rfl
theorem a4d (i:Nat):V.cells (.mp i)=[.mp i]:=rfl
theorem ayx (p:Nat→Option (Nat × Nat)) (c:List V):aam p c []=some c:=rfl
theorem awj (A:Heap) (ob x:Ob) (id:Nat):(A ++ [ob]).set id x=if id=A.length then A ++ [x] else A.set id x ++ [ob]:=by
 by_cases h:id=A.length
 ·subst h;simp
 ·rw [gu h];by_cases hl:id < A.length
  ·rw [xq _ _ hl]
  ·rw [abg (by simp;omega),abg (by omega)]
theorem aub (H:Heap) (base n:Nat) (v:V) (id g off:Nat):ahf H base n v (.ref id g off)=if base≤id then (match getC H id g with
 | some c=>if v.cells.length=n∧off+n≤c.length∧v.cells.all V.one then some (H.set id (.cells g (splice c off v.cells))) else none
 | none=>none) else none:=rfl
section
variable {CC:CX} {μ:Mu} {Mt:Nat→Prop} {w w':World} {H:Heap} {P:Program}
theorem aqw:∀ (os:List Obj) (w w':World),HR CC μ Mt w H→w'.heap=w.heap ++ os.toArray→w'.os=w.os→w'.tape=w.tape→w'.output=w.output→Post CC μ Mt w H μ Mt w' H:=by
 intro os
 induction os with
 | nil=>intro w w' h h1 h2 h3 h4;exact afp h (by simpa using h1) h2 h3 h4
 | cons o os ih=>
   intro w w' h h1 h2 h3 h4;have k:Post CC μ Mt w H μ Mt { w with heap:=w.heap.push o } H:=aki h o rfl rfl rfl rfl;refine k.trans (ih _ w' k.hr ?_ h2 h3 h4);rw [h1];apply qy;simp
end
abbrev PXf (fx:Nat→Option (Array Value × TypeId × Nat × Nat)):PX:=⟨fun _=>false,fx⟩
abbrev PX0:PX:=PXf fun _=>none
theorem a4b (lt:List Nat) (P:Program) (fx:Nat→Option (Array Value × TypeId × Nat × Nat)) (k:Nat):aho lt P (PXf fx) k=aho lt P PX0 k:=rfl
theorem kw {P:Program} (fx:Nat→Option (Array Value × TypeId × Nat × Nat)) {lt:List Nat} {k:Nat} {c:ACFun} (h:aho lt P PX0 k=some (false,c.ntmps,c.results,c.body.bare)):abh P (PXf fx) k (.code c):=a2v ((a4b lt P fx k).trans h)
section
variable {CC:CX} {μ:Mu} {Mt:Nat→Prop} {w w':World} {H:Heap} {P:Program}
def insI (x:Int):List Int→List Int
 | []=>[x]
 | y :: l=>if x≤y then x :: y :: l else y :: insI x l
def ba8:List Int→List Int
 | []=>[]
 | x :: l=>insI x (ba8 l)
def cR:Value→Option (DataW Unit × List MemPlace):=fun _=>some (.nil,[])
end
def wbits (k:Int) (w:Nat):List Int:=((List.range 64).filter fun b=>w.testBit b).map fun (b:Nat)=>k * 64+(b:Int)
def bcc (ks:List Int) (f:Int→Nat):List Int:=(ba8 ks).flatMap fun k=>wbits k (f k)
theorem anu (H:Heap) (f:Nat) (a b:List Opd) (vs:List V):ace H (.mkFn f a b) (some vs)=some (.fn f (a.map (ev vs)) (b.map (ev vs))):=rfl
theorem ap0 {m:Nat} {fr:List V} {H:Heap} (h:m≤H.length):m≤(trim m fr H).length:=by
 rcases trim_or m fr H with e | ⟨e,_⟩ <;> rw [e]
 ·exact h
 ·rw [nu];omega
theorem alc (m:Nat) (fr:List V) (H:Heap):trim m fr H=H∨(trim m fr H=H.take m∧(∀ v∈fr,lm m 8 v=true)∧∀ id g c,id < m→getC H id g=some c→∀ i h o n z,V.sl i h o n z∈c→i < m):=by
 unfold trim;split
 ·rename_i h;simp only [ak,aj] at h;refine .inr ⟨rfl,h.1,?_⟩;intro id g c hid hc i h' o n z hx;unfold getC at hc;split at hc
  ·rename_i g' c' hh;split at hc
   ·cases hc
    have hm:Ob.cells g' c∈H.take m:=by
     have:(H.take m)[id]?=some (Ob.cells g' c):=by rw [List.getElem?_take_of_lt hid];exact hh
     exact List.mem_of_getElem? this
    have:=h.2 _ hm;simp only [Ob.under,aj] at this;have:=this _ hx
    simpa [lm] using this
   ·cases hc
  ·cases hc
 ·exact .inl rfl
theorem ahv {m:Nat} {fr:List V} {H:Heap} {id g:Nat} {c:List V} (hc:getC H id g=some c) (hid:id < m):getC (trim m fr H) id g=some c:=by
 rcases alc m fr H with e | ⟨e,_⟩ <;> rw [e]
 ·exact hc
 ·unfold getC at hc ⊢;rw [List.getElem?_take_of_lt hid];exact hc
def apo (m:Nat) (H:Heap) (v:V) (l:List V):Prop:=(l=[]∧(v=mi∨v=.esl))∨∃ id g c,v=.sl id g 0 l.length 1∧getC H id g=some c∧l.length≤c.length∧c.take l.length=l∧m≤id
theorem apo.rd {m:Nat} {H:Heap} {v:V} {l:List V} (h:apo m H v l):Rd H v l:=by
 rcases h with ⟨rfl,rfl | rfl⟩ | ⟨id,g,c,rfl,hc,hl,ht,_⟩
 ·exact Rd.nil H
 ·exact Rd.esl H
 ·have:=Rd.sl hc (off:=0) (n:=l.length) (by omega)
  rwa [fq,ht] at this
theorem jr {H:Heap} {id g:Nat} {c c':List V} (h:getC H id g=some c):getC (H.set id (.cells g c')) id g=some c':=amv h _
def bV (b:Bool):V:=.s (.bool b)
def a5w (H:Heap) (base:Nat) (kind:TypeDesc) (m k v:V):Option (V × Heap):=
 match m,k with
  | .mp id,.s key=>if base≤id∧adl kind key then match H[id]? with
     | some (.map es)=>match aef kind key es 0 with
       | some (some (i,_))=>some (und,H.set id (.map (es.set i (key,v))))
       | some none=>some (und,H.set id (.map (es ++ [(key,v)])))
       | none=>none
     | _=>none
    else none
  | _,_=>none
theorem ai7 (call:kz) (base:Nat) (fr:List V) (H:Heap) (kind:TypeDesc) (m k v:Opd):je call base fr H (.mapUpd kind m k v)=a5w H base kind (ev fr m) (ev fr k) (ev fr v):=rfl
def delMV (H:Heap) (base:Nat) (kind:TypeDesc) (m k:V):Option (V × Heap):=
 match m,k with
  | .mp id,.s key=>if base≤id∧adl kind key then match H[id]? with
     | some (.map es)=>match aef kind key es 0 with
       | some (some (i,_))=>some (und,H.set id (.map (es.eraseIdx i)))
       | some none=>some (und,H)
       | none=>none
     | _=>none
    else none
  | _,_=>none
theorem axs (call:kz) (base:Nat) (fr:List V) (H:Heap) (kind:TypeDesc) (m k:Opd):je call base fr H (.delete kind m k)=delMV H base kind (ev fr m) (ev fr k):=rfl
theorem ap6 {H:Heap} {j:Nat} {ob:Ob} (h:H[j]?=some ob):H.set j ob=H:=by
 apply List.ext_getElem?;intro i;by_cases hi:j=i
 ·subst hi;rw [List.getElem?_set_self (List.getElem?_eq_some_iff.1 h).1,h]
 ·rw [List.getElem?_set_ne hi]
def yldE (H:Heap) (id:Nat):Option St→Option (V × Heap)
 | some (e,_,H)=>match H[id]? with
   | some (.loop .busy none t p a b)=>some (bl (e=.nrm),H.set id (.loop (if e=.nrm then .ready else .done) (asv e) t p a b))
   | _=>none
 | none=>none
theorem awl (fr:List V):ap7 [] [] fr=some fr:=rfl
theorem auj (p:Nat) (ps:List Nat) (v:V) (vs:List V) (n:Nat) (en:Env):ap7 (p :: ps) (v :: vs) (fe n en)=ap7 ps vs (fe n (a09 p v en)):=by
 simp only [ap7,amx]
abbrev WS:=List Int × (Int→Nat)
def el (p:WS):List Int:=bcc p.1 p.2
def rngC (L:Nat) (fr:List V):Option (V × Heap)→Option St
 | some (_,H')=>match H'[L]? with
   | some (.loop .ready none _ _ _ _)=>some (.nrm,fr,trim L fr (H'.set L .dead))
   | some (.loop .done (some e) _ _ _ _)=>some (e,fr,trim L fr (H'.set L .dead))
   | _=>none
 | none=>none
def rngF (call:kz) (base:Nat) (ps:List Nat) (a b:ACode) (fr:List V) (H:Heap):V→Option St
 | .fn k x y=>rngC H.length fr (call (.fn k x y) [.yld H.length] base (H ++ [.loop .ready none fr ps a b]))
 | _=>none
theorem a8r (call:kz) (it:yn) (base:Nat) (f:Opd) (ps:List Nat) (a b:ACode) (fr:List V) (H:Heap):evC call it base (.rangeFunc f ps a b) fr H=rngF call base ps a b fr H (ev fr f):=by
 simp only [evC];cases ev fr f <;> rfl
theorem a6g (call:kz) (base:Nat) (ps:List Nat) (a b:ACode) (fr:List V) (H:Heap) (k:Nat) (x y:List V):rngF call base ps a b fr H (.fn k x y)=rngC H.length fr (call (.fn k x y) [.yld H.length] base (H ++ [.loop .ready none fr ps a b])):=rfl
def a9l (m0 i j:Nat) (H0 H':Heap):Prop:=m0≤H'.length∧∀ id,id < m0→id≠i→id≠j→H'[id]?=H0[id]?
theorem a9l.trim {m0 i j:Nat} {H0 H':Heap} (h:a9l m0 i j H0 H') {m:Nat} (hm:m0≤m) (fr:List V):a9l m0 i j H0 (trim m fr H'):=by
 rcases alc m fr H' with e | ⟨e,_⟩ <;> rw [e]
 ·exact h
 ·exact ⟨by rw [nu];have:=h.1;omega,fun id h1 h2 h3=>by rw [List.getElem?_take_of_lt (by omega)];exact h.2 id h1 h2 h3⟩
def andNot (a b:Nat):Nat:=a &&& (2 ^ 64 - 1 - b)
def ah (m0:Nat) (D:List Nat) (H0 H':Heap):Prop:=m0≤H'.length∧∀ id,id < m0→id ∉ D→H'[id]?=H0[id]?
theorem ah.trim {m0:Nat} {D:List Nat} {H0 H':Heap} (h:ah m0 D H0 H') {m:Nat} (hm:m0≤m) (fr:List V):ah m0 D H0 (trim m fr H'):=by
 rcases alc m fr H' with e | ⟨e,_⟩ <;> rw [e]
 ·exact h
 ·exact ⟨by rw [nu];have:=h.1;omega,fun id h1 h2=>by rw [List.getElem?_take_of_lt (by omega)];exact h.2 id h1 h2⟩
theorem ah.refl (D:List Nat) (H:Heap):ah H.length D H H:=⟨ag _,fun _ _ _=>rfl⟩
theorem ah.trans {m0 m1:Nat} {D:List Nat} {A B C:Heap} (h:ah m0 D A B) (k:ah m1 D B C) (hm:m0≤m1):ah m0 D A C:=⟨ko hm k.1,fun id h1 h2=>(k.2 id (by omega) h2).trans (h.2 id h1 h2)⟩
theorem ah.getC {m0:Nat} {D:List Nat} {A B:Heap} (h:ah m0 D A B) {id g:Nat} {c:List V} (hc:getC A id g=some c) (h1:id < m0) (h2:id ∉ D):getC B id g=some c:=by
 unfold Go.AM.getC at hc ⊢;rw [h.2 id h1 h2];exact hc
theorem ah.mono {m0:Nat} {D D':List Nat} {A B:Heap} (h:ah m0 D A B) {m1:Nat} (hm:m1≤m0) (hD:∀ id,id < m1→id∈D→id∈D'):ah m1 D' A B:=⟨by have:=h.1;omega,fun id h1 h2=>h.2 id (by omega) fun hx=>h2 (hD id h1 hx)⟩
theorem Ext.d {A B:Heap} (h:Ext A B) (D:List Nat):ah A.length D A B:=⟨h.le,fun id h1 _=>h.get h1⟩
theorem adq (H:Heap) (z:List V) (p:List (Nat × Nat)) (ps:List (Nat × Opd)) (vs:List V):ace H (.build z p ps) (some vs)=(aam (p[·]?) z (ps.map fun q=>(q.1,ev vs q.2))).map .agg:=by
 simp only [ace,je];cases aam (p[·]?) z (ps.map fun q=>(q.1,ev vs q.2)) <;> rfl
def amY:=And.intro @ai7 (And.intro @axs (And.intro @awl (And.intro @auj (And.intro @a8r (And.intro @a6g @adq)))))
theorem ad2 {w:Nat}:∀ (R:List (List V)),(∀ r∈R,r.length=w)→R.flatten.length=R.length * w:=by
 intro R
 induction R with
 | nil=>intro _;simp
 | cons r R ih=>
   intro h;rw [uh,dm,ih (fun x hx=>h x (dh _ hx)),h r d9,cu,rz];omega
theorem asq {w:Nat}:∀ (R:List (List V)),(∀ r∈R,r.length=w)→∀ (i:Nat) (r:List V),R[i]?=some r→(R.flatten.drop (i * w)).take w=r:=by
 intro R
 induction R with
 | nil=>intro _ i r h;simp at h
 | cons s R ih=>
   intro h i r hr;have hs:=h s d9;cases i with
   | zero=>
     simp only [List.getElem?_cons_zero,dn] at hr;subst hr;rw [az1,fq,uh,← hs,List.take_left]
   | succ i=>
     simp only [List.getElem?_cons_succ] at hr
     rw [uh,show (i+1) * w=s.length+i * w by rw [hs,rz];omega,ac4,og (by omega),cz,Nat.add_sub_cancel_left]
     exact ih (fun x hx=>h x (dh _ hx)) i r hr
structure RdW (w:Nat) (H:Heap) (v:V) (R:List (List V)):Prop where
 el:elems H w v=some (R.length,R.flatten)
 len:aju H .s v=some (.s (.int .i64 R.length))
 one:v.one=true
 at':∀ (i:Nat) (r:List V),R[i]?=some r→∃ a,kr w v (.s (.int .i64 i))=some a∧uj H true w a=some (.agg r)∧∀ (o:Nat) (x:V),r[o]?=some x→∃ b,yo o a=some b∧uj H false 1 b=some x
theorem RdW.nil (w:Nat) (H:Heap):RdW w H mi []:=⟨rfl,rfl,rfl,fun i r h=>by simp at h⟩
theorem a0k {r:List V} {o:Nat} {x:V} (h:r[o]?=some x):(r.drop o).take 1=[x]:=by
 obtain ⟨ho,rfl⟩:=List.getElem?_eq_some_iff.1 h;rw [di ho];rfl
theorem RdW.sl {w:Nat} {H:Heap} {id g:Nat} {R:List (List V)} (hc:getC H id g=some R.flatten) (hR:∀ r∈R,r.length=w):RdW w H (.sl id g 0 R.length w) R:=by
 have hl:=ad2 R hR;refine ⟨?_,rfl,rfl,fun i r h=>?_⟩
 ·simp only [elems,jc,hc,fq,← hl,az7]
 ·have hr:=hR r (List.mem_of_getElem? h);have hi:=(List.getElem?_eq_some_iff.1 h).1;have hg:=asq R hR i r h;refine ⟨.ref id g (0+i * w),?_,?_,fun o x hx=>⟨.ref id g (0+i * w+o),rfl,?_⟩⟩
  ·rw [atz,ed ⟨by omega,by omega,rfl⟩,mq]
  ·rw [zl,hc,lh];simp only [hg,hr,jc,asn]
  ·have ho:=(List.getElem?_eq_some_iff.1 hx).1
   have e:(R.flatten.drop (0+i * w+o)).take 1=[x]:=by
    have h2:=a0k hx
    rw [← hg,List.drop_take,za,List.take_take,a5p (by omega)] at h2
    rw [lh];exact h2
   rw [zl,hc];simp only [e,bg,jc,asl]
def qm (m w:Nat) (H:Heap) (v:V) (R:List (List V)):Prop:=(∀ r∈R,r.length=w)∧((R=[]∧v=mi)∨∃ id g,v=.sl id g 0 R.length w∧getC H id g=some R.flatten∧m≤id)
theorem qm.start (m w:Nat) (H:Heap):qm m w H mi []:=⟨fun r h=>by simp at h,.inl ⟨rfl,rfl⟩⟩
theorem qm.rd {m w:Nat} {H:Heap} {v:V} {R:List (List V)} (h:qm m w H v R):RdW w H v R:=by
 obtain ⟨hR,⟨rfl,rfl⟩ | ⟨id,g,rfl,hc,_⟩⟩:=h
 ·exact RdW.nil w H
 ·exact RdW.sl hc hR
theorem qm.keep {m w:Nat} {H H':Heap} {v:V} {R:List (List V)} (h:qm m w H v R) (hk:∀ id g n,v=.sl id g 0 n w→H'[id]?=H[id]?):qm m w H' v R:=by
 obtain ⟨hR,h | ⟨id,g,rfl,hc,hm⟩⟩:=h
 ·exact ⟨hR,.inl h⟩
 ·refine ⟨hR,.inr ⟨id,g,rfl,?_,hm⟩⟩;unfold getC at hc ⊢;rw [hk id g _ rfl];exact hc
theorem qm.lt {m w:Nat} {H:Heap} {v:V} {R:List (List V)} (h:qm m w H v R):∀ id g n,v=.sl id g 0 n w→id < H.length:=by
 obtain ⟨_,⟨_,rfl⟩ | ⟨id,g,rfl,hc,hm⟩⟩:=h
 ·intro id g n e;cases e
 ·intro id' g' n e;cases e;exact oz hc
theorem qm.append {m w:Nat} {H:Heap} {v:V} {R:List (List V)} (h:qm m w H v R) {base bytes:Nat} (hb:base≤m) (hm:m≤H.length) {S:List (List V)} (hS:∀ r∈S,r.length=w) (h0:S≠[]) {x:V} (hx:elems H w x=some (S.length,S.flatten)) (ho:S.flatten.all V.one=true) (hs:(R.length+S.length) * bytes≤2 ^ 47):
 ∃ v' H',o5 H base w bytes v x=some (v',H')∧qm m w H' v' (R ++ S)∧H.length≤H'.length∧(∀ id,id < H.length→(∀ g n,v≠.sl id g 0 n w)→H'[id]?=H[id]?):=by
 have hn:¬ S.length=0:=fun e=>h0 (fu e);have hRS:∀ r∈R ++ S,r.length=w→r.length=w:=fun _ _ e=>e
 obtain ⟨hR,⟨rfl,rfl⟩ | ⟨id,g,rfl,hc,hid⟩⟩:=h
 ·have hs':S.length * bytes≤2 ^ 47:=by simpa using hs
  refine ⟨.sl H.length 0 0 S.length w,H ++ [.cells 0 S.flatten],?_,⟨?_,.inr ⟨H.length,0,by simp,?_,hm⟩⟩,by simp,fun id hid _=>List.getElem?_append_left hid⟩
  ·simp only [o5,hx,ho,jc,mi,hn,mr,hs']
  ·simpa using hS
  ·rw [cz];exact ji H 0 _
 ·have hlt:=oz hc
  have hbi:base≤id:=by omega
  have hl:=ad2 R hR
  refine ⟨.sl id (g+1) 0 (R.length+S.length) w,H.set id (.cells (g+1) (R.flatten ++ S.flatten)),?_,⟨?_,.inr ⟨id,g+1,by simp,?_,hid⟩⟩,by simp,fun id' hid' hne=>?_⟩
  ·have h2:0+R.length * w≤R.flatten.length:=by omega
   simp only [o5,hx,ho,jc,afd,hbi,hc,h2,hn,mr,hs,fq]
   rw [ab8 (by omega)]
  ·intro r hr
   rcases jw.1 hr with hr | hr
   ·exact hR r hr
   ·exact hS r hr
  ·rw [qx];exact amv hc _
  ·rw [List.getElem?_set_ne];rintro rfl;exact hne g _ rfl
theorem qm.trim_eq {m w L:Nat} {H:Heap} {v:V} {R:List (List V)} (h:qm m w H v R) (h0:R≠[]) (hL:L≤m) {fr:List V} (hv:v∈fr):trim L fr H=H:=by
 obtain ⟨_,⟨rfl,_⟩ | ⟨id,g,rfl,hc,hid⟩⟩:=h
 ·exact absurd rfl h0
 ·rcases trim_or L fr H with e | ⟨_,hu⟩
  ·exact e
  ·have:=hu _ hv;simp only [lm,jv] at this;omega
theorem qm.trim_or {m w L:Nat} {H:Heap} {v:V} {R:List (List V)} (h:qm m w H v R) (hL:L≤m) {fr:List V} (hv:v∈fr):R=[]∧v=mi∨trim L fr H=H:=by
 obtain ⟨_,h | ⟨id,g,rfl,hc,hid⟩⟩:=h
 ·exact .inl h
 ·rcases Go.AM.trim_or L fr H with e | ⟨_,hu⟩
  ·exact .inr e
  ·have:=hu _ hv;simp only [lm,jv] at this;omega
theorem av0 (m:Nat) (fr:List V) (H:Heap) {id:Nat} (h:id < m):(trim m fr H)[id]?=H[id]?:=by
 rcases Go.AM.trim_or m fr H with e | ⟨e,_⟩
 ·rw [e]
 ·rw [e,List.getElem?_take_of_lt h]
theorem akc (m:Nat) (fr:List V) (H:Heap):trim m fr H=H∨(trim m fr H=H.take m∧(∀ v∈fr,lm m 8 v=true)∧∀ id g c,id < m→getC H id g=some c→∀ v∈c,lm m 8 v=true):=by
 unfold trim;split
 ·rename_i h;rw [ak,aj,aj] at h;refine .inr ⟨rfl,h.1,fun id g c hid hc v hv=>?_⟩;unfold getC at hc;cases ho:H[id]? with
  | none=>rw [ho] at hc;cases hc
  | some o=>
    rw [ho] at hc
    have hm:o∈H.take m:=List.mem_of_getElem? (i:=id) (by rw [List.getElem?_take_of_lt hid];exact ho)
    have:=h.2 o hm;cases o with
    | cells g2 c2=>
      dsimp only at hc;split at hc
      ·cases hc;simp only [Ob.under,aj] at this;exact this v hv
      ·cases hc
    | map _=>cases hc
    | loop _ _ _ _ _ _=>cases hc
    | dead=>cases hc
    | bytes _ _=>cases hc
 ·exact .inl rfl
theorem aks {S T:Type} (n:Nat) (P:Nat→S→Prop) (X:Nat→S→T) (step:∀ i s,i < n→P i s→∃ s',X i s=X (i+1) s'∧P (i+1) s'):∀ i s,i≤n→P i s→∃ s',X i s=X n s'∧P n s':=by
 have key:∀ d i s,i+d=n→P i s→∃ s',X i s=X n s'∧P n s':=by
  intro d
  induction d with
  | zero=>
    intro i s hi hp
    obtain rfl:i=n:=by omega
    exact ⟨s,rfl,hp⟩
  | succ d ih=>
    intro i s hi hp
    obtain ⟨s1,h1,h2⟩:=step i s (by omega) hp
    obtain ⟨s2,h3,h4⟩:=ih (i+1) s1 (by omega) h2
    exact ⟨s2,h1.trans h3,h4⟩
 exact fun i s hi hp=>key (n - i) i s (by omega) hp
theorem bb5 {T:Type} (n:Nat) (X:Nat→T) (step:∀ i,i < n→X i=X (i+1)):∀ i,i≤n→X i=X n:=by
 intro i hi;obtain ⟨_,h,_⟩:=aks (S:=Unit) n (fun _ _=>True) (fun i _=>X i) (fun i s h _=>⟨(),step i h,trivial⟩) i () hi trivial;exact h
theorem aie {α:Type} {l:List α} {k:Nat} (h:k < l.length) (d:α):l[k]?=some (l.getD k d):=by rw [List.getD,List.getElem?_eq_getElem h];rfl
section
variable {κ:Type} [DecidableEq κ]
end
theorem w64 {n:Nat} (h:n < 2 ^ 62):IntKind.i64.wrap ((n:Int)+1)=((n+1:Nat):Int):=by rw [IntKind.wrap_i64];omega
theorem a0t (a b:ByteArray):Instr.sameNow .string (.string a) (.string b)=some (decide (a=b)):=by
 have h:(a == b)=decide (a=b):=by
  by_cases e:a=b
  ·subst e;rw [af9 rfl,beq_toListBytes];simp
  ·rw [abp e,beq_toListBytes];rw [gp];exact fun h=>e (toList_inj h)
 simp only [Instr.sameNow,h]
theorem afa {H H':Heap} (k:Ext H H') {b:V} {g:Bool} {n:Nat} {x:V} (hx:uj H g n b=some x):uj H' g n b=some x:=by
 cases b with
 | ref i j o=>
   rw [zl] at hx ⊢;cases hc:getC H i j with
   | none=>rw [hc] at hx;cases hx
   | some c=>rw [hc] at hx;rw [gy hc k];exact hx
 | _=>exact hx
theorem RdW.ext2 {w:Nat} {H H':Heap} {v:V} {R:List (List V)} (h:RdW w H v R) (k:Ext H H'):RdW w H' v R:=by
 refine ⟨?_,?_,h.one,?_⟩
 ·have he:=h.el;unfold elems at he ⊢;split <;> simp only at he ⊢
  all_goals first | exact he | skip
  all_goals
   split at he
   ·rename_i e;rw [ed e];cases hc:getC H _ _ with
    | none=>rw [hc] at he;cases he
    | some c=>rw [hc] at he;rw [gy hc k];exact he
   ·cases he
 ·have hl:=h.len;have he:=h.el;unfold elems at he
  split at he <;> simp only [aju] at hl ⊢ <;> first | exact hl | cases he
 ·intro i r hr;obtain ⟨a,h1,h2,h3⟩:=h.at' i r hr
  have ld:∀ (b:V) (g:Bool) (n:Nat) (x:V),uj H g n b=some x→uj H' g n b=some x:=by
   intro b g n x hx;cases b with
   | ref i j o=>
     rw [zl] at hx ⊢;cases hc:getC H i j with
     | none=>rw [hc] at hx;cases hx
     | some c=>rw [hc] at hx;rw [gy hc k];exact hx
   | _=>exact hx
  exact ⟨a,h1,ld _ _ _ _ h2,fun o x hx=>by obtain ⟨b,b1,b2⟩:=h3 o x hx;exact ⟨b,b1,ld _ _ _ _ b2⟩⟩
section
variable {κ:Type} [DecidableEq κ]
end
end Go.AM
set_option maxRecDepth 100000
namespace Go.Proofs.YtbocmenkkjbigaaDoor
open Go.AM
abbrev Sb (b:ByteArray):V:=.s (.string b)
abbrev Iz (n:Int):V:=.s (.int .i64 n)
structure InsD where
 op:Int
 d:ByteArray
 a:ByteArray
 b:ByteArray
 k:Int
 f:ByteArray
 xs:List ByteArray
 ls:List ByteArray
structure BlkD where
 label:ByteArray
 code:List InsD
structure FunD where
 name:ByteArray
 ps:List ByteArray
 blocks:List BlkD
def ata:InsD:=⟨0,⟨#[]⟩,⟨#[]⟩,⟨#[]⟩,0,⟨#[]⟩,[],[]⟩
def a9r:FunD:=⟨⟨#[]⟩,[],[]⟩
def ahc (v:V):Prop:=∀ es z,v≠.psl es z
theorem ahc.w {v:V} (h:ahc v):a9d v:=by
 cases v <;> first | trivial | exact absurd rfl (h _ _)
theorem apo.wide2 {m:Nat} {H:Heap} {v:V} {l:List V} (h:apo m H v l):ahc v:=by
 rcases h with ⟨_,rfl | rfl⟩ | ⟨_,_,_,rfl,_⟩ <;> exact fun _ _ e=>by cases e
structure RdX (w:Nat) (H:Heap) (v:V) (R:List (List V)):Prop extends RdW w H v R where
 np:ahc v
theorem RdX.ext2 {w:Nat} {H H':Heap} {v:V} {R:List (List V)} (h:RdX w H v R) (k:Ext H H'):RdX w H' v R:=⟨h.toRdW.ext2 k,h.np⟩
theorem qm.rx {m w:Nat} {H:Heap} {v:V} {R:List (List V)} (h:qm m w H v R):RdX w H v R:=⟨h.rd,by
 obtain ⟨_,⟨_,rfl⟩ | ⟨_,_,rfl,_⟩⟩:=h <;> exact fun _ _ e=>by cases e⟩
def vg (x:InsD) (av lv:V):List V:=[.s (.int .u8 x.op),Sb x.d,Sb x.a,Sb x.b,.s (.int .i64 x.k),Sb x.f,av,lv]
def acw (H:Heap) (r:List V) (x:InsD):Prop:=∃ av lv,r=vg x av lv∧Rd H av (x.xs.map Sb)∧ahc av∧Rd H lv (x.ls.map Sb)∧ahc lv∧x.xs.length < 2 ^ 63∧x.ls.length < 2 ^ 63
def RdL {α:Type} (w:Nat) (P:Heap→List V→α→Prop) (H:Heap) (v:V) (l:List α):Prop:=∃ R:List (List V),RdX w H v R∧R.length=l.length∧l.length < 2 ^ 63∧∀ (i:Nat) (x:α),l[i]?=some x→∃ r:List V,R[i]?=some r∧P H r x
def ae9 (H:Heap) (r:List V) (b:BlkD):Prop:=∃ cv,r=[Sb b.label,cv]∧RdL 8 acw H cv b.code
def aka (H:Heap) (r:List V) (f:FunD):Prop:=∃ pv bv,r=[Sb f.name,pv,bv]∧Rd H pv (f.ps.map Sb)∧ahc pv∧f.ps.length < 2 ^ 63∧RdL 2 ae9 H bv f.blocks
abbrev zn:Heap→V→List FunD→Prop:=RdL 3 aka
theorem acw.ext {H H':Heap} {r:List V} {x:InsD} (h:acw H r x) (k:Ext H H'):acw H' r x:=by
 obtain ⟨av,lv,h1,h2,h3,h4,h5,h6⟩:=h;exact ⟨av,lv,h1,h2.ext k,h3,h4.ext k,h5,h6⟩
theorem RdL.ext {α:Type} {w:Nat} {P:Heap→List V→α→Prop} (hP:∀ {H H' r x},P H r x→Ext H H'→P H' r x) {H H':Heap} {v:V} {l:List α} (h:RdL w P H v l) (k:Ext H H'):RdL w P H' v l:=by
 obtain ⟨R,h1,h2,h3,h4⟩:=h
 exact ⟨R,h1.ext2 k,h2,h3,fun i x hx=>by obtain ⟨r,r1,r2⟩:=h4 i x hx;exact ⟨r,r1,hP r2 k⟩⟩
theorem ae9.ext {H H':Heap} {r:List V} {b:BlkD} (h:ae9 H r b) (k:Ext H H'):ae9 H' r b:=by
 obtain ⟨cv,h1,h2⟩:=h;exact ⟨cv,h1,RdL.ext (P:=acw) acw.ext h2 k⟩
theorem aka.ext {H H':Heap} {r:List V} {f:FunD} (h:aka H r f) (k:Ext H H'):aka H' r f:=by
 obtain ⟨pv,bv,h1,h2,h3,h4,h5⟩:=h;exact ⟨pv,bv,h1,h2.ext k,h3,h4,RdL.ext (P:=ae9) ae9.ext h5 k⟩
theorem zn.ext {H H':Heap} {v:V} {fs:List FunD} (h:zn H v fs) (k:Ext H H'):zn H' v fs:=RdL.ext (P:=aka) aka.ext h k
theorem RdL.len {α:Type} {w:Nat} {P:Heap→List V→α→Prop} {H:Heap} {v:V} {l:List α} (h:RdL w P H v l):aju H .s v=some (.s (.int .i64 l.length)):=by
 obtain ⟨R,h1,h2,_⟩:=h;rw [h1.len,h2]
theorem RdL.one {α:Type} {w:Nat} {P:Heap→List V→α→Prop} {H:Heap} {v:V} {l:List α} (h:RdL w P H v l):v.one=true:=by
 obtain ⟨R,h1,_⟩:=h;exact h1.one
theorem RdL.at2 {α:Type} {w:Nat} {P:Heap→List V→α→Prop} {H:Heap} {v:V} {l:List α} (h:RdL w P H v l) {i:Nat} {x:α} (hx:l[i]?=some x):∃ a r,kr w v (.s (.int .i64 i))=some a∧P H r x∧(∀ H',Ext H H'→uj H' true w a=some (.agg r))∧∀ (o:Nat) (y:V),r[o]?=some y→∃ b,yo o a=some b∧∀ H',Ext H H'→uj H' false 1 b=some y:=by
 obtain ⟨R,h1,h2,h3,h4⟩:=h;obtain ⟨r,r1,r2⟩:=h4 i x hx;obtain ⟨a,a1,a2,a3⟩:=h1.at' i r r1
 exact ⟨a,r,a1,r2,fun H' k=>afa k a2,fun o y hy=>by obtain ⟨b,b1,b2⟩:=a3 o y hy;exact ⟨b,b1,fun H' k=>afa k b2⟩⟩
theorem bcn {H:Heap} {v:V} {l:List ByteArray} (h:Rd H v (l.map Sb)) (hw:ahc v) {k:Nat} (hk:k < l.length):∃ a,kr 1 v (.s (.int .i64 k))=some a∧uj H false 1 a=some (.s (.string (l.getD k ⟨#[]⟩))):=
 h.at' hw.w (by rw [List.getElem?_map,aie hk ⟨#[]⟩];rfl)
theorem atq {H:Heap} {v:V} {l:List ByteArray} (h:Rd H v (l.map Sb)):aju H .s v=some (.s (.int .i64 l.length)):=by
 have:=h.len
 rwa [zu] at this
end Go.Proofs.YtbocmenkkjbigaaDoor
namespace Go.AM.Tok
def far (p:UInt8→Bool):List UInt8→Nat
 | []=>0
 | c :: l=>if p c then far p l+1 else 0
theorem far_le (p:UInt8→Bool):∀ l,far p l≤l.length
 | []=>ag _
 | c :: l=>by
   unfold far;split
   ·exact Nat.succ_le_succ (far_le p l)
   ·exact iw _
def blank (c:UInt8):Bool:=c == 32 || c == 9 || c == 13 || c == 10
def letter (c:UInt8):Bool:=decide (97≤c.toNat) && decide (c.toNat≤122) || decide (65≤c.toNat) && decide (c.toNat≤90) || c == 95
def digit (c:UInt8):Bool:=decide (48≤c.toNat) && decide (c.toNat≤57)
def within (c:UInt8):Bool:=letter c || digit c || c == 46
def other (c:UInt8):Bool:=c != 10
def sign (c:UInt8):Bool:=c == 61 || c == 44 || c == 58 || c == 40 || c == 41 || c == 123 || c == 125 || c == 91 || c == 93
structure T where
 kind:Nat
 text:List UInt8
 n:Nat
 line:Nat
 col:Nat
 deriving DecidableEq,Inhabited
inductive Out where
 | done (ts:List T)
 | bad (e line col:Nat)
 deriving DecidableEq,Inhabited
def Out.cons (t:T):Out→Out
 | .done ts=>.done (t :: ts)
 | .bad e a b=>.bad e a b
def val (l:List UInt8):Nat:=l.foldl (fun n c=>n * 10+(c.toNat - 48)) 0
def lex (l:List UInt8) (ln cl:Nat):Out:=
 match l with
 | []=>.done [⟨4,[],0,ln,cl⟩]
 | c :: l=>
   if blank c then (if c=10 then lex l (ln+1) 1 else lex l ln (cl+1))
   else if c=59 then lex (l.drop (far other l)) ln (cl+(far other l+1))
   else if letter c then (lex (l.drop (far within l)) ln (cl+(far within l+1))).cons ⟨1,c :: l.take (far within l),0,ln,cl⟩
   else if digit c then
    if 9 < far digit l+1∨(1 < far digit l+1∧c=48)∨far digit l < far within l then .bad 31 ln cl
    else (lex (l.drop (far digit l)) ln (cl+(far digit l+1))).cons ⟨2,c :: l.take (far digit l),val (c :: l.take (far digit l)),ln,cl⟩
   else if sign c then (lex l ln (cl+1)).cons ⟨3,[c],0,ln,cl⟩
   else .bad 30 ln cl
termination_by l.length
decreasing_by all_goals simp only [cu,iy];omega
theorem lex_nil (ln cl:Nat):lex [] ln cl=.done [⟨4,[],0,ln,cl⟩]:=by rw [lex]
theorem lex_cons (c:UInt8) (l:List UInt8) (ln cl:Nat):lex (c :: l) ln cl=
 if blank c then (if c=10 then lex l (ln+1) 1 else lex l ln (cl+1))
 else if c=59 then lex (l.drop (far other l)) ln (cl+(far other l+1))
 else if letter c then (lex (l.drop (far within l)) ln (cl+(far within l+1))).cons ⟨1,c :: l.take (far within l),0,ln,cl⟩
 else if digit c then
  if 9 < far digit l+1∨(1 < far digit l+1∧c=48)∨far digit l < far within l then .bad 31 ln cl
  else (lex (l.drop (far digit l)) ln (cl+(far digit l+1))).cons ⟨2,c :: l.take (far digit l),val (c :: l.take (far digit l)),ln,cl⟩
 else if sign c then (lex l ln (cl+1)).cons ⟨3,[c],0,ln,cl⟩
 else .bad 30 ln cl:=by rw [lex]
def spotL:List UInt8→Nat × Nat→Nat × Nat
 | [],p=>p
 | c :: l,p=>spotL l (if c=10 then (p.1+1,1) else (p.1,p.2+1))
theorem ada:∀ (a b:List UInt8) (p:Nat × Nat),spotL (a ++ b) p=spotL b (spotL a p)
 | [],_,_=>rfl
 | c :: a,b,p=>by simp only [au,spotL,ada a b]
theorem spotL_flat:∀ (l:List UInt8) (p:Nat × Nat),(∀ c∈l,c≠10)→spotL l p=(p.1,p.2+l.length)
 | [],p,_=>rfl
 | c :: l,p,h=>by
   simp only [spotL,h c d9,mr];rw [spotL_flat l _ fun x hx=>h x (dh _ hx)];simp only [cu];rw [wm,Nat.add_comm 1]
theorem far_take (p:UInt8→Bool):∀ (l:List UInt8),∀ c∈l.take (far p l),p c=true
 | []=>by simp
 | x :: l=>by
   intro c hc;unfold far at hc;split at hc
   ·rename_i hx;rw [bn,nk] at hc
    rcases hc with rfl | hc
    ·exact hx
    ·exact far_take p l c hc
   ·simp at hc
theorem amy (p:UInt8→Bool):∀ (l:List UInt8) {c:UInt8} {m:List UInt8},l.drop (far p l)=c :: m→p c=false
 | [],c,m,h=>by simp at h
 | x :: l,c,m,h=>by
   unfold far at h;split at h
   ·rw [dz] at h;exact amy p l h
   ·rename_i hx;rw [fq] at h;cases h
    simpa using hx
theorem ayz (p:UInt8→Bool):∀ (a b:List UInt8),(∀ c∈a,p c=true)→far p (a ++ b)=a.length+far p b
 | [],b,_=>by simp
 | c :: a,b,h=>by
   simp only [au,far,h c d9,jc,cu];rw [ayz p a b fun x hx=>h x (dh _ hx)];omega
theorem far_len (p:UInt8→Bool) (l:List UInt8):(l.take (far p l)).length=far p l:=by rw [nu,a5p (far_le p l)]
theorem len_ne {c:UInt8} (p:UInt8→Bool) (hp:p 10=false) (l:List UInt8) (hc:c≠10):∀ x∈c :: l.take (far p l),x≠10:=by
 intro x hx
 rcases nk.1 hx with rfl | hx
 ·exact hc
 ·rintro rfl;rw [far_take p l _ hx] at hp;cases hp
def gap:Bool→List UInt8→Bool
 | _,[]=>true
 | cm,c :: l=>
   let a:=if c=59 then true else cm
   let b:=if c=10 then false else a
   (b || blank c) && gap b l
theorem ajh:∀ (a b:List UInt8),(∀ c∈a,c≠10)→gap true (a ++ b)=gap true b
 | [],b,_=>rfl
 | c :: a,b,h=>by
   have h10:=h c d9;simp only [au,gap,h10,mr]
   have:(if c=59 then true else true)=true:=by split <;> rfl
   simp only [this,az2,pg];exact ajh a b fun x hx=>h x (dh _ hx)
theorem a8f (b:List UInt8):gap true (10 :: b)=gap false (10 :: b):=by simp [gap]
inductive Cov:List UInt8→Nat × Nat→List T→Prop
 | last (g:List UInt8) (p:Nat × Nat):gap false g=true→Cov g p [⟨4,[],0,(spotL g p).1,(spotL g p).2⟩]
 | word (g r:List UInt8) (p:Nat × Nat) (t:T) (ts:List T):gap false g=true→(t.line,t.col)=spotL g p→t.kind≠4→t.text≠[]→Cov r (spotL t.text (spotL g p)) ts→Cov (g ++ (t.text ++ r)) p (t :: ts)
theorem Cov.blank' {c:UInt8} {l:List UInt8} {p:Nat × Nat} {ts:List T} (hb:blank c=true) (h:Cov l (if c=10 then (p.1+1,1) else (p.1,p.2+1)) ts):Cov (c :: l) p ts:=by
 have h59:c≠59:=by rintro rfl;revert hb;decide
 have hg:∀ g,gap false (c :: g)=gap false g:=by
  intro g;simp only [gap,h59,mr]
  have:(if c=10 then false else false)=false:=by split <;> rfl
  simp only [this,hb,bdx,pg]
 generalize hq:(if c=10 then (p.1+1,1) else (p.1,p.2+1))=q at h
 cases h with
 | last g _ h=>
   have:=Cov.last (c :: l) p (by rw [hg];exact h)
   rw [spotL,hq] at this;exact this
 | word g r _ t ts h1 h2 h3 h4 h5=>
   have:=Cov.word (c :: g) r p t ts (by rw [hg];exact h1) (by rw [spotL,hq];exact h2) h3 h4 (by rw [spotL,hq];exact h5)
   rw [au] at this;exact this
theorem Cov.comm {a l:List UInt8} {p:Nat × Nat} {ts:List T} (ha:∀ x∈a,x≠10) (hl:l=[]∨∃ m,l=10 :: m) (h:Cov l (spotL (59 :: a) p) ts):Cov (59 :: (a ++ l)) p ts:=by
 have hg:∀ g,(g=[]∨∃ m,g=10 :: m)→gap false (59 :: (a ++ g))=gap false g:=by
  intro g hg
  have:gap false (59 :: (a ++ g))=gap true (a ++ g):=by simp [gap]
  rw [this,ajh a g ha]
  rcases hg with rfl | ⟨m,rfl⟩
  ·rfl
  ·exact a8f m
 generalize hq:spotL (59 :: a) p=q at h
 have hs:∀ g,spotL (59 :: (a ++ g)) p=spotL g q:=by
  intro g;rw [show 59 :: (a ++ g)=(59 :: a) ++ g from rfl,ada,hq]
 cases h with
 | last g _ h=>
   have:=Cov.last (59 :: (a ++ l)) p (by rw [hg _ hl];exact h)
   rw [hs] at this;exact this
 | word g r _ t ts h1 h2 h3 h4 h5=>
   have hg2:g=[]∨∃ m,g=10 :: m:=by
    cases g with
    | nil=>exact .inl rfl
    | cons x g=>
      rcases hl with hl | ⟨m,hl⟩
      ·cases hl
      ·cases hl;exact .inr ⟨g,rfl⟩
   have:=Cov.word (59 :: (a ++ g)) r p t ts (by rw [hg _ hg2];exact h1) (by rw [hs];exact h2) h3 h4 (by rw [hs];exact h5)
   rw [show 59 :: (a ++ g) ++ (t.text ++ r)=59 :: (a ++ (g ++ (t.text ++ r))) by simp] at this
   exact this
theorem cons_done {t:T} {o:Out} {ts:List T} (h:Out.cons t o=.done ts):∃ us,o=.done us∧ts=t :: us:=by
 cases o with
 | done us=>cases h;exact ⟨us,rfl,rfl⟩
 | bad=>cases h
theorem anf {t:T} {o:Out} {e a b:Nat} (h:Out.cons t o=.bad e a b):o=.bad e a b:=by
 cases o with
 | done us=>cases h
 | bad=>cases h;rfl
theorem Cov.next {c:UInt8} {l x:List UInt8} {k n:Nat} {p:Nat × Nat} {us:List T} (hk:k≠4) (hc:∀ y∈c :: x,y≠10) (h:Cov l (p.1,p.2+(x.length+1)) us):Cov (c :: (x ++ l)) p (⟨k,c :: x,n,p.1,p.2⟩ :: us):=by
 have:=Cov.word [] l p ⟨k,c :: x,n,p.1,p.2⟩ us rfl rfl hk (by simp) (by rw [spotL_flat _ _ hc];exact h)
 simpa using this
theorem not_ten:∀ {c:UInt8},(letter c=true∨digit c=true∨sign c=true)→c≠10:=by
 rintro c h rfl;revert h;decide
theorem lex_cov:∀ (n:Nat) (l:List UInt8) (p:Nat × Nat) (ts:List T),l.length≤n→lex l p.1 p.2=.done ts→Cov l p ts:=by
 intro n
 induction n with
 | zero=>
   intro l p ts h e
   obtain rfl:l=[]:=fu (by omega)
   rw [lex_nil] at e;cases e;exact Cov.last [] p rfl
 | succ n ih=>
   intro l p ts h e;cases l with
   | nil=>
     rw [lex_nil] at e;cases e;exact Cov.last [] p rfl
   | cons c l=>
     have hl:l.length≤n:=by simpa using h
     have hd:∀ m,(l.drop m).length≤n:=fun m=>by rw [iy];omega
     rw [lex_cons] at e;split at e
     ·rename_i hb;refine Cov.blank' hb ?_;split at e
      ·rename_i h10;rw [ed h10];exact ih _ (p.1+1,1) _ hl e
      ·rename_i h10;rw [gu h10];exact ih _ (p.1,p.2+1) _ hl e
     ·split at e
      ·rename_i h59;subst h59;have:=ih _ (p.1,p.2+(far other l+1)) _ (hd _) e;rw [← l8 (far other l) l]
       have hn:=len_ne (c:=59) other (by decide) l (by decide)
       refine Cov.comm (fun x hx=>hn x (dh _ hx)) ?_ ?_
       ·cases hx:l.drop (far other l) with
        | nil=>exact .inl rfl
        | cons c m=>
          have:=amy other l hx
          exact .inr ⟨m,by rw [show c=10 by simpa [other] using this]⟩
       ·rw [spotL_flat _ _ hn,cu,far_len];exact this
      ·split at e
       ·rename_i hb h59 hlt;obtain ⟨us,e1,rfl⟩:=cons_done e;have:=ih _ (p.1,p.2+(far within l+1)) _ (hd _) e1
        have h2:=Cov.next (c:=c) (x:=l.take (far within l)) (k:=1) (n:=0) (p:=p) (by decide) (len_ne within (by decide) l (not_ten (.inl hlt))) (by rw [far_len];exact this)
        rwa [l8] at h2
       ·split at e
        ·rename_i hb h59 hlt hdg;split at e
         ·cases e
         ·obtain ⟨us,e1,rfl⟩:=cons_done e;have:=ih _ (p.1,p.2+(far digit l+1)) _ (hd _) e1
          have h2:=Cov.next (c:=c) (x:=l.take (far digit l)) (k:=2) (n:=val (c :: l.take (far digit l))) (p:=p) (by decide) (len_ne digit (by decide) l (not_ten (.inr (.inl hdg)))) (by rw [far_len];exact this)
          rwa [l8] at h2
        ·split at e
         ·rename_i hb h59 hlt hdg hs;obtain ⟨us,e1,rfl⟩:=cons_done e;have:=ih _ (p.1,p.2+1) _ hl e1
          exact Cov.next (c:=c) (x:=[]) (k:=3) (n:=0) (p:=p) (by decide) (by simpa using not_ten (.inr (.inr hs))) this
         ·cases e
theorem aru (p:UInt8→Bool):∀ (l u v:List UInt8),l.drop (far p l)=u ++ v→far p (l.take (far p l) ++ u)=far p l:=by
 intro l u v h;rw [ayz p _ _ (far_take p l),far_len];cases u with
 | nil=>rfl
 | cons c u=>
   have:=amy p l (by rw [h];rfl)
   simp [far,this]
theorem atf (p:UInt8→Bool):∀ (a b:List UInt8),far p a≤far p (a ++ b)
 | [],b=>iw _
 | c :: a,b=>by
   simp only [au,far];split
   ·exact Nat.succ_le_succ (atf p a b)
   ·exact iw _
def Out.ok:Out→Bool
 | .done _=>true
 | .bad _ _ _=>false
theorem aq4 (t:T) (o:Out):(Out.cons t o).ok=o.ok:=by cases o <;> rfl
theorem a5b (ln cl:Nat):(lex [] ln cl).ok=true:=by rw [lex_nil];rfl
def Ahead (l:List UInt8) (p:Nat × Nat) (e a b:Nat):Prop:=(e=30∨e=31)∧∃ u v,l=u ++ v∧v≠[]∧(lex u p.1 p.2).ok=true∧(a,b)=spotL u p
theorem lex_ahead:∀ (n:Nat) (l:List UInt8) (p:Nat × Nat) (e a b:Nat),l.length≤n→lex l p.1 p.2=.bad e a b→Ahead l p e a b:=by
 intro n
 induction n with
 | zero=>
   intro l p e a b h he
   obtain rfl:l=[]:=fu (by omega)
   rw [lex_nil] at he;cases he
 | succ n ih=>
   intro l p e a b h he;cases l with
   | nil=>rw [lex_nil] at he;cases he
   | cons c l=>
     have hl:l.length≤n:=by simpa using h
     have hd:∀ m,(l.drop m).length≤n:=fun m=>by rw [iy];omega
     have hh:=he;rw [lex_cons] at he;split at he
     ·rename_i hb;split at he
      ·rename_i h10;obtain ⟨h1,u,v,rfl,h3,h4,h5⟩:=ih _ (p.1+1,1) _ _ _ hl he
       exact ⟨h1,c :: u,v,rfl,h3,by rw [lex_cons,ed hb,ed h10];exact h4,by rw [h5,spotL,ed h10]⟩
      ·rename_i h10;obtain ⟨h1,u,v,rfl,h3,h4,h5⟩:=ih _ (p.1,p.2+1) _ _ _ hl he
       exact ⟨h1,c :: u,v,rfl,h3,by rw [lex_cons,ed hb,gu h10];exact h4,by rw [h5,spotL,gu h10]⟩
     ·rename_i hb;split at he
      ·rename_i h59;obtain ⟨h1,u,v,h2,h3,h4,h5⟩:=ih _ (p.1,p.2+(far other l+1)) _ _ _ (hd _) he;have hf:=aru other l u v h2;refine ⟨h1,c :: (l.take (far other l) ++ u),v,?_,h3,?_,?_⟩
       ·rw [au,ja,← h2,l8]
       ·rw [lex_cons,gu hb,ed h59,hf];rw [List.drop_left' (far_len other l)];exact h4
       ·rw [h5,← au,ada,spotL_flat (c :: l.take (far other l)) p (len_ne other (by decide) l (by rw [h59];decide)),cu,far_len]
      ·rename_i h59
       have hdrop:∀ (q:UInt8→Bool) (u:List UInt8),(l.take (far q l) ++ u).drop (far q l)=u:=by
        exact fun q u=>List.drop_left' (far_len q l)
       split at he
       ·rename_i hlt;obtain ⟨h1,u,v,h2,h3,h4,h5⟩:=ih _ (p.1,p.2+(far within l+1)) _ _ _ (hd _) (anf he);have hf:=aru within l u v h2;have hdr:=hdrop within u;refine ⟨h1,c :: (l.take (far within l) ++ u),v,?_,h3,?_,?_⟩
        ·rw [au,ja,← h2,l8]
        ·rw [lex_cons,gu hb,gu h59,ed hlt,hf,hdr,aq4];exact h4
        ·rw [h5,← au,ada,spotL_flat (c :: l.take (far within l)) p (len_ne within (by decide) l (not_ten (.inl hlt))),cu,far_len]
       ·rename_i hlt;split at he
        ·rename_i hdg;split at he
         ·rename_i hcond;cases he
          exact ⟨.inr rfl,[],c :: l,rfl,by simp,a5b _ _,rfl⟩
         ·rename_i hcond;obtain ⟨h1,u,v,h2,h3,h4,h5⟩:=ih _ (p.1,p.2+(far digit l+1)) _ _ _ (hd _) (anf he);have hf:=aru digit l u v h2;have hdr:=hdrop digit u
          have hm:far within (l.take (far digit l) ++ u)≤far within l:=by
           have:=atf within (l.take (far digit l) ++ u) v;rw [ja,← h2,l8] at this;exact this
          refine ⟨h1,c :: (l.take (far digit l) ++ u),v,?_,h3,?_,?_⟩
          ·rw [au,ja,← h2,l8]
          ·rw [lex_cons,gu hb,gu h59,gu hlt,ed hdg,gu (fun hx=>hcond (by rw [hf] at hx;exact hx.imp id (Or.imp id fun h=>by omega))),hf,hdr,aq4];exact h4
          ·rw [h5,← au,ada,spotL_flat (c :: l.take (far digit l)) p (len_ne digit (by decide) l (not_ten (.inr (.inl hdg)))),cu,far_len]
        ·rename_i hdg;split at he
         ·rename_i hs;obtain ⟨h1,u,v,rfl,h3,h4,h5⟩:=ih _ (p.1,p.2+1) _ _ _ hl (anf he);refine ⟨h1,c :: u,v,rfl,h3,?_,?_⟩
          ·rw [lex_cons,gu hb,gu h59,gu hlt,gu hdg,ed hs,aq4];exact h4
          ·rw [h5,spotL,gu (not_ten (.inr (.inr hs)))]
         ·cases he
          exact ⟨.inl rfl,[],c :: l,rfl,by simp,a5b _ _,rfl⟩
end Go.AM.Tok
set_option maxRecDepth 100000
namespace Go.Proofs.YtbocmenkkjbigaaDoor
open Go.AM
structure Vw where
 kind:Nat→Nat
 text:Nat→List UInt8
 num:Nat→Nat
 same:Nat→Bool
def tkE:Tok.T:=⟨4,[],0,0,0⟩
def Vw.of (ts:List Tok.T):Vw where
 kind a:=(ts.getD a tkE).kind
 text a:=(ts.getD a tkE).text
 num a:=(ts.getD a tkE).n
 same a:=decide (a > 0) && (ts.getD (a - 1) tkE).line == (ts.getD a tkE).line
abbrev Rx (α:Type):=Nat→Except Nat (α × Nat)
def Rx.bind {α β:Type} (f:Rx α) (g:α→Rx β):Rx β:=fun a=>match f a with
 | .error e=>.error e
 | .ok (x,b)=>g x b
section
variable (V:Vw) (N:Nat)
def bOf (l:List UInt8):ByteArray:=⟨l.toArray⟩
def isT (s:List UInt8) (a:Nat):Bool:=V.same a && V.kind a == 3 && V.text a == s
def ow:Rx ByteArray:=fun a=>if (V.same a && V.kind a == 1)=true then .ok (bOf (V.text a),a+1) else .error a
def tu:Rx Nat:=fun a=>if (V.same a && V.kind a == 2)=true then .ok (V.num a,a+1) else .error a
def sj (s:List UInt8):Rx Unit:=fun a=>if isT V s a=true then .ok ((),a+1) else .error a
def az4 (a:Nat):Bool:=V.same a && V.kind a != 4
def bds:Rx Unit:=fun a=>if az4 V a=true then .error a else .ok ((),a)
def auk (s:List UInt8) (a:Nat):Bool:=V.kind a == 1 && (V.kind (a+1) == 3 && V.text (a+1) == s && V.same (a+1))
def aed:Nat→List ByteArray→Rx (List ByteArray)
 | 0,_,a=>.error a
 | n+1,acc,a=>if isT V [41] a=true then .ok (acc,a) else
   if acc.length > 0 then (sj V [44]).bind (fun _=>(ow V).bind fun x=>aed n (acc ++ [x])) a
   else (ow V).bind (fun x=>aed n (acc ++ [x])) a
def ahu:Rx (List ByteArray):=(sj V [40]).bind fun _=>(aed V N []).bind fun l=>(sj V [41]).bind fun _ a=>.ok (l,a)
def aw9:Nat→List ByteArray→List ByteArray→Rx (List ByteArray × List ByteArray)
 | 0,_,_,a=>.error a
 | n+1,ls,xs,a=>(ow V).bind (fun l=>(sj V [58]).bind fun _=>(ow V).bind fun x b=>
   if isT V [44] b=true then (sj V [44]).bind (fun _=>aw9 n (ls ++ [l]) (xs ++ [x])) b else .ok ((ls ++ [l],xs ++ [x]),b)) a
def opT:Nat→InsD→Rx InsD
 | 1,x | 2,x=>(tu V).bind fun n a=>.ok ({ x with k:=n },a)
 | 3,x=>fun a=>.ok (x,a)
 | 4,x=>(ow V).bind fun s a=>.ok ({ x with f:=s },a)
 | 5,x | 8,x=>(ow V).bind fun s a=>.ok ({ x with a:=s },a)
 | 6,x=>(sj V [91]).bind fun _=>(aw9 V N x.ls x.xs).bind fun p=>(sj V [93]).bind fun _ a=>.ok ({ x with ls:=p.1,xs:=p.2 },a)
 | 7,x=>(ow V).bind fun s=>(tu V).bind fun n a=>.ok ({ x with a:=s,k:=n },a)
 | 9,x=>(ow V).bind fun s=>(sj V [44]).bind fun _=>(ow V).bind fun t a=>.ok ({ x with a:=s,b:=t },a)
 | 10,x=>(ow V).bind fun s=>(ahu V N).bind fun l a=>.ok ({ x with f:=s,xs:=l },a)
 | 11,x=>(ow V).bind fun s=>(ahu V N).bind fun l a=>.ok ({ x with a:=s,xs:=l },a)
 | 12,x=>(ow V).bind fun s=>(ow V).bind fun t a=>.ok ({ x with ls:=[s,t] },a)
 | 13,x=>(ow V).bind fun s a=>.ok ({ x with ls:=[s] },a)
 | 14,x=>fun a=>if (V.same a && V.kind a == 1)=true then (ow V).bind (fun s a=>.ok ({ x with a:=s },a)) a else .ok (x,a)
 | _,_=>fun a=>.error a
def ap5:List (List UInt8 × Nat):=[([97,108,108,111,99,97],1),([109,97,108,108,111,99],2),([110,117,108,108],3),([97,100,100,114],4),([99,111,112,121],5),([108,111,97,100],8),([102,105,101,108,100],7),([112,104,105],6),([99,97,108,108],10),([105,99,97,108,108],11)]
def ar5:List (List UInt8 × Nat):=[([115,116,111,114,101],9),([99,97,108,108],10),([105,99,97,108,108],11),([98,114],12),([103,111,116,111],13),([114,101,116],14)]
def au2 (l:List (List UInt8 × Nat)) (s:List UInt8):Option Nat:=(l.find? fun p=>p.1 == s).map (·.2)
def a5c (d:ByteArray) (l:List (List UInt8 × Nat)):Rx InsD:=fun b=>match au2 l (V.text b) with
 | none=>if d.data.toList=[] then .error (b+1) else .error b
 | some o=>if V.kind b=1 then opT V N o { ata with op:=o,d:=d } (b+1) else .error b
def ahk:Rx InsD:=fun a=>
 if auk V [61] a=true then (if V.same (a+2)=true then a5c V N (bOf (V.text a)) ap5 (a+2) else .error (a+2))
 else a5c V N ⟨#[]⟩ ar5 a
def addI (bs:List BlkD) (x:InsD):List BlkD:=bs.dropLast ++ (bs.getLast?.toList.map fun b=>{ b with code:=b.code ++ [x] })
def azu (nm:ByteArray) (ps:List ByteArray):Nat→List BlkD→Rx FunD
 | 0,_,a=>.error a
 | n+1,bs,a=>
   if az4 V a=true then .error a
   else if (V.kind a == 3 && V.text a == [125])=true then (if az4 V (a+1)=true then .error (a+1) else .ok (⟨nm,ps,bs⟩,a+1))
   else if auk V [58] a=true then azu nm ps n (bs ++ [⟨bOf (V.text a),[]⟩]) (a+2)
   else if (V.kind a != 1 || bs.length == 0)=true then (if V.kind a=1 then .error (a+1) else .error a)
   else (ahk V N).bind (fun x=>azu nm ps n (addI bs x)) a
def a5d:Rx FunD:=fun a=>(ow V).bind (fun nm=>(ahu V N).bind fun ps=>(sj V [123]).bind fun _=>azu V N nm ps N []) (a+1)
def a4z:Nat→List FunD→Rx (List FunD)
 | 0,_,a=>.error a
 | n+1,fs,a=>if V.kind a=4 then .ok (fs,a) else
   if (V.kind a != 1 || V.text a != [102,117,110,99])=true then .error a
   else (a5d V N).bind (fun f=>a4z n (fs ++ [f])) a
end
def parT (ts:List Tok.T):Except Nat (List FunD):=match a4z (Vw.of ts) (ts.length+1) (ts.length+1) [] 0 with
 | .error e=>.error e
 | .ok (fs,_)=>.ok fs
end Go.Proofs.YtbocmenkkjbigaaDoor
namespace Go.AM
def am0:=And.intro @a3o (And.intro @a3q (And.intro @a8s (And.intro @a8p (And.intro @ay9 (And.intro @a3r (And.intro @a3p (And.intro @a8q (And.intro @anz (And.intro @av4 (And.intro @av1 (And.intro @at5 (And.intro @at6 (And.intro @a1o (And.intro @a1n (And.intro @a1p (And.intro @axk (And.intro @axl (And.intro @avj (And.intro @awv (And.intro @aom (And.intro @Bool.not_true (And.intro @Bool.not_false (And.intro @apr (And.intro @ug (And.intro @at7 (And.intro @ap8 (And.intro @an4 (And.intro @axj (And.intro @a01 (And.intro @aw1 (And.intro @aw2 (And.intro @iq (And.intro @pg (And.intro @a9f (And.intro @a9e (And.intro @evE_t (And.intro @a8n (And.intro @a3f (@auv)))))))))))))))))))))))))))))))))))))))
def am1:=And.intro @auu (And.intro @aqx (And.intro @a8o (And.intro @a3n (And.intro @a3m (And.intro @a8m (And.intro @a3k (And.intro @a3j (And.intro @ay6 (And.intro @avf (And.intro @ave (And.intro @anb (And.intro @aj8 (And.intro @aj7 (And.intro @apa (And.intro @ana (And.intro @am9 (And.intro @avc (And.intro @ar0 (And.intro @arz (And.intro @avd (And.intro @ar2 (And.intro @ar1 (And.intro @ao9 (And.intro @ay5 (And.intro @bcb (And.intro @a3l (And.intro @avg (And.intro @anc (And.intro @ay4 (And.intro @ar3 (And.intro @a3i (And.intro @a3h (And.intro @ay7 (And.intro @a3g (And.intro @avb (And.intro @ay3 (And.intro @afw (And.intro @aah (@a9j)))))))))))))))))))))))))))))))))))))))
def am2:=And.intro @acp (And.intro @amx (And.intro @ao6 (And.intro @ayr (And.intro @a2r (And.intro @aw7 (And.intro @a08 (And.intro @au5 (And.intro @ayd (And.intro @ap1 (And.intro @avp (And.intro @not_false_eq_true (And.intro @ad8 (And.intro @atv (And.intro @bdx (And.intro @az2 (And.intro @j6 (And.intro @aav (And.intro @aa8 (And.intro @mq (And.intro @Int.natCast_nonneg (And.intro @Bool.cond_true_left (And.intro @Bool.cond_false_right (And.intro @Bool.cond_false_left (And.intro @Bool.cond_true_right (And.intro @a2x (And.intro @a2h (And.intro @ac9 (And.intro @an1 (And.intro @an0 (And.intro @auc (And.intro @avz (And.intro @a0w (And.intro @a0v (And.intro @aww (And.intro @a0y (And.intro @a0x (And.intro @a0z (And.intro @awy (@ay0)))))))))))))))))))))))))))))))))))))))
def am3:=And.intro @ava (And.intro @arx (And.intro @a1z (And.intro @at1 (And.intro @avu (And.intro @awz (And.intro @a06 (And.intro @a07 (And.intro @aw0 (And.intro @axo (And.intro @ev_t (And.intro @ev_c (And.intro @beq_true (And.intro @beq_false (And.intro @bbn (And.intro @bbl (And.intro @a1u (And.intro @aon (And.intro @aq2 (And.intro @axq (And.intro @aq1 (And.intro @a1t (And.intro @op_un (And.intro @a6z (And.intro @axt (And.intro @aoo (And.intro @a1s (And.intro @auy (And.intro @a6y (And.intro @a6x (And.intro @axr (And.intro @a6v (And.intro @a1y (And.intro @bbm (And.intro @ai8 (And.intro @a1r (And.intro @a6w (And.intro @axu (And.intro @a7a (@a1w)))))))))))))))))))))))))))))))))))))))
def am4:=And.intro @a1x (And.intro @auz (And.intro @au0 (And.intro @a9h (And.intro @a9g (And.intro @ay1 (And.intro @aut (And.intro @aus (And.intro @Bool.bne_false (And.intro @Bool.bne_true (And.intro @bav (And.intro @bag (And.intro @bam (And.intro @bat (And.intro @bal (And.intro @ban (And.intro @bao (And.intro @bap (And.intro @bas (And.intro @bau (And.intro @xb_or (And.intro @baf (And.intro @avt (And.intro @bak (And.intro @baj (And.intro @bai (And.intro @bah (And.intro @a9z (And.intro @a9x (And.intro @a9y (And.intro @a90 (And.intro @xq_b (And.intro @xn_pn (And.intro @xn_pr (And.intro @xn_pp (And.intro @xn_sn (And.intro @xn_ss (And.intro @xn_sp (And.intro @xn_se (@xn_mn)))))))))))))))))))))))))))))))))))))))
def am5:=And.intro @xn_mm (And.intro @xn_fn (And.intro @xn_ff (And.intro @xn_fy (And.intro @xg (And.intro @a9v (And.intro @a9w (And.intro @bae (And.intro @xc_id (And.intro @a98 (And.intro @a5t (And.intro @xk_fn (And.intro @a97 (And.intro @a4s (And.intro @a5u (And.intro @bab (And.intro @atz (And.intro @baa (And.intro @a99 (And.intro @bac (And.intro @a92 (And.intro @a95 (And.intro @a96 (And.intro @a94 (And.intro @xl_sl (And.intro @a5s (And.intro @zl (And.intro @a5r (And.intro @xm (And.intro @asn (And.intro @asl (And.intro @ag (And.intro @o7 (And.intro @and_true (And.intro @afd (And.intro @lh (And.intro @aaw (And.intro @wh (And.intro @a0r (@azs)))))))))))))))))))))))))))))))))))))))
def am6:=And.intro @a4f (And.intro @atx (And.intro @aty (And.intro @atw (And.intro @avs (And.intro @avi (And.intro @ar6 (And.intro @ar7 (And.intro @as0 (And.intro @a5q (And.intro @a1v (And.intro @Int.sub_zero (And.intro @Int.le_refl (And.intro @ajr (And.intro @ba3 (And.intro @ays (And.intro @a13 (And.intro @jf (And.intro @bbt (And.intro @bcf (And.intro @a7j (And.intro @a7g (And.intro @a11 (And.intro @a10 (And.intro @a7h (And.intro @bbo (And.intro @a7i (And.intro @a7k (And.intro @bbq (And.intro @bbr (And.intro @azo (And.intro @a8v (And.intro @a4c (And.intro @azm (And.intro @azl (And.intro @azn (And.intro @a4d (And.intro @ayx (And.intro @aud (@ap2)))))))))))))))))))))))))))))))))))))))
def am7:=And.intro @an6 (And.intro @an5 (And.intro @awj (And.intro @aub (@wm))))
def al0:=@Bool.cond_self
def al1:=@ic
def al2:=@jh
def al3:=@bz
def al4:=@jq
def al5:=@ne_eq
def al6:=@mr
def al7:=@jc
def al8:=@af7
def al9:=@avq
def al10:=@cond_true
def al11:=@cond_false
def al12:=@cz
def al13:=@abt
def al14:=@au
def al15:=@o9
def al16:=@acy
def al17:=@l5
def al18:=@bne_self_eq_false
def al19:=@List.getElem?_cons_zero
def al20:=@List.getElem?_cons_succ
def al21:=@fq
def al22:=@dz
def al23:=@bn
def al24:=@dx
def al25:=@List.take_nil
def al26:=@List.drop_nil
def al27:=@cu
def al28:=@gq
def al29:=@zo
def al30:=@gm
def al31:=@ib
def al32:=@bu
def al33:=@List.set_cons_zero
def al34:=@List.set_cons_succ
theorem hT (R:List AOper) (K O:List Nat) (m:Nat) (kp:List (List (Nat × Bool × E) × E)) (os:List (Nat × E)) (items:List RI) (h:xy R K O=some (m,aku items os,os):=by kernel_rfl) (hk:aee items=kp:=by kernel_rfl):∀ (fr:List V) (H:Heap),ru (xy R K O) K fr H=ru (some (m,kp,os)) K fr H:=fun fr H=>by rw [← hk];exact a0i h fr H
theorem hO (R P T:List AOper) (KC K:List Nat) (lit:List AOper) (e:R=P ++ T:=by exact rfl) (e2:P=lit:=by exact rfl) (h:apf KC T K=true:=by kernel_rfl):∀ (call:kz) (it:yn) (base:Nat) (f:List V) (H:Heap),evC call it base (.region R [] K) f H=agd call it base (.region T [] K) (axp [] P KC (jl call base lit f H)):=fun call it base f H=>by
 subst e;subst e2
 exact (awt call it base P T (kc:=KC) h f H).trans (by rw [aly])
theorem hS (R:List AOper) (ka oa K:List Nat) {P T:List AOper} (e:R=P ++ T:=by exact rfl) (h:apf ka T K=true:=by kernel_rfl):∀ (call:kz) (it:yn) (base:Nat) (f:List V) (H:Heap),evC call it base (.region R [] K) f H=ba9 call it base T K H (ru (xy P ka oa) ka f H) (aez call it base R K f H):=fun call it base f H=>by
 subst e;exact aws call it base P T h f H
theorem hU (R:List AOper) (ka oa K:List Nat) (m:Nat) (kp:List (List (Nat × Bool × E) × E)) (os:List (Nat × E)) (items:List RI) {P T:List AOper} (e:R=P ++ T:=by exact rfl) (h:apf ka T K=true:=by kernel_rfl) (h2:xy P ka oa=some (m,aku items os,os):=by kernel_rfl) (hk:aee items=kp:=by kernel_rfl):(∀ (fr:List V) (H:Heap),ru (xy P ka oa) ka fr H=ru (some (m,kp,os)) ka fr H)∧∀ (call:kz) (it:yn) (base:Nat) (f:List V) (H:Heap),evC call it base (.region R [] K) f H=ba9 call it base T K H (ru (xy P ka oa) ka f H) (aez call it base R K f H):=⟨hT P ka oa m kp os items h2 hk,hS R ka oa K e h⟩
theorem hL (R:List AOper) (K O:List Nat):∀ (call:kz) (it:yn) (base:Nat) (f:List V) (H:Heap),evC call it base (.region R [] K) f H=bdo H (ru (xy R K O) K f H) (aez call it base R K f H):=fun call it base f H=>a0u call it base R f H
theorem hV (R:List AOper) (K O:List Nat) (m:Nat) (kp:List (List (Nat × Bool × E) × E)) (os:List (Nat × E)) (items:List RI) (h:xy R K O=some (m,aku items os,os):=by kernel_rfl) (hk:aee items=kp:=by kernel_rfl):(∀ (fr:List V) (H:Heap),ru (xy R K O) K fr H=ru (some (m,kp,os)) K fr H)∧∀ (call:kz) (it:yn) (base:Nat) (f:List V) (H:Heap),evC call it base (.region R [] K) f H=bdo H (ru (xy R K O) K f H) (aez call it base R K f H):=⟨hT R K O m kp os items h hk,hL R K O⟩
theorem hX (R:List AOper) (K:List Nat) {a:AOper} (e:R=[a]:=by exact rfl):∀ (call:kz) (it:yn) (base:Nat) (f:List V) (H:Heap),evC call it base (.region R [] K) f H=axp [] R K (jl call base [a] f H):=fun call it base f H=>by
 subst e;exact aly call it base [a] K f H
theorem hE (c b:ACode) (e:c=b:=by exact rfl):∀ (call:kz) (it:yn) (base:Nat) (fr:List V) (H:Heap),evC call it base c fr H=evC call it base b fr H:=fun _ _ _ _ _=>by rw [e]
theorem hP (R:List AOper) (KC K:List Nat) {T:List AOper} {a:AOper} (e:R=a :: T:=by exact rfl) (h:apf KC T K=true:=by kernel_rfl):∀ (call:kz) (it:yn) (base:Nat) (f:List V) (H:Heap),evC call it base (.region R [] K) f H=agd call it base (.region T [] K) (axp [] [a] KC (jl call base [a] f H)):=hO R [a] T KC K [a] e rfl h
def q (d:Nat) (o:AOp):AOper:=⟨some d,o,none⟩
def qg (d:Nat) (o:AOp) (n:Nat) (b:Bool):AOper:=⟨some d,o,some (n,b)⟩
abbrev LO:=List AOper
def oL (d n:Nat):AOper:=⟨some d,.load false 1 (.t n),none⟩
def gL (d n g:Nat) (b:Bool):AOper:=⟨some d,.load false 1 (.t n),some (g,b)⟩
def oF (d k n:Nat):AOper:=⟨some d,.fieldAddr k (.t n),none⟩
def gF (d k n g:Nat) (b:Bool):AOper:=⟨some d,.fieldAddr k (.t n),some (g,b)⟩
def oM (d n:Nat):AOper:=⟨some d,.move (.t n),none⟩
def gM (d n g:Nat) (b:Bool):AOper:=⟨some d,.move (.t n),some (g,b)⟩
abbrev eL (x:E):E:=.op (.load false 1 (.t 0)) [x]
abbrev eF (k:Nat) (x:E):E:=.op (.fieldAddr k (.t 0)) [x]
def sb (l:List Nat):RI:=.sub 0 l []
theorem hQ (l:List Nat) (n:Nat) (h:l.contains n=true:=by kernel_rfl):l.contains n=true:=h
theorem hK (l:List Nat) (n:Nat) (h:l.contains n=false:=by kernel_rfl):l.contains n=false:=h
theorem ai {a b:Prop} (h:a) (k:b):a∧b:=⟨h,k⟩
def aa:=ai @a7b (ai @amY (ai @bbk (ai @bl.eq_1 (ai @i64.eq_1 (ai @splice.eq_1 (ai @aam.eq_1 (ai @aam.eq_2 (ai @am0 (ai @am1 (ai @am2 (ai @am3 (ai @am4 (ai @am5 (ai @am6 (ai @am7 (ai @al0.{1} (ai @al1.{0} (ai @al2.{0} (ai @al3.{0} (ai @al4.{0,0} (ai @al5.{1} (ai @al6.{1} (ai @al7.{1} (ai @al8.{0} (ai @al9.{0} (ai @al10.{1} (ai @al11.{1} (ai @al12.{0} (ai @al13.{0} (ai @al14.{0} (ai @al15.{0,0} (ai @al16.{0,0} (ai @al17.{0} (ai @al18.{0} (ai @al19.{0} (ai @al20.{0} (ai @al21.{0} (ai @al22.{0} (ai @al23.{0} (ai @al24.{0} (ai @al25.{0} (ai @al26.{0} (ai @al27.{0} (ai @al28.{0} (ai @al29.{0,0} (ai @al30.{0} (ai @al31.{0} (ai @al32.{0} (ai @al33.{0} (@al34.{0}))))))))))))))))))))))))))))))))))))))))))))))))))
open Go.RowKit
abbrev aaj:=TypeId × V × Heap
abbrev atr:=V→List V→Nat→Heap→aaj→Prop
def ajw (call:kz) (base:Nat):Nat→List AOper→List V→Heap→Option (V × List V × Heap)
 | _,[],_,_=>none
 | 0,o :: _,fr,H=>match want o fr with
   | some true=>match o.op with
     | .call f xs=>some (ev fr f,xs.map (ev fr),H)
     | _=>none
   | _=>none
 | n+1,o :: os,fr,H=>match want o fr with
   | none=>none
   | some false=>ajw call base n os (put o.dst und fr) H
   | some true=>match je call base fr H o.op with
     | some (v,H')=>ajw call base n os (put o.dst v fr) H'
     | none=>none
def yx (u:V):kz:=fun _ _ _ H=>some (u,H)
abbrev aca:=List AOper→List V→Prop
def bco (call:kz) (pan:atr) (base:Nat) (C:aca) (ops:List AOper) (chk:List (Nat × Nat)) (fr:List V) (H:Heap) (r:aaj):Prop:=
 C ops fr∧(∃ i v args H1,ajw call base i ops fr H=some (v,args,H1)∧pan v args base H1 r)∧
 ∃ u fr' H',jl (yx u) base ops fr H=some (fr',H')∧chk.all (aa5 (yx u) base ops fr H fr')=true
inductive PanL (b:List V→Heap→Option St) (x:List V→Heap→aaj→Prop) (kill:List Nat) (m:Nat):List V→Heap→aaj→Prop
 | here {fr:List V} {H:Heap} {r:aaj} (h:x fr H r):PanL b x kill m fr H r
 | next {fr fr':List V} {H H':Heap} {r:aaj} (h:b fr H=some (.nrm,fr',H')) (k:PanL b x kill m (ou kill fr') (trim m (ou kill fr') H') r):PanL b x kill m fr H r
def abf (call:kz) (pan:atr) (it:yn) (base:Nat) (C:aca):ACode→List V→Heap→aaj→Prop
 | .region ops chk _,fr,H,r=>bco call pan base C ops chk fr H r
 | .seq a b,fr,H,r=>abf call pan it base C a fr H r∨∃ fr1 H1,evC call it base a fr H=some (.nrm,fr1,H1)∧abf call pan it base C b fr1 H1 r
 | .cond c a b,fr,H,r=>(ev fr c=.s (.bool true)∧abf call pan it base C a fr H r)∨(ev fr c=.s (.bool false)∧abf call pan it base C b fr H r)
 | .block _ c,fr,H,r=>abf call pan it base C c fr H r
 | .loop kill c,fr,H,r=>PanL (fun fr H=>evC call it base c fr H) (fun fr H r=>abf call pan it base C c fr H r) kill H.length (ou kill fr) H r
 | _,_,_,_=>False
def ae2 (o:Oper):Bool:=
 match o.op with
 | .call { callee:=.value _,.. }=>true
 | _=>false
def aq3 (ops:Array Oper):Bool:=(List.range ops.size).all fun i=>(List.range ops.size).all fun j=>!(ae2 (ops.getD i default) && ae2 (ops.getD j default)) || i == j
def amh:Code→Bool
 | .region _ ops draw=>!draw || aq3 ops
 | .seq a b=>amh a && amh b
 | .cond _ a b=>amh a && amh b
 | .block _ c=>amh c
 | .loop c=>amh c
 | .rangeFunc _ _ a b=>amh a && amh b
 | _=>true
def bdm (ops:Array Oper):Prop:=∀ (i j:Nat) (o o':Oper),ops[i]?=some o→ops[j]?=some o'→ae2 o=true→ae2 o'=true→i=j
theorem axv {ops:Array Oper} (h:aq3 ops=true):bdm ops:=by
 intro i j o o' hi hj h1 h2;unfold aq3 at h;have li:=(Array.getElem?_eq_some_iff.1 hi).1;have lj:=(Array.getElem?_eq_some_iff.1 hj).1
 have:=aj.1 (aj.1 h i (by simpa using li)) j (by simpa using lj)
 have e1:ops.getD i default=o:=by rw [Array.getD_eq_getD_getElem?,hi];rfl
 have e2:ops.getD j default=o':=by rw [Array.getD_eq_getD_getElem?,hj];rfl
 rw [e1,e2,h1,h2] at this
 simpa using this
theorem bdm.perm {ops:Array Oper} {π:List Nat} (hp:PermOk π ops) (h:bdm ops):bdm (qz π ops):=by
 intro i j o o' hi hj h1 h2
 have get:∀ (i:Nat) (o:Oper),(qz π ops)[i]?=some o→∃ k o0,π[i]?=some k∧ops[k]?=some o0∧o=ade π o0:=fun i o hi=>by
  have li:i < π.length:=by rw [← adj (ops:=ops)];exact (Array.getElem?_eq_some_iff.1 hi).1
  have hk:π[i]?=some π[i]:=List.getElem?_eq_getElem li;have hl:=hp.lt _ (ql li);have ho:ops[π[i]]?=some ops[π[i]]:=Array.getElem?_eq_getElem hl;have:=aa1 hk ho;rw [hi] at this;exact ⟨_,_,hk,ho,fo this⟩
 obtain ⟨k,o0,k1,k2,rfl⟩:=get i o hi;obtain ⟨k',o0',k1',k2',rfl⟩:=get j o' hj;have:=h k k' o0 o0' k2 k2' h1 h2;subst this;have e1:=amd hp.nd k1;have e2:=amd hp.nd k1';omega
section
variable {CC:CX} {μ μ':Mu} {Mt Mt':Nat→Prop} {w w':World} {H H':Heap} {P:Program} {pure':PX} {call:kz} {pan:atr}
def a9s (CC:CX) (μ:Mu) (Mt:Nat→Prop) (w:World) (H:Heap) (r:aaj) (ch:List PanicEntry) (w':World):Prop:=
 ∃ c μ' Mt',ch=[{ v:=.iface r.1 c,recovered:=false }]∧VR μ' Mt' w' r.2.1 c∧Post CC μ Mt w H μ' Mt' w' r.2.2
def a9k (l:List AOper) (fr frx:List V):Prop:=∀ s,(∀ o∈l,o.dst≠some s)→frx.getD s .unk=fr.getD s .unk
def az5 (CC:CX) (C:aca) (μ:Mu) (Mt:Nat→Prop) (w:World) (H:Heap) (ds:List Deferred) (r:aaj) (ch:List PanicEntry) (a':Act) (w':World):Prop:=
 ∃ c μ' Mt' l fr frx,ch=[{ v:=.iface r.1 c,recovered:=false }]∧VR μ' Mt' w' r.2.1 c∧Post CC μ Mt w H μ' Mt' w' r.2.2∧Marks w.heap.size μ' w' a'.defers ds∧C l fr∧a9k l fr frx∧FR μ' Mt' w' frx a'.tmps
def asf (CC:CX) (μ:Mu) (Mt:Nat→Prop) (w:World) (H:Heap) (r:aaj) (ch:List PanicEntry) (l:List AOper) (fr:List V) (a':Act) (w':World):Prop:=
 ∃ c μ' Mt' frx,ch=[{ v:=.iface r.1 c,recovered:=false }]∧VR μ' Mt' w' r.2.1 c∧Post CC μ Mt w H μ' Mt' w' r.2.2∧a9k l fr frx∧FR μ' Mt' w' frx a'.tmps
structure SimPan (P:Program) (CC:CX) (pan:atr):Prop where
 fn:∀ (f:Nat) (fst cap args:List V) (base:Nat) (H:Heap) (r:aaj),pan (.fn f fst cap) args base H r→
  (∀ xs w,(callFunc f xs).run P w=.ok (.enter f xs) w)∧
  ∀ (μ:Mu) (Mt:Nat→Prop) (w:World) (cs:List Value),HR CC μ Mt w H→VRs μ Mt w (fst ++ args ++ cap) cs→∀ n,CallsIn Fence.wide n P f cs.toArray w (fun e w'=>∃ ch,e=.panicked ch∧a9s CC μ Mt w H r ch w')
 only:∀ v args base H r,pan v args base H r→∃ f fst cap,v=.fn f fst cap
 floor:∀ v args base H r,pan v args base H r→Floor base H r.2.2
theorem az5.trans {C:aca} {μ1:Mu} {Mt1:Nat→Prop} {w1:World} {H1:Heap} {ds ds1:List Deferred} {r:aaj} {ch:List PanicEntry} {a':Act} (hp:Post CC μ Mt w H μ1 Mt1 w1 H1) (hm:Marks w.heap.size μ1 w1 ds1 ds) (h:az5 CC C μ1 Mt1 w1 H1 ds1 r ch a' w'):az5 CC C μ Mt w H ds r ch a' w':=by
 obtain ⟨c,μ2,Mt2,l,fr,frx,e,v,p,m,x⟩:=h;exact ⟨c,μ2,Mt2,l,fr,frx,e,v,hp.trans p,hm.trans p hp.tr.size m,x⟩
theorem asf.trans {μ1:Mu} {Mt1:Nat→Prop} {w1:World} {H1:Heap} {r:aaj} {ch:List PanicEntry} {l:List AOper} {fr:List V} {a':Act} (hp:Post CC μ Mt w H μ1 Mt1 w1 H1) (h:asf CC μ1 Mt1 w1 H1 r ch l fr a' w'):asf CC μ Mt w H r ch l fr a' w':=by
 obtain ⟨c,μ2,Mt2,frx,e,v,p,x⟩:=h;exact ⟨c,μ2,Mt2,frx,e,v,hp.trans p,x⟩
theorem asf.e {C:aca} {r:aaj} {ch:List PanicEntry} {l:List AOper} {fr:List V} {a':Act} (hc:C l fr) (h:asf CC μ Mt w H r ch l fr a' w'):az5 CC C μ Mt w H a'.defers r ch a' w':=by
 obtain ⟨c,μ2,Mt2,frx,e,v,p,k,f⟩:=h;exact ⟨c,μ2,Mt2,l,fr,frx,e,v,p,Marks.refl _ _ _ _,hc,k,f⟩
theorem a9s.g (h0:HR CC μ Mt w H) {r:aaj} {ch:List PanicEntry} {l:List AOper} {fr frx:List V} {a':Act} (h:a9s CC μ Mt w H r ch w') (hk:a9k l fr frx) (hf:FR μ Mt w frx a'.tmps):asf CC μ Mt w H r ch l fr a' w':=by
 obtain ⟨c,μ2,Mt2,e,v,p⟩:=h;exact ⟨c,μ2,Mt2,frx,e,v,p,hk,hf.post h0 p⟩
theorem asz (hx:SimPan P CC pan) (h:HR CC μ Mt w H) {a:Act} {fr:List V} (hf:FR μ Mt w fr a.tmps) {o:Oper} {f:Opd} {xs:List Opd} (hc:asg P pure' o (.call f xs)) {base:Nat} {r:aaj}
 (hp:pan (ev fr f) (xs.map (ev fr)) base H r) {ro:Option Nat} {n:Nat} {next:Act→World→Prop} {Q:Exit→Act→World→Prop} (hQ:∀ ch w',a9s CC μ Mt w H r ch w'→Q (.panic ch) a w'):o.wpIn (Fw ro) n P a w next Q:=by
 rcases hc with hc | ⟨f',xs',hc,e⟩ | ⟨k,xs',hc,e⟩ | ⟨_,_,_,_,hc,e⟩ | e
 case inr.inl=>cases e
 case inr.inr.inl=>cases e
 case inr.inr.inr.inl=>cases e
 case inr.inr.inr.inr=>cases e
 rcases qa hc with ⟨g,args,ats,xs',y,ho,hxs,hy,⟨k,_,e⟩ | e⟩ | ⟨_,hnc,_⟩
 ·cases e
 ·cases e;refine ⟨fun _ _=>trivial,?_⟩
  rw [Oper.semAt_eq _ _ _ (by simp [ho])]
  have hexec:execOp a.eval o=(do let d ← resolve a.eval { callee:=.value g,args,argTypes:=ats } o.type;invoke d.target d.args):=by
   unfold execOp;rw [ho]
  rw [hexec];obtain ⟨k,x,z,ek⟩:=hx.only _ _ _ _ _ hp;have hv:=jm hf hy;rw [ek] at hv hp;generalize hfc:a.eval g=fc at hv;cases hv with
  | fn _ _ _ fst' cap' h1 h2 h3 h4=>
    obtain ⟨hent,hcall⟩:=hx.fn k x z _ base H r hp;have ha:=ag0 hf hxs
    have hvs:VRs μ Mt w (x ++ xs.map (ev fr) ++ z) (fst' ++ args.map a.eval ++ cap').toList:=by
     have hx':VRs μ Mt w x fst'.toList:=⟨by simpa using h1,fun i p q hp hq=>h3 i p q hp (by simpa using hq)⟩
     have hy':VRs μ Mt w z cap'.toList:=⟨by simpa using h2,fun i p q hp hq=>h4 i p q hp (by simpa using hq)⟩
     simpa using (hx'.append ha).append hy'
    have hrun:(do let d ← resolve a.eval { callee:=.value g,args,argTypes:=ats } o.type;invoke d.target d.args:Sem Next).run P w=.ok (.enter k (fst' ++ args.map a.eval ++ cap')) w:=by
     simp only [resolve,hfc,Deferred.ofValue,Sem.run_bind,Sem.run_pure,Result.andThen_ok,invoke,hent]
    rw [hrun];have hc:=hcall μ Mt w _ h hvs (n - 1);simp only [qh] at hc
    refine ⟨fun h=>by simp [Fw] at h,hc.mono ?_⟩
    rintro e w1 ⟨ch,rfl,hq⟩;exact hQ ch w1 hq
 ·simp [AOp.isCall] at hnc
theorem aol {base:Nat}:∀ (l:List AOper) (i:Nat) {fr:List V} {H:Heap} {v:V} {args:List V} {H1:Heap},ajw call base i l fr H=some (v,args,H1)→
 ∃ o f xs fr1,l[i]?=some o∧o.op=.call f xs∧jl call base (l.take i) fr H=some (fr1,H1)∧want o fr1=some true∧v=ev fr1 f∧args=xs.map (ev fr1):=by
 intro l
 induction l with
 | nil=>intro i fr H v args H1 h;cases i <;> cases h
 | cons o l ih=>
   intro i fr H v args H1 h;cases i with
   | zero=>
     simp only [ajw] at h;split at h
     ·rename_i hw;split at h
      ·rename_i f xs ho;cases h;exact ⟨o,f,xs,fr,rfl,ho,rfl,hw,rfl,rfl⟩
      ·cases h
     ·cases h
   | succ i=>
     simp only [ajw] at h;split at h
     ·cases h
     ·rename_i hw;obtain ⟨o',f,xs,fr1,h1,h2,h3,h4⟩:=ih i h
      refine ⟨o',f,xs,fr1,by simpa using h1,h2,?_,h4⟩
      simp only [bn,jl,hw];exact h3
     ·rename_i hw;split at h
      ·rename_i u H2 he;obtain ⟨o',f,xs,fr1,h1,h2,h3,h4⟩:=ih i h
       refine ⟨o',f,xs,fr1,by simpa using h1,h2,?_,h4⟩
       simp only [bn,jl,hw,he];exact h3
      ·cases h
theorem adu {d:Option Nat} {v:V} {fr:List V} {s:Nat} (h:d≠some s):(put d v fr).getD s .unk=fr.getD s .unk:=by
 by_cases hs:s < fr.length
 ·rw [adw _ _ _ _ hs,gu h]
 ·have h1:(put d v fr)[s]?=none:=List.getElem?_eq_none (by rw [zx];omega)
  have h2:fr[s]?=none:=List.getElem?_eq_none (by omega)
  simp [List.getD,h1,h2]
theorem asf.put {r:aaj} {ch:List PanicEntry} {l:List AOper} {fr:List V} {a':Act} {o:AOper} {v:V} (ho:o∈l) (h:asf CC μ Mt w H r ch l (Go.AM.put o.dst v fr) a' w'):asf CC μ Mt w H r ch l fr a' w':=by
 obtain ⟨c,μ2,Mt2,frx,e,u,p,k,f⟩:=h;exact ⟨c,μ2,Mt2,frx,e,u,p,fun s hs=>(k s hs).trans (adu (hs o ho)),f⟩
theorem aw3 (hs:SimCall P CC call) [BtOk CC P] (hx:SimPan P CC pan) {ops:Array Oper} {l:List AOper} (hr:apn P pure' ops l) {base:Nat} {ro:Option Nat} {n:Nat} {Q:Exit→Act→World→Prop} {v:V} {args:List V} {H1:Heap} {r:aaj}:
 ∀ (i k:Nat) (fr:List V) (H:Heap) (a:Act) (w:World) (μ:Mu) (Mt:Nat→Prop),HR CC μ Mt w H→FR μ Mt w fr a.tmps→ajw call base i (l.drop k) fr H=some (v,args,H1)→pan v args base H1 r→
   (∀ ch a' w',a'.defers=a.defers→asf CC μ Mt w H r ch l fr a' w'→Q (.panic ch) a' w')→wpOpsIn (Fw ro) n P ops Q ((List.range ops.size).drop k) a w:=by
 intro i
 induction i with
 | zero=>
   intro k fr H a w μ Mt h hf hev hp hQ
   have hlt:k < l.length:=by
    refine aga fun hc=>?_
    rw [um (by omega)] at hev
    cases hev
   have hlo:k < ops.size:=by rw [← hr.1];exact hlt
   have e1:(List.range ops.size).drop k=k :: (List.range ops.size).drop (k+1):=by
    rw [di (by simpa using hlo)];simp
   rw [e1];rw [di hlt] at hev;have ho:ops[k]?=some ops[k]:=Array.getElem?_eq_getElem hlo;obtain ⟨hd,hc,hg⟩:=hr.2 k ops[k] l[k] ho (List.getElem?_eq_getElem hlt);rw [wpOpsIn_cons];unfold wpOpIn;simp only [ho];simp only [ajw] at hev;split at hev
   ·rename_i hw;rw [yc hg hf hw];simp only [jc];split at hev
    ·rename_i f xs hop;cases hev;rw [hop] at hc;exact asz hx h hf hc hp fun ch w' hq=>hQ ch a w' rfl (hq.g h (fun _ _=>rfl) hf)
    ·cases hev
   ·cases hev
 | succ i ih=>
   intro k fr H a w μ Mt h hf hev hp hQ
   have hlt:k < l.length:=by
    refine aga fun hc=>?_
    rw [um (by omega)] at hev
    cases hev
   have hlo:k < ops.size:=by rw [← hr.1];exact hlt
   have e1:(List.range ops.size).drop k=k :: (List.range ops.size).drop (k+1):=by
    rw [di (by simpa using hlo)];simp
   rw [e1];rw [di hlt] at hev;have ho:ops[k]?=some ops[k]:=Array.getElem?_eq_getElem hlo;obtain ⟨hd,hc,hg⟩:=hr.2 k ops[k] l[k] ho (List.getElem?_eq_getElem hlt);rw [wpOpsIn_cons];unfold wpOpIn;simp only [ho];simp only [ajw] at hev;split at hev
   ·cases hev
   ·rename_i hw;rw [yc hg hf hw];simp only [j6,mr];refine ⟨fun _ _=>trivial,?_⟩;refine ih (k+1) _ H _ w μ Mt h (hd ▸ hf.put _ (.s _)) hev hp (fun ch a' w' hd' hq=>hQ ch a' w' ?_ (asf.put (ql hlt) hq));rw [hd',put_defers]
   ·rename_i hw;rw [yc hg hf hw];simp only [jc];split at hev
    ·rename_i u H2 hop;refine aby hs h hf hc hop ?_;rintro q w1 ⟨c,μ1,Mt1,e,hv,hpp⟩;cases e;refine ih (k+1) _ H2 _ w1 μ1 Mt1 hpp.hr (hd ▸ (hf.post h hpp).put _ hv) hev hp (fun ch a' w' hd' hq=>hQ ch a' w' ?_ ((asf.put (ql hlt) hq).trans hpp));rw [hd',put_defers]
    ·cases hev
theorem ajn {c c':kz} {base:Nat} {fr:List V} {H:Heap} {op:AOp} (h:op.isCall=false):je c base fr H op=je c' base fr H op:=by
 cases op <;> first | rfl | (simp [AOp.isCall] at h;done)
theorem aph (u:V):∀ v args base H r H',yx u v args base H=some (r,H')→H.length≤H'.length∧∀ id,id < base→id < H.length→H'[id]?=H[id]?:=by
 intro v args base H r H' h;cases h;exact ⟨ag _,fun _ _ _=>rfl⟩
theorem akz {o:Oper} {ao:AOp} (h:asg P pure' o ao) (hc:ao.isCall=true):ae2 o=true:=by
 have key:∀ ao',xx P pure' o=some ao'→ao'.isCall=true→ae2 o=true:=fun ao' h2 hc2=>by
  rcases qa h2 with ⟨g,args,ats,xs',y,ho,_⟩ | ⟨_,hnc,_⟩
  ·unfold ae2;rw [ho]
  ·rw [hnc] at hc2;cases hc2
 rcases h with h | ⟨f',xs',h,e⟩ | ⟨k,xs',h,e⟩ | ⟨_,_,_,_,h,e⟩ | e
 ·exact key _ h hc
 ·exact key _ h rfl
 ·exact key _ h rfl
 ·rw [e] at hc;cases hc
 ·rw [e] at hc;cases hc
theorem asr (hs:SimCall P CC call) [BtOk CC P] (hx:SimPan P CC pan) {ops:Array Oper} {l:List AOper} {chk:List (Nat × Nat)} (hr:apn P pure' ops l) (hd:aec (Region.before ops).toList chk l=true∧ac3 ops=true) (hone:bdm ops)
 {base:Nat} {ro:Option Nat} {n:Nat} {Q:Exit→Act→World→Prop} {fr:List V} {H:Heap} {r:aaj} {C:aca} (hev:bco call pan base C l chk fr H r) {a:Act} {w:World} {μ:Mu} {Mt:Nat→Prop} (h:HR CC μ Mt w H) (hf:FR μ Mt w fr a.tmps)
 (hQ:∀ ch a' w',a'.defers=a.defers→asf CC μ Mt w H r ch l fr a' w'→Q (.panic ch) a' w'):wpAnyIn (Fw ro) n P .any ops Q ops.size (Array.replicate ops.size false) a { w with drawn:=w.drawn+1 }:=by
 obtain ⟨_,⟨i,v,args,H1,hX,hp⟩,u,frE,HE,hE,hchk⟩:=hev;obtain ⟨o,f,xs,fr1,h1,h2,h3,h4,rfl,rfl⟩:=aol l i hX;have hil:i < l.length:=(List.getElem?_eq_some_iff.1 h1).1;have hgi:l.getD i default=o:=zf h1
 have hno:∀ k,k < l.length→k≠i→(l.getD k default).op.isCall=false:=by
  intro k hk hne;cases hc:(l.getD k default).op.isCall with
  | false=>rfl
  | true=>
    exfalso
    have hk':k < ops.size:=by rw [← hr.1];exact hk
    have hi':i < ops.size:=by rw [← hr.1];exact hil
    have gk:l[k]?=some (l.getD k default):=by rw [List.getElem?_eq_getElem hk,zf (List.getElem?_eq_getElem hk)]
    have ck:=(hr.2 k ops[k] _ (Array.getElem?_eq_getElem hk') gk).2.1;have ci:=(hr.2 i ops[i] _ (Array.getElem?_eq_getElem hi') h1).2.1
    exact hne (hone k i _ _ (Array.getElem?_eq_getElem hk') (Array.getElem?_eq_getElem hi') (akz ck hc) (akz ci (by rw [h2];rfl)))
 have hoA:aa4 (Region.before ops).toList chk l=true:=by
  cases e:aa4 (Region.before ops).toList chk l with
  | true=>rfl
  | false=>
    exfalso;have h5:=hd.1;unfold aec at h5;rw [e,atv,ak] at h5;have h6:=h5.2;unfold ady at h6;simp only [ak,aj] at h6;have h7:=h6.1.2 o (List.mem_of_getElem? h1);rw [h2] at h7;simp [au4,AOp.cls,AOp.isCall,AOp.isNew,AOp.isSt,AOp.isCR] at h7
 obtain ⟨F,G,val,a1,a2,a3,a4,a5⟩:=ajj _ _ _ _ _ hE;have R:Row P pure' (yx u) base ops l chk fr frE H HE F G val:=⟨hr,hoA,hd.2,a1,a2,a3,a4,a5,hchk,aph u⟩
 have pre:∀ k,k≤i→jl call base (l.take k) fr H=some (F k,G k):=by
  intro k
  induction k with
  | zero=>intro _;rw [dx,a1,a2];rfl
  | succ k ih=>
    intro hk
    have hkl:k < l.length:=by omega
    have hg:l[k]?=some (l.getD k default):=by rw [List.getElem?_eq_getElem hkl,zf (List.getElem?_eq_getElem hkl)]
    rw [List.take_add_one,hg,adm,ih (by omega)]
    obtain ⟨t1,t2⟩:=a5 k _ hg;simp only [af5,jl]
    rcases t2 with ⟨hw,hv,hG⟩ | ⟨hw,hop⟩
    ·rw [hw,t1,hv,hG]
    ·rw [hw];simp only
     rw [ajn (c':=yx u) (hno k hkl (by omega)),hop,t1]
 have hpi:=pre i (ag _);rw [h3] at hpi;cases hpi
 have hM:(l.getD i default).op.isM=true:=by rw [hgi,h2];rfl
 have hrep:∀ k,(Array.replicate ops.size false).getD k false=false:=by
  intro k;by_cases hk:k < ops.size <;> simp [hk]
 have p1:Post CC μ Mt w H μ Mt { w with drawn:=w.drawn+1 } H:=afp h rfl rfl rfl rfl
 refine ass R h (some i) (fun j e=>by cases e;exact hil) (fun k ok hok hkl hne hc frX μ1 Mt1 w1 a1' p vv K next hh hff he hn=>?_) (fun j oj e hoj hc=>?_) ops.size _ a _ μ Mt 0 (by simp [hr.1]) ?_ ?_ (fun j _=>hrep j) (iw _) (fun k hk=>by omega) (fun k _ _ _=>hrep k) (by rw [a2];exact p1) ?_ rfl (fun e=>by cases e)
 ·have hnc:=hno k hkl (fun e=>hne (by rw [e]))
  rw [ajn (c':=call) hnc] at he;exact aby hs hh hff hc he hn
 ·cases e
  refine ⟨hM,by rw [hgi];exact h4,fun frX μ1 Mt1 w1 a1' next hpp hff hrd hkp hds=>?_⟩
  rw [hgi,h2] at hc
  have hev':ev frX f=ev (F i) f∧xs.map (ev frX)=xs.map (ev (F i)):=by
   have hop:∀ x∈(AOp.call f xs).opds,ev frX x=ev (F i) x:=fun x hx=>adf (o:=o) (by rw [h2];exact hx) (by rw [← hgi];exact hrd)
   exact ⟨hop f d9,pu fun x hx=>hop x (dh _ hx)⟩
  refine asz hx hpp.hr hff hc (by rw [hev'.1,hev'.2];exact hp) fun ch w' hq=>hQ ch a1' w' hds ((hq.g hpp.hr (fun s hs=>hkp s fun k hk=>?_) hff).trans hpp)
  have gk:l[k]?=some (l.getD k default):=by rw [List.getElem?_eq_getElem hk,zf (List.getElem?_eq_getElem hk)]
  exact hs _ (List.mem_of_getElem? gk)
 ·unfold su;refine ko ak6 ?_;simp [hr.1]
 ·intro j hj
  exact absurd ((hrep j).symm.trans hj) (by simp)
 ·have:(SF (qw l) val fr l.length fun k=>(Array.replicate ops.size false).getD k false)=fr:=by
   refine abo pq fun s hs=>?_;rw [pq] at hs;rw [aao,ed hs,abn (i:=0) l.length fun k _ _=>?_]
   ·simp [lw]
   ·rw [hrep k];simp
  rw [this];exact hf.post h p1
def bcm (P:Program) (CC:CX) (C:aca) (ro:Option Nat) (n:Nat) (c:Code) (X:List V→Heap→aaj→Prop):Prop:=
 ∀ (fr:List V) (H:Heap) (r:aaj),X fr H r→∀ (μ:Mu) (Mt:Nat→Prop) (w:World) (a:Act) (Q:Exit→Act→World→Prop),HR CC μ Mt w H→FR μ Mt w fr a.tmps→(∀ l,ro=some l→∃ r,w.heap[l]?=some (.loop r))→
   (∀ ch a' w',az5 CC C μ Mt w H a.defers r ch a' w'→Q (.panic ch) a' w')→c.wpIn (Fw ro) n P Q a w
theorem ax3 {C:aca} {ro:Option Nat} {n:Nat} {c:Code} {b:List V→Heap→Option St} {x:List V→Heap→aaj→Prop} (hb:bdt P CC ro n c b) (hxx:bcm P CC C ro n c x) (kill:List Nat) (m:Nat) {fr:List V} {H:Heap} {r:aaj} (hl:PanL b x kill m fr H r):
 ∀ (μ:Mu) (Mt:Nat→Prop) (w:World) (a:Act) (Q:Exit→Act→World→Prop) (μ0:Mu) (Mt0:Nat→Prop) (w0:World) (H0:Heap) (ds:List Deferred),HR CC μ0 Mt0 w0 H0→H0.length≤m→m≤H.length→
   Post CC μ0 Mt0 w0 H0 μ Mt w H→Marks w0.heap.size μ w a.defers ds→FR μ Mt w fr a.tmps→(∀ l,ro=some l→∃ r,w.heap[l]?=some (.loop r))→
   (∀ ch a' w',az5 CC C μ0 Mt0 w0 H0 ds r ch a' w'→Q (.panic ch) a' w')→∃ k,Code.roundsIn (Fw ro) n P c Q k a w:=by
 induction hl with
 | here h=>
   intro μ Mt w a Q μ0 Mt0 w0 H0 ds h0 hm0 hm hp hmk hf hro hQ;refine ⟨1,?_⟩;rw [roundsIn_succ];refine hxx _ _ _ h μ Mt w a _ hp.hr hf hro fun ch a' w' hq=>hQ ch a' w' (az5.trans hp hmk hq)
 | next h k ih=>
   rename_i fr1 fr2 H1 H2 r1;intro μ Mt w a Q μ0 Mt0 w0 H0 ds h0 hm0 hm hp hmk hf hro hQ;have key:∀ (l:List V) (K:Heap) (q:aaj),PanL b x kill m l K q→∃ N,∀ (μ:Mu) (Mt:Nat→Prop) (w:World) (a:Act) (Q:Exit→Act→World→Prop) (μ0:Mu) (Mt0:Nat→Prop) (w0:World) (H0:Heap) (ds:List Deferred),HR CC μ0 Mt0 w0 H0→H0.length≤m→m≤K.length→
    Post CC μ0 Mt0 w0 H0 μ Mt w K→Marks w0.heap.size μ w a.defers ds→FR μ Mt w l a.tmps→(∀ l,ro=some l→∃ r,w.heap[l]?=some (.loop r))→
    (∀ ch a' w',az5 CC C μ0 Mt0 w0 H0 ds q ch a' w'→Q (.panic ch) a' w')→Code.roundsIn (Fw ro) n P c Q N a w:=by
    intro l K q hq
    induction hq with
    | here h=>
      refine ⟨1,fun μ Mt w a Q μ0 Mt0 w0 H0 ds h0 hm0 hm hp hmk hf hro hQ=>?_⟩;rw [roundsIn_succ];exact hxx _ _ _ h μ Mt w a _ hp.hr hf hro fun ch a' w' hq=>hQ ch a' w' (az5.trans hp hmk hq)
    | next h k ih=>
      obtain ⟨N,hN⟩:=ih;refine ⟨N+1,fun μ Mt w a Q μ0 Mt0 w0 H0 ds h0 hm0 hm hp hmk hf hro hQ=>?_⟩;rw [roundsIn_succ];refine hb _ _ .nrm _ _ h μ Mt w a _ hp.hr hf hro ?_;rintro a1 w1 ⟨μ1,Mt1,p1,f1,m1⟩;have hpp:=hp.trans p1;obtain ⟨μ2,p2,f2,s2,l2⟩:=aff hpp h0.dom hm0 (ko hm p1.len) (f1.kill kill);have mk2:=(hmk.trans p1 hp.tr.size m1).sub s2;refine hN μ2 Mt1 w1 a1 Q μ0 Mt0 w0 H0 ds h0 hm0 l2 p2 mk2 f2 (fun l hl=>?_) hQ;obtain ⟨r,hr⟩:=hro l hl;exact p1.tr.loops l r hr
   obtain ⟨N,hN⟩:=key _ _ _ (.next h k)
   exact ⟨N,hN μ Mt w a Q μ0 Mt0 w0 H0 ds h0 hm0 hm hp hmk hf hro hQ⟩
theorem asw (hs:SimCall P (CR P pure') call) (hx:SimPan P (CR P pure') pan) (hmix:P.follows .mixedOrders=true) (nn base:Nat) {C:aca} {c:Code} {ac:ACode} (hc:CodeR P pure' c ac) (hone:amh c=true):
 ∀ (ro:Option Nat) (n:Nat),bcm P (CR P pure') C ro n c (abf call pan (fun b k m=>q9 b k m nn) base C ac):=by
 induction hc with
 | skip=>intro ro n fr H r h;exact h.elim
 | label l=>intro ro n fr H r h;exact h.elim
 | exit id=>intro ro n fr H r h;exact h.elim
 | ret=>intro ro n fr H r h;exact h.elim
 | regionE=>intro ro n fr H r h;exact h.elim
 | regionPE=>intro ro n fr H r h;exact h.elim
 | rangeFunc=>intro ro n fr H r h;exact h.elim
 | region id ops draw l chk kill hr hd=>
   intro ro n fr H r hev μ Mt w a Q h hf hro hQ;have hev:bco call pan base C l chk fr H r:=hev
   have hq:∀ ch a' w',a'.defers=a.defers→asf (CR P pure') μ Mt w H r ch l fr a' w'→Q (.panic ch) a' w':=fun ch a' w' hd' hq=>hQ ch a' w' (by rw [← hd'];exact hq.e (C:=C) hev.1)
   cases draw with
   | false=>
     obtain ⟨_,⟨i,v,args,H1,hX,hp⟩,_⟩:=hev;refine wpIn_region ?_
     have:=aw3 (Q:=Q) (ro:=ro) (n:=n) hs hx hr i 0 fr H a w μ Mt h hf (by simpa using hX) hp hq
     simpa using this
   | true=>exact wpIn_region_any hmix (asr hs hx hr (hd rfl) (axv (by simpa [amh] using hone)) hev h hf hq)
 | regionP id ops π l chk kill hp hr hd=>
   intro ro n fr H r hev μ Mt w a Q h hf hro hQ
   have hq:∀ ch a' w',a'.defers=a.defers→asf (CR P pure') μ Mt w H r ch l fr a' w'→Q (.panic ch) a' w':=fun ch a' w' hd' hq=>hQ ch a' w' (by rw [← hd'];exact hq.e (C:=C) hev.1)
   exact wpIn_region_any hmix (aay hp (asr hs hx hr hd ((axv (by simpa [amh] using hone)).perm (aof hp)) hev h hf hq))
 | seq x y ax ay hcx _ ihx ihy=>
   intro ro n fr H r hev μ Mt w a Q h hf hro hQ;simp only [amh,ak] at hone;refine wpIn_seq ?_
   rcases hev with hev | ⟨fr1,H1,h1,h2⟩
   ·exact ihx hone.1 ro n _ _ _ hev μ Mt w a _ h hf hro fun ch a' w' hq=>hQ ch a' w' hq
   ·refine ag6 hs hmix nn base hcx ro n _ _ _ _ _ h1 μ Mt w a _ h hf hro ?_;rintro a1 w1 ⟨μ1,Mt1,p1,f1,m1⟩;refine ihy hone.2 ro n _ _ _ h2 μ1 Mt1 w1 a1 Q p1.hr f1 (fun l hl=>?_) (fun ch a2 w2 hq=>hQ ch a2 w2 (az5.trans p1 m1 hq));obtain ⟨q,hq⟩:=hro l hl;exact p1.tr.loops l q hq
 | cond c o x y ax ay hco _ _ ihx ihy=>
   intro ro n fr H r hev μ Mt w a Q h hf hro hQ;simp only [amh,ak] at hone;have hv:=jm hf hco
   rcases hev with ⟨he,hev⟩ | ⟨he,hev⟩
   ·rw [he] at hv;exact wpIn_cond_true (yf hv) (ihx hone.1 ro n _ _ _ hev μ Mt w a Q h hf hro hQ)
   ·rw [he] at hv;exact wpIn_cond_false (yf hv) (ihy hone.2 ro n _ _ _ hev μ Mt w a Q h hf hro hQ)
 | block id c x _ ih=>
   intro ro n fr H r hev μ Mt w a Q h hf hro hQ;refine wpIn_block ?_;exact ih hone ro n _ _ _ hev μ Mt w a _ h hf hro fun ch a' w' hq=>hQ ch a' w' hq
 | loop c kill x hcx ih=>
   intro ro n fr H r hev μ Mt w a Q h hf hro hQ;obtain ⟨k,hk⟩:=ax3 (ag6 hs hmix nn base hcx ro n) (ih hone ro n) kill H.length hev μ Mt w a Q μ Mt w H a.defers h (ag _) (ag _) (Post.refl h) (Marks.refl _ _ _ _) (hf.kill kill) hro hQ;exact wpIn_loop_rounds k hk
theorem aux {base:Nat} (hfl:∀ v args base H r H',call v args base H=some (r,H')→H.length≤H'.length∧∀ id,id < base→id < H.length→H'[id]?=H[id]?) {i:Nat} {l:List AOper} {fr:List V} {H:Heap} {v:V} {args:List V} {H1:Heap} (h:ajw call base i l fr H=some (v,args,H1)):Floor base H H1:=by
 obtain ⟨o,f,xs,fr1,_,_,h3,_⟩:=aol l i h;exact ae4 hfl _ h3
theorem akk (hfl:∀ v args base H r H',call v args base H=some (r,H')→H.length≤H'.length∧∀ id,id < base→id < H.length→H'[id]?=H[id]?) (hpf:∀ v args base H r,pan v args base H r→Floor base H r.2.2) (nn base:Nat) {C:aca}:∀ (ac:ACode) {fr:List V} {H:Heap} {r:aaj},abf call pan (fun b k m=>q9 b k m nn) base C ac fr H r→Floor base H r.2.2:=by
 intro ac
 induction ac with
 | region ops chk kill=>
   intro fr H r he;obtain ⟨_,⟨i,v,args,H1,h1,h2⟩,_⟩:=he;exact (aux hfl h1).trans (hpf _ _ _ _ _ h2)
 | seq a b iha ihb=>
   intro fr H r he
   rcases he with he | ⟨fr1,H1,h1,h2⟩
   ·exact iha he
   ·exact (ut hfl nn a h1).trans (ihb h2)
 | cond o a b iha ihb=>
   intro fr H r he
   rcases he with ⟨_,h2⟩ | ⟨_,h2⟩
   ·exact iha h2
   ·exact ihb h2
 | block id a ih=>intro fr H r he;exact ih (fr:=fr) he
 | loop kill a ih=>
   intro fr H r he;have he:PanL (fun fr H=>evC call (fun b k m=>q9 b k m nn) base a fr H) (fun fr H r=>abf call pan (fun b k m=>q9 b k m nn) base C a fr H r) kill H.length (ou kill fr) H r:=he
   suffices h:∀ (m:Nat) fr K r,PanL (fun fr H=>evC call (fun b k m=>q9 b k m nn) base a fr H) (fun fr H r=>abf call pan (fun b k m=>q9 b k m nn) base C a fr H r) kill m fr K r→m≤K.length→m≤r.2.2.length∧∀ id,id < base→id < m→r.2.2[id]?=K[id]? by
    obtain ⟨h1,h2⟩:=h _ _ _ _ he (ag _);exact ⟨h1,h2⟩
   intro m fr K r hl
   induction hl with
   | here h=>
     intro hm;have f:=ih h;exact ⟨ko hm f.1,fun id h1 h2=>f.2 id h1 (ig h2 hm)⟩
   | next h _ ih2=>
     intro hm;have f:=ut hfl nn a h;rename_i fr1 fr' K1 K' r1 _;obtain ⟨t1,t2⟩:=afg (fr:=ou kill fr') (ko hm f.1);obtain ⟨r1,r2⟩:=ih2 t1;exact ⟨r1,fun id h1 h2=>(r2 id h1 h2).trans ((t2 id h2).trans (f.2 id h1 (ig h2 hm)))⟩
 | _=>intro fr H r he;exact he.elim
end
open Go.RowKit
def az3 (CP:Nat→Option CFun) (PP:Nat→List V→Nat→Heap→aaj→Prop) (X:Nat→Bool):Nat→atr
 | 0=>fun _ _ _ _ _=>False
 | n+1=>fun v args base H r=>∃ f fst cap,v=.fn f fst cap∧
    ((X f=true∧∃ c,CP f=some (.code c)∧abf (xh CP n) (az3 CP PP X n) (fun b k m=>q9 b k m n) base (fun _ _=>True) c.body (fst ++ args ++ cap ++ List.replicate (c.ntmps - (fst ++ args ++ cap).length) und) H r)∨PP f (fst ++ args ++ cap) base H r)
section
variable {CC:CX} {μ μ':Mu} {Mt Mt':Nat→Prop} {w w':World} {H H':Heap} {P:Program} {pure':PX}
theorem aml {μ0:Mu} {Mt0:Nat→Prop} {w0:World} {H0:Heap} {fn:Func} {tmps:Array Value} {x:V} {c:Value} {R:Ending→World→Prop} {n:Nat} {ch:List PanicEntry}
 (hfin:∀ w',Post CC μ0 Mt0 w0 H0 μ Mt w' H→VR μ Mt w' x c→R (.panicked ch) w'):
 ∀ (L:List Nat) (w:World),Post CC μ0 Mt0 w0 H0 μ Mt w H→VR μ Mt w x c→L.Nodup→(∀ D∈L,w0.heap.size≤D∧w.heap[D]?=some (.deferred (some []))∧∀ id g b,μ id g≠some (D,b))→
   LeavesInM Fence.wide n P fn tmps R (L.map as4) (.panicking ch) w:=by
 intro L
 induction L with
 | nil=>intro w hp hf _ _;exact hfin w hp hf
 | cons D L ih=>
   intro w hp hf hnd hL;obtain ⟨h1,h2,h3⟩:=hL D d9
   refine ⟨by simp,.inl ⟨D,_,rfl,run_takeDeferred h2,?_⟩⟩
   obtain ⟨p1,hv⟩:=ai5 (y:=none) hp h1 h2 h3;refine ih _ p1 (hv hf) (abr.1 hnd).2 (fun E hE=>?_);obtain ⟨k1,k2,k3⟩:=hL E (dh _ hE)
   have hne:E≠D:=fun e=>by subst e;exact (abr.1 hnd).1 hE
   exact ⟨k1,(World.putObj_heap_other hne).trans k2,k3⟩
def a9i (P:Program) (pure':PX) (PP:Nat→List V→Nat→Heap→aaj→Prop):Prop:=
 ∀ k vs base H r,PP k vs base H r→Floor base H r.2.2∧(∀ xs w,(callFunc k xs).run P w=.ok (.enter k xs) w)∧
   ∀ μ Mt w cs,HR (CR P pure') μ Mt w H→VRs μ Mt w vs cs→∀ n,CallsIn Fence.wide n P k cs.toArray w (fun e w'=>∃ ch,e=.panicked ch∧a9s (CR P pure') μ Mt w H r ch w')
variable {CP:Nat→Option CFun} {PP:Nat→List V→Nat→Heap→aaj→Prop} {X:Nat→Bool}
theorem a1k (hmix:P.follows .mixedOrders=true) (hCP:∀ k c,CP k=some c→abh P pure' k c) (hone:∀ k fn body,X k=true→P.funcs[k]?=some fn→fn.body=some body→amh body=true) (hPP:a9i P pure' PP):∀ n,SimPan P (CR P pure') (az3 CP PP X n):=by
 intro n
 induction n with
 | zero=>exact ⟨fun _ _ _ _ _ _ _ h=>h.elim,fun _ _ _ _ _ h=>h.elim,fun _ _ _ _ _ h=>h.elim⟩
 | succ n ih=>
   refine ⟨fun f fst cap args base H r h=>?_,fun v args base H r h=>by obtain ⟨f,fst,cap,e,_⟩:=h;exact ⟨f,fst,cap,e⟩,fun v args base H r h=>by
    obtain ⟨f,fst,cap,e,⟨_,c,_,hpan⟩ | hpan⟩:=h
    ·exact akk (aa9 hmix hCP n).floor ih.floor n base c.body hpan
    ·exact (hPP _ _ _ _ _ hpan).1⟩
   obtain ⟨f',fst',cap',e,h⟩:=h;cases e
   rcases h with ⟨hX,c,hc,hpan⟩ | h
   ·obtain ⟨fn,body,h1,h2,h3,h4,h5,h6⟩:=hCP f _ hc;refine ⟨Go.Proofs.enters_of h1 h3 h2,fun μ Mt w cs hh hvs m=>?_⟩;refine callsIn_of_wp_marks h1 h2 trivial ?_
    have hf0:FR μ Mt w (fst ++ args ++ cap ++ List.replicate (c.ntmps - (fst ++ args ++ cap).length) und) (cs.toArray ++ Array.replicate (fn.ntmps - cs.toArray.size) Go.undef):=by
     unfold FR;have:=hvs.append (aaf (μ:=μ) (Mt:=Mt) (w:=w) (c.ntmps - (fst ++ args ++ cap).length));simp only [aek,acb,nz,h5];rw [hvs.1] at this ⊢;exact this
    refine asw (aa9 hmix hCP n) ih hmix n base h4 (hone _ _ _ hX h1 h2) none m _ H r hpan μ Mt w { tmps:=cs.toArray ++ Array.replicate (fn.ntmps - cs.toArray.size) Go.undef,defers:=[] } _ hh hf0 (fun l hl=>by cases hl) ?_
    rintro ch a' w' ⟨cv,μ1,Mt1,_,_,_,e1,v1,p1,⟨L,hL,hnd,hLs⟩,_⟩;show LeavesInM Fence.wide m P fn a'.tmps _ a'.defers (.panicking ch) w';rw [hL,abt];exact aml (μ:=μ1) (Mt:=Mt1) (x:=r.2.1) (c:=cv) (fun w2 p2 v2=>⟨ch,rfl,cv,μ1,Mt1,e1,v2,p2⟩) L w' p1 v1 hnd hLs
   ·exact (hPP f _ base H r h).2
end
section
variable {CP:Nat→Option CFun} {PP:Nat→List V→Nat→Heap→aaj→Prop} {X:Nat→Bool}
def PLe (p p':atr):Prop:=∀ v args base H r,p v args base H r→p' v args base H r
theorem aqz {c c':kz} (h:Le c c') {base:Nat}:∀ (i:Nat) (l:List AOper) {fr:List V} {H:Heap} {r:V × List V × Heap},ajw c base i l fr H=some r→ajw c' base i l fr H=some r:=by
 intro i
 induction i with
 | zero=>intro l fr H r he;cases l <;> exact he
 | succ i ih=>
   intro l fr H r he;cases l with
   | nil=>exact he
   | cons o l=>
     simp only [ajw] at he ⊢;split at he
     ·cases he
     ·exact ih l he
     ·split at he
      ·rename_i v H1 h1;rw [amz h h1];exact ih l he
      ·cases he
theorem a6e {C:aca} {c c':kz} {p p':atr} (h:Le c c') (k:PLe p p') {base:Nat} {ops:List AOper} {chk:List (Nat × Nat)} {fr:List V} {H:Heap} {r:aaj} (he:bco c p base C ops chk fr H r):bco c' p' base C ops chk fr H r:=by
 obtain ⟨h0,⟨i,v,args,H1,h1,h2⟩,h3⟩:=he;exact ⟨h0,⟨i,v,args,H1,aqz h i ops h1,k _ _ _ _ _ h2⟩,h3⟩
theorem axh {b b':List V→Heap→Option St} {x x':List V→Heap→aaj→Prop} (hb:∀ fr H r,b fr H=some r→b' fr H=some r) (hx:∀ fr H r,x fr H r→x' fr H r) {kill:List Nat} {m:Nat} {fr:List V} {H:Heap} {r:aaj} (h:PanL b x kill m fr H r):PanL b' x' kill m fr H r:=by
 induction h with
 | here h=>exact .here (hx _ _ _ h)
 | next h _ ih=>exact .next (hb _ _ _ h) ih
theorem amg {C:aca} {c c':kz} {p p':atr} (h:Le c c') (k:PLe p p') {n n':Nat} (hn:n≤n') {base:Nat}:∀ (ac:ACode) {fr:List V} {H:Heap} {r:aaj},abf c p (itN n) base C ac fr H r→abf c' p' (itN n') base C ac fr H r:=by
 intro ac
 induction ac with
 | region ops chk kill=>intro fr H r he;exact a6e h k he
 | seq a b iha ihb=>
   intro fr H r he
   rcases he with he | ⟨fr1,H1,h1,h2⟩
   ·exact .inl (iha he)
   ·exact .inr ⟨fr1,H1,ahn h hn a h1,ihb h2⟩
 | cond o a b iha ihb=>
   intro fr H r he
   rcases he with ⟨h1,h2⟩ | ⟨h1,h2⟩
   ·exact .inl ⟨h1,iha h2⟩
   ·exact .inr ⟨h1,ihb h2⟩
 | block id a ih=>intro fr H r he;exact ih (fr:=fr) he
 | loop kill a ih=>intro fr H r he;exact axh (fun fr H r e=>ahn h hn a e) (fun fr H r e=>ih e) he
 | _=>intro fr H r he;exact he.elim
theorem axg:∀ n,PLe (az3 CP PP X n) (az3 CP PP X (n+1)):=by
 intro n
 induction n with
 | zero=>intro v args base H r h;exact h.elim
 | succ n ih=>
   intro v args base H r h;obtain ⟨f,fst,cap,e,h⟩:=h;refine ⟨f,fst,cap,e,?_⟩
   rcases h with ⟨hX,c,hc,h⟩ | h
   ·exact .inl ⟨hX,c,hc,amg (ag7 n) ih (Nat.le_succ n) c.body h⟩
   ·exact .inr h
theorem amf {n m:Nat} (h:n≤m):PLe (az3 CP PP X n) (az3 CP PP X m):=by
 induction h with
 | refl=>exact fun _ _ _ _ _ h=>h
 | step _ ih=>exact fun v args base H r h=>axg _ _ _ _ _ _ (ih _ _ _ _ _ h)
def anm (CP:Nat→Option CFun) (PP:Nat→List V→Nat→Heap→aaj→Prop) (X:Nat→Bool):atr:=fun v args base H r=>∃ n,az3 CP PP X n v args base H r
theorem axn {base:Nat}:∀ (i:Nat) (l:List AOper) {fr:List V} {H:Heap} {r:V × List V × Heap},ajw (dw CP) base i l fr H=some r→∃ n,ajw (xh CP n) base i l fr H=some r:=by
 intro i
 induction i with
 | zero=>intro l fr H r he;refine ⟨0,?_⟩;cases l <;> exact he
 | succ i ih=>
   intro l fr H r he;cases l with
   | nil=>exact ⟨0,he⟩
   | cons o l=>
     simp only [ajw] at he;split at he
     ·cases he
     ·rename_i hw;obtain ⟨n,hn⟩:=ih l he;refine ⟨n,?_⟩;simp only [ajw,hw];exact hn
     ·rename_i hw;split at he
      ·rename_i v H1 h1;obtain ⟨n1,hn1⟩:=ao8 h1;obtain ⟨n2,hn2⟩:=ih l he;refine ⟨max n1 n2,?_⟩;simp only [ajw,hw];rw [amz (vz (o8 n1 n2)) hn1];exact aqz (vz (kg n1 n2)) i l hn2
      ·cases he
theorem aoj {C:aca} {base:Nat}:∀ (ac:ACode) {fr:List V} {H:Heap} {r:aaj},abf (dw CP) (anm CP PP X) itW base C ac fr H r→∃ n,abf (xh CP n) (az3 CP PP X n) (itN n) base C ac fr H r:=by
 intro ac
 induction ac with
 | region ops chk kill=>
   intro fr H r he;obtain ⟨h0,⟨i,v,args,H1,h1,n2,h2⟩,h3⟩:=he;obtain ⟨n1,hn1⟩:=axn i ops h1;exact ⟨max n1 n2,h0,⟨i,v,args,H1,aqz (vz (o8 n1 n2)) i ops hn1,amf (kg n1 n2) _ _ _ _ _ h2⟩,h3⟩
 | seq a b iha ihb=>
   intro fr H r he
   rcases he with he | ⟨fr1,H1,h1,h2⟩
   ·obtain ⟨n,hn⟩:=iha he;exact ⟨n,.inl hn⟩
   ·obtain ⟨n1,hn1⟩:=yg a h1;obtain ⟨n2,hn2⟩:=ihb h2;exact ⟨max n1 n2,.inr ⟨fr1,H1,yw (o8 n1 n2) hn1,amg (vz (kg n1 n2)) (amf (kg n1 n2)) (kg n1 n2) b hn2⟩⟩
 | cond o a b iha ihb=>
   intro fr H r he
   rcases he with ⟨h1,h2⟩ | ⟨h1,h2⟩
   ·obtain ⟨n,hn⟩:=iha h2;exact ⟨n,.inl ⟨h1,hn⟩⟩
   ·obtain ⟨n,hn⟩:=ihb h2;exact ⟨n,.inr ⟨h1,hn⟩⟩
 | block id a ih=>intro fr H r he;exact ih (fr:=fr) he
 | loop kill a ih=>
   intro fr H r he;have he:PanL (fun fr H=>evC (dw CP) itW base a fr H) (fun fr H r=>abf (dw CP) (anm CP PP X) itW base C a fr H r) kill H.length (ou kill fr) H r:=he
   suffices h:∀ m fr H r,PanL (fun fr H=>evC (dw CP) itW base a fr H) (fun fr H r=>abf (dw CP) (anm CP PP X) itW base C a fr H r) kill m fr H r→∃ n,PanL (fun fr H=>evC (xh CP n) (itN n) base a fr H) (fun fr H r=>abf (xh CP n) (az3 CP PP X n) (itN n) base C a fr H r) kill m fr H r from h _ _ _ _ he
   intro m fr H r he
   induction he with
   | here h=>obtain ⟨n,hn⟩:=ih h;exact ⟨n,.here hn⟩
   | next h _ ih2=>
     obtain ⟨n1,hn1⟩:=yg a h;obtain ⟨n2,hn2⟩:=ih2
     refine ⟨max n1 n2,.next (yw (o8 n1 n2) hn1) (axh (fun fr H r e=>?_) (fun fr H r e=>?_) hn2)⟩
     ·exact yw (kg n1 n2) e
     ·exact amg (vz (kg n1 n2)) (amf (kg n1 n2)) (kg n1 n2) a e
 | _=>intro fr H r he;exact he.elim
theorem aa2 {f:Nat} {c:ACFun} (hX:X f=true) (hf:CP f=some (.code c)) {fst args cap:List V} (hl:(fst ++ args ++ cap).length≤c.ntmps) {base:Nat} {H:Heap} {r:aaj}
 (h:abf (dw CP) (anm CP PP X) itW base (fun _ _=>True) c.body (fe c.ntmps (qb c.ntmps (fst ++ args ++ cap) 0)) H r):anm CP PP X (.fn f fst cap) args base H r:=by
 obtain ⟨n,hn⟩:=aoj c.body h;refine ⟨n+1,f,fst,cap,rfl,.inl ⟨hX,c,hf,?_⟩⟩;rw [start_eq hl];exact hn
theorem axf {f:Nat} {fst args cap:List V} {base:Nat} {H:Heap} {r:aaj} (h:PP f (fst ++ args ++ cap) base H r):anm CP PP X (.fn f fst cap) args base H r:=⟨1,f,fst,cap,rfl,.inr h⟩
theorem eu {C:aca} {call:kz} {pan:atr} {it:yn} {base:Nat} {a b:ACode} {fr fr1:List V} {H H1:Heap} {r:aaj} (h:evC call it base a fr H=some (.nrm,fr1,H1)) (k:abf call pan it base C b fr1 H1 r):abf call pan it base C (.seq a b) fr H r:=.inr ⟨_,_,h,k⟩
theorem mf {C:aca} {call:kz} {pan:atr} {it:yn} {base:Nat} {a b:ACode} {fr:List V} {H:Heap} {r:aaj} (h:abf call pan it base C a fr H r):abf call pan it base C (.seq a b) fr H r:=.inl h
end
open Go.RowKit
section
variable {P:Program} {pure':PX} {CP:Nat→Option CFun}
theorem acf {F:Fence} {n:Nat} {ops:Array Oper} {Q:Exit→Act→World→Prop} {i:Nat} {rest:List Nat} {a:Act} {w:World} {o:Oper} (ho:ops[i]?=some o) (hg:o.guard=none) (h:o.wpIn F n P a w (wpOpsIn F n P ops Q rest) Q):wpOpsIn F n P ops Q (i :: rest) a w:=by
 rw [wpOpsIn_cons];unfold wpOpIn;simp only [ho]
 rw [ed (by simp [Region.wanted,hg])]
 exact h
theorem a5e {μ:Mu} {Mt:Nat→Prop} {w:World} {fr:List V} {t:Array Value} (h:FR μ Mt w fr t):t.size=fr.length:=by
 have:=h.1
 simpa using this.symm
theorem amw {CC:CX} {μ μ':Mu} {Mt Mt':Nat→Prop} {w w':World} {H H':Heap} {a:Act} {o:Oper} {d:Nat} {v:V} {r:Value} {fr:List V} (h:HR CC μ Mt w H) (p:Post CC μ Mt w H μ' Mt' w' H') (hf:FR μ Mt w fr a.tmps) (hd:o.dst=some d) (hv:VR μ' Mt' w' v r):FR μ' Mt' w' (put (some d) v fr) (a.put o.dst r).tmps:=by
 rw [hd];exact (hf.post h p).put (some d) hv
theorem a3b (hmix:P.follows .mixedOrders=true) (hCP:∀ k c,CP k=some c→abh P pure' k c) {k kn m id:Nat} {fn:Func} {o0 o1 o2 o3 o4:Oper} {Tf:TypeId} {z:List V}
 (hf : P.funcs[k]? = some fn) (hb : fn.body = some (.region id #[o0, o1, o2, o3, o4] false)) (hnm : (fn.name == "runtime.NumGoroutine") = false) (hnt : fn.ntmps = 6)
 (c0:xx P pure'.b o0=some (.move (.t 0))) (d0:o0.dst=some 2) (g0:o0.guard=none)
 (c1:xx P pure'.b o1=some (.call (.c (.fn kn [] [])) [.t 2])) (d1:o1.dst=some 3) (g1:o1.guard=none)
 (c2:xx P pure'.b o2=some (.build z [(0,m)] [(0,.t 3)])) (hz:z.length=m) (d2:o2.dst=some 4) (g2:o2.guard=none)
 (e3:o3.op=.makeInterface Tf (.tmp 4)) (d3:o3.dst=some 5) (g3:o3.guard=none) (hTf:P.concrete Tf=true)
 (e4:o4.op=.panic (.tmp 5)) (g4:o4.guard=none):
 ∀ (vs:List V) (base:Nat) (H:Heap) (r:aaj),(∃ v cs H1 n,vs=[v]∧xh CP n (.fn kn [] []) [v] base H=some (.agg cs,H1)∧cs.length=m∧cs.all V.one=true∧r=(Tf,.agg cs,H1))→
   Floor base H r.2.2∧(∀ xs w,(callFunc k xs).run P w=.ok (.enter k xs) w)∧
   ∀ μ Mt w cs,HR (CR P pure') μ Mt w H→VRs μ Mt w vs cs→∀ n,CallsIn Fence.wide n P k cs.toArray w (fun e w'=>∃ ch,e=.panicked ch∧a9s (CR P pure') μ Mt w H r ch w'):=by
 rintro vs base H r ⟨v,cs,H1,n,rfl,hcall,hlen,hall,rfl⟩;have hs:=aa9 hmix hCP n;refine ⟨hs.floor _ _ _ _ _ _ hcall,Go.Proofs.enters_of hf hnm hb,fun μ Mt w cvs h hvs nn=>?_⟩
 obtain ⟨cv,rfl⟩:∃ cv,cvs=[cv]:=by
  have:=hvs.1
  match cvs,this with
  | [x],_=>exact ⟨x,rfl⟩
 refine callsIn_of_wp_marks hf hb trivial (wpIn_region ?_);have hv0:VR μ Mt w v cv:=hvs.2 0 v cv rfl rfl;obtain ⟨a0,ha0⟩:∃ a0:Act,{ tmps:=[cv].toArray ++ Array.replicate (fn.ntmps - [cv].toArray.size) Go.undef,defers:=[] }=a0:=⟨_,rfl⟩
 have hf0:FR μ Mt w [v,und,und,und,und,und] a0.tmps:=by
  unfold FR;have:=hvs.append (aaf (μ:=μ) (Mt:=Mt) (w:=w) 5);rw [← ha0,hnt]
  simpa using this
 have hd0:a0.defers=[]:=by rw [← ha0]
 rw [ha0];show wpOpsIn (Fw none) nn P #[o0,o1,o2,o3,o4] _ [0,1,2,3,4] a0 w;refine acf (o:=o0) rfl g0 (aby hs h hf0 (.inl c0) (base:=base) (v:=v) (H':=H) rfl ?_);rintro r0 w0 ⟨q0,μ0,Mt0,E0,V0,p0⟩;cases E0;have f1:FR μ0 Mt0 w0 [v,und,v,und,und,und] (a0.put o0.dst r0).tmps:=amw h p0 hf0 d0 V0;obtain ⟨a1,ha1⟩:∃ a1,a0.put o0.dst r0=a1:=⟨_,rfl⟩;rw [ha1] at f1 ⊢;refine acf (o:=o1) rfl g1 (aby hs p0.hr f1 (.inl c1) (base:=base) (v:=.agg cs) (H':=H1) hcall ?_);rintro r1 w1 ⟨q1,μ1,Mt1,E1,V1,p1⟩;cases E1;have f2:FR μ1 Mt1 w1 [v,und,v,.agg cs,und,und] (a1.put o1.dst r1).tmps:=amw p0.hr p1 f1 d1 V1;obtain ⟨a2,ha2⟩:∃ a2,a1.put o1.dst r1=a2:=⟨_,rfl⟩;rw [ha2] at f2 ⊢
 have hbd:je (xh CP n) base [v,und,v,.agg cs,und,und] H1 (.build z [(0,m)] [(0,.t 3)])=some (.agg cs,H1):=by
  have hsp:splice z 0 cs=cs:=by
   unfold splice
   rw [dx,cz,og (by omega),abt]
  simp only [je,o9,acy,aam,ev,ib,gm,List.getElem?_cons_zero,V.cells,hlen,hz,hall,lh,ag,o7,jc,hsp]
 refine acf (o:=o2) rfl g2 (aby hs p1.hr f2 (.inl c2) (base:=base) (v:=.agg cs) (H':=H1) hbd ?_);rintro r2 w2 ⟨q2,μ2,Mt2,E2,V2,p2⟩;cases E2;have f3:FR μ2 Mt2 w2 [v,und,v,.agg cs,.agg cs,und] (a2.put o2.dst r2).tmps:=amw p1.hr p2 f2 d2 V2;obtain ⟨a3,ha3⟩:∃ a3,a2.put o2.dst r2=a3:=⟨_,rfl⟩;rw [ha3] at f3 ⊢
 have hd3:a3.defers=[]:=by rw [← ha3,put_defers,← ha2,put_defers,← ha1,put_defers,hd0]
 refine acf (o:=o3) rfl g3 ⟨fun _ _=>trivial,?_⟩
 rw [Oper.semAt_eq _ _ _ (by simp [e3])]
 have hx3:∀ (a:Act) (w:World),(execOp a.eval o3).run P w=.ok (.value (.iface Tf (a.eval (.tmp 4)))) w:=by
  intro a w;unfold execOp;simp only [e3,Sem.run_bind,run_makeInterface w Tf _ hTf,Result.andThen_ok,Sem.run_pure]
 rw [hx3];show wpOpsIn (Fw none) nn P #[o0,o1,o2,o3,o4] _ [4] (a3.put o3.dst _) w2;refine acf (o:=o4) rfl g4 ⟨fun _ _=>trivial,?_⟩
 rw [Oper.semAt_eq _ _ _ (by simp [e4])]
 have hx4:∀ (a:Act) (w:World) (T:TypeId) (x:Value),a.eval (.tmp 5)=.iface T x→(execOp a.eval o4).run P w=.halt (.panic (.iface T x)) w:=by
  intro a w T x hx;unfold execOp;simp only [e4,hx,Sem.run_bind,run_panic_iface];rfl
 have hsz:=a5e f3;simp only [cu,gq] at hsz
 rw [hx4 _ _ Tf (a3.eval (.tmp 4)) (by rw [d3];simp [Act.eval,Act.put,hsz])]
 show LeavesInM Fence.wide nn P fn _ _ (a3.put o3.dst _).defers _ w2;rw [put_defers,hd3];exact ⟨_,rfl,_,μ2,Mt2,rfl,f3.getD 4,(p0.trans p1).trans p2⟩
end
open Go.RowKit
section
variable {CC:CX} {μ μ':Mu} {Mt Mt':Nat→Prop} {w w':World} {H H':Heap} {P:Program} {pure':PX} {call:kz}
def ae3:Code→Bool
 | .skip=>true
 | .label _=>true
 | .region _ _ _=>true
 | .seq a b=>ae3 a && ae3 b
 | .cond _ a b=>ae3 a && ae3 b
 | .ret=>true
 | .exit _=>true
 | _=>false
theorem anp.kill {ds:List Deferred} {fr':List V} {a':Act} (kill:List Nat) (h:anp CC μ Mt w H ds fr' H' a' w'):anp CC μ Mt w H ds (ou kill fr') H' a' w':=by
 obtain ⟨μ',Mt',h1,h2,h3⟩:=h;exact ⟨μ',Mt',h1,h2.kill kill,h3⟩
theorem anp.trans {μ1:Mu} {Mt1:Nat→Prop} {w1:World} {H1:Heap} {ds ds1:List Deferred} {fr':List V} {a':Act} (hp:Post CC μ Mt w H μ1 Mt1 w1 H1) (hd:ds1=ds) (h:anp CC μ1 Mt1 w1 H1 ds1 fr' H' a' w'):anp CC μ Mt w H ds fr' H' a' w':=by
 obtain ⟨μ',Mt',h1,h2,h3⟩:=h;exact ⟨μ',Mt',hp.trans h1,h2,h3.trans hd⟩
theorem afy (hs:SimCall P (CR P pure') call) (hmix:P.follows .mixedOrders=true) (nn base:Nat) {c:Code} {ac:ACode} (hc:CodeR P pure' c ac) (hfl:ae3 c=true):
 ∀ (ro:Option Nat) (n:Nat) (fr:List V) (H:Heap) (e:Ex) (fr':List V) (H':Heap),evC call (fun b k m=>q9 b k m nn) base ac fr H=some (e,fr',H')→∀ (μ:Mu) (Mt:Nat→Prop) (w:World) (a:Act) (Q:Exit→Act→World→Prop),HR (CR P pure') μ Mt w H→FR μ Mt w fr a.tmps→
   (∀ a' w',anp (CR P pure') μ Mt w H a.defers fr' H' a' w'→Q (bdr e) a' w')→c.wpIn (Fw ro) n P Q a w:=by
 induction hc with
 | skip=>
   intro ro n fr H e fr' H' hev μ Mt w a Q h hf hQ;simp only [evC] at hev;cases hev;exact wpIn_skip (hQ a w ⟨μ,Mt,Post.refl h,hf,rfl⟩)
 | label l=>
   intro ro n fr H e fr' H' hev μ Mt w a Q h hf hQ;simp only [evC] at hev;cases hev;exact wpIn_label (hQ a w ⟨μ,Mt,Post.refl h,hf,rfl⟩)
 | exit id=>
   intro ro n fr H e fr' H' hev μ Mt w a Q h hf hQ;simp only [evC] at hev;cases hev;exact wpIn_exit (hQ a w ⟨μ,Mt,Post.refl h,hf,rfl⟩)
 | ret=>
   intro ro n fr H e fr' H' hev μ Mt w a Q h hf hQ;simp only [evC] at hev;cases hev;exact wpIn_ret (hQ a w ⟨μ,Mt,Post.refl h,hf,rfl⟩)
 | block=>cases hfl
 | loop=>cases hfl
 | rangeFunc=>cases hfl
 | region id ops draw l chk kill hr hd=>
   intro ro n fr H e fr' H' hev μ Mt w a Q h hf hQ;simp only [evC] at hev;split at hev
   ·rename_i fr1 H1 h1;split at hev
    ·rename_i hchk;cases hev;cases draw with
     | false=>
       refine wpIn_region ?_
       have:=amb (Q:=Q) (ro:=ro) (n:=n) hs hr ops.size 0 fr H a w μ Mt (by omega) h hf (by simpa using h1) (fun a' w' hq=>hQ a' w' (hq.kill kill))
       simpa using this
     | true=>exact wpIn_region_any hmix (ai3 hs hr (hd rfl) h1 hchk h hf fun a' w' hq=>hQ a' w' (hq.kill kill))
    ·cases hev
   ·cases hev
 | regionE id ops draw l kill outs hr hd=>
   intro ro n fr H e fr' H' hev μ Mt w a Q h hf hQ;simp only [evC] at hev;split at hev
   ·rename_i f2 h2;cases hev;obtain ⟨f1,h1,rfl⟩:=ab6 (call:=call) (base:=base) h2;cases draw with
    | false=>
      refine wpIn_region ?_
      have:=amb (Q:=Q) (ro:=ro) (n:=n) hs hr ops.size 0 fr H a w μ Mt (by omega) h hf (by simpa using h1) (fun a' w' hq=>hQ a' w' (hq.kill kill))
      simpa using this
    | true=>exact wpIn_region_any hmix (ai3 hs hr (hd rfl) h1 rfl h hf fun a' w' hq=>hQ a' w' (hq.kill kill))
   ·cases hev
 | regionP id ops π l chk kill hp hr hd=>
   intro ro n fr H e fr' H' hev μ Mt w a Q h hf hQ;simp only [evC] at hev;split at hev
   ·rename_i fr1 H1 h1;split at hev
    ·rename_i hchk;cases hev;exact wpIn_region_any hmix (aay hp (ai3 hs hr hd h1 hchk h hf fun a' w' hq=>hQ a' w' (hq.kill kill)))
    ·cases hev
   ·cases hev
 | regionPE id ops π l kill outs hp hr hd=>
   intro ro n fr H e fr' H' hev μ Mt w a Q h hf hQ;simp only [evC] at hev;split at hev
   ·rename_i f2 h2;cases hev;obtain ⟨f1,h1,rfl⟩:=ab6 (call:=call) (base:=base) h2;exact wpIn_region_any hmix (aay hp (ai3 hs hr hd h1 rfl h hf fun a' w' hq=>hQ a' w' (hq.kill kill)))
   ·cases hev
 | seq x y ax ay _ _ ihx ihy=>
   intro ro n fr H e fr' H' hev μ Mt w a Q h hf hQ;simp only [ae3,ak] at hfl;simp only [evC] at hev;split at hev
   ·rename_i fr1 H1 h1;refine wpIn_seq (ihx hfl.1 ro n _ _ _ _ _ h1 μ Mt w a _ h hf ?_);rintro a1 w1 ⟨μ1,Mt1,p1,f1,d1⟩;exact ihy hfl.2 ro n _ _ _ _ _ hev μ1 Mt1 w1 a1 Q p1.hr f1 fun a2 w2 hq=>hQ a2 w2 (anp.trans p1 d1 hq)
   ·rename_i hne;refine wpIn_seq (ihx hfl.1 ro n _ _ _ _ _ hev μ Mt w a _ h hf ?_);intro a1 w1 h1;have:=hQ a1 w1 h1;cases e with
    | nrm=>exact (hne _ _ hev).elim
    | ext id=>exact this
    | ret=>exact this
 | cond c o x y ax ay hco _ _ ihx ihy=>
   intro ro n fr H e fr' H' hev μ Mt w a Q h hf hQ;simp only [ae3,ak] at hfl;simp only [evC] at hev;have hv:=jm hf hco;split at hev
   ·rename_i he;rw [he] at hv;exact wpIn_cond_true (yf hv) (ihx hfl.1 ro n _ _ _ _ _ hev μ Mt w a Q h hf hQ)
   ·rename_i he;rw [he] at hv;exact wpIn_cond_false (yf hv) (ihy hfl.2 ro n _ _ _ _ _ hev μ Mt w a Q h hf hQ)
   ·cases hev
theorem bbi [BtOk CC P] (h:HR CC μ Mt w H) {a:Act} {fr:List V} (hf:FR μ Mt w fr a.tmps) {o:Oper} {ao:AOp} {base:Nat} {v:V} (hc:asg P pure' o ao) (hnc:ao.isCall=false) (hev:je call base fr H ao=some (v,H')):
 ∃ cv w1,((execOp a.eval o).run P w=.ok (.value cv) w1∨((execOp a.eval o).run P w=.ok .skip w1∧cv=Go.undef))∧ank CC μ Mt w H v H' (.returned cv) w1:=by
 have key:∀ (ao':AOp) (b:Nat),xx P pure' o=some ao'→ao'.isCall=false→je call b fr H ao'=some (v,H')→∃ cv w1,((execOp a.eval o).run P w=.ok (.value cv) w1∨((execOp a.eval o).run P w=.ok .skip w1∧cv=Go.undef))∧ank CC μ Mt w H v H' (.returned cv) w1:=by
  intro ao' b h2 hn he
  rcases qa h2 with ⟨g,args,ats,xs',y,ho,_,_,⟨k,_,e⟩ | e⟩ | ⟨hc',hn',hnd⟩
  ·rw [e] at hn;cases hn
  ·rw [e] at hn;cases hn
  ·obtain ⟨cv,w1,μ1,Mt1,hr,hvr,hp⟩:=ai6 h hf hc' hn' he
   rcases hr with hr | ⟨hr,rfl⟩
   ·exact ⟨cv,w1,.inl hr,cv,μ1,Mt1,rfl,hvr,hp⟩
   ·exact ⟨_,w1,.inr ⟨hr,rfl⟩,_,μ1,Mt1,rfl,hvr,hp⟩
 rcases hc with hc | ⟨f',xs',hc,e⟩ | ⟨k,xs',hc,e⟩ | ⟨sz,b,s,x,hc,e⟩ | e
 ·exact key _ base hc hnc hev
 ·rw [e] at hnc;cases hnc
 ·rw [e] at hnc;cases hnc
 ·subst e;exact key (.append sz b s x) H.length hc rfl hev
 ·subst e;cases hev
theorem a1q [BtOk CC P] {ops:Array Oper} {l:List AOper} (hr:apn P pure' ops l) {base n:Nat} {Q:Exit→Act→List Frame→World→Prop} {cs:List Frame} {fr':List V} {H':Heap}:
 ∀ (j k:Nat) (fr:List V) (H:Heap) (a:Act) (w:World) (μ:Mu) (Mt:Nat→Prop),j+k=ops.size→(∀ i,k≤i→i < l.length→(l.getD i default).op.isCall=false)→HR CC μ Mt w H→FR μ Mt w fr a.tmps→jl call base (l.drop k) fr H=some (fr',H')→
   (∀ a' w',anp CC μ Mt w H a.defers fr' H' a' w'→Q .normal a' cs w')→wpOpsSIn Fence.wide n P ops Q ((List.range ops.size).drop k) a cs w:=by
 intro j
 induction j with
 | zero=>
   intro k fr H a w μ Mt hk _ h hf hev hQ
   have hk':k=ops.size:=by omega
   subst hk'
   rw [um (by simp)]
   rw [um (by rw [hr.1];exact ag _)] at hev
   cases hev;exact hQ a w ⟨μ,Mt,Post.refl h,hf,rfl⟩
 | succ j ih=>
   intro k fr H a w μ Mt hk hno h hf hev hQ
   have hlt:k < ops.size:=by omega
   have hltl:k < l.length:=by rw [hr.1];exact hlt
   have e1:(List.range ops.size).drop k=k :: (List.range ops.size).drop (k+1):=by
    rw [di (by simpa using hlt)];simp
   rw [e1];rw [di hltl] at hev;have ho:ops[k]?=some ops[k]:=Array.getElem?_eq_getElem hlt;obtain ⟨hd,hc,hg⟩:=hr.2 k ops[k] l[k] ho (List.getElem?_eq_getElem hltl)
   have hnk:l[k].op.isCall=false:=by
    have:=hno k (ag _) hltl
    rwa [zf (List.getElem?_eq_getElem hltl)] at this
   simp only [wpOpsSIn,ho];refine ⟨fun _ _=>trivial,?_⟩;simp only [jl] at hev;split at hev
   ·cases hev
   ·rename_i hw;rw [yc hg hf hw];simp only [j6,mr]
    refine ih (k+1) _ H _ w μ Mt (by omega) (fun i h1 h2=>hno i (by omega) h2) h (hd ▸ hf.put _ (.s _)) hev (fun a' w' hq=>hQ a' w' ?_)
    rw [put_defers] at hq;exact hq
   ·rename_i hw;rw [yc hg hf hw];simp only [jc];split at hev
    ·rename_i v H1 hop;obtain ⟨cv,w1,hrun,c',μ1,Mt1,e,hv,hp⟩:=bbi (call:=call) h hf hc hnk hop;cases e
     have next:wpOpsSIn Fence.wide n P ops Q ((List.range ops.size).drop (k+1)) (a.put ops[k].dst cv) cs w1:=by
      refine ih (k+1) _ H1 _ w1 μ1 Mt1 (by omega) (fun i h1 h2=>hno i (by omega) h2) hp.hr (hd ▸ (hf.post h hp).put _ hv) hev (fun a' w' hq=>hQ a' w' ?_)
      rw [put_defers] at hq;exact anp.trans hp rfl hq
     rcases hrun with hrun | ⟨hrun,rfl⟩
     ·rw [hrun];exact next
     ·rw [hrun];exact next
    ·cases hev
inductive RecC (Tf:TypeId) (z:V) (μ:Mu) (Mt:Nat→Prop) (w:World):FrameMode→FrameMode→V→Prop
 | pan (x:V) (c:Value) (h:VR μ Mt w x c):RecC Tf z μ Mt w (.panicking [{ v:=.iface Tf c,recovered:=false }]) (.panicking [{ v:=.iface Tf c,recovered:=true }]) (.tup [x,.s (.bool true)])
 | nil:RecC Tf z μ Mt w .returning .returning (.tup [z,.s (.bool false)])
variable {CP:Nat→Option CFun}
theorem a6k (hmix:P.follows .mixedOrders=true) (hCP:∀ k c,CP k=some c→abh P pure' k c) {k id0 r0 r1 N:Nat} {fn:Func} {c2:Code} {ac2:ACode} {ops0:Array Oper} {l0:List AOper} {xT Tf:TypeId} {oR oA:Oper} {ats:Array TypeId}
 (hf:P.funcs[k]?=some fn) (hb:fn.body=some (.seq (.region id0 ops0 false) c2)) (hres:fn.results=#[]) (hnt:fn.ntmps=N)
 (hreg:apn P pure' ops0 l0) (hc2:CodeR P pure' c2 ac2) (hfl:ae3 c2=true) (hno:∀ i,2≤i→i < l0.length→(l0.getD i default).op.isCall=false)
 (hR:ops0[0]?=some oR) (eR:oR.op=.call { callee:=.builtin .recover,args:=#[],argTypes:=ats }) (dR:oR.dst=some r0) (gR:oR.guard=none)
 (hA:ops0[1]?=some oA) (eA:oA.op=.typeAssert (.tmp r0) xT Tf true) (dA:oA.dst=some r1) (gA:oA.guard=none) (hr0:r0 < N)
 (hok:∀ (v:Value) (w:World),(Instr.typeAssert (.iface Tf v) xT Tf true).run P w=.ok (.tuple #[v,.bool true]) w)
 {z:V} {zv:Value} (hnil:∀ (w:World),(Instr.typeAssert .nilIface xT Tf true).run P w=.ok (.tuple #[zv,.bool false]) w) (hz:∀ (μ:Mu) (Mt:Nat→Prop) (w:World),VR μ Mt w z zv)
 {u u':FrameMode} {y:V} {μ:Mu} {Mt:Nat→Prop} {w:World} {H:Heap} (h:HR (CR P pure') μ Mt w H) {vs:List V} {cs:List Value} (hvs:VRs μ Mt w vs cs) (hvl:vs.length≤N) (hu:RecC Tf z μ Mt w u u' y)
 {n base:Nat} {fr3 fr4:List V} {H3 H4:Heap} (h3:jl (xh CP n) base (l0.drop 2) (put (some r1) y (put (some r0) .unk (vs ++ List.replicate (N - vs.length) und))) H=some (fr3,H3))
 (h4:evC (xh CP n) (fun b k m=>q9 b k m n) base ac2 fr3 H3=some (.nrm,fr4,H4)) {m:Nat} {R:Ending→FrameMode→World→Prop} (hQ:∀ v μ' Mt' w',Post (CR P pure') μ Mt w H μ' Mt' w' H4→R (.returned v) u' w'):
 CallsDIn Fence.wide m P k cs.toArray u w R:=by
 have hs:=aa9 hmix hCP n;refine callsDIn_of_wpSIn hf hb trivial fun c0 cs0 hc0=>wpSIn_seq (wpSIn_region ?_);obtain ⟨a0,ha0⟩:∃ a0:Act,{ tmps:=cs.toArray ++ Array.replicate (fn.ntmps - cs.toArray.size) Go.undef,defers:=[] }=a0:=⟨_,rfl⟩
 have hd0:a0.defers=[]:=by rw [← ha0]
 have hf0:FR μ Mt w (vs ++ List.replicate (N - vs.length) und) a0.tmps:=by
  unfold FR;have:=hvs.append (aaf (μ:=μ) (Mt:=Mt) (w:=w) (N - vs.length));rw [← ha0,hnt];simp only [aek,acb,nz];rw [hvs.1] at this ⊢;exact this
 rw [ha0];have hlA:1 < ops0.size:=(Array.getElem?_eq_some_iff.1 hA).1;have hlA2:2≤ops0.size:=hlA
 have er:List.range ops0.size=0 :: 1 :: (List.range ops0.size).drop 2:=by
  have e1:List.range ops0.size=(List.range ops0.size).drop 0:=rfl
  rw [di (by simp;omega),di (by simp;omega)] at e1
  simpa using e1
 rw [er]
 have hrun0:∀ (a:Act) (w:World),(execOp a.eval oR).run P w=.ok .recover w:=by
  intro a w;unfold execOp;simp only [eR,resolve,Sem.run_bind,Sem.run_pure,Result.andThen_ok,invoke,Go.builtin]
 have tail:∀ (v0:Value) (y0:Value) (cs1:List Frame),cs1={ c0 with mode:=u' } :: cs0→VR μ Mt w y y0→wpOpsSIn Fence.wide m P ops0 (Exit.thenS (c2.wpSIn Fence.wide m P (bodyPostS P fn c0 cs0 R)) (bodyPostS P fn c0 cs0 R)) ((List.range ops0.size).drop 2) ((a0.put oR.dst v0).put oA.dst y0) cs1 w:=by
  intro v0 y0 cs1 hcs hy
  have hfr:FR μ Mt w (put (some r1) y (put (some r0) .unk (vs ++ List.replicate (N - vs.length) und))) ((a0.put oR.dst v0).put oA.dst y0).tmps:=by
   rw [dR,dA];exact (hf0.put (some r0) (.unk _)).put (some r1) hy
  refine a1q (call:=xh CP n) hreg (ops0.size - 2) 2 _ H _ w μ Mt (by omega) hno h hfr h3 ?_
  rintro a1 w1 ⟨μ1,Mt1,p1,f1,d1⟩;rw [put_defers,put_defers,hd0] at d1;refine wpSIn_of_wpIn rfl ?_;refine afy hs hmix n base hc2 hfl none m _ _ _ _ _ h4 μ1 Mt1 w1 a1 _ p1.hr f1 ?_;rintro a2 w2 ⟨μ2,Mt2,p2,f2,d2⟩
  obtain ⟨rv,hrv,_⟩:=ack (fn:=fn) (ars:=[]) (r:=.tup []) p2.hr f2 (by rw [hres];rfl) rfl
  exact ⟨by rw [d2,d1],u',hcs,rv,hrv,hQ rv μ2 Mt2 w2 (p1.trans p2)⟩
 have hx1:∀ (v0 y0:Value) (a:Act),a.tmps.size=N→(Instr.typeAssert v0 xT Tf true).run P w=.ok y0 w→(execOp (a.put oR.dst v0).eval oA).run P w=.ok (.value y0) w:=by
  intro v0 y0 a hsz hrun
  have hev:(a.put oR.dst v0).eval (.tmp r0)=v0:=by
   rw [dR];simp [Act.eval,Act.put,hsz,hr0]
  unfold execOp;simp only [eA,hev,Sem.run_bind,hrun,Result.andThen_ok,Sem.run_pure]
 have hsz:a0.tmps.size=N:=by
  rw [a5e hf0,dm,zt];omega
 simp only [wpOpsSIn,hR,hA];refine ⟨fun _ _=>trivial,?_⟩
 rw [ed (by simp [Region.wanted,gR]),hrun0]
 cases hu with
 | pan x c hx=>
   have hrec:recoverD (c0 :: cs0)=some (.iface Tf c,{ c0 with mode:=.panicking [{ v:=.iface Tf c,recovered:=true }] } :: cs0):=by
    simp only [recoverD,hc0]
   simp only [hrec];refine ⟨fun _ _=>trivial,?_⟩
   rw [ed (by simp [Region.wanted,gA]),hx1 _ _ _ hsz (hok c w)]
   refine tail _ _ _ rfl (.tup _ _ rfl fun i p q hp hq=>?_)
   match i with
   | 0=>simp at hp hq;subst hp;subst hq;exact hx
   | 1=>simp at hp hq;subst hp;subst hq;exact .s _
   | i+2=>simp at hp
 | nil=>
   have hrec:recoverD (c0 :: cs0)=none:=by
    simp only [recoverD,hc0]
   simp only [hrec];refine ⟨fun _ _=>trivial,?_⟩
   rw [ed (by simp [Region.wanted,gA]),hx1 _ _ _ hsz (hnil w)]
   refine tail _ _ _ (by rw [← hc0]) (.tup _ _ rfl fun i p q hp hq=>?_)
   match i with
   | 0=>simp at hp hq;subst hp;subst hq;exact hz _ _ _
   | 1=>simp at hp hq;subst hp;subst hq;exact .s _
   | i+2=>simp at hp
end
open Go.RowKit
section
variable {CC:CX} {μ μ':Mu} {Mt Mt':Nat→Prop} {w w':World} {H H':Heap} {P:Program} {pure':PX} {CP:Nat→Option CFun} {PP:Nat→List V→Nat→Heap→aaj→Prop} {X:Nat→Bool}
theorem afs {μ0:Mu} {Mt0:Nat→Prop} {w0:World} {H0:Heap} {fn:Func} {tmps:Array Value} {x:V} {c:Value} {frx:List V} {R:Ending→World→Prop} {n:Nat} {u:FrameMode} {ds:List Deferred} (hu:u≠.run)
 (hfin:∀ w',Post CC μ0 Mt0 w0 H0 μ Mt w' H→FR μ Mt w' frx tmps→VR μ Mt w' x c→LeavesInM Fence.wide n P fn tmps R ds u w'):
 ∀ (L:List Nat) (w:World),Post CC μ0 Mt0 w0 H0 μ Mt w H→FR μ Mt w frx tmps→VR μ Mt w x c→L.Nodup→(∀ D∈L,w0.heap.size≤D∧w.heap[D]?=some (.deferred (some []))∧∀ id g b,μ id g≠some (D,b))→
   LeavesInM Fence.wide n P fn tmps R (L.map as4 ++ ds) u w:=by
 intro L
 induction L with
 | nil=>intro w hp hf hv _ _;exact hfin w hp hf hv
 | cons D L ih=>
   intro w hp hf hv hnd hL;obtain ⟨h1,h2,h3⟩:=hL D d9;refine ⟨hu,.inl ⟨D,_,rfl,run_takeDeferred h2,?_⟩⟩;obtain ⟨p1,hk⟩:=ai5 (y:=none) hp h1 h2 h3;refine ih _ p1 ⟨hf.1,fun i a b ha hb=>hk (hf.2 i a b ha hb)⟩ (hk hv) (abr.1 hnd).2 (fun E hE=>?_);obtain ⟨k1,k2,k3⟩:=hL E (dh _ hE)
   have hne:E≠D:=fun e=>by subst e;exact (abr.1 hnd).1 hE
   exact ⟨k1,(World.putObj_heap_other hne).trans k2,k3⟩
def bcp (P:Program) (pure':PX) (CP:Nat→Option CFun) (k r0 r1 N:Nat) (Tf:TypeId) (z:V) (l0:List AOper) (ac2:ACode):Prop:=
 (∀ xs w,(callFunc k xs).run P w=.ok (.enter k xs) w)∧
 ∀ {u u':FrameMode} {y:V} {μ:Mu} {Mt:Nat→Prop} {w:World} {H:Heap},HR (CR P pure') μ Mt w H→∀ {vs:List V} {cs:List Value},VRs μ Mt w vs cs→vs.length≤N→RecC Tf z μ Mt w u u' y→
   ∀ {n base:Nat} {fr3 fr4:List V} {H3 H4:Heap},jl (xh CP n) base (l0.drop 2) (put (some r1) y (put (some r0) .unk (vs ++ List.replicate (N - vs.length) und))) H=some (fr3,H3)→
   evC (xh CP n) (fun b k m=>q9 b k m n) base ac2 fr3 H3=some (.nrm,fr4,H4)→∀ {m:Nat} {R:Ending→FrameMode→World→Prop},(∀ v μ' Mt' w',Post (CR P pure') μ Mt w H μ' Mt' w' H4→R (.returned v) u' w')→CallsDIn Fence.wide m P k cs.toArray u w R
structure DefF where
 N:Nat
 A0:ACode
 A1:ACode
 A2:ACode
 AR:ACode
 a:Nat
 b:Nat
 c:Nat
 d:Nat
 k1:Nat
 r0:Nat
 r1:Nat
 N1:Nat
 Tf:TypeId
 z:V
 l0:List AOper
 ac2:ACode
 rs:List ARes
def DefF.cond (D:DefF) (g0 g1 g2:V):aca:=fun l fr=>(fr.getD D.a .unk=g0∧fr.getD D.b .unk=g1∧fr.getD D.c .unk=g2)∧∀ o∈l,o.dst≠some D.a∧o.dst≠some D.b∧o.dst≠some D.c
def DefF.recR (D:DefF) (call:kz) (it:yn) (base:Nat) (y g0 g1 g2:V) (H H':Heap):Prop:=
 ∃ f3 H3 f4,jl call base (D.l0.drop 2) (put (some D.r1) y (put (some D.r0) .unk ([g0,g1,g2] ++ List.replicate (D.N1 - 3) und))) H=some (f3,H3)∧evC call it base D.ac2 f3 H3=some (.nrm,f4,H')
def DefF.ans (D:DefF) (call:kz) (it:yn) (pan:atr) (vs:List V) (base:Nat) (H:Heap) (v:V) (H':Heap):Prop:=
 ∃ fr1 H1 fr2 H2,evC call it base D.A0 (vs ++ List.replicate (D.N - vs.length) und) H=some (.nrm,fr1,H1)∧evC call it base D.A1 fr1 H1=some (.nrm,fr2,H2)∧
 ((∃ fr3,evC call it base D.A2 fr2 H2=some (.ret,fr3,H')∧qd D.rs fr3 H'=some v)∨
  ∃ fr3 H3 g0 g1 g2,evC call it base D.A2 fr2 H2=some (.nrm,fr3,H3)∧D.d < fr3.length∧fr3.getD D.a .unk=g0∧fr3.getD D.b .unk=g1∧fr3.getD D.c .unk=g2∧
   ((∃ e fr5 H5,(e=.nrm∨e=.ret)∧evC call it base D.AR (put (some D.d) (.fn D.k1 [] [g0,g1,g2]) fr3) H3=some (e,fr5,H5)∧D.recR call it base (.tup [D.z,.s (.bool false)]) g0 g1 g2 H5 H'∧qd D.rs fr5 H'=some v)∨
    ∃ x Hp,abf call pan it base (D.cond g0 g1 g2) D.AR (put (some D.d) (.fn D.k1 [] [g0,g1,g2]) fr3) H3 (D.Tf,x,Hp)∧D.recR call it base (.tup [x,.s (.bool true)]) g0 g1 g2 Hp H'∧qd D.rs (put (some D.d) (.fn D.k1 [] [g0,g1,g2]) fr3) H'=some v))
theorem DefF.recR_le {D:DefF} {c c':kz} (h:Le c c') {n n':Nat} (hn:n≤n') {base:Nat} {y g0 g1 g2:V} {H H':Heap} (k:D.recR c (itN n) base y g0 g1 g2 H H'):D.recR c' (itN n') base y g0 g1 g2 H H':=by
 obtain ⟨f3,H3,f4,h1,h2⟩:=k;exact ⟨f3,H3,f4,afv h _ h1,ahn h hn _ h2⟩
theorem DefF.recR_cont {D:DefF} {base:Nat} {y g0 g1 g2:V} {H H':Heap} (k:D.recR (dw CP) itW base y g0 g1 g2 H H'):∃ n,D.recR (xh CP n) (itN n) base y g0 g1 g2 H H':=by
 obtain ⟨f3,H3,f4,h1,h2⟩:=k;obtain ⟨n1,e1⟩:=akv _ h1;obtain ⟨n2,e2⟩:=yg _ h2;exact ⟨max n1 n2,f3,H3,f4,afv (vz (o8 n1 n2)) _ e1,yw (kg n1 n2) e2⟩
theorem DefF.ans_cont {D:DefF} {vs:List V} {base:Nat} {H:Heap} {v:V} {H':Heap} (h:D.ans (dw CP) itW (anm CP PP X) vs base H v H'):∃ n,D.ans (xh CP n) (itN n) (az3 CP PP X n) vs base H v H':=by
 obtain ⟨fr1,H1,fr2,H2,h1,h2,h⟩:=h;obtain ⟨n1,e1⟩:=yg _ h1;obtain ⟨n2,e2⟩:=yg _ h2
 rcases h with ⟨fr3,h3,hr⟩ | ⟨fr3,H3,g0,g1,g2,h3,hd,k0,k1,k2,h⟩
 ·obtain ⟨n3,e3⟩:=yg _ h3
  refine ⟨max n1 (max n2 n3),fr1,H1,fr2,H2,yw (by omega) e1,yw (by omega) e2,.inl ⟨fr3,yw (by omega) e3,hr⟩⟩
 ·obtain ⟨n3,e3⟩:=yg _ h3
  rcases h with ⟨e,fr5,H5,he,h5,hrec,hr⟩ | ⟨x,Hp,hp,hrec,hr⟩
  ·obtain ⟨n4,e4⟩:=yg _ h5;obtain ⟨n5,e5⟩:=DefF.recR_cont hrec
   exact ⟨max (max n1 n2) (max n3 (max n4 n5)),fr1,H1,fr2,H2,yw (by omega) e1,yw (by omega) e2,.inr ⟨fr3,H3,g0,g1,g2,yw (by omega) e3,hd,k0,k1,k2,.inl ⟨e,fr5,H5,he,yw (by omega) e4,DefF.recR_le (vz (by omega)) (by omega) e5,hr⟩⟩⟩
  ·obtain ⟨n4,e4⟩:=aoj _ hp;obtain ⟨n5,e5⟩:=DefF.recR_cont hrec
   exact ⟨max (max n1 n2) (max n3 (max n4 n5)),fr1,H1,fr2,H2,yw (by omega) e1,yw (by omega) e2,.inr ⟨fr3,H3,g0,g1,g2,yw (by omega) e3,hd,k0,k1,k2,.inr ⟨x,Hp,amg (vz (by omega)) (amf (by omega)) (by omega) _ e4,DefF.recR_le (vz (by omega)) (by omega) e5,hr⟩⟩⟩
theorem alz {rs:List ARes} {fr fr':List V} {H:Heap} (h:∀ r∈rs,fr.getD r.slot .unk=fr'.getD r.slot .unk):qd rs fr H=qd rs fr' H:=by
 have key:∀ rs:List ARes,(∀ r∈rs,fr.getD r.slot .unk=fr'.getD r.slot .unk)→rs.mapM (ahh fr H)=rs.mapM (ahh fr' H):=by
  intro rs
  induction rs with
  | nil=>intro _;rfl
  | cons r rs ih=>
    intro h
    have e:ahh fr H r=ahh fr' H r:=by
     have:=h r d9;cases r <;> simp only [ahh,ARes.slot] at this ⊢ <;> rw [this]
    simp only [ll,e,ih fun q hq=>h q (dh _ hq)]
 unfold qd;rw [key rs h]
theorem a8u (hmix:P.follows .mixedOrders=true) (hCP:∀ k c,CP k=some c→abh P pure' k c) (hone:∀ k fn body,X k=true→P.funcs[k]?=some fn→fn.body=some body→amh body=true) (hPP:a9i P pure' PP)
 {D:DefF} {k idD:Nat} {fn:Func} {m0 m1 m2 mR:Code} {oF oD:Oper} {ats:Array TypeId}
 (hf : P.funcs[k]? = some fn) (hb : fn.body = some (.seq m0 (.seq m1 (.seq m2 (.seq (.region idD #[oF, oD] false) mR))))) (hnm : (fn.name == "runtime.NumGoroutine") = false) (hnt : fn.ntmps = D.N)
 (c0:CodeR P pure' m0 D.A0) (f0:ae3 m0=true) (c1:CodeR P pure' m1 D.A1) (f1:ae3 m1=true) (c2:CodeR P pure' m2 D.A2) (f2:ae3 m2=true) (cR:CodeR P pure' mR D.AR) (oR:amh mR=true)
 (cF:xx P pure'.b oF=some (.mkFn D.k1 [] [.t D.a,.t D.b,.t D.c])) (dF:oF.dst=some D.d) (gF:oF.guard=none)
 (eD:oD.op=.defer { callee:=.value (.tmp D.d),args:=#[],argTypes:=ats }) (dD:oD.dst=none) (gD:oD.guard=none) (hdN:D.d≠D.a∧D.d≠D.b∧D.d≠D.c)
 (hrs:fn.results.toList.mapM (ae5 P)=some D.rs) (hrs2:∀ r∈D.rs,r.slot=D.a∨r.slot=D.b∨r.slot=D.c) (hN1:3≤D.N1)
 (hrec:bcp P pure' CP D.k1 D.r0 D.r1 D.N1 D.Tf D.z D.l0 D.ac2) {g:List V→Nat→Heap→Option (V × Heap)} (hg:∀ vs base H r H',g vs base H=some (r,H')→D.ans (dw CP) itW (anm CP PP X) vs base H r H'):abh P pure' k (.prim g):=by
 refine ⟨Go.Proofs.enters_of hf hnm hb,fun vs base H r H' hgr=>?_⟩;obtain ⟨n,hn⟩:=DefF.ans_cont (hg _ _ _ _ _ hgr);have hs:=aa9 hmix hCP n;have hx:=a1k (PP:=PP) (X:=X) hmix hCP hone hPP n;obtain ⟨fr1,H1,fr2,H2,h1,h2,hn⟩:=hn;have F1:=(ut hs.floor n _ h1).trans (ut hs.floor n _ h2)
 have recFloor:∀ {y g0 g1 g2:V} {K K':Heap},D.recR (xh CP n) (itN n) base y g0 g1 g2 K K'→Floor base K K':=fun h=>by
  obtain ⟨f3,H3,f4,q1,q2⟩:=h;exact (ae4 hs.floor _ q1).trans (ut hs.floor n _ q2)
 refine ⟨?_,fun μ Mt w cs h hvs m=>?_⟩
 ·rcases hn with ⟨fr3,h3,_⟩ | ⟨fr3,H3,g0,g1,g2,h3,_,_,_,_,⟨e,fr5,H5,_,h5,hr,_⟩ | ⟨x,Hp,hp,hr,_⟩⟩
  ·exact F1.trans (ut hs.floor n _ h3)
  ·exact (F1.trans (ut hs.floor n _ h3)).trans ((ut hs.floor n _ h5).trans (recFloor hr))
  ·exact (F1.trans (ut hs.floor n _ h3)).trans ((akk hs.floor hx.floor n base _ hp).trans (recFloor hr))
 ·refine callsIn_of_wp_marks hf hb trivial ?_;obtain ⟨a0,ha0⟩:∃ a0:Act,{ tmps:=cs.toArray ++ Array.replicate (fn.ntmps - cs.toArray.size) Go.undef,defers:=[] }=a0:=⟨_,rfl⟩
  have hd0:a0.defers=[]:=by rw [← ha0]
  have hf0:FR μ Mt w (vs ++ List.replicate (D.N - vs.length) und) a0.tmps:=by
   unfold FR;have:=hvs.append (aaf (μ:=μ) (Mt:=Mt) (w:=w) (D.N - vs.length));rw [← ha0,hnt];simp only [aek,acb,nz];rw [hvs.1] at this ⊢;exact this
  rw [ha0];refine wpIn_seq (afy hs hmix n base c0 f0 none m _ _ _ _ _ h1 μ Mt w a0 _ h hf0 ?_);rintro a1 w1 ⟨μ1,Mt1,p1,q1,d1⟩;rw [hd0] at d1;refine wpIn_seq (afy hs hmix n base c1 f1 none m _ _ _ _ _ h2 μ1 Mt1 w1 a1 _ p1.hr q1 ?_);rintro a2 w2 ⟨μ2,Mt2,p2,q2,d2⟩;rw [d1] at d2
  have leave:∀ {frx:List V} {ax:Act} {wx:World} {μx:Mu} {Mtx:Nat→Prop} {Hx:Heap},Post (CR P pure') μ Mt w H μx Mtx wx Hx→FR μx Mtx wx frx ax.tmps→qd D.rs frx Hx=some r→Hx=H'→LeavesInM Fence.wide m P fn ax.tmps (ank (CR P pure') μ Mt w H r H') [] .returning wx:=fun pp ff hr hH=>by
   subst hH;obtain ⟨cv,k1,k2⟩:=ack pp.hr ff hrs hr;exact ⟨cv,k1,cv,_,_,rfl,k2,pp⟩
  rcases hn with ⟨fr3,h3,hres⟩ | ⟨fr3,H3,g0,g1,g2,h3,hdl,e0,e1,e2,hn⟩
  ·refine wpIn_seq (afy hs hmix n base c2 f2 none m _ _ _ _ _ h3 μ2 Mt2 w2 a2 _ p2.hr q2 ?_);rintro a3 w3 ⟨μ3,Mt3,p3,q3,d3⟩;rw [d2] at d3;show LeavesInM Fence.wide m P fn a3.tmps _ a3.defers .returning w3;rw [d3];exact leave ((p1.trans p2).trans p3) q3 hres rfl
  ·refine wpIn_seq (afy hs hmix n base c2 f2 none m _ _ _ _ _ h3 μ2 Mt2 w2 a2 _ p2.hr q2 ?_);rintro a3 w3 ⟨μ3,Mt3,p3,q3,d3⟩;rw [d2] at d3;have pp3:=(p1.trans p2).trans p3;refine wpIn_seq (wpIn_region ?_);show wpOpsIn (Fw none) m P #[oF,oD] _ [0,1] a3 w3
   refine acf (o:=oF) rfl gF (aby hs p3.hr q3 (.inl cF) (base:=base) (v:=.fn D.k1 [] [g0,g1,g2]) (H':=H3) (by simp only [je,o9,acy,ev,e0,e1,e2]) ?_)
   rintro rF w4 ⟨qF,μ4,Mt4,E4,V4,p4⟩;cases E4;have q4:FR μ4 Mt4 w4 (put (some D.d) (.fn D.k1 [] [g0,g1,g2]) fr3) (a3.put oF.dst rF).tmps:=amw p3.hr p4 q3 dF V4;obtain ⟨a4,ha4⟩:∃ a4,a3.put oF.dst rF=a4:=⟨_,rfl⟩
   have d4:a4.defers=[]:=by rw [← ha4,put_defers,d3]
   rw [ha4] at q4 ⊢;have pp4:=pp3.trans p4
   have hval:VR μ4 Mt4 w4 (.fn D.k1 [] [g0,g1,g2]) (a4.eval (.tmp D.d)):=by
    have hg:=q4.getD D.d;rw [adw _ _ _ _ hdl,ed rfl] at hg;exact hg
   obtain ⟨fst',cap',hfv,hfs,hvg⟩:∃ (fst' cap':Array Value),a4.eval (.tmp D.d)=.func (.func D.k1) fst' cap'∧fst'=#[]∧VRs μ4 Mt4 w4 [g0,g1,g2] cap'.toList:=by
    generalize a4.eval (.tmp D.d)=fv at hval;cases hval with
    | fn _ _ _ fst' cap' k1 k2 k3 k4=>exact ⟨fst',cap',rfl,acz (by simpa using k1.symm),by simpa using k2,fun i p q hp hq=>k4 i p q hp (by simpa using hq)⟩
   subst hfs;refine acf (o:=oD) rfl gD ⟨fun _ _=>trivial,?_⟩
   have hxD:(Oper.semAt none a4.eval oD).run P w4=.ok (.defer { target:=.fn (.func D.k1) cap',args:=#[] }) w4:=by
    rw [Oper.semAt_none];unfold execOp;simp only [eD,resolve,hfv,Deferred.ofValue,Sem.run_bind,Sem.run_pure,Result.andThen_ok];simp
   show Oper.uponIn (Fw none) m P oD a4 _ _ ((Oper.semAt none a4.eval oD).run P w4);rw [hxD];simp only [Oper.uponIn,wpOpsIn];rw [dD,d4];show Code.wpIn (Fw none) m P mR _ { a4 with defers:=[{ target:=.fn (.func D.k1) cap',args:=#[] }] } w4
   have hinv:∀ w,(invoke (.fn (.func D.k1) cap') #[]).run P w=.ok (.enter D.k1 cap') w:=fun w=>by
    simp only [invoke,hrec.1];rw [Array.empty_append]
   have leaveD:∀ {u u':FrameMode} {y:V} {frx:List V} {tx:Array Value} {wx:World} {μx:Mu} {Mtx:Nat→Prop} {Hx:Heap},u≠.run→settle u'=.returning→Post (CR P pure') μ4 Mt4 w4 H3 μx Mtx wx Hx→FR μx Mtx wx frx tx→RecC D.Tf D.z μx Mtx wx u u' y→D.recR (xh CP n) (itN n) base y g0 g1 g2 Hx H'→qd D.rs frx H'=some r→
    LeavesInM Fence.wide m P fn tx (ank (CR P pure') μ Mt w H r H') [{ target:=.fn (.func D.k1) cap',args:=#[] }] u wx:=fun {u u' y frx tx wx μx Mtx Hx} hu hu' pp ff hc hr hres=>by
    obtain ⟨f3,K3,f4,r1,r2⟩:=hr
    refine ⟨hu,.inr ⟨fun h=>by simp [Fence.wide] at h,.func D.k1,cap',D.k1,cap',rfl,hinv wx,fun _ _=>trivial,?_⟩⟩
    have hcd:=hrec.2 (m:=m - 1) pp.hr (pp.vrs p4.hr hvg) (show [g0,g1,g2].length≤D.N1 from hN1) hc (n:=n) (base:=base) r1 r2 (R:=fun e u' w'=>∃ v,e=.returned v∧LeavesInM Fence.wide m P fn tx (ank (CR P pure') μ Mt w H r H') [] (settle u') w') (fun v μy Mty wy py=>by
     refine ⟨v,rfl,?_⟩;rw [hu'];obtain ⟨cv,k1,k2⟩:=ack py.hr (ff.post pp.hr py) hrs hres;exact ⟨cv,k1,cv,_,_,rfl,k2,(pp4.trans pp).trans py⟩)
    rw [qh] at hcd;refine hcd.mono ?_;rintro e1 u1 wz ⟨v,rfl,hh⟩;exact hh
   rcases hn with ⟨e,fr5,H5,he,h5,hr,hres⟩ | ⟨x,Hp,hp,hr,hres⟩
   ·refine ag6 hs hmix n base cR none m _ _ _ _ _ h5 μ4 Mt4 w4 { a4 with defers:=[{ target:=.fn (.func D.k1) cap',args:=#[] }] } _ p4.hr q4 (fun l hl=>by cases hl) ?_
    rintro a5 w5 ⟨μ5,Mt5,p5,q5,L,hL,hnd,hLs⟩
    have fin:LeavesInM Fence.wide m P fn a5.tmps (ank (CR P pure') μ Mt w H r H') a5.defers .returning w5:=by
     rw [hL]
     exact afs (by simp) (x:=und) (c:=Go.undef) (fun w6 p6 q6 _=>leaveD (by simp) rfl p6 q6 .nil hr hres) L w5 p5 q5 (.s _) hnd hLs
    rcases he with rfl | rfl
    ·exact fin
    ·exact fin
   ·refine asw hs hx hmix n base cR oR none m _ _ _ hp μ4 Mt4 w4 { a4 with defers:=[{ target:=.fn (.func D.k1) cap',args:=#[] }] } _ p4.hr q4 (fun l hl=>by cases hl) ?_
    rintro ch a5 w5 ⟨cv,μ5,Mt5,lx,frl,frx,rfl,hvx,p5,⟨L,hL,hnd,hLs⟩,hC,hK,q5⟩;show LeavesInM Fence.wide m P fn a5.tmps _ a5.defers _ w5;rw [hL];obtain ⟨⟨b0,b1,b2⟩,hdst⟩:=hC
    have hres':qd D.rs frx H'=some r:=by
     rw [← hres];refine alz fun q hq=>?_
     rcases hrs2 q hq with h | h | h <;> rw [h]
     ·rw [hK _ (fun o ho=>(hdst o ho).1),b0,adu (fun e=>hdN.1 (fo e)),e0]
     ·rw [hK _ (fun o ho=>(hdst o ho).2.1),b1,adu (fun e=>hdN.2.1 (fo e)),e1]
     ·rw [hK _ (fun o ho=>(hdst o ho).2.2),b2,adu (fun e=>hdN.2.2 (fo e)),e2]
    exact afs (by simp) (fun w6 p6 q6 v6=>leaveD (by simp) rfl p6 q6 (.pan x cv v6) hr hres') L w5 p5 q5 hvx hnd hLs
end
end Go.AM
