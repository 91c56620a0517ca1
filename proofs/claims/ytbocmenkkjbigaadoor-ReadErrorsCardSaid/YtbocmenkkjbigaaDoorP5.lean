/- Texts of the proof: RdJ2, RdJ3, RdY1, RdK1, RdK2, RdK3, RdS6, RdK4. -/
import Derived.Test.YtbocmenkkjbigaaDoorP0
import Derived.Test.YtbocmenkkjbigaaDoorP1
import Derived.Test.YtbocmenkkjbigaaDoorP2
import Derived.Test.YtbocmenkkjbigaaDoorP3
import Derived.Test.YtbocmenkkjbigaaDoorP4
set_option linter.all false
set_option maxRecDepth 100000
namespace Go.Proofs.YtbocmenkkjbigaaDoor
open Go.AM
structure Shift (U V:Vw) (k K:Nat):Prop where
 kind:∀ a,a≤K→V.kind (a+k)=U.kind a
 text:∀ a,a≤K→V.text (a+k)=U.text a
 num:∀ a,a≤K→V.num (a+k)=U.num a
 same:∀ a,a < K→V.same (a+k)=U.same a
 kk:U.kind K=4
 k4:∀ a,a < K→U.kind a≠4
 nm:∀ a,a < K→U.kind a=1→U.text a≠[]
def ShR {α:Type} (k K:Nat) (r s:Except Nat (α × Nat)):Prop:=match r with
 | .ok p=>p.2≤K∧s=.ok (p.1,p.2+k)
 | .error j=>j≤K∧s=.error (j+k)
theorem ShR.bind {α β:Type} {k K a:Nat} {f f':Rx α} {g g':α→Rx β} (h:ShR k K (f a) (f' (a+k))) (hg:∀ x b,b≤K→f a=.ok (x,b)→ShR k K (g x b) (g' x (b+k))):ShR k K (Rx.bind f g a) (Rx.bind f' g' (a+k)):=by
 unfold Rx.bind;unfold ShR at h;cases hf:f a with
 | error j=>
   rw [hf] at h;rw [h.2];exact ⟨h.1,rfl⟩
 | ok p=>
   obtain ⟨x,b⟩:=p;rw [hf] at h;obtain ⟨h1,h2⟩:=h;rw [h2];exact hg x b h1 hf
section
variable {U V:Vw} {k K:Nat}
theorem Shift.isT (h:Shift U V k K) (s:List UInt8) {a:Nat} (ha:a≤K):isT V s (a+k)=isT U s a:=by
 unfold Go.Proofs.YtbocmenkkjbigaaDoor.isT
 rcases l8 a K with q | q
 ·rw [h.same a q,h.kind a ha,h.text a ha]
 ·have e:a=K:=by omega
  rw [h.kind a ha,e,h.kk];simp
theorem Shift.isT_lt (h:Shift U V k K) {s:List UInt8} {a:Nat} (ha:a≤K) (hi:Go.Proofs.YtbocmenkkjbigaaDoor.isT U s a=true):a < K:=by
 rcases l8 a K with hlt | hge
 ·exact hlt
 ·have:a=K:=by omega
  subst this;unfold Go.Proofs.YtbocmenkkjbigaaDoor.isT at hi;rw [h.kk] at hi;simp at hi
theorem Shift.kd (h:Shift U V k K) {n:Nat} (hn:n≠4) {a:Nat} (ha:a≤K):(V.same (a+k) && V.kind (a+k) == n)=(U.same a && U.kind a == n)∧((U.same a && U.kind a == n)=true→a < K):=by
 have h4:((4:Nat) == n)=false:=by rw [dw];exact o9 hn
 rcases l8 a K with hlt | hge
 ·exact ⟨by rw [h.same a hlt,h.kind a ha],fun _=>hlt⟩
 ·have e:a=K:=by omega
  rw [h.kind a ha,e,h.kk,h4,aam,aam]
  exact ⟨rfl,fun e=>by cases e⟩
theorem Shift.name (h:Shift U V k K) {a:Nat} (ha:a≤K):ShR k K (mo U a) (mo V (a+k)):=by
 obtain ⟨h1,h2⟩:=h.kd (n:=1) (by decide) ha
 unfold mo ShR;by_cases hk:(U.same a && U.kind a == 1)=true
 ·rw [bi hk,bi (h1.trans hk),h.text a ha]
  exact ⟨h2 hk,by rw [mi]⟩
 ·rw [bu hk,bu (by rw [h1];exact hk)]
  exact ⟨ha,rfl⟩
theorem Shift.size (h:Shift U V k K) {a:Nat} (ha:a≤K):ShR k K (q9 U a) (q9 V (a+k)):=by
 obtain ⟨h1,h2⟩:=h.kd (n:=2) (by decide) ha
 unfold q9 ShR;by_cases hk:(U.same a && U.kind a == 2)=true
 ·rw [bi hk,bi (h1.trans hk),h.num a ha]
  exact ⟨h2 hk,by rw [mi]⟩
 ·rw [bu hk,bu (by rw [h1];exact hk)]
  exact ⟨ha,rfl⟩
theorem Shift.sign (h:Shift U V k K) (s:List UInt8) {a:Nat} (ha:a≤K):ShR k K (qj U s a) (qj V s (a+k)):=by
 have h1:=h.isT s ha;unfold qj ShR;by_cases hk:Go.Proofs.YtbocmenkkjbigaaDoor.isT U s a=true
 ·rw [bi hk,bi (h1.trans hk)]
  exact ⟨h.isT_lt ha hk,by rw [mi]⟩
 ·rw [bu hk,bu (by rw [h1];exact hk)]
  exact ⟨ha,rfl⟩
theorem Shift.begT (h:Shift U V k K) {a:Nat} (ha:a≤K):begT V (a+k)=begT U a:=by
 unfold Go.Proofs.YtbocmenkkjbigaaDoor.begT
 rcases l8 a K with q | q
 ·rw [h.same a q,h.kind a ha]
 ·have e:a=K:=by omega
  rw [h.kind a ha,e,h.kk];simp
theorem Shift.secT (h:Shift U V k K) (s:List UInt8) {a:Nat} (ha:a < K):secT V s (a+k)=secT U s a∧(secT U s a=true→a+2≤K):=by
 unfold Go.Proofs.YtbocmenkkjbigaaDoor.secT
 rcases l8 (a+1) K with hlt | hge
 ·rw [h.kind a (az1 ha),mi,h.same _ hlt,h.kind _ ha,h.text _ ha];exact ⟨rfl,fun _=>hlt⟩
 ·have e:a+1=K:=by omega
  rw [mi,h.kind (a+1) ha,e,h.kk];simp
theorem Shift.list (h:Shift U V k K):∀ (n n':Nat) {acc:List ByteArray} {a:Nat},a≤K→K < a+n→K < a+n'→ShR k K (za U n acc a) (za V n' acc (a+k)):=by
 intro n
 induction n with
 | zero=>intro n' acc a ha hk;omega
 | succ n ih=>
   intro n' acc a ha hk hk';cases n' with
   | zero=>omega
   | succ n'=>
     rw [za,za,h.isT [41] ha];by_cases hi:Go.Proofs.YtbocmenkkjbigaaDoor.isT U [41] a=true
     ·rw [bi hi,bi hi];exact ⟨ha,rfl⟩
     ·rw [bu hi,bu hi];by_cases h0:acc.length > 0
      ·rw [bi h0,bi h0];refine (h.sign [44] ha).bind fun u b hb hs=>(h.name hb).bind fun x c hc hn=>?_;have:=o7 hs;have:=ku hn
       exact ih n' hc (by omega) (by omega)
      ·rw [bu h0,bu h0];refine (h.name ha).bind fun x c hc hn=>?_;have:=ku hn
       exact ih n' hc (by omega) (by omega)
theorem Shift.listT (h:Shift U V k K) {N N':Nat} (hN:K < N) (hN':K < N') {a:Nat} (ha:a≤K):ShR k K (listT U N a) (listT V N' (a+k)):=
 (h.sign [40] ha).bind fun _ b hb _=>(h.list N N' hb (by omega) (by omega)).bind fun _ c hc _=>(h.sign [41] hc).bind fun _ d hd _=>⟨hd,rfl⟩
theorem Shift.phi (h:Shift U V k K):∀ (n n':Nat) {ls xs:List ByteArray} {a:Nat},a≤K→K < a+n→K < a+n'→ShR k K (alr U n ls xs a) (alr V n' ls xs (a+k)):=by
 intro n
 induction n with
 | zero=>intro n' ls xs a ha hk;omega
 | succ n ih=>
   intro n' ls xs a ha hk hk';cases n' with
   | zero=>omega
   | succ n'=>
     rw [alr,alr];refine (h.name ha).bind fun l b hb hl=>(h.sign [58] hb).bind fun u c hc hu=>(h.name hc).bind fun x d hd hx=>?_;have:=ku hl;have:=o7 hu;have:=ku hx;rw [h.isT [44] hd];by_cases hi:Go.Proofs.YtbocmenkkjbigaaDoor.isT U [44] d=true
     ·rw [bi hi,bi hi];refine (h.sign [44] hd).bind fun u e he hs=>?_;have:=o7 hs
      exact ih n' he (by omega) (by omega)
     ·rw [bu hi,bu hi];exact ⟨hd,rfl⟩
theorem Shift.op (h:Shift U V k K) {N N':Nat} (hN:K < N) (hN':K < N') (o:Nat) (x:InsD) {a:Nat} (ha:a≤K):ShR k K (opT U N o x a) (opT V N' o x (a+k)):=by
 unfold opT;split
 ·exact (h.size ha).bind fun n b hb _=>⟨hb,rfl⟩
 ·exact (h.size ha).bind fun n b hb _=>⟨hb,rfl⟩
 ·exact ⟨ha,rfl⟩
 ·exact (h.name ha).bind fun n b hb _=>⟨hb,rfl⟩
 ·exact (h.name ha).bind fun n b hb _=>⟨hb,rfl⟩
 ·exact (h.name ha).bind fun n b hb _=>⟨hb,rfl⟩
 ·exact (h.sign [91] ha).bind fun _ b hb _=>(h.phi N N' hb (by omega) (by omega)).bind fun p c hc _=>(h.sign [93] hc).bind fun _ d hd _=>⟨hd,rfl⟩
 ·exact (h.name ha).bind fun s b hb _=>(h.size hb).bind fun n c hc _=>⟨hc,rfl⟩
 ·exact (h.name ha).bind fun s b hb _=>(h.sign [44] hb).bind fun _ c hc _=>(h.name hc).bind fun t d hd _=>⟨hd,rfl⟩
 ·exact (h.name ha).bind fun s b hb _=>(h.listT hN hN' hb).bind fun l c hc _=>⟨hc,rfl⟩
 ·exact (h.name ha).bind fun s b hb _=>(h.listT hN hN' hb).bind fun l c hc _=>⟨hc,rfl⟩
 ·exact (h.name ha).bind fun s b hb _=>(h.name hb).bind fun t c hc _=>⟨hc,rfl⟩
 ·exact (h.name ha).bind fun s b hb _=>⟨hb,rfl⟩
 ·dsimp only
  obtain ⟨h1,_⟩:=h.kd (n:=1) (by decide) ha
  rw [h1];by_cases hk:(U.same a && U.kind a == 1)=true
  ·rw [bi hk,bi hk];exact (h.name ha).bind fun n b hb _=>⟨hb,rfl⟩
  ·rw [bu hk,bu hk];exact ⟨ha,rfl⟩
 ·exact ⟨ha,rfl⟩
theorem Shift.ins (h:Shift U V k K) {N N':Nat} (hN:K < N) (hN':K < N') (d:ByteArray) (l:List (List UInt8 × Nat)) {b:Nat} (hb:b≤K) (hd:b < K∨d.data.toList≠[]):ShR k K (ami U N d l b) (ami V N' d l (b+k)):=by
 unfold ami;rw [h.text b hb,h.kind b hb];cases ai7 l (U.text b) with
 | none=>
   dsimp only;split
   ·rename_i e
    refine ⟨?_,by rw [mi]⟩
    rcases hd with q | q
    ·exact q
    ·exact absurd e q
   ·exact ⟨hb,rfl⟩
 | some o=>
   dsimp only;by_cases h1:U.kind b=1
   ·rw [bi h1,bi h1,mi]
    exact h.op hN hN' o _ (by
     rcases l8 b K with q | q
     ·exact q
     ·have e:b=K:=by omega
      rw [e,h.kk] at h1;cases h1)
   ·rw [bu h1,bu h1];exact ⟨hb,rfl⟩
theorem azu {l:List UInt8} (h:l≠[]):(bOf l).data.toList≠[]:=by
 simpa [bOf] using h
theorem Shift.instr (h:Shift U V k K) {N N':Nat} (hN:K < N) (hN':K < N') {a:Nat} (ha:a < K):ShR k K (aaa U N a) (aaa V N' (a+k)):=by
 obtain ⟨h1,h2⟩:=h.secT [61] ha;unfold aaa;rw [h1];by_cases hs:Go.Proofs.YtbocmenkkjbigaaDoor.secT U [61] a=true
 ·rw [bi hs,bi hs];have hk:=h2 hs
  have hk1:U.kind a=1:=by
   unfold Go.Proofs.YtbocmenkkjbigaaDoor.secT at hs;rw [au,jq] at hs;exact hs.1
  rw [h.text a (by omega),mi]
  rcases l8 (a+2) K with q | q
  ·rw [h.same _ q];by_cases hm:U.same (a+2)=true
   ·rw [bi hm,bi hm];exact h.ins hN hN' _ _ hk (Or.inr (azu (h.nm a ha hk1)))
   ·rw [bu hm,bu hm];exact ⟨hk,rfl⟩
  ·have e:a+2=K:=by omega
   have hd:=azu (h.nm a ha hk1)
   have u4:U.kind (a+2)=4:=by rw [e,h.kk]
   have v4:V.kind (a+2+k)=4:=by rw [h.kind _ hk,u4]
   have key:∀ (X:Vw) (M c:Nat),X.kind c=4→ami X M (bOf (U.text a)) ale c=.error c:=by
    intro X M c hc;unfold ami;split
    ·rw [bu hd]
    ·rw [bu (by omega)]
   rw [key U N _ u4,key V N' _ v4]
   have r1:(if U.same (a+2)=true then (.error (a+2):Except Nat (InsD × Nat)) else .error (a+2))=.error (a+2):=by split <;> rfl
   have r2:(if V.same (a+2+k)=true then (.error (a+2+k):Except Nat (InsD × Nat)) else .error (a+2+k))=.error (a+2+k):=by split <;> rfl
   rw [r1,r2];exact ⟨hk,rfl⟩
 ·rw [bu hs,bu hs];exact h.ins hN hN' _ _ (az1 ha) (Or.inl ha)
theorem Shift.blk (h:Shift U V k K) {N N':Nat} (hN:K < N) (hN':K < N') (nm:ByteArray) (ps:List ByteArray):∀ (n n':Nat) {bs:List BlkD} {a:Nat},a≤K→K < a+n→K < a+n'→ShR k K (aks U N nm ps n bs a) (aks V N' nm ps n' bs (a+k)):=by
 intro n
 induction n with
 | zero=>intro n' bs a ha hk;omega
 | succ n ih=>
   intro n' bs a ha hk hk';cases n' with
   | zero=>omega
   | succ n'=>
     rw [aks,aks,h.begT ha];by_cases hb:Go.Proofs.YtbocmenkkjbigaaDoor.begT U a=true
     ·rw [bi hb,bi hb];exact ⟨ha,rfl⟩
     rw [bu hb,bu hb]
     rcases l8 a K with hlt | hge
     ·rw [h.kind a ha,h.text a ha,(h.secT [58] hlt).1];by_cases hc:(U.kind a == 3 && U.text a == [125])=true
      ·rw [bi hc,bi hc,mi,h.begT (a:=a+1) hlt];by_cases hb2:Go.Proofs.YtbocmenkkjbigaaDoor.begT U (a+1)=true
       ·rw [bi hb2,bi hb2];exact ⟨hlt,rfl⟩
       ·rw [bu hb2,bu hb2];exact ⟨hlt,rfl⟩
      rw [bu hc,bu hc];by_cases hs:Go.Proofs.YtbocmenkkjbigaaDoor.secT U [58] a=true
      ·rw [bi hs,bi hs,mi]
       exact ih n' ((h.secT [58] hlt).2 hs) (by omega) (by omega)
      rw [bu hs,bu hs]
      by_cases hq:(U.kind a != 1 || bs.length == 0)=true
      ·rw [bi hq,bi hq];split
       ·exact ⟨hlt,by rw [mi]⟩
       ·exact ⟨ha,rfl⟩
      rw [bu hq,bu hq];refine (h.instr hN hN' hlt).bind fun x b hb' hi=>?_;have:=ab3 hi
      exact ih n' hb' (by omega) (by omega)
     ·have e:a=K:=by omega
      have k1:V.kind (a+k)=4:=by rw [h.kind a ha,e,h.kk]
      have k2:U.kind a=4:=by rw [e,h.kk]
      have q1:Go.Proofs.YtbocmenkkjbigaaDoor.secT U [58] a=false:=by unfold Go.Proofs.YtbocmenkkjbigaaDoor.secT;rw [k2];rfl
      have q2:Go.Proofs.YtbocmenkkjbigaaDoor.secT V [58] (a+k)=false:=by unfold Go.Proofs.YtbocmenkkjbigaaDoor.secT;rw [k1];rfl
      rw [k1,k2,q1,q2];exact ⟨ha,rfl⟩
theorem Shift.fun' (h:Shift U V k K) {N N':Nat} (hN:K < N) (hN':K < N') {a:Nat} (ha:a < K):ShR k K (ane U N a) (ane V N' (a+k)):=by
 unfold ane;rw [mi]
 exact (h.name ha).bind fun nm b hb _=>(h.listT hN hN' hb).bind fun ps c hc _=>(h.sign [123] hc).bind fun _ d hd _=>h.blk hN hN' nm ps N N' hd (by omega) (by omega)
theorem Shift.par (h:Shift U V k K) {N N':Nat} (hN:K < N) (hN':K < N') (gs:List FunD):∀ (n n':Nat) {fs:List FunD} {a:Nat},a≤K→K < a+n→K < a+n'→match ahu U N n fs a with
 | .ok (fs',b)=>ahu V N' n' (gs ++ fs) (a+k)=.ok (gs ++ fs',b+k)
 | .error j=>j≤K∧ahu V N' n' (gs ++ fs) (a+k)=.error (j+k):=by
 intro n
 induction n with
 | zero=>intro n' fs a ha hk;omega
 | succ n ih=>
   intro n' fs a ha hk hk';cases n' with
   | zero=>omega
   | succ n'=>
     rcases l8 a K with hlt | hge
     ·rw [ahu,ahu,h.kind a ha,h.text a ha,bu (h.k4 a hlt),bu (h.k4 a hlt)]
      by_cases hb:(U.kind a != 1 || U.text a != [102,117,110,99])=true
      ·rw [bi hb,bi hb];exact ⟨ha,rfl⟩
      rw [bu hb,bu hb];have hs:=h.fun' hN hN' hlt;unfold Rx.bind;unfold ShR at hs;cases hf:ane U N a with
      | error j=>
        rw [hf] at hs;dsimp only;rw [hs.2];exact ⟨hs.1,rfl⟩
      | ok p=>
        obtain ⟨f,b⟩:=p;rw [hf] at hs;obtain ⟨s1,s2⟩:=hs;rw [s2];dsimp only at s1 ⊢;have:=(amj hf).1;rw [gu]
        exact ih n' (fs:=fs ++ [f]) s1 (by omega) (by omega)
     ·have e:a=K:=by omega
      have k1:V.kind (a+k)=4:=by rw [h.kind a ha,e,h.kk]
      have k2:U.kind a=4:=by rw [e,h.kk]
      rw [ahu,bi k2,ahu,bi k1]
end
structure Wd (us:List Tok.T) (ln L:Nat):Prop where
 le:ln≤L
 all:∀ t∈us,t.kind≠4∧(t.kind=1→t.text≠[])∧ln≤t.line∧t.line≤L
theorem Wd.nil (ln:Nat):Wd [] ln ln:=⟨ag _,fun t ht=>by simp at ht⟩
theorem Wd.low {us:List Tok.T} {ln ln' L:Nat} (h:Wd us ln L) (hl:ln'≤ln):Wd us ln' L:=⟨jm hl h.le,fun t ht=>by obtain ⟨a,b,c,d⟩:=h.all t ht;exact ⟨a,b,jm hl c,d⟩⟩
theorem Wd.cons {us:List Tok.T} {ln L:Nat} {t:Tok.T} (h:Wd us ln L) (h4:t.kind≠4) (h1:t.kind=1→t.text≠[]) (hl:t.line=ln):Wd (t :: us) ln L:=⟨h.le,fun x hx=>by
 rcases mf.1 hx with rfl | hx
 ·exact ⟨h4,h1,vg hl.symm,by rw [hl];exact h.le⟩
 ·exact h.all x hx⟩
theorem bbw:∀ (n:Nat) (l:List UInt8) (ln cl:Nat) (ts:List Tok.T),l.length≤n→Tok.lex l ln cl=.done ts→∃ us L c,ts=us ++ [⟨4,[],0,L,c⟩]∧Wd us ln L:=by
 intro n
 induction n with
 | zero=>
   intro l ln cl ts hl h
   have:l=[]:=eu (by omega)
   subst this;rw [Tok.lex_nil] at h;cases h;exact ⟨[],ln,cl,rfl,Wd.nil _⟩
 | succ n ih=>
   intro l ln cl ts hl h;cases l with
   | nil=>
     rw [Tok.lex_nil] at h;cases h;exact ⟨[],ln,cl,rfl,Wd.nil _⟩
   | cons c l=>
     rw [bz] at hl;rw [Tok.lex_cons] at h;split at h
     ·split at h
      ·obtain ⟨us,L,c,e,w⟩:=ih _ _ _ _ (by omega) h
       exact ⟨us,L,c,e,w.low (a5v _)⟩
      ·exact ih _ _ _ _ (by omega) h
     split at h
     ·exact ih _ _ _ _ (by rw [il];omega) h
     split at h
     ·obtain ⟨us,hu,rfl⟩:=Tok.cons_done h
      obtain ⟨vs,L,c,e,w⟩:=ih _ _ _ _ (by rw [il];omega) hu
      exact ⟨_ :: vs,L,c,by rw [e];rfl,w.cons (fun e=>by cases e) (fun _=>by simp) rfl⟩
     split at h
     ·split at h
      ·cases h
      ·obtain ⟨us,hu,rfl⟩:=Tok.cons_done h
       obtain ⟨vs,L,c,e,w⟩:=ih _ _ _ _ (by rw [il];omega) hu
       exact ⟨_ :: vs,L,c,by rw [e];rfl,w.cons (fun e=>by cases e) (fun e=>by cases e) rfl⟩
     split at h
     ·obtain ⟨us,hu,rfl⟩:=Tok.cons_done h
      obtain ⟨vs,L,c,e,w⟩:=ih _ _ _ _ (by omega) hu
      exact ⟨_ :: vs,L,c,by rw [e];rfl,w.cons (fun e=>by cases e) (fun e=>by cases e) rfl⟩
     ·cases h
theorem ahx {us vs:List Tok.T} {a:Nat} (h:a < us.length):(us ++ vs).getD a tkE=us.getD a tkE:=by
 rw [List.getD_eq_getElem?_getD,List.getElem?_append_left h,← List.getD_eq_getElem?_getD]
theorem ayo (us vs:List Tok.T) (a:Nat):(us ++ vs).getD (a+us.length) tkE=vs.getD a tkE:=by
 rw [List.getD_eq_getElem?_getD,List.getElem?_append_right (by omega),ath,← List.getD_eq_getElem?_getD]
theorem as0 (us:List Tok.T) (e:Tok.T):(us ++ [e]).getD us.length tkE=e:=by
 have:=ayo us [e] 0;rw [jl] at this;rw [this];rfl
theorem Wd.at {us:List Tok.T} {ln L:Nat} (h:Wd us ln L) {a:Nat} (ha:a < us.length):(us.getD a tkE).kind≠4∧((us.getD a tkE).kind=1→(us.getD a tkE).text≠[])∧ln≤(us.getD a tkE).line∧(us.getD a tkE).line≤L:=by
 have e:us.getD a tkE=us[a]:=by rw [List.getD_eq_getElem?_getD,List.getElem?_eq_getElem ha];rfl
 rw [e];exact h.all _ (qo ha)
theorem auw (l:List UInt8) (hl:l.length≤1048576):(∃ us L c,Wd us 1 L∧Tok.lex l 1 1=.done (us ++ [⟨4,[],0,L,c⟩])∧adm l=(us ++ [⟨4,[],0,L,c⟩],(0,0),0))∨(∃ e p q,(e=30∨e=31)∧Tok.lex l 1 1=.bad e p q∧adm l=([],(p,q),e)):=by
 unfold adm
 rw [bu (by omega)]
 cases hx:Tok.lex l 1 1 with
 | done ts=>
   obtain ⟨us,L,c,rfl,w⟩:=bbw l.length l 1 1 ts (ag _) hx;exact Or.inl ⟨us,L,c,w,rfl,rfl⟩
 | bad e p q=>exact Or.inr ⟨e,p,q,(Tok.lex_ahead l.length l (1,1) e p q (ag _) hx).1,rfl,rfl⟩
def errR (ts:List Tok.T) (j:Nat):List FunD × (Nat × Nat) × Nat:=([],((ts.getD j tkE).line,(ts.getD j tkE).col),if (ts.getD j tkE).kind=4 then 41 else 40)
def ansR (ts:List Tok.T):Except Nat (List FunD)→List FunD × (Nat × Nat) × Nat
 | .ok fs=>(fs,(0,0),0)
 | .error j=>errR ts j
theorem aiy {l:List UInt8} {ts:List Tok.T} (h:adm l=(ts,(0,0),0)):acv l=ansR ts (a5f ts):=by
 unfold acv;rw [h];dsimp only;rw [bi rfl];cases a5f ts <;> rfl
theorem a1n {l:List UInt8} {p q e:Nat} (h:adm l=([],(p,q),e)) (he:e=30∨e=31):acv l=([],(p,q),e):=by
 unfold acv;rw [h];dsimp only
 rw [bu (by omega)]
theorem a8u (ts:List Tok.T) (j:Nat):(errR ts j).2.2≠0:=by
 unfold errR;dsimp only;split <;> decide
def parV (V:Vw) (n:Nat):Except Nat (List FunD):=match ahu V n n [] 0 with
 | .error e=>.error e
 | .ok (fs,_)=>.ok fs
theorem a5e (ts:List Tok.T):a5f ts=parV (Vw.of ts) (ts.length+1):=rfl
theorem bx1 (H:Heap) (a:V) (c:Ob):getC (H ++ [.cells 0 [a]] ++ [c]) H.length 0=some [a]:=jk (kw H 0 [a]) (Ext.app _ _)
theorem bx2 (H:Heap) (a b:Ob) (c:Ob):(H ++ [a] ++ [c]).set H.length b=H ++ [b] ++ [c]:=by
 rw [anh _ _ (by rw [kv];omega),uw]
theorem bx3 (H:Heap) (a:Ob) (c:List V):getC (H ++ [a] ++ [.cells 0 c]) (H.length+1) 0=some c:=by
 have:=kw (H ++ [a]) 0 c
 rwa [kv] at this
theorem bx4 (H:Heap) (a:Ob) (b c:Ob):(H ++ [a] ++ [b]).set (H.length+1) c=H ++ [a] ++ [c]:=by
 have:=uw (H ++ [a]) b c
 rwa [kv] at this
theorem ak7 (a b c d:Int):mh [Leaf.int IntKind.i64,Leaf.int IntKind.i64] [.s (.int .i64 a),.s (.int .i64 b)] [.s (.int .i64 c),.s (.int .i64 d)]=some (a == c && b == d):=by
 simp only [mh,ao7,ou,iq,ig]
theorem bx5 (H:Heap) (a:Ob):(H ++ [a]).length=H.length+1:=kv H a
section
variable {CT:Nat→Option CFun}
theorem asf (hP:ag6 CT) (base:Nat) {H:Heap} (hb:base≤H.length) (b:ByteArray) {p:List FunD × (Nat × Nat) × Nat} (hp:acv b.data.toList=p):∃ v H1 H2,fe CT (.fn a9p [] []) [.s (.string b)] base H=some (.tup [.agg [v],.agg [.s (.int .i64 p.2.1.1),.s (.int .i64 p.2.1.2)],.s (.int .i64 p.2.2)],H1)∧
 H1 ++ [Ob.cells 0 [v]] ++ [Ob.cells 0 [.s (.int .i64 p.2.1.1),.s (.int .i64 p.2.1.2)]]=H2∧Ext H H2∧base≤H1.length∧base≤H1.length+1∧H2.length=H1.length+2∧H.length≤H1.length∧v.one=true∧adr H2 v p.1∧getC H2 H1.length 0=some [v]∧getC H2 (H1.length+1) 0=some [.s (.int .i64 p.2.1.1),.s (.int .i64 p.2.1.2)]:=by
 obtain ⟨v,H1,h1,e1,h3⟩:=hP base H b hb;rw [hp] at h1 h3;have hr:=h3 H1 fun _ _ _=>rfl;obtain ⟨H2,hH2⟩:∃ X,H1 ++ [Ob.cells 0 [v]] ++ [Ob.cells 0 [.s (.int .i64 p.2.1.1),.s (.int .i64 p.2.1.2)]]=X:=⟨_,rfl⟩;have e2:Ext H1 H2:=hH2 ▸ (Ext.app _ _).trans (Ext.app _ _);have hl:=e1.le
 refine ⟨v,H1,H2,h1,hH2,e1.trans e2,by omega,by omega,by rw [← hH2,kv,kv],hl,hr.one,hr.ext e2,hH2 ▸ bx1 _ _ _,hH2 ▸ bx3 _ _ _⟩
end
open Go.AM Go.AM.Tok
def bdw (l:List UInt8) (p:Nat × Nat) (ts:List Tok.T):Prop:=∀ (j:Nat) (t:Tok.T),ts[j]?=some t→∃ u v,l=u ++ v∧(t.line,t.col)=spotL u p∧lex u p.1 p.2=.done (ts.take j ++ [⟨4,[],0,t.line,t.col⟩])
theorem azg (p:Nat × Nat):bdw [] p [⟨4,[],0,p.1,p.2⟩]:=by
 intro j t h;cases j with
 | succ j=>simp at h
 | zero=>
   simp at h;subst h;exact ⟨[],[],rfl,rfl,lex_nil _ _⟩
theorem ar6 (q:UInt8→Bool) (l u:List UInt8):(l.take (far q l) ++ u).take (far q l)=l.take (far q l):=List.take_left' (far_len q l)
theorem amw {l m x:List UInt8} {p r:Nat × Nat} {w:Tok.T} {us:List Tok.T} (hm:bdw m r us) (h:∀ u v ts,m=u ++ v→lex u r.1 r.2=.done ts→l=x ++ u ++ v∧lex (x ++ u) p.1 p.2=Out.cons w (.done ts)∧spotL (x ++ u) p=spotL u r) (hw:(w.line,w.col)=p):bdw l p (w :: us):=by
 intro j t ht;cases j with
 | zero=>
   simp at ht;subst ht;refine ⟨[],l,rfl,hw,?_⟩;rw [lex_nil,← hw];rfl
 | succ j=>
   rw [List.getElem?_cons_succ] at ht;obtain ⟨u,v,h1,h2,h3⟩:=hm j t ht;obtain ⟨q1,q2,q3⟩:=h u v _ h1 h3
   exact ⟨x ++ u,v,q1,by rw [q3];exact h2,by rw [q2];rfl⟩
theorem aq6:∀ (n:Nat) (l:List UInt8) (p:Nat × Nat) (ts:List Tok.T),l.length≤n→lex l p.1 p.2=.done ts→bdw l p ts:=by
 intro n
 induction n with
 | zero=>
   intro l p ts h he
   obtain rfl:l=[]:=eu (by omega)
   rw [lex_nil] at he;cases he;exact azg p
 | succ n ih=>
   intro l p ts h he;cases l with
   | nil=>rw [lex_nil] at he;cases he;exact azg p
   | cons c l=>
     have hl:l.length≤n:=by simpa using h
     have hd:∀ m,(l.drop m).length≤n:=fun m=>by rw [il];omega
     rw [lex_cons] at he;have hdrop:∀ (q:UInt8→Bool) (u:List UInt8),(l.take (far q l) ++ u).drop (far q l)=u:=fun q u=>a5w (far_len q l);split at he
     ·rename_i hb;split at he
      ·rename_i h10;intro j t ht;obtain ⟨u,v,rfl,h4,h5⟩:=ih _ (p.1+1,1) _ hl he j t ht
       exact ⟨c :: u,v,rfl,by rw [h4,spotL,bi h10],by rw [lex_cons,bi hb,bi h10];exact h5⟩
      ·rename_i h10;intro j t ht;obtain ⟨u,v,rfl,h4,h5⟩:=ih _ (p.1,p.2+1) _ hl he j t ht
       exact ⟨c :: u,v,rfl,by rw [h4,spotL,bu h10],by rw [lex_cons,bi hb,bu h10];exact h5⟩
     ·rename_i hb;split at he
      ·rename_i h59;intro j t ht;obtain ⟨u,v,h2,h4,h5⟩:=ih _ (p.1,p.2+(far other l+1)) _ (hd _) he j t ht;have hf:=agy other l u v h2;refine ⟨c :: (l.take (far other l) ++ u),v,?_,?_,?_⟩
       ·rw [ah,gu,← h2,jr]
       ·rw [h4,← ah,zy,spotL_flat (c :: l.take (far other l)) p (len_ne other (by decide) l (by rw [h59];decide)),bz,far_len]
       ·rw [lex_cons,bu hb,bi h59,hf,hdrop];exact h5
      ·rename_i h59;split at he
       ·rename_i hlt;obtain ⟨us,hu,rfl⟩:=cons_done he;refine amw (ih _ (p.1,p.2+(far within l+1)) _ (hd _) hu) (x:=c :: l.take (far within l)) (fun u v ts h2 h3=>?_) rfl;have hf:=agy within l u v h2;refine ⟨?_,?_,?_⟩
        ·rw [ah,ah,gu,← h2,jr]
        ·rw [ah,lex_cons,bu hb,bu h59,bi hlt,hf,hdrop,h3,ar6]
        ·rw [zy,spotL_flat (c :: l.take (far within l)) p (len_ne within (by decide) l (not_ten (.inl hlt))),bz,far_len]
       ·rename_i hlt;split at he
        ·rename_i hdg;split at he
         ·cases he
         ·rename_i hcond;obtain ⟨us,hu,rfl⟩:=cons_done he;refine amw (ih _ (p.1,p.2+(far digit l+1)) _ (hd _) hu) (x:=c :: l.take (far digit l)) (fun u v ts h2 h3=>?_) rfl;have hf:=agy digit l u v h2
          have hm:far within (l.take (far digit l) ++ u)≤far within l:=by
           have:=amn within (l.take (far digit l) ++ u) v;rw [gu,← h2,jr] at this;exact this
          refine ⟨?_,?_,?_⟩
          ·rw [ah,ah,gu,← h2,jr]
          ·rw [ah,lex_cons,bu hb,bu h59,bu hlt,bi hdg,bu (fun hx=>hcond (by rw [hf] at hx;exact hx.imp id (Or.imp id fun h=>by omega))),hf,hdrop,h3,ar6]
          ·rw [zy,spotL_flat (c :: l.take (far digit l)) p (len_ne digit (by decide) l (not_ten (.inr (.inl hdg)))),bz,far_len]
        ·rename_i hdg;split at he
         ·rename_i hs;obtain ⟨us,hu,rfl⟩:=cons_done he;refine amw (ih _ (p.1,p.2+1) _ hl hu) (x:=[c]) (fun u v ts h2 h3=>?_) rfl
          refine ⟨by rw [h2];rfl,?_,?_⟩
          ·show lex (c :: u) p.1 p.2=_;rw [lex_cons,bu hb,bu h59,bu hlt,bu hdg,bi hs,h3]
          ·show spotL (c :: u) p=_;rw [spotL,bu (not_ten (.inr (.inr hs)))]
         ·cases he
def ac0:Nat→List UInt8→Nat
 | 0,_=>0
 | _+1,[]=>0
 | n+1,c :: l=>1+ac0 (if c=10 then n else n+1) l
theorem aap:∀ (u:List UInt8) (p:Nat × Nat),p.1≤(spotL u p).1∧((spotL u p).1=p.1→(spotL u p).2=p.2+u.length)
 | [],p=>⟨ag _,fun _=>rfl⟩
 | c :: u,p=>by
   rw [spotL];split
   ·have:=aap u (p.1+1,1);dsimp only at this
    exact ⟨by omega,fun h=>by omega⟩
   ·have:=aap u (p.1,p.2+1);dsimp only at this;refine ⟨this.1,fun h=>?_⟩;rw [this.2 h,bz];omega
theorem apy:∀ (u v:List UInt8) (p:Nat × Nat),p.1 < (spotL u p).1→ac0 ((spotL u p).1 - p.1) (u ++ v)+(spotL u p).2=u.length+1∧1≤(spotL u p).2
 | [],v,p,h=>by simp [spotL] at h
 | c :: u,v,p,h=>by
   rw [spotL] at h ⊢;split at h
   ·rename_i h10;rw [bi h10]
    obtain ⟨m,hm⟩:∃ m,(spotL u (p.1+1,1)).1 - p.1=m+1:=⟨_,(ah2 (by omega)).symm⟩
    rw [hm,ah,ac0,bi h10,bz];cases m with
    | zero=>
      have q:=(aap u (p.1+1,1)).2 (by dsimp only;omega)
      dsimp only at q;rw [ac0,q];omega
    | succ m=>
      have q:=apy u v (p.1+1,1) (by dsimp only;omega)
      dsimp only at q
      rw [show (spotL u (p.1+1,1)).1 - (p.1+1)=m+1 by omega] at q
      omega
   ·rename_i h10;rw [bu h10]
    obtain ⟨m,hm⟩:∃ m,(spotL u (p.1,p.2+1)).1 - p.1=m+1:=⟨_,(ah2 (by omega)).symm⟩
    have q:=apy u v (p.1,p.2+1) h;dsimp only at q;rw [hm] at q;rw [hm,ah,ac0,bu h10,bz];omega
theorem aia (u v:List UInt8):ac0 ((spotL u (1,1)).1 - 1) (u ++ v)+(spotL u (1,1)).2=u.length+1∧1≤(spotL u (1,1)).2∧1≤(spotL u (1,1)).1:=by
 have h1:=aap u (1,1);dsimp only at h1
 rcases Nat.eq_or_lt_of_le h1.1 with e | h
 ·rw [← e,ac0,h1.2 e.symm];omega
 ·have:=apy u v (1,1) h;exact ⟨this.1,this.2,h1.1⟩
theorem a0m {l:List UInt8} {ts:List Tok.T} (h:lex l 1 1=.done ts) {i j:Nat} {a b:Tok.T} (hi:ts[i]?=some a) (hj:ts[j]?=some b) (hl:a.line=b.line) (hc:a.col=b.col):i=j:=by
 obtain ⟨u,v,h1,h2,h3⟩:=aq6 _ l (1,1) ts (ag _) h i a hi;obtain ⟨x,y,g1,g2,g3⟩:=aq6 _ l (1,1) ts (ag _) h j b hj;have e1:=(aia u v).1;have e2:=(aia x y).1;rw [← h1,← h2] at e1;rw [← g1,← g2] at e2;dsimp only at e1 e2;rw [hl,hc] at e1
 have hux:u.length=x.length:=by omega
 have:u=x:=by
  have q:u ++ v=x ++ y:=by rw [← h1,← g1]
  exact (List.append_inj q hux).1
 subst this;rw [h3] at g3;injection g3 with g3;have q:=jw List.length g3;have li:=(List.getElem?_eq_some_iff.1 hi).1;have lj:=(List.getElem?_eq_some_iff.1 hj).1;rw [di,di,ny,ny,aj,aj] at q;omega
structure Ends (W V:Vw) (k:Nat):Prop where
 kind:∀ a,a < k→V.kind a=W.kind a
 text:∀ a,a < k→V.text a=W.text a
 num:∀ a,a < k→V.num a=W.num a
 same:∀ a,a < k→V.same a=W.same a
 kk:W.kind k=4
 kt:W.text k=[]
def Sm2 {α:Type} (k:Nat) (r s:Except Nat (α × Nat)):Prop:=match r with
 | .ok p=>p.2≤k∧(p.2 < k→s=.ok p)
 | .error j=>j < k→s=.error j
def AtK {α:Type} (k:Nat) (r:Except Nat (α × Nat)):Prop:=match r with
 | .ok p=>p.2=k
 | .error j=>k≤j
def P2 {α:Type} (k a:Nat) (r s:Except Nat (α × Nat)):Prop:=(a < k→Sm2 k r s)∧(a=k→AtK k r)
theorem AtK.sm {α:Type} {k:Nat} {r:Except Nat (α × Nat)} (h:AtK k r) (s:Except Nat (α × Nat)):Sm2 k r s:=by
 cases r with
 | error j=>intro hj;have:k≤j:=h;omega
 | ok p=>have:p.2=k:=h;exact ⟨by omega,fun h=>by omega⟩
theorem P2.sm {α:Type} {k a:Nat} {r s:Except Nat (α × Nat)} (h:P2 k a r s) (ha:a≤k):Sm2 k r s:=by
 rcases l8 a k with q | q
 ·exact h.1 q
 ·exact (h.2 (by omega)).sm s
theorem Sm2.bind {α β:Type} {k a:Nat} {f f':Rx α} {g g':α→Rx β} (h:Sm2 k (f a) (f' a)) (hg:∀ x b,b≤k→f a=.ok (x,b)→P2 k b (g x b) (g' x b)):Sm2 k (Rx.bind f g a) (Rx.bind f' g' a):=by
 unfold Rx.bind;unfold Sm2 at h;cases hf:f a with
 | error j=>
   rw [hf] at h;intro hj;rw [h hj]
 | ok p=>
   obtain ⟨x,b⟩:=p;rw [hf] at h;obtain ⟨h1,h2⟩:=h
   rcases l8 b k with q | q
   ·rw [h2 q];exact (hg x b h1 hf).1 q
   ·have e:b=k:=akw h1 q;exact ((hg x b h1 hf).2 e).sm _
theorem P2.bind {α β:Type} {k a:Nat} {f f':Rx α} {g g':α→Rx β} (h:P2 k a (f a) (f' a)) (hg:∀ x b,b≤k→f a=.ok (x,b)→P2 k b (g x b) (g' x b)):P2 k a (Rx.bind f g a) (Rx.bind f' g' a):=by
 refine ⟨fun ha=>(h.1 ha).bind hg,fun ha=>?_⟩;have h2:=h.2 ha;unfold Rx.bind;cases hf:f a with
 | error j=>rw [hf] at h2;exact h2
 | ok p=>
   obtain ⟨x,b⟩:=p;rw [hf] at h2;have e:b=k:=h2;exact (hg x b (vg e) hf).2 e
theorem P2.ok {α:Type} {k a:Nat} (ha:a≤k) (x:α):P2 k a (.ok (x,a)) (.ok (x,a)):=⟨fun h=>⟨ha,fun _=>rfl⟩,fun h=>h⟩
theorem P2.err {α:Type} {k a:Nat}:P2 (α:=α) k a (.error a) (.error a):=⟨fun _ _=>rfl,fun h=>vg h.symm⟩
section
variable {W V:Vw} {k:Nat}
theorem Ends.kd (h:Ends W V k) {n:Nat} (hn:n≠4) {a:Nat} (ha:a≤k):(a < k→(V.same a && V.kind a == n)=(W.same a && W.kind a == n))∧((W.same a && W.kind a == n)=true→a < k):=by
 refine ⟨fun q=>by rw [h.same a q,h.kind a q],fun hi=>?_⟩
 rcases l8 a k with hlt | hge
 ·exact hlt
 ·have:a=k:=by omega
  subst this
  rw [h.kk,show ((4:Nat) == n)=false from by rw [dw];exact o9 hn,aam] at hi
  cases hi
theorem Ends.isT (h:Ends W V k) (s:List UInt8) {a:Nat} (ha:a≤k):(a < k→isT V s a=isT W s a)∧(Go.Proofs.YtbocmenkkjbigaaDoor.isT W s a=true→a < k):=by
 unfold Go.Proofs.YtbocmenkkjbigaaDoor.isT
 refine ⟨fun q=>by rw [h.same a q,h.kind a q,h.text a q],fun hi=>?_⟩
 rcases l8 a k with hlt | hge
 ·exact hlt
 ·have:a=k:=by omega
  subst this;rw [h.kk] at hi;simp at hi
theorem Ends.name (h:Ends W V k) {a:Nat} (ha:a≤k):P2 k a (mo W a) (mo V a):=by
 obtain ⟨h1,h2⟩:=h.kd (n:=1) (by decide) ha
 unfold mo;by_cases hk:(W.same a && W.kind a == 1)=true
 ·have q:=h2 hk;rw [bi hk,bi ((h1 q).trans hk),h.text a q]
  exact ⟨fun _=>⟨q,fun _=>rfl⟩,fun e=>by omega⟩
 ·rw [bu hk];refine ⟨fun q=>?_,fun e=>vg e.symm⟩
  rw [bu (by rw [h1 q];exact hk)]
  exact fun _=>rfl
theorem Ends.size (h:Ends W V k) {a:Nat} (ha:a≤k):P2 k a (q9 W a) (q9 V a):=by
 obtain ⟨h1,h2⟩:=h.kd (n:=2) (by decide) ha
 unfold q9;by_cases hk:(W.same a && W.kind a == 2)=true
 ·have q:=h2 hk;rw [bi hk,bi ((h1 q).trans hk),h.num a q]
  exact ⟨fun _=>⟨q,fun _=>rfl⟩,fun e=>by omega⟩
 ·rw [bu hk];refine ⟨fun q=>?_,fun e=>vg e.symm⟩
  rw [bu (by rw [h1 q];exact hk)]
  exact fun _=>rfl
theorem Ends.sign (h:Ends W V k) (s:List UInt8) {a:Nat} (ha:a≤k):P2 k a (qj W s a) (qj V s a):=by
 obtain ⟨h1,h2⟩:=h.isT s ha;unfold qj;by_cases hk:Go.Proofs.YtbocmenkkjbigaaDoor.isT W s a=true
 ·have q:=h2 hk;rw [bi hk,bi ((h1 q).trans hk)]
  exact ⟨fun _=>⟨q,fun _=>rfl⟩,fun e=>by omega⟩
 ·rw [bu hk];refine ⟨fun q=>?_,fun e=>vg e.symm⟩
  rw [bu (by rw [h1 q];exact hk)]
  exact fun _=>rfl
theorem Ends.begT (h:Ends W V k) {a:Nat} (ha:a≤k):(a < k→begT V a=begT W a)∧(a=k→Go.Proofs.YtbocmenkkjbigaaDoor.begT W a=false):=by
 unfold Go.Proofs.YtbocmenkkjbigaaDoor.begT
 exact ⟨fun q=>by rw [h.same a q,h.kind a q],fun e=>by rw [e,h.kk];simp⟩
theorem Ends.secT (h:Ends W V k) (s:List UInt8) {a:Nat} (ha:a < k):(a+1 < k→secT V s a=secT W s a)∧(a+1=k→secT W s a=false)∧(secT W s a=true→a+2≤k):=by
 unfold Go.Proofs.YtbocmenkkjbigaaDoor.secT
 refine ⟨fun q=>by rw [h.kind a ha,h.same _ q,h.kind _ q,h.text _ q],fun e=>by rw [e,h.kk];simp,fun hi=>?_⟩
 rcases l8 (a+1) k with hlt | hge
 ·exact hlt
 ·have e:a+1=k:=by omega
  rw [e,h.kk] at hi;simp at hi
theorem Ends.list (h:Ends W V k):∀ (n n':Nat) {acc:List ByteArray} {a:Nat},a≤k→k < a+n→k < a+n'→P2 k a (za W n acc a) (za V n' acc a):=by
 intro n
 induction n with
 | zero=>intro n' acc a ha hk;omega
 | succ n ih=>
   intro n' acc a ha hk hk';cases n' with
   | zero=>omega
   | succ n'=>
     obtain ⟨i1,i2⟩:=h.isT [41] ha
     have rest:P2 k a (if acc.length > 0 then (qj W [44]).bind (fun _=>(mo W).bind fun x=>za W n (acc ++ [x])) a else (mo W).bind (fun x=>za W n (acc ++ [x])) a) (if acc.length > 0 then (qj V [44]).bind (fun _=>(mo V).bind fun x=>za V n' (acc ++ [x])) a else (mo V).bind (fun x=>za V n' (acc ++ [x])) a):=by
      by_cases h0:acc.length > 0
      ·rw [bi h0,bi h0];refine (h.sign [44] ha).bind fun u b hb hs=>(h.name hb).bind fun x c hc hn=>?_;have:=o7 hs;have:=ku hn
       exact ih n' hc (by omega) (by omega)
      ·rw [bu h0,bu h0];refine (h.name ha).bind fun x c hc hn=>?_;have:=ku hn
       exact ih n' hc (by omega) (by omega)
     rw [za,za];by_cases hi:Go.Proofs.YtbocmenkkjbigaaDoor.isT W [41] a=true
     ·have q:=i2 hi;rw [bi hi,bi ((i1 q).trans hi)];exact P2.ok ha _
     ·rw [bu hi];refine ⟨fun q=>?_,rest.2⟩;rw [i1 q,bu hi];exact rest.1 q
theorem Ends.listT (h:Ends W V k) {N N':Nat} (hN:k < N) (hN':k < N') {a:Nat} (ha:a≤k):P2 k a (listT W N a) (listT V N' a):=
 (h.sign [40] ha).bind fun _ b hb _=>(h.list N N' hb (by omega) (by omega)).bind fun _ c hc _=>(h.sign [41] hc).bind fun _ d hd _=>P2.ok hd _
theorem Ends.phi (h:Ends W V k):∀ (n n':Nat) {ls xs:List ByteArray} {a:Nat},a≤k→k < a+n→k < a+n'→P2 k a (alr W n ls xs a) (alr V n' ls xs a):=by
 intro n
 induction n with
 | zero=>intro n' ls xs a ha hk;omega
 | succ n ih=>
   intro n' ls xs a ha hk hk';cases n' with
   | zero=>omega
   | succ n'=>
     rw [alr,alr];refine (h.name ha).bind fun l b hb hl=>(h.sign [58] hb).bind fun u c hc hu=>(h.name hc).bind fun x d hd hx=>?_;have:=ku hl;have:=o7 hu;have:=ku hx;obtain ⟨i1,i2⟩:=h.isT [44] hd;by_cases hi:Go.Proofs.YtbocmenkkjbigaaDoor.isT W [44] d=true
     ·have q:=i2 hi;rw [bi hi,bi ((i1 q).trans hi)];refine (h.sign [44] hd).bind fun u e he hs=>?_;have:=o7 hs
      exact ih n' he (by omega) (by omega)
     ·rw [bu hi];refine ⟨fun q=>?_,fun e=>e⟩
      rw [bu (by rw [i1 q];exact hi)]
      exact ⟨hd,fun _=>rfl⟩
theorem Ends.op (h:Ends W V k) {N N':Nat} (hN:k < N) (hN':k < N') (o:Nat) (x:InsD) {a:Nat} (ha:a≤k):P2 k a (opT W N o x a) (opT V N' o x a):=by
 unfold opT;split
 ·exact (h.size ha).bind fun n b hb _=>P2.ok hb _
 ·exact (h.size ha).bind fun n b hb _=>P2.ok hb _
 ·exact P2.ok ha _
 ·exact (h.name ha).bind fun n b hb _=>P2.ok hb _
 ·exact (h.name ha).bind fun n b hb _=>P2.ok hb _
 ·exact (h.name ha).bind fun n b hb _=>P2.ok hb _
 ·exact (h.sign [91] ha).bind fun _ b hb _=>(h.phi N N' hb (by omega) (by omega)).bind fun p c hc _=>(h.sign [93] hc).bind fun _ d hd _=>P2.ok hd _
 ·exact (h.name ha).bind fun s b hb _=>(h.size hb).bind fun n c hc _=>P2.ok hc _
 ·exact (h.name ha).bind fun s b hb _=>(h.sign [44] hb).bind fun _ c hc _=>(h.name hc).bind fun t d hd _=>P2.ok hd _
 ·exact (h.name ha).bind fun s b hb _=>(h.listT hN hN' hb).bind fun l c hc _=>P2.ok hc _
 ·exact (h.name ha).bind fun s b hb _=>(h.listT hN hN' hb).bind fun l c hc _=>P2.ok hc _
 ·exact (h.name ha).bind fun s b hb _=>(h.name hb).bind fun t c hc _=>P2.ok hc _
 ·exact (h.name ha).bind fun s b hb _=>P2.ok hb _
 ·dsimp only
  obtain ⟨h1,h2⟩:=h.kd (n:=1) (by decide) ha
  by_cases hk:(W.same a && W.kind a == 1)=true
  ·have q:=h2 hk;rw [bi hk,bi ((h1 q).trans hk)];exact (h.name ha).bind fun n b hb _=>P2.ok hb _
  ·rw [bu hk];refine ⟨fun q=>?_,fun e=>e⟩
   rw [bu (by rw [h1 q];exact hk)]
   exact ⟨ha,fun _=>rfl⟩
 ·exact P2.err
theorem bb9 (h:Ends W V k) {N:Nat} (d:ByteArray) {l:List (List UInt8 × Nat)} (hl:ai7 l []=none):AtK k (ami W N d l k):=by
 unfold ami;rw [h.kt,hl];dsimp only;split
 ·exact a5v _
 ·exact ag _
theorem Ends.ins (h:Ends W V k) {N N':Nat} (hN:k < N) (hN':k < N') (d:ByteArray) (l:List (List UInt8 × Nat)) {b:Nat} (hb:b < k):Sm2 k (ami W N d l b) (ami V N' d l b):=by
 unfold ami;rw [h.text b hb,h.kind b hb];cases ai7 l (W.text b) with
 | none=>
   dsimp only;split <;> exact fun _=>rfl
 | some o=>
   dsimp only;by_cases h1:W.kind b=1
   ·rw [bi h1,bi h1];exact (h.op hN hN' o _ hb).sm hb
   ·rw [bu h1,bu h1];exact fun _=>rfl
theorem Ends.instrK (h:Ends W V k) {N:Nat} (hN:k < N) {a:Nat} (ha:a+1=k) (hk:W.kind a=1):AtK k (aaa W N a):=by
 have hs:=(h.secT [61] (a:=a) (by omega)).2.1 ha
 unfold aaa
 rw [hs,bu (by decide)]
 unfold ami;cases ai7 ao9 (W.text a) with
 | none=>exact vg ha.symm
 | some o=>
   dsimp only;rw [bi hk];exact (h.op (N':=N) hN hN o _ (vg ha)).2 ha
theorem Ends.instr (h:Ends W V k) {N N':Nat} (hN:k < N) (hN':k < N') {a:Nat} (ha:a+1 < k):Sm2 k (aaa W N a) (aaa V N' a):=by
 have hak:a < k:=by omega
 obtain ⟨h1,_,h2⟩:=h.secT [61] hak;have h1:=h1 ha;unfold aaa;rw [h1];by_cases hs:Go.Proofs.YtbocmenkkjbigaaDoor.secT W [61] a=true
 ·rw [bi hs,bi hs];have hk:=h2 hs;rw [h.text a hak]
  rcases l8 (a+2) k with hlt | hge
  ·rw [h.same _ hlt];by_cases hm:W.same (a+2)=true
   ·rw [bi hm,bi hm];exact h.ins hN hN' _ _ hlt
   ·rw [bu hm,bu hm];exact fun _=>rfl
  ·have e:a+2=k:=by omega
   refine AtK.sm ?_ _;rw [e];split
   ·exact bb9 h _ look_nil
   ·exact ag _
 ·rw [bu hs,bu hs];exact h.ins hN hN' _ _ hak
theorem Ends.blk (h:Ends W V k) {N N':Nat} (hN:k < N) (hN':k < N') (nm:ByteArray) (ps:List ByteArray):∀ (n n':Nat) {bs:List BlkD} {a:Nat},a≤k→k < a+n→k < a+n'→P2 k a (aks W N nm ps n bs a) (aks V N' nm ps n' bs a):=by
 intro n
 induction n with
 | zero=>intro n' bs a ha hk;omega
 | succ n ih=>
   intro n' bs a ha hk hk';cases n' with
   | zero=>omega
   | succ n'=>
     refine ⟨fun hlt=>?_,fun e=>?_⟩
     ·rw [aks,aks,(h.begT ha).1 hlt];by_cases hb:Go.Proofs.YtbocmenkkjbigaaDoor.begT W a=true
      ·rw [bi hb,bi hb];exact fun _=>rfl
      rw [bu hb,bu hb,h.kind a hlt,h.text a hlt];obtain ⟨s1,s2,s3⟩:=h.secT [58] hlt;by_cases hc:(W.kind a == 3 && W.text a == [125])=true
      ·rw [bi hc,bi hc]
       rcases l8 (a+1) k with q | q
       ·rw [(h.begT hlt).1 q];by_cases hb2:Go.Proofs.YtbocmenkkjbigaaDoor.begT W (a+1)=true
        ·rw [bi hb2];exact fun _=>rfl
        ·rw [bu hb2];exact ⟨hlt,fun _=>rfl⟩
       ·have e:a+1=k:=akw hlt q
        rw [(h.begT hlt).2 e,bu (by decide)]
        exact ⟨hlt,fun h=>absurd h (Nat.not_lt.2 q)⟩
      rw [bu hc,bu hc]
      rcases l8 (a+1) k with q | q
      ·rw [s1 q];by_cases hs:Go.Proofs.YtbocmenkkjbigaaDoor.secT W [58] a=true
       ·rw [bi hs,bi hs];have:=s3 hs
        exact (ih n' this (by omega) (by omega)).sm this
       rw [bu hs,bu hs]
       by_cases hq:(W.kind a != 1 || bs.length == 0)=true
       ·rw [bi hq,bi hq];split <;> exact fun _=>rfl
       rw [bu hq,bu hq];refine (h.instr hN hN' q).bind fun x b hb' hi=>?_;have:=ab3 hi
       exact ih n' hb' (by omega) (by omega)
      ·have e:a+1=k:=akw hlt q;rw [s2 e]
       rw [bu (show ¬ false=true by decide)]
       by_cases hk1:W.kind a=1
       ·refine AtK.sm ?_ _
        by_cases hq:(W.kind a != 1 || bs.length == 0)=true
        ·rw [bi hq,bi hk1];exact vg e.symm
        ·rw [bu hq];have hi:=h.instrK hN e hk1;unfold Rx.bind;cases hf:aaa W N a with
         | error j=>rw [hf] at hi;exact hi
         | ok p=>
           obtain ⟨x,b⟩:=p;rw [hf] at hi;have eb:b=k:=hi;have:=ab3 hf
           exact (ih n' (vg eb) (by omega) (by omega)).2 eb
       ·have hv:Go.Proofs.YtbocmenkkjbigaaDoor.secT V [58] a=false:=by
         unfold Go.Proofs.YtbocmenkkjbigaaDoor.secT;rw [h.kind a hlt,dw.2 hk1,qb]
        have hq:(W.kind a != 1 || bs.length == 0)=true:=by rw [ol.2 hk1,ak0]
        rw [hv,bu (show ¬ false=true by decide),bi hq,bi hq,bu hk1]
        exact fun _=>rfl
     ·have k2:W.kind a=4:=by rw [e,h.kk]
      have q1:Go.Proofs.YtbocmenkkjbigaaDoor.secT W [58] a=false:=by unfold Go.Proofs.YtbocmenkkjbigaaDoor.secT;rw [k2];rfl
      rw [aks,(h.begT ha).2 e,k2,q1];exact vg e.symm
theorem Ends.fun' (h:Ends W V k) {N N':Nat} (hN:k < N) (hN':k < N') {a:Nat} (ha:a < k):Sm2 k (ane W N a) (ane V N' a):=by
 have:P2 k (a+1) (ane W N a) (ane V N' a):=by
  unfold ane
  exact (h.name ha).bind fun nm b hb _=>(h.listT hN hN' hb).bind fun ps c hc _=>(h.sign [123] hc).bind fun _ d hd _=>h.blk hN hN' nm ps N N' hd (by omega) (by omega)
 exact this.sm ha
theorem Ends.par (h:Ends W V k) {N N':Nat} (hN:k < N) (hN':k < N') (h4:∀ a,a < k→W.kind a≠4):∀ (n n':Nat) {fs:List FunD} {a:Nat},a≤k→k < a+n→k < a+n'→∀ j,ahu W N n fs a=.error j→j < k→ahu V N' n' fs a=.error j:=by
 intro n
 induction n with
 | zero=>intro n' fs a ha hk;omega
 | succ n ih=>
   intro n' fs a ha hk hk' j;cases n' with
   | zero=>omega
   | succ n'=>
     rcases l8 a k with hlt | hge
     ·rw [ahu,ahu,h.kind a hlt,h.text a hlt,bu (h4 a hlt),bu (h4 a hlt)]
      by_cases hb:(W.kind a != 1 || W.text a != [102,117,110,99])=true
      ·rw [bi hb,bi hb];exact fun e _=>e
      rw [bu hb,bu hb];have hs:=h.fun' hN hN' hlt;unfold Rx.bind;unfold Sm2 at hs;cases hf:ane W N a with
      | error i=>
        rw [hf] at hs;intro e hj;cases e;rw [hs hj]
      | ok p=>
        obtain ⟨f,b⟩:=p;rw [hf] at hs;obtain ⟨s1,s2⟩:=hs;have:=(amj hf).1;dsimp only at s1 s2 ⊢
        rcases l8 b k with q | q
        ·rw [s2 q]
         exact ih n' s1 (by omega) (by omega) j
        ·have e:b=k:=akw s1 q;intro hp;cases n with
         | zero=>omega
         | succ n=>
           rw [ahu,bi (by rw [e];exact h.kk)] at hp
           cases hp
     ·have e:a=k:=by omega
      intro hp
      rw [ahu,bi (by rw [e];exact h.kk)] at hp
      cases hp
end
open Go.AM Go.AM.Tok
def afi:Nat→List UInt8→Bool
 | 0,_=>true
 | _+1,[]=>false
 | n+1,c :: l=>afi (if c=10 then n else n+1) l
theorem apx:∀ (u v:List UInt8) (p:Nat × Nat),afi ((spotL u p).1 - p.1) (u ++ v)=true
 | [],v,p=>by simp [spotL,afi]
 | c :: u,v,p=>by
   rw [spotL];split
   ·rename_i h10;have hm:=(aap u (p.1+1,1)).1;have q:=apx u v (p.1+1,1);dsimp only at hm q
    obtain ⟨m,hm⟩:∃ m,(spotL u (p.1+1,1)).1 - p.1=m+1:=⟨_,(ah2 (by omega)).symm⟩
    rw [hm,ah,afi,bi h10]
    rwa [show (spotL u (p.1+1,1)).1 - (p.1+1)=m by omega] at q
   ·rename_i h10;have q:=apx u v (p.1,p.2+1);dsimp only at q;cases hm:(spotL u (p.1,p.2+1)).1 - p.1 with
    | zero=>rfl
    | succ m=>
      rw [hm] at q;rw [ah,afi,bu h10];exact q
theorem getD_take {ts:List Tok.T} {a j:Nat} (h:a < j):(ts.take j).getD a tkE=ts.getD a tkE:=by
 rw [List.getD_eq_getElem?_getD,List.getElem?_take_of_lt h,← List.getD_eq_getElem?_getD]
theorem a8v {ts:List Tok.T} {j L c:Nat} (hj:j≤ts.length):Ends (Vw.of (ts.take j ++ [⟨4,[],0,L,c⟩])) (Vw.of ts) j:=by
 have hl:(ts.take j).length=j:=by rw [ny];omega
 have key:∀ a,a < j→(ts.take j ++ [(⟨4,[],0,L,c⟩:Tok.T)]).getD a tkE=ts.getD a tkE:=fun a ha=>by rw [ahx (by omega),getD_take ha]
 have ke:(ts.take j ++ [(⟨4,[],0,L,c⟩:Tok.T)]).getD j tkE=⟨4,[],0,L,c⟩:=by
  have:=as0 (ts.take j) (⟨4,[],0,L,c⟩:Tok.T)
  rwa [hl] at this
 refine ⟨fun a ha=>(jw Tok.T.kind (key a ha)).symm,fun a ha=>(jw Tok.T.text (key a ha)).symm,fun a ha=>(jw Tok.T.n (key a ha)).symm,fun a ha=>?_,jw Tok.T.kind ke,jw Tok.T.text ke⟩;show (decide (a > 0) && (ts.getD (a - 1) tkE).line == (ts.getD a tkE).line)=(decide (a > 0) && ((ts.take j ++ [_]).getD (a - 1) tkE).line == ((ts.take j ++ [_]).getD a tkE).line)
 rw [key a ha,key (a - 1) (by omega)]
theorem aua {us:List Tok.T} {L c:Nat} (h:Wd us 1 L):Shift (Vw.of (us ++ [⟨4,[],0,L,c⟩])) (Vw.of (us ++ [⟨4,[],0,L,c⟩])) 0 us.length:=
 ⟨fun _ _=>rfl,fun _ _=>rfl,fun _ _=>rfl,fun _ _=>rfl,jw Tok.T.kind (as0 us _),fun a ha=>by
  show ((us ++ [_]).getD a tkE).kind≠4
  rw [ahx ha];exact (h.at ha).1,fun a ha=>by
  show ((us ++ [_]).getD a tkE).kind=1→((us ++ [_]).getD a tkE).text≠[];rw [ahx ha];exact (h.at ha).2.1⟩
theorem a8t {l:List UInt8} (hl:l.length≤1500):
 ((adm l).2.2≠0→acv l=([],(adm l).2.1,(adm l).2.2)∧1≤(adm l).2.1.1)∧
 ((adm l).2.2=0→(acv l).2.2=0→(acv l).2.1=(0,0))∧
 ((adm l).2.2=0→(acv l).2.2≠0→(acv l).1=[]∧∃ (j:Nat) (t:Tok.T),(adm l).1[j]?=some t∧(acv l).2.1=(t.line,t.col)∧(acv l).2.2=(if t.kind=4 then 41 else 40)∧(∀ (i:Nat) (a:Tok.T),i < j→(adm l).1[i]?=some a→a.line=t.line→a.col≠t.col)∧1≤t.line∧1≤t.col∧t.line≤1501∧t.col≤1501∧afi (t.line - 1) l=true∧
  ∃ q,ac0 (t.line - 1) l+t.col=q+1∧q≤l.length∧((acv (l.take q)).2.2=41∨(acv (l.take q)).2.2=0)):=by
 rcases auw l (by omega) with ⟨us,L,c,w,h1,h2⟩ | ⟨e,p,q,he,h1,h2⟩
 ·refine ⟨fun h=>absurd (by rw [h2]) h,fun _ h=>?_,fun _ h=>?_⟩
  ·rw [aiy h2] at h ⊢;cases hp:a5f (us ++ [⟨4,[],0,L,c⟩]) with
   | ok fs=>rfl
   | error j=>rw [hp] at h;exact absurd h (a8u _ _)
  ·rw [aiy h2] at h ⊢;obtain ⟨ts,hts⟩:∃ x,us ++ [(⟨4,[],0,L,c⟩:Tok.T)]=x:=⟨_,rfl⟩
   have hlen:ts.length=us.length+1:=by rw [← hts];simp
   have hk:∀ a,a < us.length→(ts.getD a tkE).kind≠4:=fun a ha=>by rw [← hts,ahx ha];exact (w.at ha).1
   have sh:=aua (c:=c) w;rw [hts] at h h1 h2 sh ⊢;cases hp:a5f ts with
   | ok fs=>rw [hp] at h;exact absurd rfl h
   | error j=>
     refine ⟨rfl,?_⟩;have hpv:=hp;rw [a5e] at hpv;unfold parV at hpv;cases hpf:ahu (Vw.of ts) (ts.length+1) (ts.length+1) [] 0 with
     | ok r=>rw [hpf] at hpv;cases hpv
     | error j'=>
       rw [hpf] at hpv;cases hpv
       have sp:=sh.par (N:=ts.length+1) (N':=ts.length+1) (by omega) (by omega) [] (ts.length+1) (ts.length+1) (fs:=[]) (a:=0) (jg _) (by omega) (by omega)
       rw [hpf] at sp
       have hj:j < ts.length:=by have:=sp.1;omega
       have hjt:ts[j]?=some ts[j]:=List.getElem?_eq_getElem hj;obtain ⟨t,ht⟩:∃ t,ts[j]=t:=⟨_,rfl⟩;rw [ht] at hjt
       have hg:ts.getD j tkE=t:=by rw [List.getD_eq_getElem?_getD,hjt];rfl
       obtain ⟨u,v,c1,c2,c3⟩:=aq6 _ l (1,1) ts (ag _) h1 j t hjt;have sf:=aia u v;have so:=apx u v (1,1);have sl:=ak8 u (1,1);rw [← c2,← c1] at sf so;rw [← c2] at sl;dsimp only at sf so sl
       have hul:u.length≤l.length:=by rw [c1,di];omega
       refine ⟨j,t,by rw [h2];exact hjt,by show ((ts.getD j tkE).line,(ts.getD j tkE).col)=_;rw [hg],by show (if (ts.getD j tkE).kind=4 then 41 else 40)=_;rw [hg],fun i a hi ha hla hca=>?_,sf.2.2,sf.2.1,by omega,by omega,so,u.length,sf.1,hul,?_⟩
       ·rw [h2] at ha;have:=a0m h1 ha hjt hla hca;omega
       ·have hu:l.take u.length=u:=by rw [c1,a9w]
        rw [hu]
        have hlu:adm u=(ts.take j ++ [⟨4,[],0,t.line,t.col⟩],(0,0),0):=by
         unfold adm
         rw [bu (by omega),c3]
        rw [aiy hlu,a5e];unfold parV
        have hln:(ts.take j ++ [(⟨4,[],0,t.line,t.col⟩:Tok.T)]).length=j+1:=by rw [di,ny,aj];omega
        rw [hln];have E:=a8v (L:=t.line) (c:=t.col) (az1 hj);cases hq:ahu (Vw.of (ts.take j ++ [⟨4,[],0,t.line,t.col⟩])) (j+1+1) (j+1+1) [] 0 with
        | ok r=>exact .inr rfl
        | error i=>
          left
          have ep:=E.par (N:=j+1+1) (N':=ts.length+1) (by omega) (by omega) (fun a ha=>by rw [← E.kind a ha];exact hk a (by have:=sp.1;omega)) (j+1+1) (ts.length+1) (fs:=[]) (a:=0) (jg _) (by omega) (by omega) i hq
          have hij:j≤i:=by
           rcases l8 i j with q | q
           ·have e:=ep q;rw [hpf] at e;cases e;exact ag _
           ·exact q
          show (if ((ts.take j ++ [(⟨4,[],0,t.line,t.col⟩:Tok.T)]).getD i tkE).kind=4 then 41 else 40)=41
          rw [bi]
          rcases Nat.eq_or_lt_of_le hij with e | hgt
          ·rw [← e];exact E.kk
          ·rw [List.getD_eq_getElem?_getD,List.getElem?_eq_none (by rw [hln];omega)]
           rfl
 ·rw [a1n h2 he,h2]
  refine ⟨fun _=>⟨rfl,?_⟩,fun h=>absurd h (by show e≠0;omega),fun h=>absurd h (by show e≠0;omega)⟩
  obtain ⟨_,u,v,_,_,_,hsp⟩:=Tok.lex_ahead _ _ (1,1) _ _ _ (ag _) h1;have:=(aap u (1,1)).1;rw [← hsp] at this;exact this
abbrev k_f5:Nat:=5
def K5_0:List Nat:=List.range' 1 126
theorem aud:zm K5_0 (qi 127 [] 1)=[]:=by kernel_rfl
def R5_0:LO:=[q 2 (.move (.c (.s (.bool false))))]
def R5_1:LO:=[oM 15 0,q 16 (.lenS .p (.t 15)),q 17 (.bin .gtr (.t 16) (.c (.s (.int .i64 1500))))]
def R5_2:LO:=[q 2 (.move (.c (.s (.bool true))))]
def R5_3t6:LO:=[oM 5 23]
def R5_3t5:LO:=⟨none,.store 2 (.t 4) (.t 22),none⟩ :: R5_3t6
def R5_3p4:LO:=[oM 3 21]
def R5_3t4:LO:=R5_3p4 ++ R5_3t5
def R5_3t3:LO:=⟨some 4,.alloc [.s (.int .i64 0),.s (.int .i64 0)],none⟩ :: R5_3t4
def R5_3p2:LO:=[oM 18 20,q 21 (.extract (.t 18) 0),q 22 (.extract (.t 18) 1),q 23 (.extract (.t 18) 2)]
def R5_3t2:LO:=R5_3p2 ++ R5_3t3
def R5_3t1:LO:=⟨some 20,.call (.c (.fn 13 [] [])) [.t 19],none⟩ :: R5_3t2
def R5_3p0:LO:=[oM 19 0]
def R5_3:LO:=R5_3p0 ++ R5_3t1
def R5_4t7:LO:=[oM 8 29]
def R5_4t6:LO:=⟨none,.store 2 (.t 7) (.t 28),none⟩ :: R5_4t7
def R5_4t5:LO:=⟨none,.store 1 (.t 6) (.t 27),none⟩ :: R5_4t6
def R5_4t4:LO:=⟨some 7,.alloc [.s (.int .i64 0),.s (.int .i64 0)],none⟩ :: R5_4t5
def R5_4t3:LO:=⟨some 6,.alloc [.s (.slice none 0 0)],none⟩ :: R5_4t4
def R5_4p2:LO:=[oM 24 26,q 27 (.extract (.t 24) 0),q 28 (.extract (.t 24) 1),q 29 (.extract (.t 24) 2)]
def R5_4t2:LO:=R5_4p2 ++ R5_4t3
def R5_4t1:LO:=⟨some 26,.call (.c (.fn 9 [] [])) [.t 25],none⟩ :: R5_4t2
def R5_4p0:LO:=[oM 25 0]
def R5_4:LO:=R5_4p0 ++ R5_4t1
def R5_5:LO:=[oM 30 5,q 31 (.bin .neq (.t 30) (.c (.s (.int .i64 0)))),oM 32 31,gM 33 8 32 false,qg 34 (.bin .eql (.t 33) (.c (.s (.int .i64 0)))) 32 false,q 35 (.pick (.t 32) (.c (.s (.bool true))) (.t 34))]
def R5_6t2:LO:=[q 58 (.pick (.t 56) (.t 57) (.c (.s (.bool false)))),oM 2 58]
def R5_6t1:LO:=⟨some 57,.call (.c (.fn 12 [] [])) [],some (56,true)⟩ :: R5_6t2
def R5_6p0:LO:=[oM 36 5,oM 37 8,q 38 (.bin .eql (.t 36) (.t 37)),oM 39 38,gM 40 5 39 false,qg 41 (.bin .neq (.t 40) (.c (.s (.int .i64 0)))) 39 false,gM 42 41 39 false,gM 43 5 42 true,gM 44 8 42 true,qg 45 (.bin .eql (.t 43) (.t 44)) 42 true,qg 46 (.pick (.t 42) (.t 45) (.c (.s (.bool false)))) 39 false,q 47 (.pick (.t 39) (.c (.s (.bool true))) (.t 46)),oM 48 47,gM 49 8 48 true,qg 50 (.bin .eql (.t 49) (.c (.s (.int .i64 0)))) 48 true,qg 51 (.load true 2 (.t 7)) 48 true,qg 52 (.build [.s (.int .i64 0),.s (.int .i64 0)] [(0,1),(1,1)] []) 48 true,qg 53 (.eqAgg false [.int .i64,.int .i64] (.t 51) (.t 52)) 48 true,qg 54 (.eqB false (.t 50) (.t 53)) 48 true,q 55 (.pick (.t 48) (.t 54) (.c (.s (.bool false)))),oM 56 55]
def R5_6:LO:=R5_6p0 ++ R5_6t1
def R5_7:LO:=[oF 59 0 6,oL 60 59,q 61 (.lenS .s (.t 60)),q 62 (.bin .neq (.t 61) (.c (.s (.int .i64 0)))),oM 63 62,gM 64 8 63 false,qg 65 (.bin .neq (.t 64) (.c (.s (.int .i64 40)))) 63 false,gM 66 65 63 false,gM 67 8 66 true,qg 68 (.bin .neq (.t 67) (.c (.s (.int .i64 41)))) 66 true,qg 69 (.pick (.t 66) (.t 68) (.c (.s (.bool false)))) 63 false,q 70 (.pick (.t 63) (.c (.s (.bool true))) (.t 69))]
def R5_8:LO:=[q 2 (.move (.c (.s (.bool false))))]
def R5_9:LO:=[q 9 (.move (.c (.s (.int .i64 0))))]
def R5_10:LO:=[oM 71 9,oM 72 3,q 73 (.lenS .s (.t 72)),q 74 (.bin .lss (.t 71) (.t 73))]
def R5_11:LO:=[oM 77 3,oM 78 9,q 79 (.indexAddr 5 (.t 77) (.t 78)),oF 80 3 79,q 81 (.load true 2 (.t 80)),q 82 (.load true 2 (.t 7)),q 83 (.eqAgg true [.int .i64,.int .i64] (.t 81) (.t 82))]
def R5_12:LO:=[oM 84 8,q 85 (.bin .eql (.t 84) (.c (.s (.int .i64 41)))),oM 86 3,oM 87 9,q 88 (.indexAddr 5 (.t 86) (.t 87)),oF 89 0 88,oL 90 89,q 91 (.bin .eql (.t 90) (.c (.s (.int .u8 4)))),q 92 (.eqB true (.t 85) (.t 91))]
def R5_13:LO:=[q 2 (.move (.c (.s (.bool false))))]
def R5_14:LO:=[q 10 (.move (.c (.s (.int .i64 0))))]
def R5_15:LO:=[q 11 (.move (.c (.s (.int .i64 1))))]
def R5_16:LO:=[oM 93 11,oF 94 0 7,oL 95 94,q 96 (.bin .lss (.t 93) (.t 95))]
def R5_17:LO:=[oM 99 0,oM 100 10,q 101 (.indexStr (.t 99) (.t 100)),q 102 (.bin .eql (.t 101) (.c (.s (.int .u8 10))))]
def R5_18:LO:=[oM 103 11,q 104 (.bin .add (.t 103) (.c (.s (.int .i64 1)))),oM 11 104]
def R5_19:LO:=[oM 97 10,q 98 (.bin .add (.t 97) (.c (.s (.int .i64 1)))),oM 10 98]
def ain:ACode:=
 (.seq (.seq (.regionE R5_16 [93,94,95] [96])
 (.cond (.t 96)
 .skip
 (.exit 2)))
 (.seq (.block 3
 (.seq (.regionE R5_17 [96,99,100,101] [102])
 (.cond (.t 102)
 (.regionE R5_18 [102,103,104] [11])
 .skip)))
 (.regionE R5_19 [97,98,102] [10])))
def ap6:ACode:=ain
def R5_20:LO:=[oM 105 10,oF 106 1 7,oL 107 106,q 108 (.bin .add (.t 105) (.t 107)),q 109 (.bin .sub (.t 108) (.c (.s (.int .i64 1)))),oM 10 109]
def R5_21t7:LO:=[oM 14 117]
def R5_21t6:LO:=⟨none,.store 2 (.t 13) (.t 116),none⟩ :: R5_21t7
def R5_21t5:LO:=⟨none,.store 1 (.t 12) (.t 115),none⟩ :: R5_21t6
def R5_21t4:LO:=⟨some 13,.alloc [.s (.int .i64 0),.s (.int .i64 0)],none⟩ :: R5_21t5
def R5_21t3:LO:=⟨some 12,.alloc [.s (.slice none 0 0)],none⟩ :: R5_21t4
def R5_21p2:LO:=[oM 110 114,q 115 (.extract (.t 110) 0),q 116 (.extract (.t 110) 1),q 117 (.extract (.t 110) 2)]
def R5_21t2:LO:=R5_21p2 ++ R5_21t3
def R5_21t1:LO:=⟨some 114,.call (.c (.fn 9 [] [])) [.t 113],none⟩ :: R5_21t2
def R5_21p0:LO:=[oM 111 0,oM 112 10,q 113 (.subStr (.t 111) none (some (.t 112)))]
def R5_21:LO:=R5_21p0 ++ R5_21t1
def R5_22t2:LO:=[q 126 (.pick (.t 124) (.t 125) (.c (.s (.bool false)))),oM 2 126]
def R5_22t1:LO:=⟨some 125,.call (.c (.fn 12 [] [])) [],some (124,true)⟩ :: R5_22t2
def R5_22p0:LO:=[oM 118 14,q 119 (.bin .eql (.t 118) (.c (.s (.int .i64 41)))),oM 120 119,gM 121 14 120 false,qg 122 (.bin .eql (.t 121) (.c (.s (.int .i64 0)))) 120 false,q 123 (.pick (.t 120) (.c (.s (.bool true))) (.t 122)),oM 124 123]
def R5_22:LO:=R5_22p0 ++ R5_22t1
def R5_23:LO:=[oM 75 9,q 76 (.bin .add (.t 75) (.c (.s (.int .i64 1)))),oM 9 76]
def aim:ACode:=
 (.seq (.seq (.regionE R5_10 [71,72,73] [74])
 (.cond (.t 74)
 .skip
 (.exit 0)))
 (.seq (.block 1
 (.seq (.seq (.regionE R5_11 [74,77,78,79,80,81,82] [83])
 (.cond (.t 83)
 (.exit 1)
 .skip))
 (.seq (.seq (.regionE R5_12 [3,8,9,83,84,85,86,87,88,89,90,91] [92])
 (.cond (.t 92)
 (.seq (.regionE R5_13 [0,7,92] [2])
 .ret)
 .skip))
 (.seq (.regionE R5_14 [92] [10])
 (.seq (.seq (.regionE R5_15 [] [11])
 (.block 2
 (.loop [] ap6)))
 (.seq (.regionE R5_20 [7,11,96,105,106,107,108,109] [10])
 (.seq (.region R5_21 [] [0,10,12,13,110,111,112,113,114,115,116,117])
 (.seq (.region R5_22 [] [14,118,119,120,121,122,123,124,125,126])
 .ret))))))))
 (.regionE R5_23 [75,76,83] [9])))
def ap5:ACode:=aim
def R5_24:LO:=[q 2 (.move (.c (.s (.bool false))))]
def an0:ACFun:={ ntmps:=127,results:=[.tmp 2],body:=
 (.seq (.regionE R5_0 K5_0 [])
 (.seq (.seq (.regionE R5_1 [15,16] [17])
 (.cond (.t 17)
 (.seq (.regionE R5_2 [0,17] [2])
 .ret)
 .skip))
 (.seq (.region R5_3 [] [4,17,18,19,20,21,22,23])
 (.seq (.region R5_4 [] [24,25,26,27,28,29])
 (.seq (.seq (.regionE R5_5 [30,31,32,33,34] [35])
 (.cond (.t 35)
 (.seq (.region R5_6 [] [0,3,5,6,7,8,35,36,37,38,39,40,41,42,43,44,45,46,47,48,49,50,51,52,53,54,55,56,57,58])
 .ret)
 .skip))
 (.seq (.seq (.regionE R5_7 [5,6,35,59,60,61,62,63,64,65,66,67,68,69] [70])
 (.cond (.t 70)
 (.seq (.regionE R5_8 [0,3,7,8,70] [2])
 .ret)
 .skip))
 (.seq (.seq (.regionE R5_9 [70] [9])
 (.block 0
 (.loop [] ap5)))
 (.seq (.regionE R5_24 [0,3,7,8,9,74] [2])
 .ret)))))))) }
def az4:=ai (hT R5_0 K5_0 [] 3 [] [] [.cc (.s (.bool false))]) (ai aud (ai (hK K5_0 0) (ai (hT R5_1 [15,16] [17] 18 [] [(17,.op (.bin .gtr (.t 0) (.c (.s (.int .i64 1500)))) [.op (.lenS .p (.t 0)) [.t 0],.c (.s (.int .i64 1500))])] [.tt 0,sb [0],sb []]) (ai (hT R5_2 [0,17] [2] 3 [] [(2,.c (.s (.bool true)))] [.cc (.s (.bool true))]) (ai (hU R5_3 [17] [19] [4,17,18,19,20,21,22,23] 20 [] [(19,.t 0)] [.tt 0]) (ai (hP R5_3t1 [19] [4,17,18,19,20,21,22,23]) (ai (hU R5_3t2 [18,20] [21,22,23] [4,17,18,19,20,21,22,23] 24 [] [(21,.op (.extract (.t 0) 0) [.t 20]),(22,.op (.extract (.t 0) 1) [.t 20]),(23,.op (.extract (.t 0) 2) [.t 20])] [.tt 20,sb [],.sub 1 [] [],.sub 2 [] []]) (ai (hP R5_3t3 [] [4,17,18,19,20,21,22,23]) (ai (hU R5_3t4 [21] [3] [4,17,18,19,20,21,22,23] 4 [] [(3,.t 21)] [.tt 21]) (ai (hP R5_3t5 [4,22] [4,17,18,19,20,21,22,23]) (ai (hV R5_3t6 [4,17,18,19,20,21,22,23] [5] 6 [] [(5,.t 23)] [.tt 23]) (ai (hU R5_4 [] [25] [24,25,26,27,28,29] 26 [] [(25,.t 0)] [.tt 0]) (ai (hP R5_4t1 [25] [24,25,26,27,28,29]) (ai (hU R5_4t2 [24,26] [27,28,29] [24,25,26,27,28,29] 30 [] [(27,.op (.extract (.t 0) 0) [.t 26]),(28,.op (.extract (.t 0) 1) [.t 26]),(29,.op (.extract (.t 0) 2) [.t 26])] [.tt 26,sb [],.sub 1 [] [],.sub 2 [] []]) (ai (hP R5_4t3 [] [24,25,26,27,28,29]) (ai (hP R5_4t4 [] [24,25,26,27,28,29]) (ai (hP R5_4t5 [27] [24,25,26,27,28,29]) (ai (hP R5_4t6 [28] [24,25,26,27,28,29]) (ai (hV R5_4t7 [24,25,26,27,28,29] [8] 9 [] [(8,.t 29)] [.tt 29]) (ai (hT R5_5 [30,31,32,33,34] [35] 36 [] [(35,.pick (.op (.bin .neq (.t 0) (.c (.s (.int .i64 0)))) [.t 5,.c (.s (.int .i64 0))]) (.c (.s (.bool true))) (.op (.bin .eql (.t 0) (.c (.s (.int .i64 0)))) [.t 8,.c (.s (.int .i64 0))]))] [.tt 5,sb [0],sb [0],.sub 0 [2,0] [32],.sub 0 [2] [32],sb []]) (ai (hU R5_6 [0,3,5,6,7,8,35,36,37,38,39,40,41,42,43,44,45,46,47,48,49,50,51,52,53,54,55] [56] [0,3,5,6,7,8,35,36,37,38,39,40,41,42,43,44,45,46,47,48,49,50,51,52,53,54,55,56,57,58] 57 [] [(56,.pick (.pick (.op (.bin .eql (.t 0) (.t 1)) [.t 5,.t 8]) (.c (.s (.bool true))) (.pick (.op (.bin .neq (.t 0) (.c (.s (.int .i64 0)))) [.t 5,.c (.s (.int .i64 0))]) (.op (.bin .eql (.t 0) (.t 1)) [.t 5,.t 8]) (.c (.s (.bool false))))) (.op (.eqB false (.t 0) (.t 1)) [.op (.bin .eql (.t 0) (.c (.s (.int .i64 0)))) [.t 8,.c (.s (.int .i64 0))],.op (.eqAgg false [.int .i64,.int .i64] (.t 0) (.t 1)) [.op (.load true 2 (.t 0)) [.t 7],.op (.build [.s (.int .i64 0),.s (.int .i64 0)] [(0,1),(1,1)] []) []]]) (.c (.s (.bool false))))] [.tt 5,.tt 8,sb [0,0],sb [0,0],.sub 0 [0,2,0,0] [39],.sub 0 [0,2,0] [39],.sub 0 [0,2,0] [39],.sub 0 [0,2,1,0] [39,42],.sub 0 [0,2,1,1] [39,42],.sub 0 [0,2,1] [39,42],.sub 0 [0,2] [39],sb [0],sb [0],.sub 0 [1,0,0] [48],.sub 0 [1,0] [48],.sub 0 [1,1,0] [48],.sub 0 [1,1,1] [48],.sub 0 [1,1] [48],.sub 0 [1] [48],sb [],sb []]) (ai (hP R5_6t1 [] [0,3,5,6,7,8,35,36,37,38,39,40,41,42,43,44,45,46,47,48,49,50,51,52,53,54,55,56,57,58]) (ai (hV R5_6t2 [0,3,5,6,7,8,35,36,37,38,39,40,41,42,43,44,45,46,47,48,49,50,51,52,53,54,55,56,57,58] [2] 59 [] [(2,.pick (.t 56) (.t 57) (.c (.s (.bool false))))] [sb [],sb []]) (ai (hT R5_7 [5,6,35,59,60,61,62,63,64,65,66,67,68,69] [70] 71 [] [(70,.pick (.op (.bin .neq (.t 0) (.c (.s (.int .i64 0)))) [.op (.lenS .s (.t 0)) [eL (eF 0 (.t 6))],.c (.s (.int .i64 0))]) (.c (.s (.bool true))) (.pick (.op (.bin .neq (.t 0) (.c (.s (.int .i64 40)))) [.t 8,.c (.s (.int .i64 40))]) (.op (.bin .neq (.t 0) (.c (.s (.int .i64 41)))) [.t 8,.c (.s (.int .i64 41))]) (.c (.s (.bool false)))))] [sb [0,0,0,0],sb [0,0,0],sb [0,0],sb [0],sb [0],.sub 0 [2,0,0] [63],.sub 0 [2,0] [63],.sub 0 [2,0] [63],.sub 0 [2,1,0] [63,66],.sub 0 [2,1] [63,66],.sub 0 [2] [63],sb []]) (ai (hT R5_8 [0,3,7,8,70] [2] 3 [] [(2,.c (.s (.bool false)))] [.cc (.s (.bool false))]) (ai (hT R5_9 [70] [9] 10 [] [(9,.c (.s (.int .i64 0)))] [.cc (.s (.int .i64 0))]) (ai (hT R5_10 [71,72,73] [74] 75 [] [(74,.op (.bin .lss (.t 0) (.t 1)) [.t 9,.op (.lenS .s (.t 0)) [.t 3]])] [.tt 9,.tt 3,sb [1],sb []]) (ai (hT R5_11 [74,77,78,79,80,81,82] [83] 84 [] [(83,.op (.eqAgg true [.int .i64,.int .i64] (.t 0) (.t 1)) [.op (.load true 2 (.t 0)) [eF 3 (.op (.indexAddr 5 (.t 0) (.t 1)) [.t 3,.t 9])],.op (.load true 2 (.t 0)) [.t 7]])] [.tt 3,.tt 9,sb [0,0,0],sb [0,0],sb [0],sb [1],sb []]) (ai (hT R5_12 [3,8,9,83,84,85,86,87,88,89,90,91] [92] 93 [] [(92,.op (.eqB true (.t 0) (.t 1)) [.op (.bin .eql (.t 0) (.c (.s (.int .i64 41)))) [.t 8,.c (.s (.int .i64 41))],.op (.bin .eql (.t 0) (.c (.s (.int .u8 4)))) [eL (eF 0 (.op (.indexAddr 5 (.t 0) (.t 1)) [.t 3,.t 9])),.c (.s (.int .u8 4))]])] [.tt 8,sb [0],.tt 3,.tt 9,sb [1,0,0,0],sb [1,0,0],sb [1,0],sb [1],sb []]) (ai (hT R5_13 [0,7,92] [2] 3 [] [(2,.c (.s (.bool false)))] [.cc (.s (.bool false))]) (ai (hT R5_14 [92] [10] 11 [] [(10,.c (.s (.int .i64 0)))] [.cc (.s (.int .i64 0))]) (ai (hT R5_15 [] [11] 12 [] [(11,.c (.s (.int .i64 1)))] [.cc (.s (.int .i64 1))]) (ai (hT R5_16 [93,94,95] [96] 97 [] [(96,.op (.bin .lss (.t 0) (.t 1)) [.t 11,eL (eF 0 (.t 7))])] [.tt 11,sb [1,0],sb [1],sb []]) (ai (hT R5_17 [96,99,100,101] [102] 103 [] [(102,.op (.bin .eql (.t 0) (.c (.s (.int .u8 10)))) [.op (.indexStr (.t 0) (.t 1)) [.t 0,.t 10],.c (.s (.int .u8 10))])] [.tt 0,.tt 10,sb [0],sb []]) (ai (hT R5_18 [102,103,104] [11] 105 [] [(11,.op (.bin .add (.t 0) (.c (.s (.int .i64 1)))) [.t 11,.c (.s (.int .i64 1))])] [.tt 11,sb [],sb []]) (ai (hT R5_19 [97,98,102] [10] 99 [] [(10,.op (.bin .add (.t 0) (.c (.s (.int .i64 1)))) [.t 10,.c (.s (.int .i64 1))])] [.tt 10,sb [],sb []]) (ai (hE ap6 ain) (ai (hT R5_20 [7,11,96,105,106,107,108,109] [10] 110 [] [(10,.op (.bin .sub (.t 0) (.c (.s (.int .i64 1)))) [.op (.bin .add (.t 0) (.t 1)) [.t 10,eL (eF 1 (.t 7))],.c (.s (.int .i64 1))])] [.tt 10,sb [0,1,0],sb [0,1],sb [0],sb [],sb []]) (ai (hU R5_21 [0,10,111,112] [113] [0,10,12,13,110,111,112,113,114,115,116,117] 114 [] [(113,.op (.subStr (.t 0) none (some (.t 1))) [.t 0,.t 10])] [.tt 0,.tt 10,sb []]) (ai (hP R5_21t1 [113] [0,10,12,13,110,111,112,113,114,115,116,117]) (ai (hU R5_21t2 [110,114] [115,116,117] [0,10,12,13,110,111,112,113,114,115,116,117] 118 [] [(115,.op (.extract (.t 0) 0) [.t 114]),(116,.op (.extract (.t 0) 1) [.t 114]),(117,.op (.extract (.t 0) 2) [.t 114])] [.tt 114,sb [],.sub 1 [] [],.sub 2 [] []]) (ai (hP R5_21t3 [] [0,10,12,13,110,111,112,113,114,115,116,117]) (ai (hP R5_21t4 [] [0,10,12,13,110,111,112,113,114,115,116,117]) (ai (hP R5_21t5 [12,115] [0,10,12,13,110,111,112,113,114,115,116,117]) (ai (hP R5_21t6 [13,116] [0,10,12,13,110,111,112,113,114,115,116,117]) (ai (hV R5_21t7 [0,10,12,13,110,111,112,113,114,115,116,117] [14] 15 [] [(14,.t 117)] [.tt 117]) (ai (hU R5_22 [14,118,119,120,121,122,123] [124] [14,118,119,120,121,122,123,124,125,126] 125 [] [(124,.pick (.op (.bin .eql (.t 0) (.c (.s (.int .i64 41)))) [.t 14,.c (.s (.int .i64 41))]) (.c (.s (.bool true))) (.op (.bin .eql (.t 0) (.c (.s (.int .i64 0)))) [.t 14,.c (.s (.int .i64 0))]))] [.tt 14,sb [0],sb [0],.sub 0 [2,0] [120],.sub 0 [2] [120],sb [],sb []]) (ai (hP R5_22t1 [] [14,118,119,120,121,122,123,124,125,126]) (ai (hV R5_22t2 [14,118,119,120,121,122,123,124,125,126] [2] 127 [] [(2,.pick (.t 124) (.t 125) (.c (.s (.bool false))))] [sb [],sb []]) (ai (hT R5_23 [75,76,83] [9] 77 [] [(9,.op (.bin .add (.t 0) (.c (.s (.int .i64 1)))) [.t 9,.c (.s (.int .i64 1))])] [.tt 9,sb [],sb []]) (ai (hE ap5 aim) (ai (hT R5_24 [0,3,7,8,9,74] [2] 3 [] [(2,.c (.s (.bool false)))] [.cc (.s (.bool false))]) (ai aim.eq_1 (ain.eq_1))))))))))))))))))))))))))))))))))))))))))))))))))))))
theorem RA6_5:wm Tryd.prog PX0 5=some (false,an0.ntmps,an0.results,an0.body.bare):=by kernel_rfl
theorem look5 {m:Nat} {F:Heap} {v:V} {ts:List Tok.T} (h:qa m 5 F v (ts.map tV)):∃ id g,∀ (i:Nat) (t:Tok.T),ts[i]?=some t→pz 5 v (.s (.int .i64 i))=some (.ref id g (i * 5))∧xh F false 1 (.ref id g (i * 5))=some (.s (.int .u8 t.kind))∧xh F true 2 (.ref id g (i * 5+3))=some (.agg [.s (.int .i64 t.line),.s (.int .i64 t.col)]):=by
 obtain ⟨hR,⟨e,rfl⟩ | ⟨id,g,rfl,hc,_⟩⟩:=h
 ·exact ⟨0,0,fun i t ht=>by rw [bd5] at e;subst e;simp at ht⟩
 ·refine ⟨id,g,fun i t ht=>?_⟩
  have hr:(ts.map tV)[i]?=some (tV t):=by rw [List.getElem?_map,ht];rfl
  have hi:=(List.getElem?_eq_some_iff.1 hr).1;have hg:=asb _ hR i _ hr
  have t1:((ts.map tV).flatten.drop (i * 5)).take 1=[.s (.int .u8 t.kind)]:=by
   have h2:(tV t).take 1=[.s (.int .u8 t.kind)]:=rfl
   rw [← hg,a9v,akv (by omega)] at h2
   exact h2
  have t2:((ts.map tV).flatten.drop (i * 5+3)).take 2=[.s (.int .i64 t.line),.s (.int .i64 t.col)]:=by
   have h2:((tV t).drop 3).take 2=[.s (.int .i64 t.line),.s (.int .i64 t.col)]:=rfl
   rw [← hg,List.drop_take,aal,a9v,akv (by omega)] at h2
   exact h2
  refine ⟨by rw [ato,bi ⟨by omega,by omega,rfl⟩,om,jl],?_,?_⟩
  ·rw [xu,hc];simp only [t1,aj,iq,alb]
  ·rw [xu,hc];simp only [t2,bz,gq,iq,alc]
section
variable {CT:Nat→Option CFun}
theorem er_l0 (base:Nat) {F:Heap} {b:ByteArray} (hb:b.size≤2 ^ 40) {z g ln cl:Nat} (hz:getC F z g=some [.s (.int .i64 ln),.s (.int .i64 cl)]) (hln:ln < 2 ^ 40):∀ (k n p:Nat),p+k=b.size→n≤ln→afi n (b.data.toList.drop p)=true→
 itW (evC (fe CT) itW base ap6) [] F.length (gp 127 [(0,.s (.string b)),(7,.ref z g 0),(10,Iz p),(11,Iz (ln - n:Nat))]) F=some (.ext 2,gp 127 [(0,.s (.string b)),(7,.ref z g 0),(10,Iz (p+ac0 n (b.data.toList.drop p):Nat)),(11,Iz ln),(96,bl false)],F):=by
 intro k
 induction k with
 | zero=>
   intro n p hp hn hs
   have hd:b.data.toList.drop p=[]:=l9 (by show b.size≤p;omega)
   rw [hd] at hs ⊢;cases n with
   | succ n=>cases hs
   | zero=>
     rw [ac0,nu];simp only [az4,aa,reduceIte,reduceCtorEq,Nat.reduceEqDiff,Nat.reduceLT,Nat.reduceLeDiff,Nat.reduceBEq,Nat.reduceAdd,Nat.reduceMul,Iz,bl,hz,si,akt,ah3]
 | succ k ih=>
   intro n p hp hn hs
   have hat:p < b.data.toList.length:=by show p < b.size;omega
   have hd:=ed hat;obtain ⟨c,hc⟩:∃ c,b.data.toList[p]=c:=⟨_,rfl⟩;rw [hc] at hd
   have hx:b.data.toList[p]?=some c:=by rw [← hc];exact List.getElem?_eq_getElem hat
   rw [hd] at hs ⊢;cases n with
   | zero=>
     rw [ac0,nu];simp only [az4,aa,reduceIte,reduceCtorEq,Nat.reduceEqDiff,Nat.reduceLT,Nat.reduceLeDiff,Nat.reduceBEq,Nat.reduceAdd,Nat.reduceMul,Iz,bl,hz,si,akt,ah3]
   | succ n=>
     rw [ac0,nu];rw [afi] at hs
     have hlt:(((ln - (n+1):Nat):Int) < ((ln:Nat):Int)):=by omega
     have w1:=aep (n:=p) (by omega)
     have w2:IntKind.i64.wrap (((ln - (n+1):Nat):Int)+1)=((ln - n:Nat):Int):=by rw [IntKind.wrap_i64];omega
     have ten:=a6g c;by_cases h10:c=10
     ·rw [bi h10] at hs ⊢;rw [aco h10] at ten
      have q:=ih n (p+1) (by omega) (by omega) hs
      rw [show p+1+ac0 n (b.data.toList.drop (p+1))=p+(1+ac0 n (b.data.toList.drop (p+1))) by omega] at q
      simp only [Iz,bl] at q;simp only [az4,aa,reduceIte,reduceCtorEq,Nat.reduceEqDiff,Nat.reduceLT,Nat.reduceLeDiff,Nat.reduceBEq,Nat.reduceAdd,Nat.reduceMul,Iz,bl,hz,hlt,hx,w1,w2,ten,q]
     ·rw [bu h10] at hs ⊢;rw [zf h10] at ten
      have q:=ih (n+1) (p+1) (by omega) (by omega) hs
      rw [show p+1+ac0 (n+1) (b.data.toList.drop (p+1))=p+(1+ac0 (n+1) (b.data.toList.drop (p+1))) by omega] at q
      simp only [Iz,bl] at q;simp only [az4,aa,reduceIte,reduceCtorEq,Nat.reduceEqDiff,Nat.reduceLT,Nat.reduceLeDiff,Nat.reduceBEq,Nat.reduceAdd,Nat.reduceMul,Iz,bl,hz,hlt,hx,w1,w2,ten,q]
set_option maxHeartbeats 1000000 in
theorem er_l1 (hP:ag6 CT) (hR:CT a2t=some (.code ajv)) (base:Nat) {F:Heap} (hb:base≤F.length) {b:ByteArray} (hbs:b.size≤1500) {tv:V} {ts:List Tok.T} (aw:qa 0 5 F tv (ts.map tV)) (hn:ts.length < 2 ^ 40) {z g f:Nat} {j:Nat} {t:Tok.T} (hj:ts[j]?=some t) (hz:getC F z g=some [.s (.int .i64 t.line),.s (.int .i64 t.col)])
 (hf:f=(if t.kind=4 then 41 else 40)) (hne:∀ (i:Nat) (a:Tok.T),i < j→ts[i]?=some a→a.line=t.line→a.col≠t.col) (h1:1≤t.line) (h2:1≤t.col) (h3:t.line≤1501) (h4:t.col≤1501) (hs:afi (t.line - 1) b.data.toList=true) {q:Nat} (hq:ac0 (t.line - 1) b.data.toList+t.col=q+1) (hql:q≤b.size) (hg:(acv (b.data.toList.take q)).2.2=41∨(acv (b.data.toList.take q)).2.2=0):∀ (k i:Nat),i+k=j→
 ∃ H',itW (evC (fe CT) itW base ap5) [] F.length (gp 127 [(0,.s (.string b)),(3,tv),(7,.ref z g 0),(8,Iz f),(9,Iz i)]) F=some (.ret,gp 127 [(2,bl true)],H'):=by
 obtain ⟨id,g1,look⟩:=look5 aw;have n1:=aw.rd.len;rw [abo] at n1;have hjl:=(List.getElem?_eq_some_iff.1 hj).1
 have zl:xh F true 2 (.ref z g 0)=some (.agg [.s (.int .i64 t.line),.s (.int .i64 t.col)]):=by rw [xu,hz];rfl
 intro k
 induction k with
 | zero=>
   intro i hi
   obtain rfl:i=j:=by omega
   obtain ⟨y1,y3,y4⟩:=look _ _ hj
   have hlt:((i:Int) < ((ts.length:Nat):Int)):=by omega
   have kq:(((f:Nat):Int) == 41)=(((t.kind:Nat):Int) == 4):=by
    rw [hf];by_cases e:t.kind=4
    ·rw [bi e,e];rfl
    ·rw [bu e]
     symm
     have:(((t.kind:Nat):Int) == 4)=false:=by rw [dw];omega
     rw [this];rfl
   have lo:=er_l0 (CT:=CT) base (F:=F) (b:=b) (by omega) hz (by omega) b.size (t.line - 1) 0 (by omega) (by omega) (by rw [fq];exact hs)
   rw [fq,jl,show t.line - (t.line - 1)=1 by omega] at lo
   simp only [Iz,bl,show ((0:Nat):Int)=0 from rfl,show ((1:Nat):Int)=1 from rfl] at lo;obtain ⟨u,hu⟩:∃ u,(⟨(b.data.toList.take q).toArray⟩:ByteArray)=u:=⟨_,rfl⟩
   have hud:u.data.toList=b.data.toList.take q:=by rw [← hu]
   rw [← hud] at hg;obtain ⟨pu,hpu⟩:∃ x,acv u.data.toList=x:=⟨_,rfl⟩;rw [hpu] at hg;obtain ⟨v,A1,A2,ea,hA2,xa,ba,ba1,la,la0,oa,ra,ga,ga1⟩:=asf hP base hb u hpu
   obtain ⟨C4,rd,x6⟩:=aiv hP hR base (A:=A2) (by have:=xa.le;omega)
   have w1:IntKind.i64.wrap (((ac0 (t.line - 1) b.data.toList:Nat):Int)+((t.col:Nat):Int))=((q+1:Nat):Int):=by rw [IntKind.wrap_i64];omega
   have w2:IntKind.i64.wrap (((q+1:Nat):Int) - 1)=((q:Nat):Int):=by rw [IntKind.wrap_i64];omega
   have hle:((0:Int)≤((0:Nat):Int)∧((0:Nat):Int)≤((q:Nat):Int)∧((q:Nat):Int)≤((b.size:Nat):Int)):=by omega
   have hx:b.extract 0 q=u:=by
    have:=extract_eq b 0 q;rw [jl] at this;rw [this,fq,hu]
   have hgq:(bif (((pu.2.2:Nat):Int) == 41) then true else (((pu.2.2:Nat):Int) == 0))=true:=by
    rcases hg with e | e <;> rw [e] <;> rfl
   refine ⟨Go.AM.trim F.length (gp 127 [(2,bl true)]) C4,?_⟩;rw [nu];simp only [bl] at rd;simp only [az4,aa,reduceIte,reduceCtorEq,Nat.reduceEqDiff,Nat.reduceLT,Nat.reduceLeDiff,Nat.reduceBEq,Nat.reduceAdd,Nat.reduceMul,Iz,bl,n1,hlt,y1,y3,y4,zl,ak7,aao,yf,Bool.not_true,kq,avl,lo,hz,w1,w2,avo,hle,ou,iq,hx,ea,bx1,bx2,bx3,bx4,bx5,oa,ba,ba1,hA2,hgq,rd,aj,ib,jc,ig,ah,dm,d9,fq]
 | succ k ih=>
   intro i hi
   have hil:i < ts.length:=by omega
   obtain ⟨a,ha⟩:∃ a,ts[i]?=some a:=⟨_,List.getElem?_eq_getElem hil⟩;obtain ⟨y1,y3,y4⟩:=look _ _ ha
   have hlt:((i:Int) < ((ts.length:Nat):Int)):=by omega
   have hn1:=hne i a (by omega) ha
   have hq1:(!(((a.line:Nat):Int) == ((t.line:Nat):Int) && ((a.col:Nat):Int) == ((t.col:Nat):Int)))=true:=by
    rw [qy,Bool.and_eq_false_iff,dw,dw];by_cases e:a.line=t.line
    ·exact .inr (by have:=hn1 e;omega)
    ·exact .inl (by omega)
   obtain ⟨H',h⟩:=ih (i+1) (by omega)
   refine ⟨H',?_⟩
   have w1:=aep (n:=i) (by omega)
   rw [nu];simp only [Iz,bl] at h;simp only [az4,aa,reduceIte,reduceCtorEq,Nat.reduceEqDiff,Nat.reduceLT,Nat.reduceLeDiff,Nat.reduceBEq,Nat.reduceAdd,Nat.reduceMul,Iz,bl,n1,hlt,y1,y3,y4,zl,ak7,hq1,w1,h]
set_option maxHeartbeats 2000000 in
theorem avc (hP:ag6 CT) (hR:CT a2t=some (.code ajv)) (hL:CT aoz=some (.code ade)) (T:TL CT) (hT:CT k_f5=some (.code an0)) (base:Nat) {A:Heap} (hbA:base≤A.length) (b:ByteArray):
 ∃ H',fe CT (.fn k_f5 [] []) [.s (.string b)] base A=some (.s (.bool true),H'):=by
 cases hg:decide ((b.size:Int) > 1500) with
 | true=>
   refine ⟨A,ng (c:=an0) hT (by simp [an0]) ?_⟩
   simp only [an0,az4,aa,reduceIte,reduceCtorEq,Nat.reduceEqDiff,Nat.reduceLT,Nat.reduceLeDiff,Nat.reduceBEq,Nat.reduceAdd,Nat.reduceMul,hg]
 | false=>
   have hl:b.data.toList.length≤1500:=by
    rw [bdt] at hg;show b.size≤1500;omega
   have hlaw:=a8t hl;obtain ⟨r,hr⟩:∃ x,adm b.data.toList=x:=⟨_,rfl⟩;obtain ⟨p,hp⟩:∃ x,acv b.data.toList=x:=⟨_,rfl⟩;have hgt:=ax7 (l:=b.data.toList);rw [hr,hp] at hlaw;rw [hr] at hgt;obtain ⟨tv,D1,t1,t2,t3⟩:=ax4 hL T base A hbA b r hr;obtain ⟨D2,hD2⟩:∃ X,D1 ++ [Ob.cells 0 [.s (.int .i64 r.2.1.1),.s (.int .i64 r.2.1.2)]]=X:=⟨_,rfl⟩
   have hD1b:base≤D1.length:=by have:=t3.1;omega
   have l2:D2.length=D1.length+1:=by rw [← hD2,kv]
   have e12:ak D1.length [] D1 D2:=⟨by omega,fun id h1 _=>by rw [← hD2,List.getElem?_append_left h1]⟩
   obtain ⟨v,A1,B,ea,hB,xa,ba,ba1,la,la0,oa,ra,ga,ga1⟩:=asf hP base (H:=D2) (by omega) b hp
   have hbB:base≤B.length:=by omega
   have gD:∀ c,getC (D1 ++ [Ob.cells 0 c]) D1.length 0=some c:=fun c=>kw D1 0 c;have sD:∀ c d,(D1 ++ [c]).set D1.length d=D1 ++ [d]:=fun c d=>uw D1 c d
   have q0:∀ n:Nat,n≠0→(((n:Nat):Int) != 0)=true:=fun n hn=>by rw [ol];omega
   have q1:∀ n:Nat,n≠0→(((n:Nat):Int) == 0)=false:=fun n hn=>by rw [dw];omega
   have zl:xh B true 2 (.ref (A1.length+1) 0 0)=some (.agg [.s (.int .i64 p.2.1.1),.s (.int .i64 p.2.1.2)]):=by rw [xu,ga1];rfl
   simp only [I] at t1;by_cases h0:r.2.2=0
   ·by_cases hf:p.2.2=0
    ·
     have hat:=hlaw.2.1 h0 hf;obtain ⟨C4,rd,x6⟩:=aiv hP hR base hbB
     refine ⟨C4,ng (c:=an0) hT (by simp [an0]) ?_⟩
     have qe:(((r.2.2:Nat):Int) != 0)=false:=by rw [h0];rfl
     have qf:(((p.2.2:Nat):Int) == 0)=true:=by rw [hf];rfl
     have qg:(((r.2.2:Nat):Int) == ((p.2.2:Nat):Int))=true:=by rw [h0,hf];rfl
     have qs:((((p.2.1.1:Nat):Int) == 0 && ((p.2.1.2:Nat):Int) == 0))=true:=by rw [hat];rfl
     simp only [bl] at rd;simp only [bl,an0,az4,aa,reduceIte,reduceCtorEq,Nat.reduceEqDiff,Nat.reduceLT,Nat.reduceLeDiff,Nat.reduceBEq,Nat.reduceAdd,Nat.reduceMul,hg,t1,gD,sD,hD1b,hD2,ea,bx1,bx2,bx3,bx4,bx5,oa,ba,ba1,hB,qe,qf,qg,zl,ak7,qs,aao,yf,rd,aj,ib,jc,ig,ou,iq,ah,dm,d9,fq]
    ·
     obtain ⟨c1,j,t,c2,c3,c4,c5,c6,c7,c8,c9,c10,q,c11,c12,c13⟩:=hlaw.2.2 h0 hf
     have qe:(((r.2.2:Nat):Int) != 0)=false:=by rw [h0];rfl
     have qf:=q1 _ hf;have len0:=RdL.len ra;rw [c1] at len0
     have aw0:qa 0 5 B tv (r.1.map tV):=by
      have:=(t2.d e12).d ((xa.d []));exact ⟨this.1,this.2.imp id fun ⟨id,g,h1,h2,h3⟩=>⟨id,g,h1,h2,jg _⟩⟩
     have gz:=ga1;rw [c3] at gz
     obtain ⟨H',hlp⟩:=er_l1 hP hR base hbB (b:=b) hl aw0 (by have:=(hgt h0).2.2;omega) c2 gz c4 c5 c6 c7 c8 c9 c10 c11 c12 c13 j 0 (by omega)
     have q4:((bif (((p.2.2:Nat):Int) != 40) then (((p.2.2:Nat):Int) != 41) else false))=false:=by
      rw [c4];by_cases e:t.kind=4
      ·rw [bi e];rfl
      ·rw [bu e];rfl
     refine ⟨H',ng (c:=an0) hT (by simp [an0]) ?_⟩
     simp only [Iz,bl,show ((0:Nat):Int)=0 from rfl] at hlp;simp only [Iz,gq,show ((0:Nat):Int)=0 from rfl] at len0;simp only [bl,an0,az4,aa,reduceIte,reduceCtorEq,Nat.reduceEqDiff,Nat.reduceLT,Nat.reduceLeDiff,Nat.reduceBEq,Nat.reduceAdd,Nat.reduceMul,hg,t1,gD,sD,hD1b,hD2,ea,bx1,bx2,bx3,bx4,bx5,oa,ba,ba1,hB,qe,qf,zl,ga,len0,q4,avl,hlp,aj,ib,jc,ig,yf,ou,iq,ah,dm,d9,fq]
   ·obtain ⟨c1,c2⟩:=hlaw.1 h0
    have hpe:p.2.2=r.2.2:=by rw [c1]
    have hps:p.2.1=r.2.1:=by rw [c1]
    have qe:=q0 _ h0
    have qf:(((p.2.2:Nat):Int) == 0)=false:=by rw [hpe];exact q1 _ h0
    have qg:(((r.2.2:Nat):Int) == ((p.2.2:Nat):Int))=true:=by rw [hpe];exact aao _
    have qs:((((p.2.1.1:Nat):Int) == 0 && ((p.2.1.2:Nat):Int) == 0))=false:=by
     rw [hps,dw.2 (by omega),qb]
    obtain ⟨C4,rd,x6⟩:=aiv hP hR base hbB
    refine ⟨C4,ng (c:=an0) hT (by simp [an0]) ?_⟩
    simp only [bl] at rd;simp only [bl,an0,az4,aa,reduceIte,reduceCtorEq,Nat.reduceEqDiff,Nat.reduceLT,Nat.reduceLeDiff,Nat.reduceBEq,Nat.reduceAdd,Nat.reduceMul,hg,t1,gD,sD,hD1b,hD2,ea,bx1,bx2,bx3,bx4,bx5,oa,ba,ba1,hB,qe,qf,qg,zl,ak7,qs,aao,yf,rd,aj,ib,jc,ig,ou,iq,ah,dm,d9,fq]
end
end Go.Proofs.YtbocmenkkjbigaaDoor
