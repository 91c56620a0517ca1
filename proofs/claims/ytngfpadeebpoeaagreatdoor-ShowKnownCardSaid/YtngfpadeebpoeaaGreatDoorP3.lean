/- Texts of the proof: AmI, AmU, AmU2, AmH, ShnA1, ShnArg, ShoX, AmP, AmPk, ShS1, ShS2, ShS3. -/
import Derived.Test.YtngfpadeebpoeaaGreatDoorP0
import Derived.Test.YtngfpadeebpoeaaGreatDoorP1
import Derived.Test.YtngfpadeebpoeaaGreatDoorP2
import Derived.LaidMore
import Derived.Stop.Joined
import Derived.SevenTiedAt
import Derived.Test.YtngfpadeebpoeaaGreatDoorRows
import Derived.Test.YtngfpadeebpoeaaGreatDoorCards
import Derived.Test.YtngfpadeebpoeaaGreatDoorTie
import Derived.KernelRfl
import Derived.Test.YtngfpadeebpoeaaGreatDoorProg
set_option linter.all false
namespace Go.AM
def LiS (m:Nat) (H:Heap) (v:V) (l:List Int):Prop:=(l=[]∧v=nilS)∨∃ id g,v=.sl id g 0 l.length 1∧getC H id g=some (l.map iV)∧m≤id
theorem LiS.nil (m:Nat) (H:Heap):LiS m H nilS []:=.inl ⟨rfl,rfl⟩
theorem LiS.rd {m:Nat} {H:Heap} {v:V} {l:List Int} (h:LiS m H v l):Rd H v (l.map iV):=by
 rcases h with ⟨rfl,rfl⟩ | ⟨id,g,rfl,hc,_⟩
 ·exact Rd.nil H
 ·have:=getC_sl hc
  rwa [List.length_map] at this
theorem LiS.wide {m:Nat} {H:Heap} {v:V} {l:List Int} (h:LiS m H v l):Wide1 v:=by
 rcases h with ⟨_,rfl⟩ | ⟨_,_,rfl,_⟩ <;> trivial
theorem LiS.one {m:Nat} {H:Heap} {v:V} {l:List Int} (h:LiS m H v l):v.one=true:=h.rd.one
theorem LiS.mono {m k:Nat} {H:Heap} {v:V} {l:List Int} (h:LiS m H v l) (hk:k≤m):LiS k H v l:=by
 rcases h with h | ⟨id,g,h1,h2,h3⟩
 ·exact .inl h
 ·exact .inr ⟨id,g,h1,h2,by omega⟩
theorem LiS.keep {m:Nat} {H H':Heap} {v:V} {l:List Int} (h:LiS m H v l) (hk:∀ id g n,v=.sl id g 0 n 1→H'[id]?=H[id]?):LiS m H' v l:=by
 rcases h with h | ⟨id,g,rfl,hc,hm⟩
 ·exact .inl h
 ·refine .inr ⟨id,g,rfl,?_,hm⟩
  unfold getC at hc ⊢
  rw [hk id g _ rfl]
  exact hc
theorem LiS.lt {m:Nat} {H:Heap} {v:V} {l:List Int} (h:LiS m H v l):∀ id g n,v=.sl id g 0 n 1→id < H.length:=by
 rcases h with ⟨_,rfl⟩ | ⟨id,g,rfl,hc,hm⟩
 ·intro id g n e;cases e
 ·intro id' g' n e
  cases e
  exact getC_lt hc
theorem LiS.d {m:Nat} {H H':Heap} {v:V} {l:List Int} (h:LiS m H v l) (k:KeepD H.length [] H H'):LiS m H' v l:=h.keep fun id g n e=>k.2 id (h.lt id g n e) (by simp)
theorem LiS.under {m M:Nat} {H:Heap} {v:V} {l:List Int} (h:LiS m H v l) (hv:idsUnder M 8 v=true):LiS m (H.take M) v l:=by
 rcases h with h | ⟨id,g,rfl,hc,hm⟩
 ·exact .inl h
 ·simp only [idsUnder,decide_eq_true_eq] at hv
  refine .inr ⟨id,g,rfl,?_,hm⟩
  unfold getC at hc ⊢
  rw [List.getElem?_take_of_lt hv]
  exact hc
theorem LiS.apart {m:Nat} {H:Heap} {v:V} {l:List Int} (h:LiS m H v l) {o g:Nat} {x:V} {c:List V} (hc:getC H o g=some (x :: c)) (hx:∀ n,x≠iV n):∀ id g n,v=.sl id g 0 n 1→id≠o:=by
 rcases h with ⟨_,rfl⟩ | ⟨id,g',rfl,hc',_⟩
 ·intro id g n e;cases e
 ·intro id' g2 n e e2
  cases e
  subst e2
  unfold getC at hc hc'
  cases ho:H[id]? with
  | none=>rw [ho] at hc;cases hc
  | some ob=>
    rw [ho] at hc hc'
    cases ob with
    | cells g3 c3=>
      dsimp only at hc hc'
      split at hc
      ·split at hc'
       ·cases hc
        cases l with
        | nil=>simp at hc'
        | cons y l=>
          simp only [List.map_cons,Option.some.injEq,List.cons.injEq] at hc'
          exact hx y hc'.1
       ·cases hc'
      ·cases hc
    | map _=>cases hc
    | loop _ _ _ _ _ _=>cases hc
    | dead=>cases hc
    | bytes _ _=>cases hc
theorem rowI_flat (l:List Int):(l.map fun x=>[iV x]).flatten=l.map iV:=by
 induction l with
 | nil=>rfl
 | cons x l ih=>simp [ih]
theorem all_one_iV (l:List Int):(l.map iV).all V.one=true:=by simp [List.all_eq_true,iV,V.one]
theorem LiS.append {m:Nat} {H:Heap} {v:V} {l:List Int} (h:LiS m H v l) {base bytes:Nat} (hb:base≤m) (hm:m≤H.length) {x:V} {l2:List Int} (hx:Rd H x (l2.map iV)) (hs:(l.length+l2.length) * bytes≤2 ^ 47):
 ∃ v' H',appendV H base 1 bytes v x=some (v',H')∧LiS m H' v' (l ++ l2)∧H.length≤H'.length∧(∀ id,id < H.length→(∀ g n,v≠.sl id g 0 n 1)→H'[id]?=H[id]?):=by
 have ha:AccW m 1 H v (l.map fun x=>[iV x]):=by
  refine ⟨fun r hr=>?_,?_⟩
  ·obtain ⟨_,_,rfl⟩:=List.mem_map.1 hr;rfl
  ·rcases h with ⟨rfl,rfl⟩ | ⟨id,g,rfl,hc,hm⟩
   ·exact .inl ⟨rfl,rfl⟩
   ·exact .inr ⟨id,g,by rw [List.length_map],by rw [rowI_flat];exact hc,hm⟩
 obtain ⟨v',H',e1,e2,e3,e4⟩:=ha.append0 (base:=base) (bytes:=bytes) hb hm (S:=l2.map fun x=>[iV x]) (fun r hr=>by obtain ⟨_,_,rfl⟩:=List.mem_map.1 hr;rfl) (x:=x)
  (by rw [rowI_flat,List.length_map];have:=hx.2;rwa [List.length_map] at this) (by rw [rowI_flat];exact all_one_iV l2) (by simpa using hs)
 refine ⟨v',H',e1,?_,e3,e4⟩
 rw [← List.map_append] at e2
 obtain ⟨_,⟨h1,h2⟩ | ⟨id,g,h1,h2,h3⟩⟩:=e2
 ·exact .inl ⟨by simpa using h1,h2⟩
 ·exact .inr ⟨id,g,by rw [List.length_map] at h1;exact h1,by rw [rowI_flat] at h2;exact h2,h3⟩
theorem OwnN.store {m:Nat} {H:Heap} {v:V} {l:List V} (h:OwnN m H v l) {base k:Nat} (hb:base≤m) (hk:k < l.length) {x:V} (hx:x.one=true):
 ∃ a H',xIndexAddr 1 v (.s (.int .i64 k))=some a∧storeV H base 1 x a=some H'∧OwnN m H' v (l.set k x)∧H'.length=H.length∧∀ id,id < m→H'[id]?=H[id]?:=by
 rcases h with ⟨rfl,_⟩ | ⟨id,g,c,rfl,hc,hl,ht,hm⟩
 ·cases hk
 ·have hcl:k < c.length:=by omega
  have hx2:c[k]?=some c[k]:=List.getElem?_eq_getElem hcl
  refine ⟨.ref id g k,H.set id (.cells g (c.set k x)),(at_sl hc hk hx2).1,storeV_at hc (by omega) hx hcl,.inr ⟨id,g,c.set k x,by rw [List.length_set],getC_put hc,by rw [List.length_set,List.length_set];exact hl,?_,hm⟩,List.length_set,fun id' hid=>?_⟩
  ·rw [List.length_set,List.take_set,ht]
  ·rw [List.getElem?_set_ne (by omega)]
end Go.AM
namespace Go.AM
theorem it_rel {S T:Type} (n:Nat) (P:Nat→S→Prop) (X:Nat→S→T) (step:∀ i s,i < n→P i s→∃ s',X i s=X (i+1) s'∧P (i+1) s'):∀ i s,i≤n→P i s→∃ s',X i s=X n s'∧P n s':=by
 have key:∀ d i s,i+d=n→P i s→∃ s',X i s=X n s'∧P n s':=by
  intro d
  induction d with
  | zero=>
    intro i s hi hp
    obtain rfl:i=n:=by omega
    exact ⟨s,rfl,hp⟩
  | succ d ih=>
    intro i s hi hp
    obtain ⟨s1,h1,h2⟩:=step i s (by omega) hp
    obtain ⟨s2,h3,h4⟩:=ih (i+1) s1 (by omega) h2
    exact ⟨s2,h1.trans h3,h4⟩
 exact fun i s hi hp=>key (n - i) i s (by omega) hp
theorem it_fun {T:Type} (n:Nat) (X:Nat→T) (step:∀ i,i < n→X i=X (i+1)):∀ i,i≤n→X i=X n:=by
 intro i hi
 obtain ⟨_,h,_⟩:=it_rel (S:=Unit) n (fun _ _=>True) (fun i _=>X i) (fun i s h _=>⟨(),step i h,trivial⟩) i () hi trivial
 exact h
theorem it_find {T:Type} (n:Nat) (p:Nat→Bool) (X:Nat→T) (step:∀ i,i < n→p i=false→X i=X (i+1)):(∀ i,i < n→p i=false)∧X 0=X n∨∃ i,i < n∧p i=true∧(∀ j,j < i→p j=false)∧X 0=X i:=by
 have key:∀ d i,i+d=n→(∀ j,j < i→p j=false)→X 0=X i→(∀ i,i < n→p i=false)∧X 0=X n∨∃ i,i < n∧p i=true∧(∀ j,j < i→p j=false)∧X 0=X i:=by
  intro d
  induction d with
  | zero=>
    intro i hi hp hx
    obtain rfl:i=n:=by omega
    exact .inl ⟨hp,hx⟩
  | succ d ih=>
    intro i hi hp hx
    cases hpi:p i with
    | true=>exact .inr ⟨i,by omega,hpi,hp,hx⟩
    | false=>
      refine ih (i+1) (by omega) (fun j hj=>?_) (hx.trans (step i (by omega) hpi))
      by_cases e:j=i
      ·rw [e];exact hpi
      ·exact hp j (by omega)
 exact key n 0 (by omega) (fun j hj=>by omega) rfl
theorem getD_some {α:Type} {l:List α} {k:Nat} {x:α} (h:l[k]?=some x) (d:α):l.getD k d=x:=by rw [List.getD,h];rfl
theorem some_getD {α:Type} {l:List α} {k:Nat} (h:k < l.length) (d:α):l[k]?=some (l.getD k d):=by rw [List.getD,List.getElem?_eq_getElem h];rfl
end Go.AM
namespace Go.AM
section
variable {κ:Type} [DecidableEq κ]
def esG (enc:κ→Value) (ks:List κ) (f:κ→V):List (Value × V):=ks.map fun k=>(enc k,f k)
end
end Go.AM
namespace Go.AM
theorem w64 {n:Nat} (h:n < 2 ^ 62):IntKind.i64.wrap ((n:Int)+1)=((n+1:Nat):Int):=by rw [IntKind.wrap_i64];omega
theorem callW_yld2 {CP:Nat→Option CFun} {id base:Nat} {H H1:Heap} {args t fr fr1:List V} {p:List Nat} {a b:ACode} {r:V × Heap} (hb:base≤id) (hH:H[id]?=some (.loop .ready none t p a b)) (hs:setPs p args t=some fr)
 (ha:evC (callW CP) itW base a fr H=some (.nrm,fr1,H1)) (hH1:H1[id]?=some (.loop .ready none t p a b)) (h:yldE H1 id (evC (callW CP) itW base b fr1 (H1.set id (.loop .busy none t p a b)))=some r):callW CP (.yld id) args base H=some r:=by
 refine callW_eq ?_
 simp only [evCall,if_pos hb,hH,hs,ha,hH1]
 unfold yldE at h
 cases he:evC (callW CP) itW base b fr1 (H1.set id (.loop .busy none t p a b)) with
 | none=>rw [he] at h;cases h
 | some s=>
   obtain ⟨e,f2,H2⟩:=s
   rw [he] at h
   simp only at h ⊢
   cases hx:H2[id]? with
   | none=>rw [hx] at h;cases h
   | some ob=>
     rw [hx] at h
     cases ob with
     | loop st pe t p a b=>
       cases st <;> cases pe <;> first | (simp only at h;exact h) | (simp only at h;cases h)
     | _=>simp only at h;cases h
theorem xLoad_ext {H H':Heap} (k:Ext H H') {b:V} {g:Bool} {n:Nat} {x:V} (hx:xLoad H g n b=some x):xLoad H' g n b=some x:=by
 cases b with
 | ref i j o=>
   rw [xo_ref] at hx ⊢
   cases hc:getC H i j with
   | none=>rw [hc] at hx;cases hx
   | some c=>rw [hc] at hx;rw [getC_ext hc k];exact hx
 | _=>exact hx
theorem RdW.ext2 {w:Nat} {H H':Heap} {v:V} {R:List (List V)} (h:RdW w H v R) (k:Ext H H'):RdW w H' v R:=by
 refine ⟨?_,?_,h.one,?_⟩
 ·have he:=h.el
  unfold elems at he ⊢
  split <;> simp only at he ⊢
  all_goals first | exact he | skip
  all_goals
   split at he
   ·rename_i e
    rw [if_pos e]
    cases hc:getC H _ _ with
    | none=>rw [hc] at he;cases he
    | some c=>rw [hc] at he;rw [getC_ext hc k];exact he
   ·cases he
 ·have hl:=h.len
  have he:=h.el
  unfold elems at he
  split at he <;> simp only [xLen] at hl ⊢ <;> first | exact hl | cases he
 ·intro i r hr
  obtain ⟨a,h1,h2,h3⟩:=h.at' i r hr
  have ld:∀ (b:V) (g:Bool) (n:Nat) (x:V),xLoad H g n b=some x→xLoad H' g n b=some x:=by
   intro b g n x hx
   cases b with
   | ref i j o=>
     rw [xo_ref] at hx ⊢
     cases hc:getC H i j with
     | none=>rw [hc] at hx;cases hx
     | some c=>rw [hc] at hx;rw [getC_ext hc k];exact hx
   | _=>exact hx
  exact ⟨a,h1,ld _ _ _ _ h2,fun o x hx=>by obtain ⟨b,b1,b2⟩:=h3 o x hx;exact ⟨b,b1,ld _ _ _ _ b2⟩⟩
theorem it_findR {S T:Type} (n:Nat) (p:Nat→Bool) (P:S→Prop) (X:Nat→S→T) (step:∀ i s,i < n→p i=false→P s→∃ s',X i s=X (i+1) s'∧P s'):∀ s,P s→((∀ i,i < n→p i=false)∧∃ s',X 0 s=X n s'∧P s')∨∃ i s',i < n∧p i=true∧(∀ j,j < i→p j=false)∧X 0 s=X i s'∧P s':=by
 have key:∀ d i s0 s,i+d=n→(∀ j,j < i→p j=false)→X 0 s0=X i s→P s→((∀ i,i < n→p i=false)∧∃ s',X 0 s0=X n s'∧P s')∨∃ i s',i < n∧p i=true∧(∀ j,j < i→p j=false)∧X 0 s0=X i s'∧P s':=by
  intro d
  induction d with
  | zero=>
    intro i s0 s hi hp hx hs
    obtain rfl:i=n:=by omega
    exact .inl ⟨hp,s,hx,hs⟩
  | succ d ih=>
    intro i s0 s hi hp hx hs
    cases hpi:p i with
    | true=>exact .inr ⟨i,s,by omega,hpi,hp,hx,hs⟩
    | false=>
      obtain ⟨s',h1,h2⟩:=step i s (by omega) hpi hs
      refine ih (i+1) s0 s' (by omega) (fun j hj=>?_) (hx.trans h1) h2
      by_cases e:j=i
      ·rw [e];exact hpi
      ·exact hp j (by omega)
 exact fun s hs=>key n 0 s s (by omega) (fun j hj=>by omega) rfl hs
section
variable {κ:Type} [DecidableEq κ]
end
end Go.AM
set_option maxRecDepth 100000
namespace Go.Proofs.YtngfpadeebpoeaaGreatDoor
open Go.AM
abbrev Sb (b:ByteArray):V:=.s (.string b)
abbrev Iz (n:Int):V:=.s (.int .i64 n)
structure InsD where
 op:Int
 d:ByteArray
 a:ByteArray
 b:ByteArray
 k:Int
 f:ByteArray
 xs:List ByteArray
 ls:List ByteArray
structure BlkD where
 label:ByteArray
 code:List InsD
structure FunD where
 name:ByteArray
 ps:List ByteArray
 blocks:List BlkD
def ins0:InsD:=⟨0,⟨#[]⟩,⟨#[]⟩,⟨#[]⟩,0,⟨#[]⟩,[],[]⟩
def blk0:BlkD:=⟨⟨#[]⟩,[]⟩
def fun0:FunD:=⟨⟨#[]⟩,[],[]⟩
def insC (x:InsD) (av lv:V):List V:=[.s (.int .u8 x.op),Sb x.d,Sb x.a,Sb x.b,.s (.int .i64 x.k),Sb x.f,av,lv]
def RdIns (H:Heap) (r:List V) (x:InsD):Prop:=∃ av lv,r=insC x av lv∧Rd H av (x.xs.map Sb)∧Wide1 av∧Rd H lv (x.ls.map Sb)∧Wide1 lv∧x.xs.length < 2 ^ 63∧x.ls.length < 2 ^ 63
def RdL {α:Type} (w:Nat) (P:Heap→List V→α→Prop) (H:Heap) (v:V) (l:List α):Prop:=∃ R:List (List V),RdW w H v R∧R.length=l.length∧l.length < 2 ^ 63∧∀ (i:Nat) (x:α),l[i]?=some x→∃ r:List V,R[i]?=some r∧P H r x
def RdBlk (H:Heap) (r:List V) (b:BlkD):Prop:=∃ cv,r=[Sb b.label,cv]∧RdL 8 RdIns H cv b.code
def RdFun (H:Heap) (r:List V) (f:FunD):Prop:=∃ pv bv,r=[Sb f.name,pv,bv]∧Rd H pv (f.ps.map Sb)∧Wide1 pv∧f.ps.length < 2 ^ 63∧RdL 2 RdBlk H bv f.blocks
abbrev RdProg:Heap→V→List FunD→Prop:=RdL 3 RdFun
theorem RdIns.ext {H H':Heap} {r:List V} {x:InsD} (h:RdIns H r x) (k:Ext H H'):RdIns H' r x:=by
 obtain ⟨av,lv,h1,h2,h3,h4,h5,h6⟩:=h
 exact ⟨av,lv,h1,h2.ext k,h3,h4.ext k,h5,h6⟩
theorem RdL.ext {α:Type} {w:Nat} {P:Heap→List V→α→Prop} (hP:∀ {H H' r x},P H r x→Ext H H'→P H' r x) {H H':Heap} {v:V} {l:List α} (h:RdL w P H v l) (k:Ext H H'):RdL w P H' v l:=by
 obtain ⟨R,h1,h2,h3,h4⟩:=h
 exact ⟨R,h1.ext2 k,h2,h3,fun i x hx=>by obtain ⟨r,r1,r2⟩:=h4 i x hx;exact ⟨r,r1,hP r2 k⟩⟩
theorem RdBlk.ext {H H':Heap} {r:List V} {b:BlkD} (h:RdBlk H r b) (k:Ext H H'):RdBlk H' r b:=by
 obtain ⟨cv,h1,h2⟩:=h
 exact ⟨cv,h1,RdL.ext (P:=RdIns) RdIns.ext h2 k⟩
theorem RdFun.ext {H H':Heap} {r:List V} {f:FunD} (h:RdFun H r f) (k:Ext H H'):RdFun H' r f:=by
 obtain ⟨pv,bv,h1,h2,h3,h4,h5⟩:=h
 exact ⟨pv,bv,h1,h2.ext k,h3,h4,RdL.ext (P:=RdBlk) RdBlk.ext h5 k⟩
theorem RdProg.ext {H H':Heap} {v:V} {fs:List FunD} (h:RdProg H v fs) (k:Ext H H'):RdProg H' v fs:=RdL.ext (P:=RdFun) RdFun.ext h k
theorem RdL.len {α:Type} {w:Nat} {P:Heap→List V→α→Prop} {H:Heap} {v:V} {l:List α} (h:RdL w P H v l):xLen H .s v=some (.s (.int .i64 l.length)):=by
 obtain ⟨R,h1,h2,_⟩:=h
 rw [h1.len,h2]
theorem RdL.one {α:Type} {w:Nat} {P:Heap→List V→α→Prop} {H:Heap} {v:V} {l:List α} (h:RdL w P H v l):v.one=true:=by
 obtain ⟨R,h1,_⟩:=h
 exact h1.one
theorem RdL.at2 {α:Type} {w:Nat} {P:Heap→List V→α→Prop} {H:Heap} {v:V} {l:List α} (h:RdL w P H v l) {i:Nat} {x:α} (hx:l[i]?=some x):∃ a r,xIndexAddr w v (.s (.int .i64 i))=some a∧P H r x∧(∀ H',Ext H H'→xLoad H' true w a=some (.agg r))∧∀ (o:Nat) (y:V),r[o]?=some y→∃ b,xFieldAddr o a=some b∧∀ H',Ext H H'→xLoad H' false 1 b=some y:=by
 obtain ⟨R,h1,h2,h3,h4⟩:=h
 obtain ⟨r,r1,r2⟩:=h4 i x hx
 obtain ⟨a,a1,a2,a3⟩:=h1.at' i r r1
 exact ⟨a,r,a1,r2,fun H' k=>xLoad_ext k a2,fun o y hy=>by obtain ⟨b,b1,b2⟩:=a3 o y hy;exact ⟨b,b1,fun H' k=>xLoad_ext k b2⟩⟩
theorem RdFun.len {H:Heap} {r:List V} {f:FunD} (h:RdFun H r f):r.length=3:=by
 obtain ⟨pv,bv,rfl,_⟩:=h
 rfl
theorem Sb_at {H:Heap} {v:V} {l:List ByteArray} (h:Rd H v (l.map Sb)) (hw:Wide1 v) {k:Nat} (hk:k < l.length):∃ a,xIndexAddr 1 v (.s (.int .i64 k))=some a∧xLoad H false 1 a=some (.s (.string (l.getD k ⟨#[]⟩))):=
 h.at' hw (by rw [List.getElem?_map,some_getD hk ⟨#[]⟩];rfl)
theorem Sb_len {H:Heap} {v:V} {l:List ByteArray} (h:Rd H v (l.map Sb)):xLen H .s v=some (.s (.int .i64 l.length)):=by
 have:=h.len
 rwa [List.length_map] at this
theorem getC_load {H:Heap} {id g:Nat} {w:V} (h:getC H id g=some [w]):xLoad H false 1 (.ref id g 0)=some w:=by
 simp only [xo_ref,h,List.drop_zero,List.take_succ_cons,List.take_zero,List.length_singleton,if_true,shut_one]
theorem res_nil (fr:List V) (H:Heap):resultV [] fr H=some (.tup []):=by simp [resultV]
end Go.Proofs.YtngfpadeebpoeaaGreatDoor
set_option maxRecDepth 100000
namespace Go.Proofs.YtngfpadeebpoeaaGreatDoor
open Go.AM
end Go.Proofs.YtngfpadeebpoeaaGreatDoor
set_option maxRecDepth 100000
namespace Go.Proofs.YtngfpadeebpoeaaGreatDoor
open Go.ChangeShapes Go.WideShapes Go.ChangeAt Go.RowKit Go.AM Go.Shelf
theorem mixed:Tryz.prog.follows .mixedOrders=true:=by kernel_rfl
theorem trim_prim {px:PX}:FunOk Tryz.prog px 69 (.prim trimG):=
 trim_ok (Go.Proofs.enters_of Tryz.func69 (by kernel_rfl) rfl) (fun s p w h=>Any.strings_TrimSuffix Tryz.trimK s p w h)
theorem door_met (os:Os) (args:Array Value):laidMetH Tryz.prog Rows.showLinesRow.laid ((World.doorLaid Tryz.prog 400 os).forCall (fun _ _=>0) ⟨#[],args,[]⟩).memory:=by
 rw [MakeChecks.laidMetH_plain _ _ _ (by kernel_rfl)]
 exact laidMet_of_run' 8 (by kernel_rfl) (by kernel_rfl)
end Go.Proofs.YtngfpadeebpoeaaGreatDoor
namespace Go.AM
def am0:=And.intro @evC_skip (And.intro @evC_exit (And.intro @evC_ret (And.intro @evC_seq (And.intro @evC_block (And.intro @evC_cond (And.intro @evC_loop (And.intro @evC_row (And.intro @thenC_nrm (And.intro @thenC_ext (And.intro @thenC_ret (And.intro @thenC_none (And.intro @thenC_cond (And.intro @outC_nrm (And.intro @outC_ret (And.intro @outC_ext (And.intro @outC_none (And.intro @outC_cond (And.intro @condC_bool (And.intro @rowC_some (And.intro @opsC_some (And.intro @Bool.not_true (And.intro @Bool.not_false (And.intro @Bool.and_false (And.intro @Bool.false_and (And.intro @taleR_true (And.intro @setOuts_nil (And.intro @setOuts_cons (And.intro @outE_some (And.intro @reqE_nil (And.intro @reqE_cons (And.intro @reqB_bool (And.intro @Bool.and_true (And.intro @Bool.true_and (And.intro @V1_some (And.intro @V2_some (And.intro @evE_t (And.intro @evE_c (And.intro @evE_pick (@pickO_bool)))))))))))))))))))))))))))))))))))))))
def am1:=And.intro @pickO_true (And.intro @pickO_false (And.intro @evE_bin (And.intro @evE_binL (And.intro @evE_binR (And.intro @evE_eqB (And.intro @evE_eqBL (And.intro @evE_eqBR (And.intro @evE_eqAgg (And.intro @evE_eqAggL (And.intro @evE_eqAggR (And.intro @evE_indexAddr (And.intro @evE_indexAddrL (And.intro @evE_indexAddrR (And.intro @evE_indexStr (And.intro @evE_indexStrL (And.intro @evE_indexStrR (And.intro @evE_minmax (And.intro @evE_minmaxL (And.intro @evE_minmaxR (And.intro @evE_mapGet (And.intro @evE_mapGetL (And.intro @evE_mapGetR (And.intro @evE_nilCheck (And.intro @evE_eqNil (And.intro @evE_un (And.intro @evE_conv (And.intro @evE_convId (And.intro @evE_fieldAddr (And.intro @evE_field (And.intro @evE_extract (And.intro @evE_lenS (And.intro @evE_load (And.intro @evE_build (And.intro @evE_mkFn (And.intro @evE_subStr (And.intro @evE_subSl (And.intro @evEs_nil (And.intro @evEs_cons (@L1_some)))))))))))))))))))))))))))))))))))))))
def am2:=And.intro @frOf_get (And.intro @frOf_set (And.intro @frOf_kill (And.intro @getV_cons (And.intro @getV_nil (And.intro @putV_cons (And.intro @putV_nil (And.intro @killV_cons (And.intro @killV_nil (And.intro @startV_cons (And.intro @not_true_eq_false (And.intro @not_false_eq_true (And.intro @Bool.or_false (And.intro @Bool.false_or (And.intro @Bool.or_true (And.intro @Bool.true_or (And.intro @Bool.false_eq_true (And.intro @decide_true (And.intro @decide_false (And.intro @Int.toNat_natCast (And.intro @Int.natCast_nonneg (And.intro @Bool.cond_true_left (And.intro @Bool.cond_false_right (And.intro @Bool.cond_false_left (And.intro @Bool.cond_true_right (And.intro @free_row (And.intro @kept_row (And.intro @stepW_nrm (And.intro @stepW_ext (And.intro @stepW_ret (And.intro @stepW_cond (And.intro @trim_self (And.intro @retC_nrm (And.intro @retC_ret (And.intro @retC_cond (And.intro @resultV1 (And.intro @resultV2 (And.intro @resV_tmp (And.intro @resV_cell (@evOps_nil)))))))))))))))))))))))))))))))))))))))
def am3:=And.intro @evOps_cons (And.intro @evOps_guard (And.intro @opK_bool (And.intro @wantV_bool (And.intro @wantV_und (And.intro @resK_some (And.intro @put_some (And.intro @put_none (And.intro @resK_cond (And.intro @opsC_cond (And.intro @ev_t (And.intro @ev_c (And.intro @beq_true (And.intro @beq_false (And.intro @op_bin (And.intro @op_eqB (And.intro @op_eqAgg (And.intro @op_indexAddr (And.intro @op_indexStr (And.intro @op_minmax (And.intro @op_nilCheck (And.intro @op_eqNil (And.intro @op_un (And.intro @op_conv (And.intro @op_convId (And.intro @op_fieldAddr (And.intro @op_field (And.intro @op_extract (And.intro @op_lenS (And.intro @op_load (And.intro @op_mapGet (And.intro @op_move (And.intro @op_alloc (And.intro @op_box (And.intro @op_mapNew (And.intro @op_store (And.intro @op_mkFn (And.intro @op_append (And.intro @op_call (@op_callR)))))))))))))))))))))))))))))))))))))))
def am4:=And.intro @op_build (And.intro @op_buildSl (And.intro @mkSlV_some (And.intro @RH_some (And.intro @RS_some (And.intro @evOp_pick (And.intro @pickR_bool (And.intro @pickR_same (And.intro @Bool.bne_false (And.intro @Bool.bne_true (And.intro @xb_add (And.intro @xb_sub (And.intro @xb_mul (And.intro @xb_eql (And.intro @xb_neq (And.intro @xb_lss (And.intro @xb_leq (And.intro @xb_gtr (And.intro @xb_geq (And.intro @xb_and (And.intro @xb_or (And.intro @xb_xor (And.intro @xb_andNot (And.intro @xb_quo (And.intro @xb_rem (And.intro @xb_shl (And.intro @xb_shr (And.intro @xs_eql (And.intro @xs_neq (And.intro @xs_lss (And.intro @xs_add (And.intro @xq_b (And.intro @xn_pn (And.intro @xn_pr (And.intro @xn_pp (And.intro @xn_sn (And.intro @xn_ss (And.intro @xn_sp (And.intro @xn_se (@xn_mn)))))))))))))))))))))))))))))))))))))))
def am5:=And.intro @xn_mm (And.intro @xn_fn (And.intro @xn_ff (And.intro @xn_fy (And.intro @xg (And.intro @xu_not (And.intro @xu_neg (And.intro @xc_int (And.intro @xc_id (And.intro @xk_ref (And.intro @xk_pref (And.intro @xk_fn (And.intro @xk_yld (And.intro @xa_ref (And.intro @xa_pref (And.intro @xf_agg (And.intro @xi_sl (And.intro @xi_psl (And.intro @xj_str (And.intro @xe_tup (And.intro @xl_str (And.intro @xl_nil (And.intro @xl_esl (And.intro @xl_psl (And.intro @xl_sl (And.intro @xl_mnil (And.intro @xo_ref (And.intro @xo_pref (And.intro @xm (And.intro @shut_agg (And.intro @shut_one (And.intro @Nat.le_refl (And.intro @and_self (And.intro @and_true (And.intro @true_and (And.intro @Nat.zero_add (And.intro @Nat.mul_one (And.intro @Nat.add_zero (And.intro @set_set' (@bndV_none)))))))))))))))))))))))))))))))))))))))
def am6:=And.intro @bndV_int (And.intro @xslice_nil (And.intro @xslice_esl (And.intro @xslice_psl (And.intro @xslice_sl (And.intro @cutSl_some (And.intro @cutPsl_some (And.intro @cutNil_some (And.intro @op_subSl (And.intro @xsub_sl (And.intro @op_clear (And.intro @Int.sub_zero (And.intro @Int.le_refl (And.intro @cast0 (And.intro @toNat0 (And.intro @getC_snoc (And.intro @obC_same (And.intro @len_snoc (And.intro @ne_add (And.intro @add_ne (And.intro @one_int (And.intro @one_str (And.intro @one_bool (And.intro @one_nilS (And.intro @one_ref (And.intro @one_sl (And.intro @one_psl (And.intro @one_esl (And.intro @one_mp (And.intro @one_fn (And.intro @cells_agg (And.intro @cells_s (And.intro @cells_sl (And.intro @cells_psl (And.intro @cells_ref (And.intro @cells_esl (And.intro @cells_mp (And.intro @fillA_nil (And.intro @startA_nil (@startA_cons)))))))))))))))))))))))))))))))))))))))
def am7:=And.intro @segC_some (And.intro @segL_some (And.intro @set_snoc' (And.intro @storeV_ref (@Nat.add_assoc))))
def al0:=@Bool.cond_self
def al1:=@List.all_cons
def al2:=@List.all_nil
def al3:=@Option.isSome_some
def al4:=@Option.map_some
def al5:=@ne_eq
def al6:=@if_false
def al7:=@if_true
def al8:=@List.contains_cons
def al9:=@List.contains_nil
def al10:=@cond_true
def al11:=@cond_false
def al12:=@List.nil_append
def al13:=@List.append_nil
def al14:=@List.cons_append
def al15:=@List.map_cons
def al16:=@List.map_nil
def al17:=@beq_self_eq_true
def al18:=@bne_self_eq_false
def al19:=@List.getElem?_cons_zero
def al20:=@List.getElem?_cons_succ
def al21:=@List.drop_zero
def al22:=@List.drop_succ_cons
def al23:=@List.take_succ_cons
def al24:=@List.take_zero
def al25:=@List.take_nil
def al26:=@List.drop_nil
def al27:=@List.length_cons
def al28:=@List.length_nil
def al29:=@Option.map_none
def al30:=@List.getD_cons_zero
def al31:=@List.getD_cons_succ
def al32:=@List.length_set
def al33:=@List.set_cons_zero
def al34:=@List.set_cons_succ
end Go.AM
namespace Go.AM
theorem hT (R:List AOper) (K O:List Nat) (m:Nat) (kp:List (List (Nat × Bool × E) × E)) (os:List (Nat × E)) (items:List RI) (h:symAll R K O=some (m,expand items os,os):=by kernel_rfl) (hk:kepts items=kp:=by kernel_rfl):∀ (fr:List V) (H:Heap),evTale (symAll R K O) K fr H=evTale (some (m,kp,os)) K fr H:=fun fr H=>by rw [← hk];exact tale_row h fr H
theorem hO (R P T:List AOper) (KC K:List Nat) (lit:List AOper) (e:R=P ++ T:=by exact rfl) (e2:P=lit:=by exact rfl) (h:cutOk KC T K=true:=by kernel_rfl):∀ (call:CallF) (it:IterF) (base:Nat) (f:List V) (H:Heap),evC call it base (.region R [] K) f H=thenC call it base (.region T [] K) (opsC [] P KC (evOps call base lit f H)):=fun call it base f H=>by
 subst e;subst e2
 exact (row_op call it base P T (kc:=KC) h f H).trans (by rw [row_ops])
theorem hS (R P T:List AOper) (ka oa K:List Nat) (e:R=P ++ T:=by exact rfl) (h:cutOk ka T K=true:=by kernel_rfl):∀ (call:CallF) (it:IterF) (base:Nat) (f:List V) (H:Heap),evC call it base (.region R [] K) f H=segC call it base T K H (evTale (symAll P ka oa) ka f H) (origRow call it base R K f H):=fun call it base f H=>by
 subst e
 exact row_seg call it base P T h f H
theorem hL (R:List AOper) (K O:List Nat):∀ (call:CallF) (it:IterF) (base:Nat) (f:List V) (H:Heap),evC call it base (.region R [] K) f H=segL H (evTale (symAll R K O) K f H) (origRow call it base R K f H):=fun call it base f H=>row_last call it base R f H
theorem hX (R:List AOper) (K:List Nat) (lit:List AOper) (e:R=lit:=by exact rfl):∀ (call:CallF) (it:IterF) (base:Nat) (f:List V) (H:Heap),evC call it base (.region R [] K) f H=opsC [] R K (evOps call base lit f H):=fun call it base f H=>by
 subst e
 exact row_ops call it base R K f H
theorem hE (c b:ACode) (e:c=b:=by exact rfl):∀ (call:CallF) (it:IterF) (base:Nat) (fr:List V) (H:Heap),evC call it base c fr H=evC call it base b fr H:=fun _ _ _ _ _=>by rw [e]
theorem hP (R T:List AOper) (KC K:List Nat) (a:AOper) (e:R=a :: T:=by exact rfl) (h:cutOk KC T K=true:=by kernel_rfl):∀ (call:CallF) (it:IterF) (base:Nat) (f:List V) (H:Heap),evC call it base (.region R [] K) f H=thenC call it base (.region T [] K) (opsC [] [a] KC (evOps call base [a] f H)):=hO R [a] T KC K [a] e rfl h
abbrev LO:=List AOper
def oL (d n:Nat):AOper:=⟨some d,.load false 1 (.t n),none⟩
def gL (d n g:Nat) (b:Bool):AOper:=⟨some d,.load false 1 (.t n),some (g,b)⟩
def oF (d k n:Nat):AOper:=⟨some d,.fieldAddr k (.t n),none⟩
def gF (d k n g:Nat) (b:Bool):AOper:=⟨some d,.fieldAddr k (.t n),some (g,b)⟩
def oM (d n:Nat):AOper:=⟨some d,.move (.t n),none⟩
def gM (d n g:Nat) (b:Bool):AOper:=⟨some d,.move (.t n),some (g,b)⟩
def sb (l:List Nat):RI:=.sub 0 l []
theorem hQ (l:List Nat) (n:Nat) (h:l.contains n=true:=by kernel_rfl):l.contains n=true:=h
theorem hK (l:List Nat) (n:Nat) (h:l.contains n=false:=by kernel_rfl):l.contains n=false:=h
theorem ai {a b:Prop} (h:a) (k:b):a∧b:=⟨h,k⟩
def aa:=ai @amY (ai @op_eqP (ai @bl.eq_1 (ai @i64.eq_1 (ai @splice.eq_1 (ai @fillA.eq_1 (ai @fillA.eq_2 (ai @am0 (ai @am1 (ai @am2 (ai @am3 (ai @am4 (ai @am5 (ai @am6 (ai @am7 (ai @al0.{1} (ai @al1.{0} (ai @al2.{0} (ai @al3.{0} (ai @al4.{0,0} (ai @al5.{1} (ai @al6.{1} (ai @al7.{1} (ai @al8.{0} (ai @al9.{0} (ai @al10.{1} (ai @al11.{1} (ai @al12.{0} (ai @al13.{0} (ai @al14.{0} (ai @al15.{0,0} (ai @al16.{0,0} (ai @al17.{0} (ai @al18.{0} (ai @al19.{0} (ai @al20.{0} (ai @al21.{0} (ai @al22.{0} (ai @al23.{0} (ai @al24.{0} (ai @al25.{0} (ai @al26.{0} (ai @al27.{0} (ai @al28.{0} (ai @al29.{0,0} (ai @al30.{0} (ai @al31.{0} (ai @al32.{0} (ai @al33.{0} (@al34.{0})))))))))))))))))))))))))))))))))))))))))))))))))
end Go.AM
set_option maxRecDepth 100000
namespace Go.Proofs.YtngfpadeebpoeaaGreatDoor
open Go.AM
abbrev k_f7:Nat:=7
def K7_0:List Nat:=[0] ++ List.range' 2 131
def R7_0t1:LO:=[⟨some 2,.move (.c (.s (.bool false))),none⟩]
def R7_0p0:LO:=[⟨some 1,.box (.t 0),none⟩]
def R7_0:LO:=R7_0p0 ++ R7_0t1
def R7_1:LO:=[oF 10 0 1,oL 11 10,⟨some 12,.lenS .s (.t 11),none⟩,⟨some 13,.bin .gtr (.t 12) (.c (.s (.int .i64 70))),none⟩]
def R7_2:LO:=[⟨some 2,.move (.c (.s (.bool true))),none⟩]
def R7_3:LO:=[⟨some 3,.move (.c (.s (.int .i64 0))),none⟩]
def R7_4:LO:=[⟨some 4,.move (.c (.s (.int .i64 0))),none⟩]
def R7_5:LO:=[oM 14 4,oF 15 0 1,oL 16 15,⟨some 17,.lenS .s (.t 16),none⟩,⟨some 18,.bin .lss (.t 14) (.t 17),none⟩]
def R7_6t2:LO:=[⟨none,.store 3 (.t 5) (.t 25),none⟩]
def R7_6t1:LO:=⟨some 5,.alloc [.s (.string ⟨#[]⟩),.s (.slice none 0 0),.s (.slice none 0 0)],none⟩ :: R7_6t2
def R7_6p0:LO:=[oF 21 0 1,oL 22 21,oM 23 4,⟨some 24,.indexAddr 3 (.t 22) (.t 23),none⟩,⟨some 25,.load true 3 (.t 24),none⟩]
def R7_6:LO:=R7_6p0 ++ R7_6t1
def R7_7t4:LO:=[⟨some 46,.pick (.t 42) (.c (.s (.bool true))) (.t 45),none⟩]
def R7_7t3:LO:=⟨some 45,.call (.c (.fn 15 [] [])) [.t 44],some (42,false)⟩ :: R7_7t4
def R7_7t2:LO:=gL 44 43 42 false :: R7_7t3
def R7_7t1:LO:=gF 43 1 5 42 false :: R7_7t2
def R7_7p0:LO:=[oF 26 0 5,oL 27 26,⟨some 28,.lenS .p (.t 27),none⟩,⟨some 29,.bin .gtr (.t 28) (.c (.s (.int .i64 200))),none⟩,oM 30 29,gF 31 1 5 30 false,gL 32 31 30 false,⟨some 33,.lenS .s (.t 32),some (30,false)⟩,⟨some 34,.bin .gtr (.t 33) (.c (.s (.int .i64 20))),some (30,false)⟩,⟨some 35,.pick (.t 30) (.c (.s (.bool true))) (.t 34),none⟩,oM 36 35,gF 37 2 5 36 false,gL 38 37 36 false,⟨some 39,.lenS .s (.t 38),some (36,false)⟩,⟨some 40,.bin .gtr (.t 39) (.c (.s (.int .i64 70))),some (36,false)⟩,⟨some 41,.pick (.t 36) (.c (.s (.bool true))) (.t 40),none⟩,oM 42 41]
def R7_7:LO:=R7_7p0 ++ R7_7t1
def R7_8:LO:=[⟨some 2,.move (.c (.s (.bool true))),none⟩]
def R7_9:LO:=[⟨some 6,.move (.c (.s (.int .i64 0))),none⟩]
def R7_10:LO:=[oM 47 6,oF 48 2 5,oL 49 48,⟨some 50,.lenS .s (.t 49),none⟩,⟨some 51,.bin .lss (.t 47) (.t 50),none⟩]
def R7_11:LO:=[oF 54 2 5,oL 55 54,oM 56 6,⟨some 57,.indexAddr 2 (.t 55) (.t 56),none⟩,oF 58 1 57,oL 59 58,oM 7 59]
def R7_12:LO:=[oM 60 7,⟨some 61,.lenS .s (.t 60),none⟩,oM 62 3,⟨some 63,.bin .sub (.c (.s (.int .i64 200))) (.t 62),none⟩,⟨some 64,.bin .gtr (.t 61) (.t 63),none⟩,oM 65 64,gF 66 2 5 65 false,gL 67 66 65 false,gM 68 6 65 false,⟨some 69,.indexAddr 2 (.t 67) (.t 68),some (65,false)⟩,gF 70 0 69 65 false,gL 71 70 65 false,⟨some 72,.lenS .p (.t 71),some (65,false)⟩,⟨some 73,.bin .gtr (.t 72) (.c (.s (.int .i64 200))),some (65,false)⟩,⟨some 74,.pick (.t 65) (.c (.s (.bool true))) (.t 73),none⟩]
def R7_13:LO:=[⟨some 2,.move (.c (.s (.bool true))),none⟩]
def R7_14:LO:=[oM 75 3,oM 76 7,⟨some 77,.lenS .s (.t 76),none⟩,⟨some 78,.bin .add (.t 75) (.t 77),none⟩,oM 3 78]
def R7_15:LO:=[⟨some 8,.move (.c (.s (.int .i64 0))),none⟩]
def R7_16:LO:=[oM 79 8,oM 80 7,⟨some 81,.lenS .s (.t 80),none⟩,⟨some 82,.bin .lss (.t 79) (.t 81),none⟩]
def R7_17t2:LO:=[⟨none,.store 8 (.t 9) (.t 88),none⟩]
def R7_17t1:LO:=⟨some 9,.alloc [.s (.int .u8 0),.s (.string ⟨#[]⟩),.s (.string ⟨#[]⟩),.s (.string ⟨#[]⟩),.s (.int .i64 0),.s (.string ⟨#[]⟩),.s (.slice none 0 0),.s (.slice none 0 0)],none⟩ :: R7_17t2
def R7_17p0:LO:=[oM 85 7,oM 86 8,⟨some 87,.indexAddr 8 (.t 85) (.t 86),none⟩,⟨some 88,.load true 8 (.t 87),none⟩]
def R7_17:LO:=R7_17p0 ++ R7_17t1
def R7_18t8:LO:=[⟨some 132,.pick (.t 128) (.c (.s (.bool true))) (.t 131),none⟩]
def R7_18t7:LO:=⟨some 131,.call (.c (.fn 15 [] [])) [.t 130],some (128,false)⟩ :: R7_18t8
def R7_18t6:LO:=gL 130 129 128 false :: R7_18t7
def R7_18t5:LO:=gF 129 7 9 128 false :: R7_18t6
def R7_18p4:LO:=[⟨some 127,.pick (.t 123) (.c (.s (.bool true))) (.t 126),none⟩,oM 128 127]
def R7_18t4:LO:=R7_18p4 ++ R7_18t5
def R7_18t3:LO:=⟨some 126,.call (.c (.fn 15 [] [])) [.t 125],some (123,false)⟩ :: R7_18t4
def R7_18t2:LO:=gL 125 124 123 false :: R7_18t3
def R7_18t1:LO:=gF 124 6 9 123 false :: R7_18t2
def R7_18p0:LO:=[oF 89 1 9,oL 90 89,⟨some 91,.lenS .p (.t 90),none⟩,⟨some 92,.bin .gtr (.t 91) (.c (.s (.int .i64 200))),none⟩,oM 93 92,gF 94 2 9 93 false,gL 95 94 93 false,⟨some 96,.lenS .p (.t 95),some (93,false)⟩,⟨some 97,.bin .gtr (.t 96) (.c (.s (.int .i64 200))),some (93,false)⟩,⟨some 98,.pick (.t 93) (.c (.s (.bool true))) (.t 97),none⟩,oM 99 98,gF 100 3 9 99 false,gL 101 100 99 false,⟨some 102,.lenS .p (.t 101),some (99,false)⟩,⟨some 103,.bin .gtr (.t 102) (.c (.s (.int .i64 200))),some (99,false)⟩,⟨some 104,.pick (.t 99) (.c (.s (.bool true))) (.t 103),none⟩,oM 105 104,gF 106 5 9 105 false,gL 107 106 105 false,⟨some 108,.lenS .p (.t 107),some (105,false)⟩,⟨some 109,.bin .gtr (.t 108) (.c (.s (.int .i64 200))),some (105,false)⟩,⟨some 110,.pick (.t 105) (.c (.s (.bool true))) (.t 109),none⟩,oM 111 110,gF 112 6 9 111 false,gL 113 112 111 false,⟨some 114,.lenS .s (.t 113),some (111,false)⟩,⟨some 115,.bin .gtr (.t 114) (.c (.s (.int .i64 20))),some (111,false)⟩,⟨some 116,.pick (.t 111) (.c (.s (.bool true))) (.t 115),none⟩,oM 117 116,gF 118 7 9 117 false,gL 119 118 117 false,⟨some 120,.lenS .s (.t 119),some (117,false)⟩,⟨some 121,.bin .gtr (.t 120) (.c (.s (.int .i64 20))),some (117,false)⟩,⟨some 122,.pick (.t 117) (.c (.s (.bool true))) (.t 121),none⟩,oM 123 122]
def R7_18:LO:=R7_18p0 ++ R7_18t1
def R7_19:LO:=[⟨some 2,.move (.c (.s (.bool true))),none⟩]
def R7_20:LO:=[oM 83 8,⟨some 84,.bin .add (.t 83) (.c (.s (.int .i64 1))),none⟩,oM 8 84]
def s_f7_l0_b:ACode:=
 (.seq (.seq (.regionE R7_16 [79,80,81] [82])
 (.cond (.t 82)
 .skip
 (.exit 4)))
 (.seq (.block 5
 (.seq (.region R7_17 [] [82,85,86,87,88])
 (.seq (.region R7_18 [] [9,89,90,91,92,93,94,95,96,97,98,99,100,101,102,103,104,105,106,107,108,109,110,111,112,113,114,115,116,117,118,119,120,121,122,123,124,125,126,127,128,129,130,131])
 (.cond (.t 132)
 (.seq (.regionE R7_19 [1,3,4,5,6,7,8,132] [2])
 .ret)
 .skip))))
 (.regionE R7_20 [83,84,132] [8])))
def s_f7_l0:ACode:=s_f7_l0_b
def R7_21:LO:=[oM 52 6,⟨some 53,.bin .add (.t 52) (.c (.s (.int .i64 1))),none⟩,oM 6 53]
def s_f7_l1_b:ACode:=
 (.seq (.seq (.regionE R7_10 [47,48,49,50] [51])
 (.cond (.t 51)
 .skip
 (.exit 2)))
 (.seq (.block 3
 (.seq (.regionE R7_11 [51,54,55,56,57,58,59] [7])
 (.seq (.seq (.regionE R7_12 [60,61,62,63,64,65,66,67,68,69,70,71,72,73] [74])
 (.cond (.t 74)
 (.seq (.regionE R7_13 [1,3,4,5,6,7,74] [2])
 .ret)
 .skip))
 (.seq (.regionE R7_14 [74,75,76,77,78] [3])
 (.seq (.regionE R7_15 [] [8])
 (.block 4
 (.loop [] s_f7_l0)))))))
 (.regionE R7_21 [7,8,52,53,82] [6])))
def s_f7_l1:ACode:=s_f7_l1_b
def R7_22:LO:=[oM 19 4,⟨some 20,.bin .add (.t 19) (.c (.s (.int .i64 1))),none⟩,oM 4 20]
def s_f7_l2_b:ACode:=
 (.seq (.seq (.regionE R7_5 [14,15,16,17] [18])
 (.cond (.t 18)
 .skip
 (.exit 0)))
 (.seq (.block 1
 (.seq (.region R7_6 [] [18,21,22,23,24,25])
 (.seq (.seq (.region R7_7 [] [26,27,28,29,30,31,32,33,34,35,36,37,38,39,40,41,42,43,44,45])
 (.cond (.t 46)
 (.seq (.regionE R7_8 [1,3,4,5,46] [2])
 .ret)
 .skip))
 (.seq (.regionE R7_9 [46] [6])
 (.block 2
 (.loop [] s_f7_l1))))))
 (.regionE R7_22 [5,6,19,20,51] [4])))
def s_f7_l2:ACode:=s_f7_l2_b
def R7_23:LO:=[⟨some 2,.move (.c (.s (.bool false))),none⟩]
def s_f7:ACFun:={ ntmps:=133,results:=[.tmp 2],body:=
 (.seq (.region R7_0 [] K7_0)
 (.seq (.seq (.regionE R7_1 [10,11,12] [13])
 (.cond (.t 13)
 (.seq (.regionE R7_2 [1,13] [2])
 .ret)
 .skip))
 (.seq (.regionE R7_3 [13] [3])
 (.seq (.seq (.regionE R7_4 [] [4])
 (.block 0
 (.loop [] s_f7_l2)))
 (.seq (.regionE R7_23 [1,3,4,18] [2])
 .ret))))) }
abbrev k_f15:Nat:=15
def K15_0:List Nat:=List.range' 1 15
def R15_0:LO:=[⟨some 2,.move (.c (.s (.bool false))),none⟩]
def R15_1:LO:=[⟨some 3,.move (.c (.s (.int .i64 0))),none⟩]
def R15_2:LO:=[oM 4 3,oM 5 0,⟨some 6,.lenS .s (.t 5),none⟩,⟨some 7,.bin .lss (.t 4) (.t 6),none⟩]
def R15_3:LO:=[oM 10 0,oM 11 3,⟨some 12,.indexAddr 1 (.t 10) (.t 11),none⟩,oL 13 12,⟨some 14,.lenS .p (.t 13),none⟩,⟨some 15,.bin .gtr (.t 14) (.c (.s (.int .i64 200))),none⟩]
def R15_4:LO:=[⟨some 2,.move (.c (.s (.bool true))),none⟩]
def R15_5:LO:=[oM 8 3,⟨some 9,.bin .add (.t 8) (.c (.s (.int .i64 1))),none⟩,oM 3 9]
def s_f15_l0_b:ACode:=
 (.seq (.seq (.regionE R15_2 [4,5,6] [7])
 (.cond (.t 7)
 .skip
 (.exit 0)))
 (.seq (.block 1
 (.seq (.regionE R15_3 [7,10,11,12,13,14] [15])
 (.cond (.t 15)
 (.seq (.regionE R15_4 [0,3,15] [2])
 .ret)
 .skip)))
 (.regionE R15_5 [8,9,15] [3])))
def s_f15_l0:ACode:=s_f15_l0_b
def R15_6:LO:=[⟨some 2,.move (.c (.s (.bool false))),none⟩]
def s_f15:ACFun:={ ntmps:=16,results:=[.tmp 2],body:=
 (.seq (.regionE R15_0 K15_0 [])
 (.seq (.seq (.regionE R15_1 [] [3])
 (.block 0
 (.loop [] s_f15_l0)))
 (.seq (.regionE R15_6 [0,3,7] [2])
 .ret))) }
abbrev k_f35:Nat:=35
def K35_0:List Nat:=List.range' 0 17
theorem s_f35_r0_kT:killV K35_0 (startV 17 [] 0)=[]:=by kernel_rfl
def R35_0:LO:=[⟨some 0,.move (.c (.s (.map none))),none⟩]
def T35_0:=hT R35_0 K35_0 [] 1 [] [] [.cc (.s (.map none))]
def R35_1t29:LO:=[oM 16 1,oM 0 16]
def R35_1t28:LO:=⟨none,.mapUpd (.int .u8) (.t 1) (.c (.s (.int .u8 14))) (.t 15),none⟩ :: R35_1t29
def R35_1p27:LO:=[⟨some 15,.build [.s (.bool false),.s (.bool false),.s (.bool false),.s (.bool false),.s (.bool false),.s (.bool false),.s (.bool false)] [(0,1),(1,1),(2,1),(3,1),(4,1),(5,1),(6,1)] [(1,.c (.s (.bool true)))],none⟩]
def R35_1t27:LO:=R35_1p27 ++ R35_1t28
def R35_1t26:LO:=⟨none,.mapUpd (.int .u8) (.t 1) (.c (.s (.int .u8 13))) (.t 14),none⟩ :: R35_1t27
def R35_1p25:LO:=[⟨some 14,.build [.s (.bool false),.s (.bool false),.s (.bool false),.s (.bool false),.s (.bool false),.s (.bool false),.s (.bool false)] [(0,1),(1,1),(2,1),(3,1),(4,1),(5,1),(6,1)] [(6,.c (.s (.bool true)))],none⟩]
def R35_1t25:LO:=R35_1p25 ++ R35_1t26
def R35_1t24:LO:=⟨none,.mapUpd (.int .u8) (.t 1) (.c (.s (.int .u8 12))) (.t 13),none⟩ :: R35_1t25
def R35_1p23:LO:=[⟨some 13,.build [.s (.bool false),.s (.bool false),.s (.bool false),.s (.bool false),.s (.bool false),.s (.bool false),.s (.bool false)] [(0,1),(1,1),(2,1),(3,1),(4,1),(5,1),(6,1)] [(6,.c (.s (.bool true)))],none⟩]
def R35_1t23:LO:=R35_1p23 ++ R35_1t24
def R35_1t22:LO:=⟨none,.mapUpd (.int .u8) (.t 1) (.c (.s (.int .u8 11))) (.t 12),none⟩ :: R35_1t23
def R35_1p21:LO:=[⟨some 12,.build [.s (.bool false),.s (.bool false),.s (.bool false),.s (.bool false),.s (.bool false),.s (.bool false),.s (.bool false)] [(0,1),(1,1),(2,1),(3,1),(4,1),(5,1),(6,1)] [(0,.c (.s (.bool true))),(1,.c (.s (.bool true))),(5,.c (.s (.bool true)))],none⟩]
def R35_1t21:LO:=R35_1p21 ++ R35_1t22
def R35_1t20:LO:=⟨none,.mapUpd (.int .u8) (.t 1) (.c (.s (.int .u8 10))) (.t 11),none⟩ :: R35_1t21
def R35_1p19:LO:=[⟨some 11,.build [.s (.bool false),.s (.bool false),.s (.bool false),.s (.bool false),.s (.bool false),.s (.bool false),.s (.bool false)] [(0,1),(1,1),(2,1),(3,1),(4,1),(5,1),(6,1)] [(0,.c (.s (.bool true))),(4,.c (.s (.bool true))),(5,.c (.s (.bool true)))],none⟩]
def R35_1t19:LO:=R35_1p19 ++ R35_1t20
def R35_1t18:LO:=⟨none,.mapUpd (.int .u8) (.t 1) (.c (.s (.int .u8 9))) (.t 10),none⟩ :: R35_1t19
def R35_1p17:LO:=[⟨some 10,.build [.s (.bool false),.s (.bool false),.s (.bool false),.s (.bool false),.s (.bool false),.s (.bool false),.s (.bool false)] [(0,1),(1,1),(2,1),(3,1),(4,1),(5,1),(6,1)] [(1,.c (.s (.bool true))),(2,.c (.s (.bool true)))],none⟩]
def R35_1t17:LO:=R35_1p17 ++ R35_1t18
def R35_1t16:LO:=⟨none,.mapUpd (.int .u8) (.t 1) (.c (.s (.int .u8 7))) (.t 9),none⟩ :: R35_1t17
def R35_1p15:LO:=[⟨some 9,.build [.s (.bool false),.s (.bool false),.s (.bool false),.s (.bool false),.s (.bool false),.s (.bool false),.s (.bool false)] [(0,1),(1,1),(2,1),(3,1),(4,1),(5,1),(6,1)] [(0,.c (.s (.bool true))),(1,.c (.s (.bool true))),(3,.c (.s (.bool true)))],none⟩]
def R35_1t15:LO:=R35_1p15 ++ R35_1t16
def R35_1t14:LO:=⟨none,.mapUpd (.int .u8) (.t 1) (.c (.s (.int .u8 6))) (.t 8),none⟩ :: R35_1t15
def R35_1p13:LO:=[⟨some 8,.build [.s (.bool false),.s (.bool false),.s (.bool false),.s (.bool false),.s (.bool false),.s (.bool false),.s (.bool false)] [(0,1),(1,1),(2,1),(3,1),(4,1),(5,1),(6,1)] [(0,.c (.s (.bool true))),(5,.c (.s (.bool true))),(6,.c (.s (.bool true)))],none⟩]
def R35_1t13:LO:=R35_1p13 ++ R35_1t14
def R35_1t12:LO:=⟨none,.mapUpd (.int .u8) (.t 1) (.c (.s (.int .u8 8))) (.t 7),none⟩ :: R35_1t13
def R35_1p11:LO:=[⟨some 7,.build [.s (.bool false),.s (.bool false),.s (.bool false),.s (.bool false),.s (.bool false),.s (.bool false),.s (.bool false)] [(0,1),(1,1),(2,1),(3,1),(4,1),(5,1),(6,1)] [(0,.c (.s (.bool true))),(1,.c (.s (.bool true)))],none⟩]
def R35_1t11:LO:=R35_1p11 ++ R35_1t12
def R35_1t10:LO:=⟨none,.mapUpd (.int .u8) (.t 1) (.c (.s (.int .u8 5))) (.t 6),none⟩ :: R35_1t11
def R35_1p9:LO:=[⟨some 6,.build [.s (.bool false),.s (.bool false),.s (.bool false),.s (.bool false),.s (.bool false),.s (.bool false),.s (.bool false)] [(0,1),(1,1),(2,1),(3,1),(4,1),(5,1),(6,1)] [(0,.c (.s (.bool true))),(1,.c (.s (.bool true)))],none⟩]
def R35_1t9:LO:=R35_1p9 ++ R35_1t10
def R35_1t8:LO:=⟨none,.mapUpd (.int .u8) (.t 1) (.c (.s (.int .u8 4))) (.t 5),none⟩ :: R35_1t9
def R35_1p7:LO:=[⟨some 5,.build [.s (.bool false),.s (.bool false),.s (.bool false),.s (.bool false),.s (.bool false),.s (.bool false),.s (.bool false)] [(0,1),(1,1),(2,1),(3,1),(4,1),(5,1),(6,1)] [(0,.c (.s (.bool true))),(4,.c (.s (.bool true)))],none⟩]
def R35_1t7:LO:=R35_1p7 ++ R35_1t8
def R35_1t6:LO:=⟨none,.mapUpd (.int .u8) (.t 1) (.c (.s (.int .u8 3))) (.t 4),none⟩ :: R35_1t7
def R35_1p5:LO:=[⟨some 4,.build [.s (.bool false),.s (.bool false),.s (.bool false),.s (.bool false),.s (.bool false),.s (.bool false),.s (.bool false)] [(0,1),(1,1),(2,1),(3,1),(4,1),(5,1),(6,1)] [(0,.c (.s (.bool true)))],none⟩]
def R35_1t5:LO:=R35_1p5 ++ R35_1t6
def R35_1t4:LO:=⟨none,.mapUpd (.int .u8) (.t 1) (.c (.s (.int .u8 2))) (.t 3),none⟩ :: R35_1t5
def R35_1p3:LO:=[⟨some 3,.build [.s (.bool false),.s (.bool false),.s (.bool false),.s (.bool false),.s (.bool false),.s (.bool false),.s (.bool false)] [(0,1),(1,1),(2,1),(3,1),(4,1),(5,1),(6,1)] [(0,.c (.s (.bool true))),(3,.c (.s (.bool true)))],none⟩]
def R35_1t3:LO:=R35_1p3 ++ R35_1t4
def R35_1t2:LO:=⟨none,.mapUpd (.int .u8) (.t 1) (.c (.s (.int .u8 1))) (.t 2),none⟩ :: R35_1t3
def R35_1p1:LO:=[⟨some 2,.build [.s (.bool false),.s (.bool false),.s (.bool false),.s (.bool false),.s (.bool false),.s (.bool false),.s (.bool false)] [(0,1),(1,1),(2,1),(3,1),(4,1),(5,1),(6,1)] [(0,.c (.s (.bool true))),(3,.c (.s (.bool true)))],none⟩]
def R35_1t1:LO:=R35_1p1 ++ R35_1t2
def R35_1:LO:=⟨some 1,.mapNew,none⟩ :: R35_1t1
def X35_1:=hP R35_1 R35_1t1 [] [1,2,3,4,5,6,7,8,9,10,11,12,13,14,15,16] ⟨some 1,.mapNew,none⟩
def T35_1p1:=hT R35_1p1 [] [2] 3 [] [(2,.op (.build [.s (.bool false),.s (.bool false),.s (.bool false),.s (.bool false),.s (.bool false),.s (.bool false),.s (.bool false)] [(0,1),(1,1),(2,1),(3,1),(4,1),(5,1),(6,1)] [(0,.c (.s (.bool true))),(3,.c (.s (.bool true)))]) [.c (.s (.bool true)),.c (.s (.bool true))])] [sb []]
def X35_1t1:=hS R35_1t1 R35_1p1 R35_1t2 [] [2] [1,2,3,4,5,6,7,8,9,10,11,12,13,14,15,16]
def X35_1t2:=hP R35_1t2 R35_1t3 [2] [1,2,3,4,5,6,7,8,9,10,11,12,13,14,15,16] ⟨none,.mapUpd (.int .u8) (.t 1) (.c (.s (.int .u8 1))) (.t 2),none⟩
def T35_1p3:=hT R35_1p3 [] [3] 4 [] [(3,.op (.build [.s (.bool false),.s (.bool false),.s (.bool false),.s (.bool false),.s (.bool false),.s (.bool false),.s (.bool false)] [(0,1),(1,1),(2,1),(3,1),(4,1),(5,1),(6,1)] [(0,.c (.s (.bool true))),(3,.c (.s (.bool true)))]) [.c (.s (.bool true)),.c (.s (.bool true))])] [sb []]
def X35_1t3:=hS R35_1t3 R35_1p3 R35_1t4 [] [3] [1,2,3,4,5,6,7,8,9,10,11,12,13,14,15,16]
def X35_1t4:=hP R35_1t4 R35_1t5 [3] [1,2,3,4,5,6,7,8,9,10,11,12,13,14,15,16] ⟨none,.mapUpd (.int .u8) (.t 1) (.c (.s (.int .u8 2))) (.t 3),none⟩
def T35_1p5:=hT R35_1p5 [] [4] 5 [] [(4,.op (.build [.s (.bool false),.s (.bool false),.s (.bool false),.s (.bool false),.s (.bool false),.s (.bool false),.s (.bool false)] [(0,1),(1,1),(2,1),(3,1),(4,1),(5,1),(6,1)] [(0,.c (.s (.bool true)))]) [.c (.s (.bool true))])] [sb []]
def X35_1t5:=hS R35_1t5 R35_1p5 R35_1t6 [] [4] [1,2,3,4,5,6,7,8,9,10,11,12,13,14,15,16]
def X35_1t6:=hP R35_1t6 R35_1t7 [4] [1,2,3,4,5,6,7,8,9,10,11,12,13,14,15,16] ⟨none,.mapUpd (.int .u8) (.t 1) (.c (.s (.int .u8 3))) (.t 4),none⟩
def T35_1p7:=hT R35_1p7 [] [5] 6 [] [(5,.op (.build [.s (.bool false),.s (.bool false),.s (.bool false),.s (.bool false),.s (.bool false),.s (.bool false),.s (.bool false)] [(0,1),(1,1),(2,1),(3,1),(4,1),(5,1),(6,1)] [(0,.c (.s (.bool true))),(4,.c (.s (.bool true)))]) [.c (.s (.bool true)),.c (.s (.bool true))])] [sb []]
def X35_1t7:=hS R35_1t7 R35_1p7 R35_1t8 [] [5] [1,2,3,4,5,6,7,8,9,10,11,12,13,14,15,16]
def X35_1t8:=hP R35_1t8 R35_1t9 [5] [1,2,3,4,5,6,7,8,9,10,11,12,13,14,15,16] ⟨none,.mapUpd (.int .u8) (.t 1) (.c (.s (.int .u8 4))) (.t 5),none⟩
def T35_1p9:=hT R35_1p9 [] [6] 7 [] [(6,.op (.build [.s (.bool false),.s (.bool false),.s (.bool false),.s (.bool false),.s (.bool false),.s (.bool false),.s (.bool false)] [(0,1),(1,1),(2,1),(3,1),(4,1),(5,1),(6,1)] [(0,.c (.s (.bool true))),(1,.c (.s (.bool true)))]) [.c (.s (.bool true)),.c (.s (.bool true))])] [sb []]
def X35_1t9:=hS R35_1t9 R35_1p9 R35_1t10 [] [6] [1,2,3,4,5,6,7,8,9,10,11,12,13,14,15,16]
def X35_1t10:=hP R35_1t10 R35_1t11 [6] [1,2,3,4,5,6,7,8,9,10,11,12,13,14,15,16] ⟨none,.mapUpd (.int .u8) (.t 1) (.c (.s (.int .u8 5))) (.t 6),none⟩
def T35_1p11:=hT R35_1p11 [] [7] 8 [] [(7,.op (.build [.s (.bool false),.s (.bool false),.s (.bool false),.s (.bool false),.s (.bool false),.s (.bool false),.s (.bool false)] [(0,1),(1,1),(2,1),(3,1),(4,1),(5,1),(6,1)] [(0,.c (.s (.bool true))),(1,.c (.s (.bool true)))]) [.c (.s (.bool true)),.c (.s (.bool true))])] [sb []]
def X35_1t11:=hS R35_1t11 R35_1p11 R35_1t12 [] [7] [1,2,3,4,5,6,7,8,9,10,11,12,13,14,15,16]
def X35_1t12:=hP R35_1t12 R35_1t13 [7] [1,2,3,4,5,6,7,8,9,10,11,12,13,14,15,16] ⟨none,.mapUpd (.int .u8) (.t 1) (.c (.s (.int .u8 8))) (.t 7),none⟩
def T35_1p13:=hT R35_1p13 [] [8] 9 [] [(8,.op (.build [.s (.bool false),.s (.bool false),.s (.bool false),.s (.bool false),.s (.bool false),.s (.bool false),.s (.bool false)] [(0,1),(1,1),(2,1),(3,1),(4,1),(5,1),(6,1)] [(0,.c (.s (.bool true))),(5,.c (.s (.bool true))),(6,.c (.s (.bool true)))]) [.c (.s (.bool true)),.c (.s (.bool true)),.c (.s (.bool true))])] [sb []]
def X35_1t13:=hS R35_1t13 R35_1p13 R35_1t14 [] [8] [1,2,3,4,5,6,7,8,9,10,11,12,13,14,15,16]
def X35_1t14:=hP R35_1t14 R35_1t15 [8] [1,2,3,4,5,6,7,8,9,10,11,12,13,14,15,16] ⟨none,.mapUpd (.int .u8) (.t 1) (.c (.s (.int .u8 6))) (.t 8),none⟩
def T35_1p15:=hT R35_1p15 [] [9] 10 [] [(9,.op (.build [.s (.bool false),.s (.bool false),.s (.bool false),.s (.bool false),.s (.bool false),.s (.bool false),.s (.bool false)] [(0,1),(1,1),(2,1),(3,1),(4,1),(5,1),(6,1)] [(0,.c (.s (.bool true))),(1,.c (.s (.bool true))),(3,.c (.s (.bool true)))]) [.c (.s (.bool true)),.c (.s (.bool true)),.c (.s (.bool true))])] [sb []]
def X35_1t15:=hS R35_1t15 R35_1p15 R35_1t16 [] [9] [1,2,3,4,5,6,7,8,9,10,11,12,13,14,15,16]
def X35_1t16:=hP R35_1t16 R35_1t17 [9] [1,2,3,4,5,6,7,8,9,10,11,12,13,14,15,16] ⟨none,.mapUpd (.int .u8) (.t 1) (.c (.s (.int .u8 7))) (.t 9),none⟩
def T35_1p17:=hT R35_1p17 [] [10] 11 [] [(10,.op (.build [.s (.bool false),.s (.bool false),.s (.bool false),.s (.bool false),.s (.bool false),.s (.bool false),.s (.bool false)] [(0,1),(1,1),(2,1),(3,1),(4,1),(5,1),(6,1)] [(1,.c (.s (.bool true))),(2,.c (.s (.bool true)))]) [.c (.s (.bool true)),.c (.s (.bool true))])] [sb []]
def X35_1t17:=hS R35_1t17 R35_1p17 R35_1t18 [] [10] [1,2,3,4,5,6,7,8,9,10,11,12,13,14,15,16]
def X35_1t18:=hP R35_1t18 R35_1t19 [10] [1,2,3,4,5,6,7,8,9,10,11,12,13,14,15,16] ⟨none,.mapUpd (.int .u8) (.t 1) (.c (.s (.int .u8 9))) (.t 10),none⟩
def T35_1p19:=hT R35_1p19 [] [11] 12 [] [(11,.op (.build [.s (.bool false),.s (.bool false),.s (.bool false),.s (.bool false),.s (.bool false),.s (.bool false),.s (.bool false)] [(0,1),(1,1),(2,1),(3,1),(4,1),(5,1),(6,1)] [(0,.c (.s (.bool true))),(4,.c (.s (.bool true))),(5,.c (.s (.bool true)))]) [.c (.s (.bool true)),.c (.s (.bool true)),.c (.s (.bool true))])] [sb []]
def X35_1t19:=hS R35_1t19 R35_1p19 R35_1t20 [] [11] [1,2,3,4,5,6,7,8,9,10,11,12,13,14,15,16]
def X35_1t20:=hP R35_1t20 R35_1t21 [11] [1,2,3,4,5,6,7,8,9,10,11,12,13,14,15,16] ⟨none,.mapUpd (.int .u8) (.t 1) (.c (.s (.int .u8 10))) (.t 11),none⟩
def T35_1p21:=hT R35_1p21 [] [12] 13 [] [(12,.op (.build [.s (.bool false),.s (.bool false),.s (.bool false),.s (.bool false),.s (.bool false),.s (.bool false),.s (.bool false)] [(0,1),(1,1),(2,1),(3,1),(4,1),(5,1),(6,1)] [(0,.c (.s (.bool true))),(1,.c (.s (.bool true))),(5,.c (.s (.bool true)))]) [.c (.s (.bool true)),.c (.s (.bool true)),.c (.s (.bool true))])] [sb []]
def X35_1t21:=hS R35_1t21 R35_1p21 R35_1t22 [] [12] [1,2,3,4,5,6,7,8,9,10,11,12,13,14,15,16]
def X35_1t22:=hP R35_1t22 R35_1t23 [12] [1,2,3,4,5,6,7,8,9,10,11,12,13,14,15,16] ⟨none,.mapUpd (.int .u8) (.t 1) (.c (.s (.int .u8 11))) (.t 12),none⟩
def T35_1p23:=hT R35_1p23 [] [13] 14 [] [(13,.op (.build [.s (.bool false),.s (.bool false),.s (.bool false),.s (.bool false),.s (.bool false),.s (.bool false),.s (.bool false)] [(0,1),(1,1),(2,1),(3,1),(4,1),(5,1),(6,1)] [(6,.c (.s (.bool true)))]) [.c (.s (.bool true))])] [sb []]
def X35_1t23:=hS R35_1t23 R35_1p23 R35_1t24 [] [13] [1,2,3,4,5,6,7,8,9,10,11,12,13,14,15,16]
def X35_1t24:=hP R35_1t24 R35_1t25 [13] [1,2,3,4,5,6,7,8,9,10,11,12,13,14,15,16] ⟨none,.mapUpd (.int .u8) (.t 1) (.c (.s (.int .u8 12))) (.t 13),none⟩
def T35_1p25:=hT R35_1p25 [] [14] 15 [] [(14,.op (.build [.s (.bool false),.s (.bool false),.s (.bool false),.s (.bool false),.s (.bool false),.s (.bool false),.s (.bool false)] [(0,1),(1,1),(2,1),(3,1),(4,1),(5,1),(6,1)] [(6,.c (.s (.bool true)))]) [.c (.s (.bool true))])] [sb []]
def X35_1t25:=hS R35_1t25 R35_1p25 R35_1t26 [] [14] [1,2,3,4,5,6,7,8,9,10,11,12,13,14,15,16]
def X35_1t26:=hP R35_1t26 R35_1t27 [14] [1,2,3,4,5,6,7,8,9,10,11,12,13,14,15,16] ⟨none,.mapUpd (.int .u8) (.t 1) (.c (.s (.int .u8 13))) (.t 14),none⟩
def T35_1p27:=hT R35_1p27 [] [15] 16 [] [(15,.op (.build [.s (.bool false),.s (.bool false),.s (.bool false),.s (.bool false),.s (.bool false),.s (.bool false),.s (.bool false)] [(0,1),(1,1),(2,1),(3,1),(4,1),(5,1),(6,1)] [(1,.c (.s (.bool true)))]) [.c (.s (.bool true))])] [sb []]
def X35_1t27:=hS R35_1t27 R35_1p27 R35_1t28 [] [15] [1,2,3,4,5,6,7,8,9,10,11,12,13,14,15,16]
def X35_1t28:=hP R35_1t28 R35_1t29 [15] [1,2,3,4,5,6,7,8,9,10,11,12,13,14,15,16] ⟨none,.mapUpd (.int .u8) (.t 1) (.c (.s (.int .u8 14))) (.t 15),none⟩
def T35_1t29:=hT R35_1t29 [1,2,3,4,5,6,7,8,9,10,11,12,13,14,15,16] [0] 17 [] [(0,.t 1)] [.tt 1,.tt 1]
def X35_1t29:=hL R35_1t29 [1,2,3,4,5,6,7,8,9,10,11,12,13,14,15,16] [0]
def s_f35:ACFun:={ ntmps:=17,results:=[.tmp 0],body:=
 (.seq (.regionE R35_0 K35_0 [])
 (.seq (.region R35_1 [] [1,2,3,4,5,6,7,8,9,10,11,12,13,14,15,16])
 .ret)) }
abbrev k_f92:Nat:=92
def K92_0:List Nat:=List.range' 1 61
theorem s_f92_r0_kT:killV K92_0 (startV 62 [] 1)=[]:=by kernel_rfl
def s_f92_r0_kA0:=hK K92_0 0
def R92_0:LO:=[⟨some 2,.move (.c (.s (.bool false))),none⟩]
def T92_0:=hT R92_0 K92_0 [] 3 [] [] [.cc (.s (.bool false))]
def R92_1:LO:=[oM 6 0,⟨some 7,.bin .eql (.t 6) (.c (.s (.string ⟨#[]⟩))),none⟩,oM 8 7,gM 9 0 8 false,⟨some 10,.lenS .p (.t 9),some (8,false)⟩,⟨some 11,.bin .gtr (.t 10) (.c (.s (.int .i64 64))),some (8,false)⟩,⟨some 12,.pick (.t 8) (.c (.s (.bool true))) (.t 11),none⟩,oM 13 12,gM 14 0 13 false,⟨some 15,.bin .eql (.t 14) (.c (.s (.string ⟨#[110,117,108,108]⟩))),some (13,false)⟩,⟨some 16,.pick (.t 13) (.c (.s (.bool true))) (.t 15),none⟩]
def T92_1:=hT R92_1 [6,7,8,9,10,11,12,13,14,15] [16] 17 [] [(16,.pick (.pick (.op (.bin .eql (.t 0) (.c (.s (.string ⟨#[]⟩)))) [.t 0,.c (.s (.string ⟨#[]⟩))]) (.c (.s (.bool true))) (.op (.bin .gtr (.t 0) (.c (.s (.int .i64 64)))) [.op (.lenS .p (.t 0)) [.t 0],.c (.s (.int .i64 64))])) (.c (.s (.bool true))) (.op (.bin .eql (.t 0) (.c (.s (.string ⟨#[110,117,108,108]⟩)))) [.t 0,.c (.s (.string ⟨#[110,117,108,108]⟩))]))] [.tt 0,sb [0,0],sb [0,0],.sub 0 [0,2,0,0] [8],.sub 0 [0,2,0] [8],.sub 0 [0,2] [8],sb [0],sb [0],.sub 0 [2,0] [13],.sub 0 [2] [13],sb []]
def R92_2:LO:=[⟨some 2,.move (.c (.s (.bool false))),none⟩]
def T92_2:=hT R92_2 [0,16] [2] 3 [] [(2,.c (.s (.bool false)))] [.cc (.s (.bool false))]
def R92_3:LO:=[oM 17 0,⟨some 18,.lenS .p (.t 17),none⟩,⟨some 19,.move (.c (.s (.int .i64 0))),none⟩]
def T92_3:=hT R92_3 [16,17] [18,19] 20 [] [(18,.op (.lenS .p (.t 0)) [.t 0]),(19,.c (.s (.int .i64 0)))] [.tt 0,sb [],.cc (.s (.int .i64 0))]
def R92_4:LO:=[⟨some 20,.bin .lss (.t 19) (.t 18),none⟩]
def T92_4:=hT R92_4 [] [20] 21 [] [(20,.op (.bin .lss (.t 0) (.t 1)) [.t 19,.t 18])] [sb []]
def R92_5:LO:=[oM 21 19,oM 3 21]
def T92_5:=hT R92_5 [20,21] [3] 22 [] [(3,.t 19)] [.tt 19,.tt 19]
def R92_6:LO:=[oM 22 0,oM 23 3,⟨some 24,.indexStr (.t 22) (.t 23),none⟩,oM 4 24]
def T92_6:=hT R92_6 [22,23,24] [4] 25 [] [(4,.op (.indexStr (.t 0) (.t 1)) [.t 0,.t 3])] [.tt 0,.tt 3,sb [],sb []]
def R92_7:LO:=[oM 25 4,⟨some 26,.bin .geq (.t 25) (.c (.s (.int .u8 97))),none⟩,oM 27 26,gM 28 4 27 true,⟨some 29,.bin .leq (.t 28) (.c (.s (.int .u8 122))),some (27,true)⟩,⟨some 30,.pick (.t 27) (.t 29) (.c (.s (.bool false))),none⟩,oM 31 30,gM 32 4 31 false,⟨some 33,.bin .geq (.t 32) (.c (.s (.int .u8 65))),some (31,false)⟩,gM 34 33 31 false,gM 35 4 34 true,⟨some 36,.bin .leq (.t 35) (.c (.s (.int .u8 90))),some (34,true)⟩,⟨some 37,.pick (.t 34) (.t 36) (.c (.s (.bool false))),some (31,false)⟩,⟨some 38,.pick (.t 31) (.c (.s (.bool true))) (.t 37),none⟩,oM 39 38,gM 40 4 39 false,⟨some 41,.bin .eql (.t 40) (.c (.s (.int .u8 95))),some (39,false)⟩,⟨some 42,.pick (.t 39) (.c (.s (.bool true))) (.t 41),none⟩,oM 5 42]
def T92_7:=hT R92_7 [25,26,27,28,29,30,31,32,33,34,35,36,37,38,39,40,41,42] [5] 43 [] [(5,.pick (.pick (.pick (.op (.bin .geq (.t 0) (.c (.s (.int .u8 97)))) [.t 4,.c (.s (.int .u8 97))]) (.op (.bin .leq (.t 0) (.c (.s (.int .u8 122)))) [.t 4,.c (.s (.int .u8 122))]) (.c (.s (.bool false)))) (.c (.s (.bool true))) (.pick (.op (.bin .geq (.t 0) (.c (.s (.int .u8 65)))) [.t 4,.c (.s (.int .u8 65))]) (.op (.bin .leq (.t 0) (.c (.s (.int .u8 90)))) [.t 4,.c (.s (.int .u8 90))]) (.c (.s (.bool false))))) (.c (.s (.bool true))) (.op (.bin .eql (.t 0) (.c (.s (.int .u8 95)))) [.t 4,.c (.s (.int .u8 95))]))] [.tt 4,sb [0,0,0],sb [0,0,0],.sub 0 [0,0,1,0] [27],.sub 0 [0,0,1] [27],sb [0,0],sb [0,0],.sub 0 [0,2,0,0] [31],.sub 0 [0,2,0] [31],.sub 0 [0,2,0] [31],.sub 0 [0,2,1,0] [31,34],.sub 0 [0,2,1] [31,34],.sub 0 [0,2] [31],sb [0],sb [0],.sub 0 [2,0] [39],.sub 0 [2] [39],sb [],sb []]
def R92_8:LO:=[oM 43 5,⟨some 44,.un .not (.t 43),none⟩,oM 45 44,gM 46 3 45 true,⟨some 47,.bin .eql (.t 46) (.c (.s (.int .i64 0))),some (45,true)⟩,gM 48 47 45 true,gM 49 4 48 false,⟨some 50,.bin .lss (.t 49) (.c (.s (.int .u8 48))),some (48,false)⟩,gM 51 50 48 false,gM 52 4 51 false,⟨some 53,.bin .gtr (.t 52) (.c (.s (.int .u8 57))),some (51,false)⟩,⟨some 54,.pick (.t 51) (.c (.s (.bool true))) (.t 53),some (48,false)⟩,gM 55 54 48 false,gM 56 4 55 true,⟨some 57,.bin .neq (.t 56) (.c (.s (.int .u8 46))),some (55,true)⟩,⟨some 58,.pick (.t 55) (.t 57) (.c (.s (.bool false))),some (48,false)⟩,⟨some 59,.pick (.t 48) (.c (.s (.bool true))) (.t 58),some (45,true)⟩,⟨some 60,.pick (.t 45) (.t 59) (.c (.s (.bool false))),none⟩]
def T92_8:=hT R92_8 [3,4,5,43,44,45,46,47,48,49,50,51,52,53,54,55,56,57,58,59] [60] 61 [] [(60,.pick (.op (.un .not (.t 0)) [.t 5]) (.pick (.op (.bin .eql (.t 0) (.c (.s (.int .i64 0)))) [.t 3,.c (.s (.int .i64 0))]) (.c (.s (.bool true))) (.pick (.pick (.op (.bin .lss (.t 0) (.c (.s (.int .u8 48)))) [.t 4,.c (.s (.int .u8 48))]) (.c (.s (.bool true))) (.op (.bin .gtr (.t 0) (.c (.s (.int .u8 57)))) [.t 4,.c (.s (.int .u8 57))])) (.op (.bin .neq (.t 0) (.c (.s (.int .u8 46)))) [.t 4,.c (.s (.int .u8 46))]) (.c (.s (.bool false))))) (.c (.s (.bool false))))] [.tt 5,sb [0],sb [0],.sub 0 [1,0,0] [45],.sub 0 [1,0] [45],.sub 0 [1,0] [45],.sub 0 [1,2,0,0,0] [45,48],.sub 0 [1,2,0,0] [45,48],.sub 0 [1,2,0,0] [45,48],.sub 0 [1,2,0,2,0] [45,48,51],.sub 0 [1,2,0,2] [45,48,51],.sub 0 [1,2,0] [45,48],.sub 0 [1,2,0] [45,48],.sub 0 [1,2,1,0] [45,48,55],.sub 0 [1,2,1] [45,48,55],.sub 0 [1,2] [45,48],.sub 0 [1] [45],sb []]
def R92_9:LO:=[⟨some 2,.move (.c (.s (.bool false))),none⟩]
def T92_9:=hT R92_9 [0,18,19,60] [2] 3 [] [(2,.c (.s (.bool false)))] [.cc (.s (.bool false))]
def R92_10:LO:=[⟨some 61,.bin .add (.t 19) (.c (.s (.int .i64 1))),none⟩,oM 19 61]
def T92_10:=hT R92_10 [60,61] [19] 62 [] [(19,.op (.bin .add (.t 0) (.c (.s (.int .i64 1)))) [.t 19,.c (.s (.int .i64 1))])] [sb [],sb []]
def s_f92_l0_b:ACode:=
 (.seq (.regionE R92_4 [] [20])
 (.seq (.cond (.t 20)
 .skip
 (.exit 0))
 (.seq (.block 1
 (.seq (.regionE R92_5 [20,21] [3])
 (.seq (.regionE R92_6 [22,23,24] [4])
 (.seq (.regionE R92_7 [25,26,27,28,29,30,31,32,33,34,35,36,37,38,39,40,41,42] [5])
 (.seq (.regionE R92_8 [3,4,5,43,44,45,46,47,48,49,50,51,52,53,54,55,56,57,58,59] [60])
 (.cond (.t 60)
 (.seq (.regionE R92_9 [0,18,19,60] [2])
 .ret)
 .skip))))))
 (.regionE R92_10 [60,61] [19]))))
def s_f92_l0:ACode:=s_f92_l0_b
def s_f92_l0_ev:=hE s_f92_l0 s_f92_l0_b
def R92_11:LO:=[⟨some 2,.move (.c (.s (.bool true))),none⟩]
def T92_11:=hT R92_11 [0,18,19,20] [2] 3 [] [(2,.c (.s (.bool true)))] [.cc (.s (.bool true))]
def s_f92:ACFun:={ ntmps:=62,results:=[.tmp 2],body:=
 (.seq (.regionE R92_0 K92_0 [])
 (.seq (.seq (.regionE R92_1 [6,7,8,9,10,11,12,13,14,15] [16])
 (.cond (.t 16)
 (.seq (.regionE R92_2 [0,16] [2])
 .ret)
 .skip))
 (.seq (.seq (.regionE R92_3 [16,17] [18,19])
 (.block 0
 (.loop [] s_f92_l0)))
 (.seq (.regionE R92_11 [0,18,19,20] [2])
 .ret)))) }
abbrev k_f93:Nat:=93
def K93_0:List Nat:=List.range' 2 7
theorem s_f93_r0_kT:killV K93_0 (startV 9 [] 2)=[]:=by kernel_rfl
def s_f93_r0_kA0:=hK K93_0 0
def s_f93_r0_kA1:=hK K93_0 1
def R93_0:LO:=[⟨some 4,.move (.c (.s (.bool false))),none⟩]
def T93_0:=hT R93_0 K93_0 [] 5 [] [] [.cc (.s (.bool false))]
def R93_1t2:LO:=[⟨some 8,.bin .geq (.t 7) (.c (.s (.int .i64 0))),none⟩,oM 4 8]
def R93_1t1:LO:=⟨some 7,.call (.c (.fn 135 [] [])) [.t 5,.t 6],none⟩ :: R93_1t2
def R93_1p0:LO:=[oM 5 0,oM 6 1]
def R93_1:LO:=R93_1p0 ++ R93_1t1
def T93_1p0:=hT R93_1p0 [0,1] [5,6] 7 [] [(5,.t 0),(6,.t 1)] [.tt 0,.tt 1]
def X93_1:=hS R93_1 R93_1p0 R93_1t1 [0,1] [5,6] [0,1,5,6,7,8]
def X93_1t1:=hP R93_1t1 R93_1t2 [5,6] [0,1,5,6,7,8] ⟨some 7,.call (.c (.fn 135 [] [])) [.t 5,.t 6],none⟩
def T93_1t2:=hT R93_1t2 [0,1,5,6,7,8] [4] 9 [] [(4,.op (.bin .geq (.t 0) (.c (.s (.int .i64 0)))) [.t 7,.c (.s (.int .i64 0))])] [sb [],sb []]
def X93_1t2:=hL R93_1t2 [0,1,5,6,7,8] [4]
def s_f93:ACFun:={ ntmps:=9,results:=[.tmp 4],body:=
 (.seq (.regionE R93_0 K93_0 [])
 (.seq (.region R93_1 [] [0,1,5,6,7,8])
 .ret)) }
abbrev k_f94:Nat:=94
def K94_0:List Nat:=[1,2,3,4,5]
theorem s_f94_r0_kT:killV K94_0 (startV 6 [] 1)=[]:=by kernel_rfl
def s_f94_r0_kA0:=hK K94_0 0
def R94_0:LO:=[⟨some 2,.move (.c (.s (.bool false))),none⟩]
def T94_0:=hT R94_0 K94_0 [] 3 [] [] [.cc (.s (.bool false))]
def R94_1t2:LO:=[⟨some 5,.un .not (.t 4),none⟩,oM 2 5]
def R94_1t1:LO:=⟨some 4,.call (.c (.fn 92 [] [])) [.t 3],none⟩ :: R94_1t2
def R94_1p0:LO:=[oM 3 0]
def R94_1:LO:=R94_1p0 ++ R94_1t1
def T94_1p0:=hT R94_1p0 [0] [3] 4 [] [(3,.t 0)] [.tt 0]
def X94_1:=hS R94_1 R94_1p0 R94_1t1 [0] [3] [0,3,4,5]
def X94_1t1:=hP R94_1t1 R94_1t2 [3] [0,3,4,5] ⟨some 4,.call (.c (.fn 92 [] [])) [.t 3],none⟩
def T94_1t2:=hT R94_1t2 [0,3,4,5] [2] 6 [] [(2,.op (.un .not (.t 0)) [.t 4])] [sb [],sb []]
def X94_1t2:=hL R94_1t2 [0,3,4,5] [2]
def s_f94:ACFun:={ ntmps:=6,results:=[.tmp 2],body:=
 (.seq (.regionE R94_0 K94_0 [])
 (.seq (.region R94_1 [] [0,3,4,5])
 .ret)) }
abbrev k_f95:Nat:=95
def K95_0:List Nat:=[0,3,4,5,6,7]
def A95_0_0:=hQ K95_0 0
def A95_0_1:=hK K95_0 1
def A95_0_2:=hK K95_0 2
def A95_0_4:=hQ K95_0 4
def R95_0t1:LO:=[⟨some 4,.move (.c (.s (.bool false))),none⟩]
def R95_0:LO:=⟨some 2,.box (.t 0),none⟩ :: R95_0t1
def X95_0:=hP R95_0 R95_0t1 [0,3,4,5,6,7] K95_0 ⟨some 2,.box (.t 0),none⟩
def T95_0t1:=hT R95_0t1 K95_0 [] 5 [] [] [.cc (.s (.bool false))]
def X95_0t1:=hL R95_0t1 K95_0 []
def R95_1t2:LO:=[oM 4 7]
def R95_1t1:LO:=⟨some 7,.call (.c (.fn 93 [] [])) [.t 5,.t 6],none⟩ :: R95_1t2
def R95_1p0:LO:=[oM 5 1,⟨some 6,.mkFn 136 [] [.t 2],none⟩]
def R95_1:LO:=R95_1p0 ++ R95_1t1
def T95_1p0:=hT R95_1p0 [1,2] [5,6] 7 [] [(5,.t 1),(6,.op (.mkFn 136 [] [.t 0]) [.t 2])] [.tt 1,.sub 1 [] []]
def X95_1:=hS R95_1 R95_1p0 R95_1t1 [1,2] [5,6] [1,2,5,6,7]
def X95_1t1:=hP R95_1t1 R95_1t2 [5,6] [1,2,5,6,7] ⟨some 7,.call (.c (.fn 93 [] [])) [.t 5,.t 6],none⟩
def T95_1t2:=hT R95_1t2 [1,2,5,6,7] [4] 5 [] [(4,.t 7)] [.tt 7]
def X95_1t2:=hL R95_1t2 [1,2,5,6,7] [4]
def s_f95:ACFun:={ ntmps:=8,results:=[.tmp 4],body:=
 (.seq (.region R95_0 [] K95_0)
 (.seq (.region R95_1 [] [1,2,5,6,7])
 .ret)) }
theorem s_f95_first:firstOk (List.range' 2 (s_f95.ntmps - 2)) s_f95.body=true:=by kernel_rfl
abbrev k_f96:Nat:=96
def K96_0:List Nat:=List.range' 2 7
theorem s_f96_r0_kT:killV K96_0 (startV 9 [] 2)=[]:=by kernel_rfl
def s_f96_r0_kA0:=hK K96_0 0
def s_f96_r0_kA1:=hK K96_0 1
def R96_0:LO:=[⟨some 4,.move (.c (.s (.bool false))),none⟩]
def T96_0:=hT R96_0 K96_0 [] 5 [] [] [.cc (.s (.bool false))]
def R96_1t2:LO:=[⟨some 8,.bin .geq (.t 7) (.c (.s (.int .i64 0))),none⟩,oM 4 8]
def R96_1t1:LO:=⟨some 7,.call (.c (.fn 137 [] [])) [.t 5,.t 6],none⟩ :: R96_1t2
def R96_1p0:LO:=[oM 5 0,oM 6 1]
def R96_1:LO:=R96_1p0 ++ R96_1t1
def T96_1p0:=hT R96_1p0 [0,1] [5,6] 7 [] [(5,.t 0),(6,.t 1)] [.tt 0,.tt 1]
def X96_1:=hS R96_1 R96_1p0 R96_1t1 [0,1] [5,6] [0,1,5,6,7,8]
def X96_1t1:=hP R96_1t1 R96_1t2 [5,6] [0,1,5,6,7,8] ⟨some 7,.call (.c (.fn 137 [] [])) [.t 5,.t 6],none⟩
def T96_1t2:=hT R96_1t2 [0,1,5,6,7,8] [4] 9 [] [(4,.op (.bin .geq (.t 0) (.c (.s (.int .i64 0)))) [.t 7,.c (.s (.int .i64 0))])] [sb [],sb []]
def X96_1t2:=hL R96_1t2 [0,1,5,6,7,8] [4]
def s_f96:ACFun:={ ntmps:=9,results:=[.tmp 4],body:=
 (.seq (.regionE R96_0 K96_0 [])
 (.seq (.region R96_1 [] [0,1,5,6,7,8])
 .ret)) }
abbrev k_f100:Nat:=100
def K100_0:List Nat:=List.range' 1 8
theorem s_f100_r0_kT:killV K100_0 (startV 9 [] 1)=[]:=by kernel_rfl
def s_f100_r0_kA0:=hK K100_0 0
def R100_0:LO:=[⟨some 2,.move (.c (.s (.bool false))),none⟩]
def T100_0:=hT R100_0 K100_0 [] 3 [] [] [.cc (.s (.bool false))]
def R100_1:LO:=[oM 3 0,⟨some 4,.bin .eql (.t 3) (.c (.s (.int .u8 10))),none⟩,oM 5 4,gM 6 0 5 false,⟨some 7,.bin .eql (.t 6) (.c (.s (.int .u8 11))),some (5,false)⟩,⟨some 8,.pick (.t 5) (.c (.s (.bool true))) (.t 7),none⟩,oM 2 8]
def T100_1:=hT R100_1 [0,3,4,5,6,7,8] [2] 9 [] [(2,.pick (.op (.bin .eql (.t 0) (.c (.s (.int .u8 10)))) [.t 0,.c (.s (.int .u8 10))]) (.c (.s (.bool true))) (.op (.bin .eql (.t 0) (.c (.s (.int .u8 11)))) [.t 0,.c (.s (.int .u8 11))]))] [.tt 0,sb [0],sb [0],.sub 0 [2,0] [5],.sub 0 [2] [5],sb [],sb []]
def s_f100:ACFun:={ ntmps:=9,results:=[.tmp 2],body:=
 (.seq (.regionE R100_0 K100_0 [])
 (.seq (.regionE R100_1 [0,3,4,5,6,7,8] [2])
 .ret)) }
abbrev k_f102:Nat:=102
def K102_0:List Nat:=[1,2] ++ List.range' 6 12
def A102_0_0:=hK K102_0 0
def A102_0_1:=hQ K102_0 1
def A102_0_3:=hK K102_0 3
def A102_0_4:=hK K102_0 4
def A102_0_5:=hK K102_0 5
def R102_0t2:LO:=[⟨some 5,.alloc [.s (.bool false)],none⟩]
def R102_0t1:LO:=⟨some 4,.alloc [.s (.int .i64 0),.s (.int .i64 0),.s (.int .i64 0)],none⟩ :: R102_0t2
def R102_0:LO:=⟨some 3,.box (.t 1),none⟩ :: R102_0t1
def X102_0:=hP R102_0 R102_0t1 [1,2,4,5,6,7,8,9,10,11,12,13,14,15,16,17] K102_0 ⟨some 3,.box (.t 1),none⟩
def X102_0t1:=hP R102_0t1 R102_0t2 [] K102_0 ⟨some 4,.alloc [.s (.int .i64 0),.s (.int .i64 0),.s (.int .i64 0)],none⟩
def X102_0t2:=hX R102_0t2 K102_0 [⟨some 5,.alloc [.s (.bool false)],none⟩]
def R102_1t1:LO:=[⟨some 9,.call (.c (.fn 140 [] [])) [.t 8],none⟩]
def R102_1p0:LO:=[oM 8 0]
def R102_1:LO:=R102_1p0 ++ R102_1t1
def T102_1p0:=hT R102_1p0 [0] [8] 9 [] [(8,.t 0)] [.tt 0]
def X102_1:=hS R102_1 R102_1p0 R102_1t1 [0] [8] [0,8]
def X102_1t1:=hX R102_1t1 [0,8] [⟨some 9,.call (.c (.fn 140 [] [])) [.t 8],none⟩]
def R102_2t1:LO:=[⟨none,.store 3 (.t 6) (.t 10),none⟩]
def R102_2:LO:=⟨some 6,.alloc [.s (.int .i64 0),.s (.int .i64 0),.s (.int .i64 0)],none⟩ :: R102_2t1
def X102_2:=hP R102_2 R102_2t1 [9] [9,10] ⟨some 6,.alloc [.s (.int .i64 0),.s (.int .i64 0),.s (.int .i64 0)],none⟩
def X102_2t1:=hX R102_2t1 [9,10] [⟨none,.store 3 (.t 6) (.t 10),none⟩]
def R102_3t1:LO:=[⟨none,.store 8 (.t 7) (.t 11),none⟩]
def R102_3:LO:=⟨some 7,.alloc [.s (.int .u8 0),.s (.string ⟨#[]⟩),.s (.string ⟨#[]⟩),.s (.string ⟨#[]⟩),.s (.int .i64 0),.s (.string ⟨#[]⟩),.s (.slice none 0 0),.s (.slice none 0 0)],none⟩ :: R102_3t1
def X102_3:=hP R102_3 R102_3t1 [] [11] ⟨some 7,.alloc [.s (.int .u8 0),.s (.string ⟨#[]⟩),.s (.string ⟨#[]⟩),.s (.string ⟨#[]⟩),.s (.int .i64 0),.s (.string ⟨#[]⟩),.s (.slice none 0 0),.s (.slice none 0 0)],none⟩
def X102_3t1:=hX R102_3t1 [11] [⟨none,.store 8 (.t 7) (.t 11),none⟩]
def R102_4t1:LO:=[⟨some 15,.call (.t 12) [.t 13,.t 14],none⟩]
def R102_4p0:LO:=[oL 12 3,⟨some 13,.load true 3 (.t 6),none⟩,⟨some 14,.load true 8 (.t 7),none⟩]
def R102_4:LO:=R102_4p0 ++ R102_4t1
def T102_4p0:=hT R102_4p0 [3,7] [12,13,14] 15 [] [(12,.op (.load false 1 (.t 0)) [.t 3]),(13,.op (.load true 3 (.t 0)) [.t 6]),(14,.op (.load true 8 (.t 0)) [.t 7])] [sb [],.sub 1 [] [],.sub 2 [] []]
def X102_4:=hS R102_4 R102_4p0 R102_4t1 [3,7] [12,13,14] [3,7,12,13,14]
def X102_4t1:=hX R102_4t1 [3,7,12,13,14] [⟨some 15,.call (.t 12) [.t 13,.t 14],none⟩]
def R102_5t2:LO:=[⟨none,.store 1 (.t 5) (.c (.s (.bool true))),none⟩]
def R102_5t1:LO:=⟨none,.store 3 (.t 4) (.t 16),none⟩ :: R102_5t2
def R102_5p0:LO:=[⟨some 16,.load true 3 (.t 6),none⟩]
def R102_5:LO:=R102_5p0 ++ R102_5t1
def T102_5p0:=hT R102_5p0 [6,15] [16] 17 [] [(16,.op (.load true 3 (.t 0)) [.t 6])] [sb []]
def X102_5:=hS R102_5 R102_5p0 R102_5t1 [6,15] [16] [4,5,6,15,16]
def X102_5t1:=hP R102_5t1 R102_5t2 [4,16] [4,5,6,15,16] ⟨none,.store 3 (.t 4) (.t 16),none⟩
def X102_5t2:=hX R102_5t2 [4,5,6,15,16] [⟨none,.store 1 (.t 5) (.c (.s (.bool true))),none⟩]
def s_names_walk_find_a0:ACode:=
 (.seq (.region R102_2 [] [9,10])
 (.region R102_3 [] [11]))
def s_f102_b0:ACode:=
 (.block 1
 (.seq (.region R102_4 [] [3,7,12,13,14])
 (.cond (.t 15)
 (.seq (.region R102_5 [] [4,5,6,15,16])
 .ret)
 .skip)))
def R102_6t2:LO:=[⟨none,.store 1 (.t 5) (.c (.s (.bool false))),none⟩]
def R102_6t1:LO:=⟨none,.store 3 (.t 4) (.t 17),none⟩ :: R102_6t2
def R102_6p0:LO:=[⟨some 17,.build [.s (.int .i64 0),.s (.int .i64 0),.s (.int .i64 0)] [(0,1),(1,1),(2,1)] [],none⟩]
def R102_6:LO:=R102_6p0 ++ R102_6t1
def T102_6p0:=hT R102_6p0 [3,9] [17] 18 [] [(17,.op (.build [.s (.int .i64 0),.s (.int .i64 0),.s (.int .i64 0)] [(0,1),(1,1),(2,1)] []) [])] [sb []]
def X102_6:=hS R102_6 R102_6p0 R102_6t1 [3,9] [17] [3,9,17]
def X102_6t1:=hP R102_6t1 R102_6t2 [17] [3,9,17] ⟨none,.store 3 (.t 4) (.t 17),none⟩
def X102_6t2:=hX R102_6t2 [3,9,17] [⟨none,.store 1 (.t 5) (.c (.s (.bool false))),none⟩]
def s_f102:ACFun:={ ntmps:=18,results:=[.cell 4 true 3,.cell 5 false 1],body:=
 (.seq (.region R102_0 [] K102_0)
 (.seq (.seq (.region R102_1 [] [0,8])
 (.block 0
 (.rangeFunc (.t 9) [10,11] s_names_walk_find_a0 s_f102_b0)))
 (.seq (.region R102_6 [] [3,9,17])
 .ret))) }
theorem s_f102_first:firstOk (List.range' 2 (s_f102.ntmps - 2)) s_f102.body=true:=by kernel_rfl
abbrev k_f104:Nat:=104
def K104_0:List Nat:=[0,1,3] ++ List.range' 5 182
def A104_0_0:=hQ K104_0 0
def A104_0_1:=hQ K104_0 1
def A104_0_2:=hK K104_0 2
def A104_0_3:=hQ K104_0 3
def A104_0_4:=hK K104_0 4
def A104_0_5:=hQ K104_0 5
def R104_0t2:LO:=[⟨some 5,.move (.c (.s (.bool false))),none⟩]
def R104_0t1:LO:=⟨some 4,.box (.t 1),none⟩ :: R104_0t2
def R104_0p0:LO:=[⟨some 3,.box (.t 0),none⟩]
def R104_0:LO:=R104_0p0 ++ R104_0t1
def K104_0p0:List Nat:=[0] ++ List.range' 3 184
def A104_0p0_0:=hQ K104_0p0 0
def A104_0p0_1:=hK K104_0p0 1
def A104_0p0_2:=hK K104_0p0 2
def A104_0p0_3:=hQ K104_0p0 3
def A104_0p0_4:=hQ K104_0p0 4
def A104_0p0_5:=hQ K104_0p0 5
theorem X104_0 (call:CallF) (it:IterF) (base:Nat) (f:List V) (H:Heap):evC call it base (.region R104_0 [] K104_0) f H=thenC call it base (.region R104_0t1 [] K104_0) (opsC [] R104_0p0 K104_0p0 (evOps call base [⟨some 3,.box (.t 0),none⟩] f H)):=(row_op call it base R104_0p0 R104_0t1 (kc:=K104_0p0) (by kernel_rfl) f H).trans (by rw [row_ops];rfl)
def X104_0t1:=hP R104_0t1 R104_0t2 [1] K104_0 ⟨some 4,.box (.t 1),none⟩
def T104_0t2:=hT R104_0t2 K104_0 [] 6 [] [] [.cc (.s (.bool false))]
def X104_0t2:=hL R104_0t2 K104_0 []
def R104_1t3:LO:=[oM 7 17]
def R104_1t2:LO:=⟨none,.store 7 (.t 6) (.t 16),none⟩ :: R104_1t3
def R104_1t1:LO:=⟨some 6,.alloc [.s (.bool false),.s (.bool false),.s (.bool false),.s (.bool false),.s (.bool false),.s (.bool false),.s (.bool false)],none⟩ :: R104_1t2
def R104_1p0:LO:=[oL 9 2,⟨some 10,.nilCheck (.t 9),none⟩,oF 11 1 10,oL 12 11,oF 13 0 4,oL 14 13,⟨some 15,.mapGet (.int .u8) (.agg [.s (.bool false),.s (.bool false),.s (.bool false),.s (.bool false),.s (.bool false),.s (.bool false),.s (.bool false)]) (.t 12) (.t 14) true,none⟩,oM 8 15,⟨some 16,.extract (.t 8) 0,none⟩,⟨some 17,.extract (.t 8) 1,none⟩]
def R104_1:LO:=R104_1p0 ++ R104_1t1
def T104_1p0:=hT R104_1p0 [2,8,9,10,11,12,13,14,15] [16,17] 18 [] [(16,.op (.extract (.t 0) 0) [.op (.mapGet (.int .u8) (.agg [.s (.bool false),.s (.bool false),.s (.bool false),.s (.bool false),.s (.bool false),.s (.bool false),.s (.bool false)]) (.t 0) (.t 1) true) [.op (.load false 1 (.t 0)) [.op (.fieldAddr 1 (.t 0)) [.op (.nilCheck (.t 0)) [.op (.load false 1 (.t 0)) [.t 2]]]],.op (.load false 1 (.t 0)) [.op (.fieldAddr 0 (.t 0)) [.t 4]]]]),(17,.op (.extract (.t 0) 1) [.op (.mapGet (.int .u8) (.agg [.s (.bool false),.s (.bool false),.s (.bool false),.s (.bool false),.s (.bool false),.s (.bool false),.s (.bool false)]) (.t 0) (.t 1) true) [.op (.load false 1 (.t 0)) [.op (.fieldAddr 1 (.t 0)) [.op (.nilCheck (.t 0)) [.op (.load false 1 (.t 0)) [.t 2]]]],.op (.load false 1 (.t 0)) [.op (.fieldAddr 0 (.t 0)) [.t 4]]]])] [sb [0,0,0,0,0],sb [0,0,0,0],sb [0,0,0],sb [0,0],sb [0,1,0],sb [0,1],sb [0],sb [0],sb [],.sub 1 [] []]
def X104_1:=hS R104_1 R104_1p0 R104_1t1 [2,8,9,10,11,12,13,14,15] [16,17] [2,8,9,10,11,12,13,14,15,16,17]
def X104_1t1:=hP R104_1t1 R104_1t2 [] [2,8,9,10,11,12,13,14,15,16,17] ⟨some 6,.alloc [.s (.bool false),.s (.bool false),.s (.bool false),.s (.bool false),.s (.bool false),.s (.bool false),.s (.bool false)],none⟩
def X104_1t2:=hP R104_1t2 R104_1t3 [16] [2,8,9,10,11,12,13,14,15,16,17] ⟨none,.store 7 (.t 6) (.t 16),none⟩
def T104_1t3:=hT R104_1t3 [2,8,9,10,11,12,13,14,15,16,17] [7] 8 [] [(7,.t 17)] [.tt 17]
def X104_1t3:=hL R104_1t3 [2,8,9,10,11,12,13,14,15,16,17] [7]
def R104_2:LO:=[oM 18 7,⟨some 19,.un .not (.t 18),none⟩,oM 20 19,gF 21 0 6 20 false,gL 22 21 20 false,⟨some 23,.un .not (.t 22),some (20,false)⟩,gM 24 23 20 false,gF 25 1 4 24 true,gL 26 25 24 true,⟨some 27,.bin .neq (.t 26) (.c (.s (.string ⟨#[]⟩))),some (24,true)⟩,⟨some 28,.pick (.t 24) (.t 27) (.c (.s (.bool false))),some (20,false)⟩,⟨some 29,.pick (.t 20) (.c (.s (.bool true))) (.t 28),none⟩,oM 30 29,gF 31 1 6 30 false,gL 32 31 30 false,⟨some 33,.un .not (.t 32),some (30,false)⟩,gM 34 33 30 false,gF 35 2 4 34 true,gL 36 35 34 true,⟨some 37,.bin .neq (.t 36) (.c (.s (.string ⟨#[]⟩))),some (34,true)⟩,⟨some 38,.pick (.t 34) (.t 37) (.c (.s (.bool false))),some (30,false)⟩,⟨some 39,.pick (.t 30) (.c (.s (.bool true))) (.t 38),none⟩,oM 40 39,gF 41 2 6 40 false,gL 42 41 40 false,⟨some 43,.un .not (.t 42),some (40,false)⟩,gM 44 43 40 false,gF 45 3 4 44 true,gL 46 45 44 true,⟨some 47,.bin .neq (.t 46) (.c (.s (.string ⟨#[]⟩))),some (44,true)⟩,⟨some 48,.pick (.t 44) (.t 47) (.c (.s (.bool false))),some (40,false)⟩,⟨some 49,.pick (.t 40) (.c (.s (.bool true))) (.t 48),none⟩,oM 50 49,gF 51 3 6 50 false,gL 52 51 50 false,⟨some 53,.un .not (.t 52),some (50,false)⟩,gM 54 53 50 false,gF 55 4 4 54 true,gL 56 55 54 true,⟨some 57,.bin .neq (.t 56) (.c (.s (.int .i64 0))),some (54,true)⟩,⟨some 58,.pick (.t 54) (.t 57) (.c (.s (.bool false))),some (50,false)⟩,⟨some 59,.pick (.t 50) (.c (.s (.bool true))) (.t 58),none⟩,oM 60 59,gF 61 4 6 60 false,gL 62 61 60 false,⟨some 63,.un .not (.t 62),some (60,false)⟩,gM 64 63 60 false,gF 65 5 4 64 true,gL 66 65 64 true,⟨some 67,.bin .neq (.t 66) (.c (.s (.string ⟨#[]⟩))),some (64,true)⟩,⟨some 68,.pick (.t 64) (.t 67) (.c (.s (.bool false))),some (60,false)⟩,⟨some 69,.pick (.t 60) (.c (.s (.bool true))) (.t 68),none⟩,oM 70 69,gF 71 5 6 70 false,gL 72 71 70 false,⟨some 73,.un .not (.t 72),some (70,false)⟩,gM 74 73 70 false,gF 75 6 4 74 true,gL 76 75 74 true,⟨some 77,.lenS .s (.t 76),some (74,true)⟩,⟨some 78,.bin .gtr (.t 77) (.c (.s (.int .i64 0))),some (74,true)⟩,⟨some 79,.pick (.t 74) (.t 78) (.c (.s (.bool false))),some (70,false)⟩,⟨some 80,.pick (.t 70) (.c (.s (.bool true))) (.t 79),none⟩,oM 81 80,gF 82 6 6 81 false,gL 83 82 81 false,⟨some 84,.un .not (.t 83),some (81,false)⟩,gM 85 84 81 false,gF 86 7 4 85 true,gL 87 86 85 true,⟨some 88,.lenS .s (.t 87),some (85,true)⟩,⟨some 89,.bin .gtr (.t 88) (.c (.s (.int .i64 0))),some (85,true)⟩,⟨some 90,.pick (.t 85) (.t 89) (.c (.s (.bool false))),some (81,false)⟩,⟨some 91,.pick (.t 81) (.c (.s (.bool true))) (.t 90),none⟩]
def T104_2:=hT R104_2 [7,18,19,20,21,22,23,24,25,26,27,28,29,30,31,32,33,34,35,36,37,38,39,40,41,42,43,44,45,46,47,48,49,50,51,52,53,54,55,56,57,58,59,60,61,62,63,64,65,66,67,68,69,70,71,72,73,74,75,76,77,78,79,80,81,82,83,84,85,86,87,88,89,90] [91] 92 [] [(91,.pick (.pick (.pick (.pick (.pick (.pick (.pick (.op (.un .not (.t 0)) [.t 7]) (.c (.s (.bool true))) (.pick (.op (.un .not (.t 0)) [.op (.load false 1 (.t 0)) [.op (.fieldAddr 0 (.t 0)) [.t 6]]]) (.op (.bin .neq (.t 0) (.c (.s (.string ⟨#[]⟩)))) [.op (.load false 1 (.t 0)) [.op (.fieldAddr 1 (.t 0)) [.t 4]],.c (.s (.string ⟨#[]⟩))]) (.c (.s (.bool false))))) (.c (.s (.bool true))) (.pick (.op (.un .not (.t 0)) [.op (.load false 1 (.t 0)) [.op (.fieldAddr 1 (.t 0)) [.t 6]]]) (.op (.bin .neq (.t 0) (.c (.s (.string ⟨#[]⟩)))) [.op (.load false 1 (.t 0)) [.op (.fieldAddr 2 (.t 0)) [.t 4]],.c (.s (.string ⟨#[]⟩))]) (.c (.s (.bool false))))) (.c (.s (.bool true))) (.pick (.op (.un .not (.t 0)) [.op (.load false 1 (.t 0)) [.op (.fieldAddr 2 (.t 0)) [.t 6]]]) (.op (.bin .neq (.t 0) (.c (.s (.string ⟨#[]⟩)))) [.op (.load false 1 (.t 0)) [.op (.fieldAddr 3 (.t 0)) [.t 4]],.c (.s (.string ⟨#[]⟩))]) (.c (.s (.bool false))))) (.c (.s (.bool true))) (.pick (.op (.un .not (.t 0)) [.op (.load false 1 (.t 0)) [.op (.fieldAddr 3 (.t 0)) [.t 6]]]) (.op (.bin .neq (.t 0) (.c (.s (.int .i64 0)))) [.op (.load false 1 (.t 0)) [.op (.fieldAddr 4 (.t 0)) [.t 4]],.c (.s (.int .i64 0))]) (.c (.s (.bool false))))) (.c (.s (.bool true))) (.pick (.op (.un .not (.t 0)) [.op (.load false 1 (.t 0)) [.op (.fieldAddr 4 (.t 0)) [.t 6]]]) (.op (.bin .neq (.t 0) (.c (.s (.string ⟨#[]⟩)))) [.op (.load false 1 (.t 0)) [.op (.fieldAddr 5 (.t 0)) [.t 4]],.c (.s (.string ⟨#[]⟩))]) (.c (.s (.bool false))))) (.c (.s (.bool true))) (.pick (.op (.un .not (.t 0)) [.op (.load false 1 (.t 0)) [.op (.fieldAddr 5 (.t 0)) [.t 6]]]) (.op (.bin .gtr (.t 0) (.c (.s (.int .i64 0)))) [.op (.lenS .s (.t 0)) [.op (.load false 1 (.t 0)) [.op (.fieldAddr 6 (.t 0)) [.t 4]]],.c (.s (.int .i64 0))]) (.c (.s (.bool false))))) (.c (.s (.bool true))) (.pick (.op (.un .not (.t 0)) [.op (.load false 1 (.t 0)) [.op (.fieldAddr 6 (.t 0)) [.t 6]]]) (.op (.bin .gtr (.t 0) (.c (.s (.int .i64 0)))) [.op (.lenS .s (.t 0)) [.op (.load false 1 (.t 0)) [.op (.fieldAddr 7 (.t 0)) [.t 4]]],.c (.s (.int .i64 0))]) (.c (.s (.bool false)))))] [.tt 7,sb [0,0,0,0,0,0,0],sb [0,0,0,0,0,0,0],.sub 0 [0,0,0,0,0,0,2,0,0,0] [20],.sub 0 [0,0,0,0,0,0,2,0,0] [20],.sub 0 [0,0,0,0,0,0,2,0] [20],.sub 0 [0,0,0,0,0,0,2,0] [20],.sub 0 [0,0,0,0,0,0,2,1,0,0] [20,24],.sub 0 [0,0,0,0,0,0,2,1,0] [20,24],.sub 0 [0,0,0,0,0,0,2,1] [20,24],.sub 0 [0,0,0,0,0,0,2] [20],sb [0,0,0,0,0,0],sb [0,0,0,0,0,0],.sub 0 [0,0,0,0,0,2,0,0,0] [30],.sub 0 [0,0,0,0,0,2,0,0] [30],.sub 0 [0,0,0,0,0,2,0] [30],.sub 0 [0,0,0,0,0,2,0] [30],.sub 0 [0,0,0,0,0,2,1,0,0] [30,34],.sub 0 [0,0,0,0,0,2,1,0] [30,34],.sub 0 [0,0,0,0,0,2,1] [30,34],.sub 0 [0,0,0,0,0,2] [30],sb [0,0,0,0,0],sb [0,0,0,0,0],.sub 0 [0,0,0,0,2,0,0,0] [40],.sub 0 [0,0,0,0,2,0,0] [40],.sub 0 [0,0,0,0,2,0] [40],.sub 0 [0,0,0,0,2,0] [40],.sub 0 [0,0,0,0,2,1,0,0] [40,44],.sub 0 [0,0,0,0,2,1,0] [40,44],.sub 0 [0,0,0,0,2,1] [40,44],.sub 0 [0,0,0,0,2] [40],sb [0,0,0,0],sb [0,0,0,0],.sub 0 [0,0,0,2,0,0,0] [50],.sub 0 [0,0,0,2,0,0] [50],.sub 0 [0,0,0,2,0] [50],.sub 0 [0,0,0,2,0] [50],.sub 0 [0,0,0,2,1,0,0] [50,54],.sub 0 [0,0,0,2,1,0] [50,54],.sub 0 [0,0,0,2,1] [50,54],.sub 0 [0,0,0,2] [50],sb [0,0,0],sb [0,0,0],.sub 0 [0,0,2,0,0,0] [60],.sub 0 [0,0,2,0,0] [60],.sub 0 [0,0,2,0] [60],.sub 0 [0,0,2,0] [60],.sub 0 [0,0,2,1,0,0] [60,64],.sub 0 [0,0,2,1,0] [60,64],.sub 0 [0,0,2,1] [60,64],.sub 0 [0,0,2] [60],sb [0,0],sb [0,0],.sub 0 [0,2,0,0,0] [70],.sub 0 [0,2,0,0] [70],.sub 0 [0,2,0] [70],.sub 0 [0,2,0] [70],.sub 0 [0,2,1,0,0,0] [70,74],.sub 0 [0,2,1,0,0] [70,74],.sub 0 [0,2,1,0] [70,74],.sub 0 [0,2,1] [70,74],.sub 0 [0,2] [70],sb [0],sb [0],.sub 0 [2,0,0,0] [81],.sub 0 [2,0,0] [81],.sub 0 [2,0] [81],.sub 0 [2,0] [81],.sub 0 [2,1,0,0,0] [81,85],.sub 0 [2,1,0,0] [81,85],.sub 0 [2,1,0] [81,85],.sub 0 [2,1] [81,85],.sub 0 [2] [81],sb []]
def R104_3:LO:=[⟨some 5,.move (.c (.s (.bool true))),none⟩]
def T104_3:=hT R104_3 [4,6,91] [5] 6 [] [(5,.c (.s (.bool true)))] [.cc (.s (.bool true))]
def R104_4t4:LO:=[⟨some 103,.un .not (.t 102),some (99,true)⟩,⟨some 104,.pick (.t 99) (.t 103) (.c (.s (.bool false))),none⟩,oM 105 104,gF 106 1 6 105 false,gL 107 106 105 false,gM 108 107 105 false,gF 109 2 4 108 true,gL 110 109 108 true,⟨some 111,.bin .eql (.t 110) (.c (.s (.string ⟨#[]⟩))),some (108,true)⟩,⟨some 112,.pick (.t 108) (.t 111) (.c (.s (.bool false))),some (105,false)⟩,gM 113 112 105 false,gF 114 0 4 113 true,gL 115 114 113 true,⟨some 116,.bin .neq (.t 115) (.c (.s (.int .u8 14))),some (113,true)⟩,⟨some 117,.pick (.t 113) (.t 116) (.c (.s (.bool false))),some (105,false)⟩,⟨some 118,.pick (.t 105) (.c (.s (.bool true))) (.t 117),none⟩,oM 119 118,gF 120 2 6 119 false,gL 121 120 119 false,gM 122 121 119 false,gF 123 3 4 122 true,gL 124 123 122 true,⟨some 125,.bin .eql (.t 124) (.c (.s (.string ⟨#[]⟩))),some (122,true)⟩,⟨some 126,.pick (.t 122) (.t 125) (.c (.s (.bool false))),some (119,false)⟩,⟨some 127,.pick (.t 119) (.c (.s (.bool true))) (.t 126),none⟩,oM 128 127,gF 129 4 6 128 false,gL 130 129 128 false,gM 131 130 128 false,gF 132 5 4 131 true,gL 133 132 131 true,⟨some 134,.bin .eql (.t 133) (.c (.s (.string ⟨#[]⟩))),some (131,true)⟩,⟨some 135,.pick (.t 131) (.t 134) (.c (.s (.bool false))),some (128,false)⟩,⟨some 136,.pick (.t 128) (.c (.s (.bool true))) (.t 135),none⟩]
def R104_4t3:LO:=⟨some 102,.call (.c (.fn 100 [] [])) [.t 101],some (99,true)⟩ :: R104_4t4
def R104_4t2:LO:=gL 101 100 99 true :: R104_4t3
def R104_4t1:LO:=gF 100 0 4 99 true :: R104_4t2
def R104_4p0:LO:=[oF 92 0 6,oL 93 92,oM 94 93,gF 95 1 4 94 true,gL 96 95 94 true,⟨some 97,.bin .eql (.t 96) (.c (.s (.string ⟨#[]⟩))),some (94,true)⟩,⟨some 98,.pick (.t 94) (.t 97) (.c (.s (.bool false))),none⟩,oM 99 98]
def R104_4:LO:=R104_4p0 ++ R104_4t1
def T104_4p0:=hT R104_4p0 [91,92,93,94,95,96,97,98] [99] 100 [] [(99,.pick (.op (.load false 1 (.t 0)) [.op (.fieldAddr 0 (.t 0)) [.t 6]]) (.op (.bin .eql (.t 0) (.c (.s (.string ⟨#[]⟩)))) [.op (.load false 1 (.t 0)) [.op (.fieldAddr 1 (.t 0)) [.t 4]],.c (.s (.string ⟨#[]⟩))]) (.c (.s (.bool false))))] [sb [0,0],sb [0],sb [0],.sub 0 [1,0,0] [94],.sub 0 [1,0] [94],.sub 0 [1] [94],sb [],sb []]
def X104_4:=hS R104_4 R104_4p0 R104_4t1 [91,92,93,94,95,96,97,98] [99] [6,91,92,93,94,95,96,97,98,99,100,101,102,103,104,105,106,107,108,109,110,111,112,113,114,115,116,117,118,119,120,121,122,123,124,125,126,127,128,129,130,131,132,133,134,135]
def X104_4t1:=hP R104_4t1 R104_4t2 [] [6,91,92,93,94,95,96,97,98,99,100,101,102,103,104,105,106,107,108,109,110,111,112,113,114,115,116,117,118,119,120,121,122,123,124,125,126,127,128,129,130,131,132,133,134,135] ⟨some 100,.fieldAddr 0 (.t 4),some (99,true)⟩
def X104_4t2:=hP R104_4t2 R104_4t3 [100] [6,91,92,93,94,95,96,97,98,99,100,101,102,103,104,105,106,107,108,109,110,111,112,113,114,115,116,117,118,119,120,121,122,123,124,125,126,127,128,129,130,131,132,133,134,135] ⟨some 101,.load false 1 (.t 100),some (99,true)⟩
def X104_4t3:=hP R104_4t3 R104_4t4 [101] [6,91,92,93,94,95,96,97,98,99,100,101,102,103,104,105,106,107,108,109,110,111,112,113,114,115,116,117,118,119,120,121,122,123,124,125,126,127,128,129,130,131,132,133,134,135] ⟨some 102,.call (.c (.fn 100 [] [])) [.t 101],some (99,true)⟩
def T104_4t4:=hT R104_4t4 [6,91,92,93,94,95,96,97,98,99,100,101,102,103,104,105,106,107,108,109,110,111,112,113,114,115,116,117,118,119,120,121,122,123,124,125,126,127,128,129,130,131,132,133,134,135] [136] 137 [] [(136,.pick (.pick (.pick (.pick (.t 99) (.op (.un .not (.t 0)) [.t 102]) (.c (.s (.bool false)))) (.c (.s (.bool true))) (.pick (.pick (.op (.load false 1 (.t 0)) [.op (.fieldAddr 1 (.t 0)) [.t 6]]) (.op (.bin .eql (.t 0) (.c (.s (.string ⟨#[]⟩)))) [.op (.load false 1 (.t 0)) [.op (.fieldAddr 2 (.t 0)) [.t 4]],.c (.s (.string ⟨#[]⟩))]) (.c (.s (.bool false)))) (.op (.bin .neq (.t 0) (.c (.s (.int .u8 14)))) [.op (.load false 1 (.t 0)) [.op (.fieldAddr 0 (.t 0)) [.t 4]],.c (.s (.int .u8 14))]) (.c (.s (.bool false))))) (.c (.s (.bool true))) (.pick (.op (.load false 1 (.t 0)) [.op (.fieldAddr 2 (.t 0)) [.t 6]]) (.op (.bin .eql (.t 0) (.c (.s (.string ⟨#[]⟩)))) [.op (.load false 1 (.t 0)) [.op (.fieldAddr 3 (.t 0)) [.t 4]],.c (.s (.string ⟨#[]⟩))]) (.c (.s (.bool false))))) (.c (.s (.bool true))) (.pick (.op (.load false 1 (.t 0)) [.op (.fieldAddr 4 (.t 0)) [.t 6]]) (.op (.bin .eql (.t 0) (.c (.s (.string ⟨#[]⟩)))) [.op (.load false 1 (.t 0)) [.op (.fieldAddr 5 (.t 0)) [.t 4]],.c (.s (.string ⟨#[]⟩))]) (.c (.s (.bool false)))))] [.sub 0 [0,0,0,1] [99],sb [0,0,0],sb [0,0,0],.sub 0 [0,0,2,0,0,0] [105],.sub 0 [0,0,2,0,0] [105],.sub 0 [0,0,2,0,0] [105],.sub 0 [0,0,2,0,1,0,0] [105,108],.sub 0 [0,0,2,0,1,0] [105,108],.sub 0 [0,0,2,0,1] [105,108],.sub 0 [0,0,2,0] [105],.sub 0 [0,0,2,0] [105],.sub 0 [0,0,2,1,0,0] [105,113],.sub 0 [0,0,2,1,0] [105,113],.sub 0 [0,0,2,1] [105,113],.sub 0 [0,0,2] [105],sb [0,0],sb [0,0],.sub 0 [0,2,0,0] [119],.sub 0 [0,2,0] [119],.sub 0 [0,2,0] [119],.sub 0 [0,2,1,0,0] [119,122],.sub 0 [0,2,1,0] [119,122],.sub 0 [0,2,1] [119,122],.sub 0 [0,2] [119],sb [0],sb [0],.sub 0 [2,0,0] [128],.sub 0 [2,0] [128],.sub 0 [2,0] [128],.sub 0 [2,1,0,0] [128,131],.sub 0 [2,1,0] [128,131],.sub 0 [2,1] [128,131],.sub 0 [2] [128],sb []]
def X104_4t4:=hL R104_4t4 [6,91,92,93,94,95,96,97,98,99,100,101,102,103,104,105,106,107,108,109,110,111,112,113,114,115,116,117,118,119,120,121,122,123,124,125,126,127,128,129,130,131,132,133,134,135] [136]
def R104_5:LO:=[⟨some 5,.move (.c (.s (.bool true))),none⟩]
def T104_5:=hT R104_5 [4,136] [5] 6 [] [(5,.c (.s (.bool true)))] [.cc (.s (.bool true))]
def R104_6:LO:=[oF 137 0 4,oL 138 137]
def T104_6:=hT R104_6 [136,137] [138] 139 [] [(138,.op (.load false 1 (.t 0)) [.op (.fieldAddr 0 (.t 0)) [.t 4]])] [sb [0],sb []]
def R104_7:LO:=[⟨some 140,.bin .eql (.t 138) (.c (.s (.int .u8 1))),none⟩,oM 139 140]
def T104_7:=hT R104_7 [140] [139] 141 [] [(139,.op (.bin .eql (.t 0) (.c (.s (.int .u8 1)))) [.t 138,.c (.s (.int .u8 1))])] [sb [],sb []]
def R104_8:LO:=[⟨some 141,.bin .eql (.t 138) (.c (.s (.int .u8 2))),none⟩,oM 139 141]
def T104_8:=hT R104_8 [141] [139] 142 [] [(139,.op (.bin .eql (.t 0) (.c (.s (.int .u8 2)))) [.t 138,.c (.s (.int .u8 2))])] [sb [],sb []]
def R104_9:LO:=[oF 142 4 4,oL 143 142,⟨some 144,.bin .lss (.t 143) (.c (.s (.int .i64 1))),none⟩,oM 145 144,gF 146 4 4 145 false,gL 147 146 145 false,⟨some 148,.bin .gtr (.t 147) (.c (.s (.int .i64 64))),some (145,false)⟩,⟨some 149,.pick (.t 145) (.c (.s (.bool true))) (.t 148),none⟩,oM 5 149]
def T104_9:=hT R104_9 [4,138,139,142,143,144,145,146,147,148,149] [5] 150 [] [(5,.pick (.op (.bin .lss (.t 0) (.c (.s (.int .i64 1)))) [.op (.load false 1 (.t 0)) [.op (.fieldAddr 4 (.t 0)) [.t 4]],.c (.s (.int .i64 1))]) (.c (.s (.bool true))) (.op (.bin .gtr (.t 0) (.c (.s (.int .i64 64)))) [.op (.load false 1 (.t 0)) [.op (.fieldAddr 4 (.t 0)) [.t 4]],.c (.s (.int .i64 64))]))] [sb [0,0,0],sb [0,0],sb [0],sb [0],.sub 0 [2,0,0] [145],.sub 0 [2,0] [145],.sub 0 [2] [145],sb [],sb []]
def R104_10:LO:=[⟨some 151,.bin .eql (.t 138) (.c (.s (.int .u8 7))),none⟩,oM 150 151]
def T104_10:=hT R104_10 [139,151] [150] 152 [] [(150,.op (.bin .eql (.t 0) (.c (.s (.int .u8 7)))) [.t 138,.c (.s (.int .u8 7))])] [sb [],sb []]
def R104_11:LO:=[oF 152 4 4,oL 153 152,⟨some 154,.bin .lss (.t 153) (.c (.s (.int .i64 0))),none⟩,oM 155 154,gF 156 4 4 155 false,gL 157 156 155 false,⟨some 158,.bin .geq (.t 157) (.c (.s (.int .i64 64))),some (155,false)⟩,⟨some 159,.pick (.t 155) (.c (.s (.bool true))) (.t 158),none⟩,oM 5 159]
def T104_11:=hT R104_11 [4,138,150,152,153,154,155,156,157,158,159] [5] 160 [] [(5,.pick (.op (.bin .lss (.t 0) (.c (.s (.int .i64 0)))) [.op (.load false 1 (.t 0)) [.op (.fieldAddr 4 (.t 0)) [.t 4]],.c (.s (.int .i64 0))]) (.c (.s (.bool true))) (.op (.bin .geq (.t 0) (.c (.s (.int .i64 64)))) [.op (.load false 1 (.t 0)) [.op (.fieldAddr 4 (.t 0)) [.t 4]],.c (.s (.int .i64 64))]))] [sb [0,0,0],sb [0,0],sb [0],sb [0],.sub 0 [2,0,0] [155],.sub 0 [2,0] [155],.sub 0 [2] [155],sb [],sb []]
def R104_12:LO:=[⟨some 161,.bin .eql (.t 138) (.c (.s (.int .u8 6))),none⟩,oM 160 161]
def T104_12:=hT R104_12 [150,161] [160] 162 [] [(160,.op (.bin .eql (.t 0) (.c (.s (.int .u8 6)))) [.t 138,.c (.s (.int .u8 6))])] [sb [],sb []]
def R104_13:LO:=[oF 162 6 4,oL 163 162,⟨some 164,.lenS .s (.t 163),none⟩,⟨some 165,.bin .eql (.t 164) (.c (.s (.int .i64 0))),none⟩,oM 166 165,gF 167 6 4 166 false,gL 168 167 166 false,⟨some 169,.lenS .s (.t 168),some (166,false)⟩,gF 170 7 4 166 false,gL 171 170 166 false,⟨some 172,.lenS .s (.t 171),some (166,false)⟩,⟨some 173,.bin .neq (.t 169) (.t 172),some (166,false)⟩,⟨some 174,.pick (.t 166) (.c (.s (.bool true))) (.t 173),none⟩,oM 5 174]
def T104_13:=hT R104_13 [4,138,160,162,163,164,165,166,167,168,169,170,171,172,173,174] [5] 175 [] [(5,.pick (.op (.bin .eql (.t 0) (.c (.s (.int .i64 0)))) [.op (.lenS .s (.t 0)) [.op (.load false 1 (.t 0)) [.op (.fieldAddr 6 (.t 0)) [.t 4]]],.c (.s (.int .i64 0))]) (.c (.s (.bool true))) (.op (.bin .neq (.t 0) (.t 1)) [.op (.lenS .s (.t 0)) [.op (.load false 1 (.t 0)) [.op (.fieldAddr 6 (.t 0)) [.t 4]]],.op (.lenS .s (.t 0)) [.op (.load false 1 (.t 0)) [.op (.fieldAddr 7 (.t 0)) [.t 4]]]]))] [sb [0,0,0,0],sb [0,0,0],sb [0,0],sb [0],sb [0],.sub 0 [2,0,0,0] [166],.sub 0 [2,0,0] [166],.sub 0 [2,0] [166],.sub 0 [2,1,0,0] [166],.sub 0 [2,1,0] [166],.sub 0 [2,1] [166],.sub 0 [2] [166],sb [],sb []]
def R104_14:LO:=[⟨some 176,.bin .eql (.t 138) (.c (.s (.int .u8 12))),none⟩,oM 175 176]
def T104_14:=hT R104_14 [160,176] [175] 177 [] [(175,.op (.bin .eql (.t 0) (.c (.s (.int .u8 12)))) [.t 138,.c (.s (.int .u8 12))])] [sb [],sb []]
def R104_15:LO:=[oF 177 7 4,oL 178 177,⟨some 179,.lenS .s (.t 178),none⟩,⟨some 180,.bin .neq (.t 179) (.c (.s (.int .i64 2))),none⟩,oM 5 180]
def T104_15:=hT R104_15 [4,138,175,177,178,179,180] [5] 181 [] [(5,.op (.bin .neq (.t 0) (.c (.s (.int .i64 2)))) [.op (.lenS .s (.t 0)) [.op (.load false 1 (.t 0)) [.op (.fieldAddr 7 (.t 0)) [.t 4]]],.c (.s (.int .i64 2))])] [sb [0,0,0],sb [0,0],sb [0],sb [],sb []]
def R104_16:LO:=[⟨some 182,.bin .eql (.t 138) (.c (.s (.int .u8 13))),none⟩,oM 181 182]
def T104_16:=hT R104_16 [138,175,182] [181] 183 [] [(181,.op (.bin .eql (.t 0) (.c (.s (.int .u8 13)))) [.t 138,.c (.s (.int .u8 13))])] [sb [],sb []]
def R104_17:LO:=[oF 183 7 4,oL 184 183,⟨some 185,.lenS .s (.t 184),none⟩,⟨some 186,.bin .neq (.t 185) (.c (.s (.int .i64 1))),none⟩,oM 5 186]
def T104_17:=hT R104_17 [4,181,183,184,185,186] [5] 187 [] [(5,.op (.bin .neq (.t 0) (.c (.s (.int .i64 1)))) [.op (.lenS .s (.t 0)) [.op (.load false 1 (.t 0)) [.op (.fieldAddr 7 (.t 0)) [.t 4]]],.c (.s (.int .i64 1))])] [sb [0,0,0],sb [0,0],sb [0],sb [],sb []]
def R104_18:LO:=[⟨some 5,.move (.c (.s (.bool false))),none⟩]
def T104_18:=hT R104_18 [4,181] [5] 6 [] [(5,.c (.s (.bool false)))] [.cc (.s (.bool false))]
def s_f104:ACFun:={ ntmps:=187,results:=[.tmp 5],body:=
 (.seq (.region R104_0 [] K104_0)
 (.seq (.region R104_1 [] [2,8,9,10,11,12,13,14,15,16,17])
 (.seq (.seq (.regionE R104_2 [7,18,19,20,21,22,23,24,25,26,27,28,29,30,31,32,33,34,35,36,37,38,39,40,41,42,43,44,45,46,47,48,49,50,51,52,53,54,55,56,57,58,59,60,61,62,63,64,65,66,67,68,69,70,71,72,73,74,75,76,77,78,79,80,81,82,83,84,85,86,87,88,89,90] [91])
 (.cond (.t 91)
 (.seq (.regionE R104_3 [4,6,91] [5])
 .ret)
 .skip))
 (.seq (.seq (.region R104_4 [] [6,91,92,93,94,95,96,97,98,99,100,101,102,103,104,105,106,107,108,109,110,111,112,113,114,115,116,117,118,119,120,121,122,123,124,125,126,127,128,129,130,131,132,133,134,135])
 (.cond (.t 136)
 (.seq (.regionE R104_5 [4,136] [5])
 .ret)
 .skip))
 (.seq (.seq (.regionE R104_6 [136,137] [138])
 (.block 0
 (.seq (.seq (.regionE R104_7 [140] [139])
 (.cond (.t 139)
 .skip
 (.regionE R104_8 [141] [139])))
 (.cond (.t 139)
 (.seq (.regionE R104_9 [4,138,139,142,143,144,145,146,147,148,149] [5])
 .ret)
 (.seq (.regionE R104_10 [139,151] [150])
 (.cond (.t 150)
 (.seq (.regionE R104_11 [4,138,150,152,153,154,155,156,157,158,159] [5])
 .ret)
 (.seq (.regionE R104_12 [150,161] [160])
 (.cond (.t 160)
 (.seq (.regionE R104_13 [4,138,160,162,163,164,165,166,167,168,169,170,171,172,173,174] [5])
 .ret)
 (.seq (.regionE R104_14 [160,176] [175])
 (.cond (.t 175)
 (.seq (.regionE R104_15 [4,138,175,177,178,179,180] [5])
 .ret)
 (.seq (.regionE R104_16 [138,175,182] [181])
 (.cond (.t 181)
 (.seq (.regionE R104_17 [4,181,183,184,185,186] [5])
 .ret)
 .skip))))))))))))
 (.seq (.regionE R104_18 [4,181] [5])
 .ret)))))) }
theorem s_f104_first:firstOk (List.range' 3 (s_f104.ntmps - 3)) s_f104.body=true:=by kernel_rfl
abbrev k_f135:Nat:=135
def K135_0:List Nat:=List.range' 2 17
theorem s_f135_r0_kT:killV K135_0 (startV 19 [] 2)=[]:=by kernel_rfl
def s_f135_r0_kA0:=hK K135_0 0
def s_f135_r0_kA1:=hK K135_0 1
def R135_0:LO:=[⟨some 4,.move (.c (.s (.int .i64 0))),none⟩]
def T135_0:=hT R135_0 K135_0 [] 5 [] [] [.cc (.s (.int .i64 0))]
def R135_1:LO:=[oM 6 0,⟨some 7,.lenS .s (.t 6),none⟩,⟨some 8,.move (.c (.s (.int .i64 0))),none⟩]
def T135_1:=hT R135_1 [6] [7,8] 9 [] [(7,.op (.lenS .s (.t 0)) [.t 0]),(8,.c (.s (.int .i64 0)))] [.tt 0,sb [],.cc (.s (.int .i64 0))]
def R135_2:LO:=[⟨some 9,.bin .lss (.t 8) (.t 7),none⟩]
def T135_2:=hT R135_2 [] [9] 10 [] [(9,.op (.bin .lss (.t 0) (.t 1)) [.t 8,.t 7])] [sb []]
def R135_3:LO:=[oM 10 8,oM 5 10]
def T135_3:=hT R135_3 [9,10] [5] 11 [] [(5,.t 8)] [.tt 8,.tt 8]
def R135_4t1:LO:=[⟨some 16,.call (.t 11) [.t 15],none⟩]
def R135_4p0:LO:=[oM 11 1,oM 12 0,oM 13 5,⟨some 14,.indexAddr 1 (.t 12) (.t 13),none⟩,oL 15 14]
def R135_4:LO:=R135_4p0 ++ R135_4t1
def T135_4p0:=hT R135_4p0 [12,13,14] [11,15] 16 [] [(11,.t 1),(15,.op (.load false 1 (.t 0)) [.op (.indexAddr 1 (.t 0) (.t 1)) [.t 0,.t 5]])] [.tt 1,.tt 0,.tt 5,.sub 1 [0] [],.sub 1 [] []]
def X135_4:=hS R135_4 R135_4p0 R135_4t1 [12,13,14] [11,15] [11,12,13,14,15]
def X135_4t1:=hX R135_4t1 [11,12,13,14,15] [⟨some 16,.call (.t 11) [.t 15],none⟩]
def R135_5:LO:=[oM 17 5,oM 4 17]
def T135_5:=hT R135_5 [0,1,5,7,8,16,17] [4] 18 [] [(4,.t 5)] [.tt 5,.tt 5]
def R135_6:LO:=[⟨some 18,.bin .add (.t 8) (.c (.s (.int .i64 1))),none⟩,oM 8 18]
def T135_6:=hT R135_6 [5,16,18] [8] 19 [] [(8,.op (.bin .add (.t 0) (.c (.s (.int .i64 1)))) [.t 8,.c (.s (.int .i64 1))])] [sb [],sb []]
def s_f135_l0_b:ACode:=
 (.seq (.regionE R135_2 [] [9])
 (.seq (.cond (.t 9)
 .skip
 (.exit 0))
 (.seq (.block 1
 (.seq (.regionE R135_3 [9,10] [5])
 (.seq (.region R135_4 [] [11,12,13,14,15])
 (.cond (.t 16)
 (.seq (.regionE R135_5 [0,1,5,7,8,16,17] [4])
 .ret)
 .skip))))
 (.regionE R135_6 [5,16,18] [8]))))
def s_f135_l0:ACode:=s_f135_l0_b
def s_f135_l0_ev:=hE s_f135_l0 s_f135_l0_b
def R135_7:LO:=[⟨some 4,.move (.c (.s (.int .i64 (-1)))),none⟩]
def T135_7:=hT R135_7 [0,1,7,8,9] [4] 5 [] [(4,.c (.s (.int .i64 (-1))))] [.cc (.s (.int .i64 (-1)))]
def s_f135:ACFun:={ ntmps:=19,results:=[.tmp 4],body:=
 (.seq (.regionE R135_0 K135_0 [])
 (.seq (.seq (.regionE R135_1 [6] [7,8])
 (.block 0
 (.loop [] s_f135_l0)))
 (.seq (.regionE R135_7 [0,1,7,8,9] [4])
 .ret))) }
abbrev k_f136:Nat:=136
def K136_0:List Nat:=List.range' 2 17
theorem s_f136_r0_kT:killV K136_0 (startV 19 [] 2)=[]:=by kernel_rfl
def s_f136_r0_kA0:=hK K136_0 0
def s_f136_r0_kA1:=hK K136_0 1
def R136_0:LO:=[⟨some 3,.move (.c (.s (.bool false))),none⟩]
def T136_0:=hT R136_0 K136_0 [] 4 [] [] [.cc (.s (.bool false))]
def R136_1t3:LO:=[⟨some 9,.un .not (.t 8),some (6,true)⟩,⟨some 10,.pick (.t 6) (.t 9) (.c (.s (.bool false))),none⟩,oM 11 10,gL 12 1 11 true,gM 13 12 11 true,gM 14 0 13 true,⟨some 15,.bin .eql (.t 14) (.c (.s (.string ⟨#[110,117,108,108]⟩))),some (13,true)⟩,⟨some 16,.pick (.t 13) (.t 15) (.c (.s (.bool false))),some (11,true)⟩,⟨some 17,.un .not (.t 16),some (11,true)⟩,⟨some 18,.pick (.t 11) (.t 17) (.c (.s (.bool false))),none⟩,oM 3 18]
def R136_1t2:LO:=⟨some 8,.call (.c (.fn 92 [] [])) [.t 7],some (6,true)⟩ :: R136_1t3
def R136_1t1:LO:=gM 7 0 6 true :: R136_1t2
def R136_1p0:LO:=[oM 4 0,⟨some 5,.bin .neq (.t 4) (.c (.s (.string ⟨#[]⟩))),none⟩,oM 6 5]
def R136_1:LO:=R136_1p0 ++ R136_1t1
def T136_1p0:=hT R136_1p0 [4,5] [6] 7 [] [(6,.op (.bin .neq (.t 0) (.c (.s (.string ⟨#[]⟩)))) [.t 0,.c (.s (.string ⟨#[]⟩))])] [.tt 0,sb [],sb []]
def X136_1:=hS R136_1 R136_1p0 R136_1t1 [4,5] [6] [0,1,4,5,6,7,8,9,10,11,12,13,14,15,16,17,18]
def X136_1t1:=hP R136_1t1 R136_1t2 [] [0,1,4,5,6,7,8,9,10,11,12,13,14,15,16,17,18] ⟨some 7,.move (.t 0),some (6,true)⟩
def X136_1t2:=hP R136_1t2 R136_1t3 [7] [0,1,4,5,6,7,8,9,10,11,12,13,14,15,16,17,18] ⟨some 8,.call (.c (.fn 92 [] [])) [.t 7],some (6,true)⟩
def T136_1t3:=hT R136_1t3 [0,1,4,5,6,7,8,9,10,11,12,13,14,15,16,17,18] [3] 19 [] [(3,.pick (.pick (.t 6) (.op (.un .not (.t 0)) [.t 8]) (.c (.s (.bool false)))) (.op (.un .not (.t 0)) [.pick (.op (.load false 1 (.t 0)) [.t 1]) (.op (.bin .eql (.t 0) (.c (.s (.string ⟨#[110,117,108,108]⟩)))) [.t 0,.c (.s (.string ⟨#[110,117,108,108]⟩))]) (.c (.s (.bool false)))]) (.c (.s (.bool false))))] [.sub 0 [0,1] [6],sb [0],sb [0],.sub 0 [1,0,0] [11],.sub 0 [1,0,0] [11],.sub 0 [1,0,1,0] [11,13],.sub 0 [1,0,1] [11,13],.sub 0 [1,0] [11],.sub 0 [1] [11],sb [],sb []]
def X136_1t3:=hL R136_1t3 [0,1,4,5,6,7,8,9,10,11,12,13,14,15,16,17,18] [3]
def s_f136:ACFun:={ ntmps:=19,results:=[.tmp 3],body:=
 (.seq (.regionE R136_0 K136_0 [])
 (.seq (.region R136_1 [] [0,1,4,5,6,7,8,9,10,11,12,13,14,15,16,17,18])
 .ret)) }
abbrev k_f137:Nat:=137
def K137_0:List Nat:=List.range' 2 17
theorem s_f137_r0_kT:killV K137_0 (startV 19 [] 2)=[]:=by kernel_rfl
def s_f137_r0_kA0:=hK K137_0 0
def s_f137_r0_kA1:=hK K137_0 1
def R137_0:LO:=[⟨some 4,.move (.c (.s (.int .i64 0))),none⟩]
def T137_0:=hT R137_0 K137_0 [] 5 [] [] [.cc (.s (.int .i64 0))]
def R137_1:LO:=[oM 6 0,⟨some 7,.lenS .s (.t 6),none⟩,⟨some 8,.move (.c (.s (.int .i64 0))),none⟩]
def T137_1:=hT R137_1 [6] [7,8] 9 [] [(7,.op (.lenS .s (.t 0)) [.t 0]),(8,.c (.s (.int .i64 0)))] [.tt 0,sb [],.cc (.s (.int .i64 0))]
def R137_2:LO:=[⟨some 9,.bin .lss (.t 8) (.t 7),none⟩]
def T137_2:=hT R137_2 [] [9] 10 [] [(9,.op (.bin .lss (.t 0) (.t 1)) [.t 8,.t 7])] [sb []]
def R137_3:LO:=[oM 10 8,oM 5 10]
def T137_3:=hT R137_3 [9,10] [5] 11 [] [(5,.t 8)] [.tt 8,.tt 8]
def R137_4:LO:=[oM 11 1,oM 12 0,oM 13 5,⟨some 14,.indexAddr 1 (.t 12) (.t 13),none⟩,oL 15 14,⟨some 16,.bin .eql (.t 11) (.t 15),none⟩]
def T137_4:=hT R137_4 [11,12,13,14,15] [16] 17 [] [(16,.op (.bin .eql (.t 0) (.t 1)) [.t 1,.op (.load false 1 (.t 0)) [.op (.indexAddr 1 (.t 0) (.t 1)) [.t 0,.t 5]]])] [.tt 1,.tt 0,.tt 5,sb [1,0],sb [1],sb []]
def R137_5:LO:=[oM 17 5,oM 4 17]
def T137_5:=hT R137_5 [0,1,5,7,8,16,17] [4] 18 [] [(4,.t 5)] [.tt 5,.tt 5]
def R137_6:LO:=[⟨some 18,.bin .add (.t 8) (.c (.s (.int .i64 1))),none⟩,oM 8 18]
def T137_6:=hT R137_6 [5,16,18] [8] 19 [] [(8,.op (.bin .add (.t 0) (.c (.s (.int .i64 1)))) [.t 8,.c (.s (.int .i64 1))])] [sb [],sb []]
def s_f137_l0_b:ACode:=
 (.seq (.regionE R137_2 [] [9])
 (.seq (.cond (.t 9)
 .skip
 (.exit 0))
 (.seq (.block 1
 (.seq (.regionE R137_3 [9,10] [5])
 (.seq (.regionE R137_4 [11,12,13,14,15] [16])
 (.cond (.t 16)
 (.seq (.regionE R137_5 [0,1,5,7,8,16,17] [4])
 .ret)
 .skip))))
 (.regionE R137_6 [5,16,18] [8]))))
def s_f137_l0:ACode:=s_f137_l0_b
def s_f137_l0_ev:=hE s_f137_l0 s_f137_l0_b
def R137_7:LO:=[⟨some 4,.move (.c (.s (.int .i64 (-1)))),none⟩]
def T137_7:=hT R137_7 [0,1,7,8,9] [4] 5 [] [(4,.c (.s (.int .i64 (-1))))] [.cc (.s (.int .i64 (-1)))]
def s_f137:ACFun:={ ntmps:=19,results:=[.tmp 4],body:=
 (.seq (.regionE R137_0 K137_0 [])
 (.seq (.seq (.regionE R137_1 [6] [7,8])
 (.block 0
 (.loop [] s_f137_l0)))
 (.seq (.regionE R137_7 [0,1,7,8,9] [4])
 .ret))) }
abbrev k_f140:Nat:=140
def K140_0:List Nat:=[0,2,3]
def A140_0_0:=hQ K140_0 0
def A140_0_1:=hK K140_0 1
def A140_0_2:=hQ K140_0 2
def R140_0t1:LO:=[⟨some 2,.move (.c (.s .nilFunc)),none⟩]
def R140_0:LO:=⟨some 1,.box (.t 0),none⟩ :: R140_0t1
def X140_0:=hP R140_0 R140_0t1 [0,2,3] K140_0 ⟨some 1,.box (.t 0),none⟩
def T140_0t1:=hT R140_0t1 K140_0 [] 3 [] [] [.cc (.s .nilFunc)]
def X140_0t1:=hL R140_0t1 K140_0 []
def R140_1:LO:=[⟨some 3,.mkFn 168 [] [.t 1],none⟩,oM 2 3]
def T140_1:=hT R140_1 [1,3] [2] 4 [] [(2,.op (.mkFn 168 [] [.t 0]) [.t 1])] [sb [],sb []]
def s_f140:ACFun:={ ntmps:=4,results:=[.tmp 2],body:=
 (.seq (.region R140_0 [] K140_0)
 (.seq (.regionE R140_1 [1,3] [2])
 .ret)) }
theorem s_f140_first:firstOk (List.range' 1 (s_f140.ntmps - 1)) s_f140.body=true:=by kernel_rfl
abbrev k_f168:Nat:=168
def K168_0:List Nat:=List.range' 1 12 ++ List.range' 16 31
theorem s_f168_r0_kT:killV K168_0 (startV 47 [] 2)=[(13,und),(14,und),(15,und)]:=by kernel_rfl
def s_f168_r0_kA0:=hK K168_0 0
def s_f168_r0_kA1:=hQ K168_0 1
def R168_0:LO:=[oL 9 1,⟨some 10,.nilCheck (.t 9),none⟩,oF 11 0 10,oF 12 0 11,oL 13 12,⟨some 14,.lenS .s (.t 13),none⟩,⟨some 15,.move (.c (.s (.int .i64 0))),none⟩]
def T168_0:=hT R168_0 K168_0 [13,14,15] 16 [] [(13,.op (.load false 1 (.t 0)) [.op (.fieldAddr 0 (.t 0)) [.op (.fieldAddr 0 (.t 0)) [.op (.nilCheck (.t 0)) [.op (.load false 1 (.t 0)) [.t 1]]]]]),(14,.op (.lenS .s (.t 0)) [.op (.load false 1 (.t 0)) [.op (.fieldAddr 0 (.t 0)) [.op (.fieldAddr 0 (.t 0)) [.op (.nilCheck (.t 0)) [.op (.load false 1 (.t 0)) [.t 1]]]]]]),(15,.c (.s (.int .i64 0)))] [sb [0,0,0,0],sb [0,0,0],sb [0,0],sb [0],sb [],.sub 1 [] [],.cc (.s (.int .i64 0))]
def R168_1:LO:=[⟨some 16,.bin .lss (.t 15) (.t 14),none⟩]
def T168_1:=hT R168_1 [] [16] 17 [] [(16,.op (.bin .lss (.t 0) (.t 1)) [.t 15,.t 14])] [sb []]
def R168_2t3:LO:=[⟨none,.store 3 (.t 4) (.t 19),none⟩]
def R168_2p2:LO:=[oM 3 17]
def R168_2t2:LO:=R168_2p2 ++ R168_2t3
def R168_2t1:LO:=⟨some 4,.alloc [.s (.string ⟨#[]⟩),.s (.slice none 0 0),.s (.slice none 0 0)],none⟩ :: R168_2t2
def R168_2p0:LO:=[oM 17 15,⟨some 18,.indexAddr 3 (.t 13) (.t 15),none⟩,⟨some 19,.load true 3 (.t 18),none⟩]
def R168_2:LO:=R168_2p0 ++ R168_2t1
def T168_2p0:=hT R168_2p0 [16,18] [17,19] 20 [] [(17,.t 15),(19,.op (.load true 3 (.t 0)) [.op (.indexAddr 3 (.t 0) (.t 1)) [.t 13,.t 15]])] [.tt 15,.sub 1 [0] [],.sub 1 [] []]
def X168_2:=hS R168_2 R168_2p0 R168_2t1 [16,18] [17,19] [16,17,18,19]
def X168_2t1:=hP R168_2t1 R168_2t2 [] [16,17,18,19] ⟨some 4,.alloc [.s (.string ⟨#[]⟩),.s (.slice none 0 0),.s (.slice none 0 0)],none⟩
def T168_2p2:=hT R168_2p2 [17] [3] 4 [] [(3,.t 17)] [.tt 17]
def X168_2t2:=hS R168_2t2 R168_2p2 R168_2t3 [17] [3] [16,17,18,19]
def X168_2t3:=hX R168_2t3 [16,17,18,19] [⟨none,.store 3 (.t 4) (.t 19),none⟩]
def R168_3:LO:=[oF 20 2 4,oL 21 20,⟨some 22,.lenS .s (.t 21),none⟩,⟨some 23,.move (.c (.s (.int .i64 0))),none⟩]
def T168_3:=hT R168_3 [4,20] [21,22,23] 24 [] [(21,.op (.load false 1 (.t 0)) [.op (.fieldAddr 2 (.t 0)) [.t 4]]),(22,.op (.lenS .s (.t 0)) [.op (.load false 1 (.t 0)) [.op (.fieldAddr 2 (.t 0)) [.t 4]]]),(23,.c (.s (.int .i64 0)))] [sb [0],sb [],.sub 1 [] [],.cc (.s (.int .i64 0))]
def R168_4:LO:=[⟨some 24,.bin .lss (.t 23) (.t 22),none⟩]
def T168_4:=hT R168_4 [] [24] 25 [] [(24,.op (.bin .lss (.t 0) (.t 1)) [.t 23,.t 22])] [sb []]
def R168_5t3:LO:=[⟨none,.store 2 (.t 6) (.t 27),none⟩]
def R168_5p2:LO:=[oM 5 25]
def R168_5t2:LO:=R168_5p2 ++ R168_5t3
def R168_5t1:LO:=⟨some 6,.alloc [.s (.string ⟨#[]⟩),.s (.slice none 0 0)],none⟩ :: R168_5t2
def R168_5p0:LO:=[oM 25 23,⟨some 26,.indexAddr 2 (.t 21) (.t 23),none⟩,⟨some 27,.load true 2 (.t 26),none⟩]
def R168_5:LO:=R168_5p0 ++ R168_5t1
def T168_5p0:=hT R168_5p0 [24,26] [25,27] 28 [] [(25,.t 23),(27,.op (.load true 2 (.t 0)) [.op (.indexAddr 2 (.t 0) (.t 1)) [.t 21,.t 23]])] [.tt 23,.sub 1 [0] [],.sub 1 [] []]
def X168_5:=hS R168_5 R168_5p0 R168_5t1 [24,26] [25,27] [24,25,26,27]
def X168_5t1:=hP R168_5t1 R168_5t2 [] [24,25,26,27] ⟨some 6,.alloc [.s (.string ⟨#[]⟩),.s (.slice none 0 0)],none⟩
def T168_5p2:=hT R168_5p2 [25] [5] 6 [] [(5,.t 25)] [.tt 25]
def X168_5t2:=hS R168_5t2 R168_5p2 R168_5t3 [25] [5] [24,25,26,27]
def X168_5t3:=hX R168_5t3 [24,25,26,27] [⟨none,.store 2 (.t 6) (.t 27),none⟩]
def R168_6:LO:=[oF 28 1 6,oL 29 28,⟨some 30,.lenS .s (.t 29),none⟩,⟨some 31,.move (.c (.s (.int .i64 0))),none⟩]
def T168_6:=hT R168_6 [6,28] [29,30,31] 32 [] [(29,.op (.load false 1 (.t 0)) [.op (.fieldAddr 1 (.t 0)) [.t 6]]),(30,.op (.lenS .s (.t 0)) [.op (.load false 1 (.t 0)) [.op (.fieldAddr 1 (.t 0)) [.t 6]]]),(31,.c (.s (.int .i64 0)))] [sb [0],sb [],.sub 1 [] [],.cc (.s (.int .i64 0))]
def R168_7:LO:=[⟨some 32,.bin .lss (.t 31) (.t 30),none⟩]
def T168_7:=hT R168_7 [] [32] 33 [] [(32,.op (.bin .lss (.t 0) (.t 1)) [.t 31,.t 30])] [sb []]
def R168_8t3:LO:=[⟨none,.store 8 (.t 8) (.t 35),none⟩]
def R168_8p2:LO:=[oM 7 33]
def R168_8t2:LO:=R168_8p2 ++ R168_8t3
def R168_8t1:LO:=⟨some 8,.alloc [.s (.int .u8 0),.s (.string ⟨#[]⟩),.s (.string ⟨#[]⟩),.s (.string ⟨#[]⟩),.s (.int .i64 0),.s (.string ⟨#[]⟩),.s (.slice none 0 0),.s (.slice none 0 0)],none⟩ :: R168_8t2
def R168_8p0:LO:=[oM 33 31,⟨some 34,.indexAddr 8 (.t 29) (.t 31),none⟩,⟨some 35,.load true 8 (.t 34),none⟩]
def R168_8:LO:=R168_8p0 ++ R168_8t1
def T168_8p0:=hT R168_8p0 [32,34] [33,35] 36 [] [(33,.t 31),(35,.op (.load true 8 (.t 0)) [.op (.indexAddr 8 (.t 0) (.t 1)) [.t 29,.t 31]])] [.tt 31,.sub 1 [0] [],.sub 1 [] []]
def X168_8:=hS R168_8 R168_8p0 R168_8t1 [32,34] [33,35] [32,33,34,35]
def X168_8t1:=hP R168_8t1 R168_8t2 [] [32,33,34,35] ⟨some 8,.alloc [.s (.int .u8 0),.s (.string ⟨#[]⟩),.s (.string ⟨#[]⟩),.s (.string ⟨#[]⟩),.s (.int .i64 0),.s (.string ⟨#[]⟩),.s (.slice none 0 0),.s (.slice none 0 0)],none⟩
def T168_8p2:=hT R168_8p2 [33] [7] 8 [] [(7,.t 33)] [.tt 33]
def X168_8t2:=hS R168_8t2 R168_8p2 R168_8t3 [33] [7] [32,33,34,35]
def X168_8t3:=hX R168_8t3 [32,33,34,35] [⟨none,.store 8 (.t 8) (.t 35),none⟩]
def R168_9t2:LO:=[⟨some 43,.un .not (.t 42),none⟩]
def R168_9t1:LO:=⟨some 42,.call (.t 36) [.t 40,.t 41],none⟩ :: R168_9t2
def R168_9p0:LO:=[oM 36 0,oM 37 3,oM 38 5,oM 39 7,⟨some 40,.build [.s (.int .i64 0),.s (.int .i64 0),.s (.int .i64 0)] [(0,1),(1,1),(2,1)] [(0,.t 37),(1,.t 38),(2,.t 39)],none⟩,⟨some 41,.load true 8 (.t 8),none⟩]
def R168_9:LO:=R168_9p0 ++ R168_9t1
def T168_9p0:=hT R168_9p0 [7,8,37,38,39] [36,40,41] 42 [] [(36,.t 0),(40,.op (.build [.s (.int .i64 0),.s (.int .i64 0),.s (.int .i64 0)] [(0,1),(1,1),(2,1)] [(0,.t 0),(1,.t 1),(2,.t 2)]) [.t 3,.t 5,.t 7]),(41,.op (.load true 8 (.t 0)) [.t 8])] [.tt 0,.tt 3,.tt 5,.tt 7,.sub 1 [] [],.sub 2 [] []]
def X168_9:=hS R168_9 R168_9p0 R168_9t1 [7,8,37,38,39] [36,40,41] [7,8,36,37,38,39,40,41,42]
def X168_9t1:=hP R168_9t1 R168_9t2 [36,40,41] [7,8,36,37,38,39,40,41,42] ⟨some 42,.call (.t 36) [.t 40,.t 41],none⟩
def T168_9t2:=hT R168_9t2 [7,8,36,37,38,39,40,41,42] [43] 44 [] [(43,.op (.un .not (.t 0)) [.t 42])] [sb []]
def X168_9t2:=hL R168_9t2 [7,8,36,37,38,39,40,41,42] [43]
def R168_10:LO:=[⟨some 44,.bin .add (.t 31) (.c (.s (.int .i64 1))),none⟩,oM 31 44]
def T168_10:=hT R168_10 [43,44] [31] 45 [] [(31,.op (.bin .add (.t 0) (.c (.s (.int .i64 1)))) [.t 31,.c (.s (.int .i64 1))])] [sb [],sb []]
def s_f168_l0_b:ACode:=
 (.seq (.regionE R168_7 [] [32])
 (.seq (.cond (.t 32)
 .skip
 (.exit 4))
 (.seq (.block 5
 (.seq (.region R168_8 [] [32,33,34,35])
 (.seq (.region R168_9 [] [7,8,36,37,38,39,40,41,42])
 (.cond (.t 43)
 .ret
 .skip))))
 (.regionE R168_10 [43,44] [31]))))
def s_f168_l0:ACode:=s_f168_l0_b
def s_f168_l0_ev:=hE s_f168_l0 s_f168_l0_b
def R168_11:LO:=[⟨some 45,.bin .add (.t 23) (.c (.s (.int .i64 1))),none⟩,oM 23 45]
def T168_11:=hT R168_11 [5,29,30,31,32,45] [23] 46 [] [(23,.op (.bin .add (.t 0) (.c (.s (.int .i64 1)))) [.t 23,.c (.s (.int .i64 1))])] [sb [],sb []]
def s_f168_l1_b:ACode:=
 (.seq (.regionE R168_4 [] [24])
 (.seq (.cond (.t 24)
 .skip
 (.exit 2))
 (.seq (.block 3
 (.seq (.region R168_5 [] [24,25,26,27])
 (.seq (.regionE R168_6 [6,28] [29,30,31])
 (.block 4
 (.loop [] s_f168_l0)))))
 (.regionE R168_11 [5,29,30,31,32,45] [23]))))
def s_f168_l1:ACode:=s_f168_l1_b
def s_f168_l1_ev:=hE s_f168_l1 s_f168_l1_b
def R168_12:LO:=[⟨some 46,.bin .add (.t 15) (.c (.s (.int .i64 1))),none⟩,oM 15 46]
def T168_12:=hT R168_12 [3,21,22,23,24,46] [15] 47 [] [(15,.op (.bin .add (.t 0) (.c (.s (.int .i64 1)))) [.t 15,.c (.s (.int .i64 1))])] [sb [],sb []]
def s_f168_l2_b:ACode:=
 (.seq (.regionE R168_1 [] [16])
 (.seq (.cond (.t 16)
 .skip
 (.exit 0))
 (.seq (.block 1
 (.seq (.region R168_2 [] [16,17,18,19])
 (.seq (.regionE R168_3 [4,20] [21,22,23])
 (.block 2
 (.loop [] s_f168_l1)))))
 (.regionE R168_12 [3,21,22,23,24,46] [15]))))
def s_f168_l2:ACode:=s_f168_l2_b
def s_f168_l2_ev:=hE s_f168_l2 s_f168_l2_b
def s_f168:ACFun:={ ntmps:=47,results:=[],body:=
 (.seq (.regionE R168_0 K168_0 [13,14,15])
 (.block 0
 (.loop [] s_f168_l2))) }
def a_f35:=ai T35_0 (ai s_f35_r0_kT (ai X35_1 (ai T35_1p1 (ai X35_1t1 (ai X35_1t2 (ai T35_1p3 (ai X35_1t3 (ai X35_1t4 (ai T35_1p5 (ai X35_1t5 (ai X35_1t6 (ai T35_1p7 (ai X35_1t7 (ai X35_1t8 (ai T35_1p9 (ai X35_1t9 (ai X35_1t10 (ai T35_1p11 (ai X35_1t11 (ai X35_1t12 (ai T35_1p13 (ai X35_1t13 (ai X35_1t14 (ai T35_1p15 (ai X35_1t15 (ai X35_1t16 (ai T35_1p17 (ai X35_1t17 (ai X35_1t18 (ai T35_1p19 (ai X35_1t19 (ai X35_1t20 (ai T35_1p21 (ai X35_1t21 (ai X35_1t22 (ai T35_1p23 (ai X35_1t23 (ai X35_1t24 (ai T35_1p25 (ai X35_1t25 (ai X35_1t26 (ai T35_1p27 (ai X35_1t27 (ai X35_1t28 (ai T35_1t29 (X35_1t29))))))))))))))))))))))))))))))))))))))))))))))
def a_f92:=ai T92_0 (ai s_f92_r0_kT (ai s_f92_r0_kA0 (ai T92_1 (ai T92_2 (ai T92_3 (ai T92_4 (ai T92_5 (ai T92_6 (ai T92_7 (ai T92_8 (ai T92_9 (ai T92_10 (ai s_f92_l0_ev (T92_11))))))))))))))
def a_f93:=ai T93_0 (ai s_f93_r0_kT (ai s_f93_r0_kA0 (ai s_f93_r0_kA1 (ai T93_1p0 (ai X93_1 (ai X93_1t1 (ai T93_1t2 (X93_1t2))))))))
def a_f94:=ai T94_0 (ai s_f94_r0_kT (ai s_f94_r0_kA0 (ai T94_1p0 (ai X94_1 (ai X94_1t1 (ai T94_1t2 (X94_1t2)))))))
def a_f95:=ai X95_0 (ai T95_0t1 (ai X95_0t1 (ai A95_0_0 (ai A95_0_1 (ai A95_0_2 (ai A95_0_4 (ai T95_1p0 (ai X95_1 (ai X95_1t1 (ai T95_1t2 (X95_1t2)))))))))))
def a_f96:=ai T96_0 (ai s_f96_r0_kT (ai s_f96_r0_kA0 (ai s_f96_r0_kA1 (ai T96_1p0 (ai X96_1 (ai X96_1t1 (ai T96_1t2 (X96_1t2))))))))
def a_f100:=ai T100_0 (ai s_f100_r0_kT (ai s_f100_r0_kA0 (T100_1)))
def a_f102:=ai X102_0 (ai X102_0t1 (ai X102_0t2 (ai A102_0_0 (ai A102_0_1 (ai A102_0_3 (ai A102_0_4 (ai A102_0_5 (ai T102_1p0 (ai X102_1 (ai X102_1t1 (ai X102_2 (ai X102_2t1 (ai X102_3 (ai X102_3t1 (ai T102_4p0 (ai X102_4 (ai X102_4t1 (ai T102_5p0 (ai X102_5 (ai X102_5t1 (ai X102_5t2 (ai T102_6p0 (ai X102_6 (ai X102_6t1 (X102_6t2)))))))))))))))))))))))))
def a_f104:=ai A104_0p0_0 (ai A104_0p0_1 (ai A104_0p0_2 (ai A104_0p0_3 (ai A104_0p0_4 (ai A104_0p0_5 (ai X104_0 (ai X104_0t1 (ai T104_0t2 (ai X104_0t2 (ai A104_0_0 (ai A104_0_1 (ai A104_0_2 (ai A104_0_3 (ai A104_0_4 (ai A104_0_5 (ai T104_1p0 (ai X104_1 (ai X104_1t1 (ai X104_1t2 (ai T104_1t3 (ai X104_1t3 (ai T104_2 (ai T104_3 (ai T104_4p0 (ai X104_4 (ai X104_4t1 (ai X104_4t2 (ai X104_4t3 (ai T104_4t4 (ai X104_4t4 (ai T104_5 (ai T104_6 (ai T104_7 (ai T104_8 (ai T104_9 (ai T104_10 (ai T104_11 (ai T104_12 (ai T104_13 (ai T104_14 (ai T104_15 (ai T104_16 (ai T104_17 (T104_18))))))))))))))))))))))))))))))))))))))))))))
def a_f135:=ai T135_0 (ai s_f135_r0_kT (ai s_f135_r0_kA0 (ai s_f135_r0_kA1 (ai T135_1 (ai T135_2 (ai T135_3 (ai T135_4p0 (ai X135_4 (ai X135_4t1 (ai T135_5 (ai T135_6 (ai s_f135_l0_ev (T135_7)))))))))))))
def a_f136:=ai T136_0 (ai s_f136_r0_kT (ai s_f136_r0_kA0 (ai s_f136_r0_kA1 (ai T136_1p0 (ai X136_1 (ai X136_1t1 (ai X136_1t2 (ai T136_1t3 (X136_1t3)))))))))
def a_f137:=ai T137_0 (ai s_f137_r0_kT (ai s_f137_r0_kA0 (ai s_f137_r0_kA1 (ai T137_1 (ai T137_2 (ai T137_3 (ai T137_4 (ai T137_5 (ai T137_6 (ai s_f137_l0_ev (T137_7)))))))))))
def a_f140:=ai X140_0 (ai T140_0t1 (ai X140_0t1 (ai A140_0_0 (ai A140_0_1 (ai A140_0_2 (T140_1))))))
def a_f168:=ai T168_0 (ai s_f168_r0_kT (ai s_f168_r0_kA0 (ai s_f168_r0_kA1 (ai T168_1 (ai T168_2p0 (ai X168_2 (ai X168_2t1 (ai T168_2p2 (ai X168_2t2 (ai X168_2t3 (ai T168_3 (ai T168_4 (ai T168_5p0 (ai X168_5 (ai X168_5t1 (ai T168_5p2 (ai X168_5t2 (ai X168_5t3 (ai T168_6 (ai T168_7 (ai T168_8p0 (ai X168_8 (ai X168_8t1 (ai T168_8p2 (ai X168_8t2 (ai X168_8t3 (ai T168_9p0 (ai X168_9 (ai X168_9t1 (ai T168_9t2 (ai X168_9t2 (ai T168_10 (ai s_f168_l0_ev (ai T168_11 (ai s_f168_l1_ev (ai T168_12 (s_f168_l2_ev)))))))))))))))))))))))))))))))))))))
theorem SA1_92:compK Tryz.prog PX0 92=some (false,s_f92.ntmps,s_f92.results,s_f92.body.bare):=by kernel_rfl
theorem SA1_7:compK Tryz.prog PX0 7=some (false,s_f7.ntmps,s_f7.results,s_f7.body.bare):=by kernel_rfl
theorem SA1_15:compK Tryz.prog PX0 15=some (false,s_f15.ntmps,s_f15.results,s_f15.body.bare):=by kernel_rfl
theorem SA1_35:compK Tryz.prog PX0 35=some (false,s_f35.ntmps,s_f35.results,s_f35.body.bare):=by kernel_rfl
theorem SA1_93:compK Tryz.prog PX0 93=some (false,s_f93.ntmps,s_f93.results,s_f93.body.bare):=by kernel_rfl
theorem SA1_94:compK Tryz.prog PX0 94=some (false,s_f94.ntmps,s_f94.results,s_f94.body.bare):=by kernel_rfl
theorem SA1_95:compK Tryz.prog PX0 95=some (false,s_f95.ntmps,s_f95.results,s_f95.body.bare):=by kernel_rfl
theorem SA1_96:compK Tryz.prog PX0 96=some (false,s_f96.ntmps,s_f96.results,s_f96.body.bare):=by kernel_rfl
theorem SA1_100:compK Tryz.prog PX0 100=some (false,s_f100.ntmps,s_f100.results,s_f100.body.bare):=by kernel_rfl
theorem SA1_102:compK Tryz.prog PX0 102=some (false,s_f102.ntmps,s_f102.results,s_f102.body.bare):=by kernel_rfl
theorem SA1_104:compK Tryz.prog PX0 104=some (false,s_f104.ntmps,s_f104.results,s_f104.body.bare):=by kernel_rfl
theorem SA1_135:compK Tryz.prog PX0 135=some (false,s_f135.ntmps,s_f135.results,s_f135.body.bare):=by kernel_rfl
theorem SA1_136:compK Tryz.prog PX0 136=some (false,s_f136.ntmps,s_f136.results,s_f136.body.bare):=by kernel_rfl
theorem SA1_137:compK Tryz.prog PX0 137=some (false,s_f137.ntmps,s_f137.results,s_f137.body.bare):=by kernel_rfl
theorem SA1_140:compK Tryz.prog PX0 140=some (false,s_f140.ntmps,s_f140.results,s_f140.body.bare):=by kernel_rfl
theorem SA1_168:compK Tryz.prog PX0 168=some (false,s_f168.ntmps,s_f168.results,s_f168.body.bare):=by kernel_rfl
end Go.Proofs.YtngfpadeebpoeaaGreatDoor
set_option maxRecDepth 100000
namespace Go.Proofs.YtngfpadeebpoeaaGreatDoor
open Go.AM
abbrev k_f16:Nat:=16
def K16_0:List Nat:=[0,3] ++ List.range' 5 50
def A16_0_0:=hQ K16_0 0
def A16_0_1:=hK K16_0 1
def A16_0_2:=hK K16_0 2
def A16_0_4:=hK K16_0 4
def A16_0_5:=hQ K16_0 5
def R16_0t2:LO:=[⟨some 5,.move (.c (.s (.bool false))),none⟩]
def R16_0t1:LO:=⟨some 4,.alloc [.s (.int .i64 0),.s (.int .i64 0),.s (.int .i64 0)],none⟩ :: R16_0t2
def R16_0p0:LO:=[⟨some 2,.box (.t 0),none⟩]
def R16_0:LO:=R16_0p0 ++ R16_0t1
def K16_0p0:List Nat:=[0] ++ List.range' 3 52
def A16_0p0_0:=hQ K16_0p0 0
def A16_0p0_1:=hK K16_0p0 1
def A16_0p0_2:=hK K16_0p0 2
def A16_0p0_4:=hQ K16_0p0 4
def A16_0p0_5:=hQ K16_0p0 5
theorem X16_0 (call:CallF) (it:IterF) (base:Nat) (f:List V) (H:Heap):evC call it base (.region R16_0 [] K16_0) f H=thenC call it base (.region R16_0t1 [] K16_0) (opsC [] R16_0p0 K16_0p0 (evOps call base [⟨some 2,.box (.t 0),none⟩] f H)):=(row_op call it base R16_0p0 R16_0t1 (kc:=K16_0p0) (by kernel_rfl) f H).trans (by rw [row_ops];rfl)
def X16_0t1:=hP R16_0t1 R16_0t2 [] K16_0 ⟨some 4,.alloc [.s (.int .i64 0),.s (.int .i64 0),.s (.int .i64 0)],none⟩
def T16_0t2:=hT R16_0t2 K16_0 [] 6 [] [] [.cc (.s (.bool false))]
def X16_0t2:=hL R16_0t2 K16_0 []
def R16_1t4:LO:=[oM 6 11]
def R16_1t3:LO:=⟨some 11,.box (.t 10),none⟩ :: R16_1t4
def R16_1p2:LO:=[⟨some 10,.build [.s (.slice none 0 0),.s (.map none)] [(0,1),(1,1)] [(0,.t 8),(1,.t 9)],none⟩]
def R16_1t2:LO:=R16_1p2 ++ R16_1t3
def R16_1t1:LO:=⟨some 9,.callR (.c (.fn 35 [] [])) [],none⟩ :: R16_1t2
def R16_1p0:LO:=[⟨some 8,.load true 1 (.t 2),none⟩]
def R16_1:LO:=R16_1p0 ++ R16_1t1
def T16_1p0:=hT R16_1p0 [2] [8] 9 [] [(8,.op (.load true 1 (.t 0)) [.t 2])] [sb []]
def X16_1:=hS R16_1 R16_1p0 R16_1t1 [2] [8] [2,8,9,10,11]
def X16_1t1:=hP R16_1t1 R16_1t2 [] [2,8,9,10,11] ⟨some 9,.callR (.c (.fn 35 [] [])) [],none⟩
def T16_1p2:=hT R16_1p2 [8,9] [10] 11 [] [(10,.op (.build [.s (.slice none 0 0),.s (.map none)] [(0,1),(1,1)] [(0,.t 0),(1,.t 1)]) [.t 8,.t 9])] [sb []]
def X16_1t2:=hS R16_1t2 R16_1p2 R16_1t3 [8,9] [10] [2,8,9,10,11]
def X16_1t3:=hP R16_1t3 R16_1t4 [10] [2,8,9,10,11] ⟨some 11,.box (.t 10),none⟩
def T16_1t4:=hT R16_1t4 [2,8,9,10,11] [6] 7 [] [(6,.t 11)] [.tt 11]
def X16_1t4:=hL R16_1t4 [2,8,9,10,11] [6]
def R16_2t33:LO:=[oM 45 12,oM 46 1,⟨some 47,.mapGet (.int .u8) (.s .nilFunc) (.t 45) (.t 46) false,none⟩,oM 7 47]
def R16_2t32:LO:=⟨none,.mapUpd (.int .u8) (.t 12) (.c (.s (.int .u8 16))) (.t 44),none⟩ :: R16_2t33
def R16_2p31:LO:=[oM 43 6,⟨some 44,.mkFn 51 [.t 43] [],none⟩]
def R16_2t31:LO:=R16_2p31 ++ R16_2t32
def R16_2t30:LO:=⟨none,.mapUpd (.int .u8) (.t 12) (.c (.s (.int .u8 15))) (.t 42),none⟩ :: R16_2t31
def R16_2p29:LO:=[oM 41 6,⟨some 42,.mkFn 50 [.t 41] [],none⟩]
def R16_2t29:LO:=R16_2p29 ++ R16_2t30
def R16_2t28:LO:=⟨none,.mapUpd (.int .u8) (.t 12) (.c (.s (.int .u8 14))) (.t 40),none⟩ :: R16_2t29
def R16_2p27:LO:=[oM 39 6,⟨some 40,.mkFn 49 [.t 39] [],none⟩]
def R16_2t27:LO:=R16_2p27 ++ R16_2t28
def R16_2t26:LO:=⟨none,.mapUpd (.int .u8) (.t 12) (.c (.s (.int .u8 13))) (.t 38),none⟩ :: R16_2t27
def R16_2p25:LO:=[oM 37 6,⟨some 38,.mkFn 48 [.t 37] [],none⟩]
def R16_2t25:LO:=R16_2p25 ++ R16_2t26
def R16_2t24:LO:=⟨none,.mapUpd (.int .u8) (.t 12) (.c (.s (.int .u8 12))) (.t 36),none⟩ :: R16_2t25
def R16_2p23:LO:=[oM 35 6,⟨some 36,.mkFn 47 [.t 35] [],none⟩]
def R16_2t23:LO:=R16_2p23 ++ R16_2t24
def R16_2t22:LO:=⟨none,.mapUpd (.int .u8) (.t 12) (.c (.s (.int .u8 11))) (.t 34),none⟩ :: R16_2t23
def R16_2p21:LO:=[oM 33 6,⟨some 34,.mkFn 46 [.t 33] [],none⟩]
def R16_2t21:LO:=R16_2p21 ++ R16_2t22
def R16_2t20:LO:=⟨none,.mapUpd (.int .u8) (.t 12) (.c (.s (.int .u8 10))) (.t 32),none⟩ :: R16_2t21
def R16_2p19:LO:=[oM 31 6,⟨some 32,.mkFn 45 [.t 31] [],none⟩]
def R16_2t19:LO:=R16_2p19 ++ R16_2t20
def R16_2t18:LO:=⟨none,.mapUpd (.int .u8) (.t 12) (.c (.s (.int .u8 9))) (.t 30),none⟩ :: R16_2t19
def R16_2p17:LO:=[oM 29 6,⟨some 30,.mkFn 44 [.t 29] [],none⟩]
def R16_2t17:LO:=R16_2p17 ++ R16_2t18
def R16_2t16:LO:=⟨none,.mapUpd (.int .u8) (.t 12) (.c (.s (.int .u8 8))) (.t 28),none⟩ :: R16_2t17
def R16_2p15:LO:=[oM 27 6,⟨some 28,.mkFn 43 [.t 27] [],none⟩]
def R16_2t15:LO:=R16_2p15 ++ R16_2t16
def R16_2t14:LO:=⟨none,.mapUpd (.int .u8) (.t 12) (.c (.s (.int .u8 7))) (.t 26),none⟩ :: R16_2t15
def R16_2p13:LO:=[oM 25 6,⟨some 26,.mkFn 42 [.t 25] [],none⟩]
def R16_2t13:LO:=R16_2p13 ++ R16_2t14
def R16_2t12:LO:=⟨none,.mapUpd (.int .u8) (.t 12) (.c (.s (.int .u8 6))) (.t 24),none⟩ :: R16_2t13
def R16_2p11:LO:=[oM 23 6,⟨some 24,.mkFn 41 [.t 23] [],none⟩]
def R16_2t11:LO:=R16_2p11 ++ R16_2t12
def R16_2t10:LO:=⟨none,.mapUpd (.int .u8) (.t 12) (.c (.s (.int .u8 5))) (.t 22),none⟩ :: R16_2t11
def R16_2p9:LO:=[oM 21 6,⟨some 22,.mkFn 40 [.t 21] [],none⟩]
def R16_2t9:LO:=R16_2p9 ++ R16_2t10
def R16_2t8:LO:=⟨none,.mapUpd (.int .u8) (.t 12) (.c (.s (.int .u8 4))) (.t 20),none⟩ :: R16_2t9
def R16_2p7:LO:=[oM 19 6,⟨some 20,.mkFn 39 [.t 19] [],none⟩]
def R16_2t7:LO:=R16_2p7 ++ R16_2t8
def R16_2t6:LO:=⟨none,.mapUpd (.int .u8) (.t 12) (.c (.s (.int .u8 3))) (.t 18),none⟩ :: R16_2t7
def R16_2p5:LO:=[oM 17 6,⟨some 18,.mkFn 38 [.t 17] [],none⟩]
def R16_2t5:LO:=R16_2p5 ++ R16_2t6
def R16_2t4:LO:=⟨none,.mapUpd (.int .u8) (.t 12) (.c (.s (.int .u8 2))) (.t 16),none⟩ :: R16_2t5
def R16_2p3:LO:=[oM 15 6,⟨some 16,.mkFn 37 [.t 15] [],none⟩]
def R16_2t3:LO:=R16_2p3 ++ R16_2t4
def R16_2t2:LO:=⟨none,.mapUpd (.int .u8) (.t 12) (.c (.s (.int .u8 1))) (.t 14),none⟩ :: R16_2t3
def R16_2p1:LO:=[oM 13 6,⟨some 14,.mkFn 36 [.t 13] [],none⟩]
def R16_2t1:LO:=R16_2p1 ++ R16_2t2
def R16_2:LO:=⟨some 12,.mapNew,none⟩ :: R16_2t1
def X16_2:=hP R16_2 R16_2t1 [] [1,6,12,13,14,15,16,17,18,19,20,21,22,23,24,25,26,27,28,29,30,31,32,33,34,35,36,37,38,39,40,41,42,43,44,45,46,47] ⟨some 12,.mapNew,none⟩
def T16_2p1:=hT R16_2p1 [13] [14] 15 [] [(14,.op (.mkFn 36 [.t 0] []) [.t 6])] [.tt 6,sb []]
def X16_2t1:=hS R16_2t1 R16_2p1 R16_2t2 [13] [14] [1,6,12,13,14,15,16,17,18,19,20,21,22,23,24,25,26,27,28,29,30,31,32,33,34,35,36,37,38,39,40,41,42,43,44,45,46,47]
def X16_2t2:=hP R16_2t2 R16_2t3 [14] [1,6,12,13,14,15,16,17,18,19,20,21,22,23,24,25,26,27,28,29,30,31,32,33,34,35,36,37,38,39,40,41,42,43,44,45,46,47] ⟨none,.mapUpd (.int .u8) (.t 12) (.c (.s (.int .u8 1))) (.t 14),none⟩
def T16_2p3:=hT R16_2p3 [15] [16] 17 [] [(16,.op (.mkFn 37 [.t 0] []) [.t 6])] [.tt 6,sb []]
def X16_2t3:=hS R16_2t3 R16_2p3 R16_2t4 [15] [16] [1,6,12,13,14,15,16,17,18,19,20,21,22,23,24,25,26,27,28,29,30,31,32,33,34,35,36,37,38,39,40,41,42,43,44,45,46,47]
def X16_2t4:=hP R16_2t4 R16_2t5 [16] [1,6,12,13,14,15,16,17,18,19,20,21,22,23,24,25,26,27,28,29,30,31,32,33,34,35,36,37,38,39,40,41,42,43,44,45,46,47] ⟨none,.mapUpd (.int .u8) (.t 12) (.c (.s (.int .u8 2))) (.t 16),none⟩
def T16_2p5:=hT R16_2p5 [17] [18] 19 [] [(18,.op (.mkFn 38 [.t 0] []) [.t 6])] [.tt 6,sb []]
def X16_2t5:=hS R16_2t5 R16_2p5 R16_2t6 [17] [18] [1,6,12,13,14,15,16,17,18,19,20,21,22,23,24,25,26,27,28,29,30,31,32,33,34,35,36,37,38,39,40,41,42,43,44,45,46,47]
def X16_2t6:=hP R16_2t6 R16_2t7 [18] [1,6,12,13,14,15,16,17,18,19,20,21,22,23,24,25,26,27,28,29,30,31,32,33,34,35,36,37,38,39,40,41,42,43,44,45,46,47] ⟨none,.mapUpd (.int .u8) (.t 12) (.c (.s (.int .u8 3))) (.t 18),none⟩
def T16_2p7:=hT R16_2p7 [19] [20] 21 [] [(20,.op (.mkFn 39 [.t 0] []) [.t 6])] [.tt 6,sb []]
def X16_2t7:=hS R16_2t7 R16_2p7 R16_2t8 [19] [20] [1,6,12,13,14,15,16,17,18,19,20,21,22,23,24,25,26,27,28,29,30,31,32,33,34,35,36,37,38,39,40,41,42,43,44,45,46,47]
def X16_2t8:=hP R16_2t8 R16_2t9 [20] [1,6,12,13,14,15,16,17,18,19,20,21,22,23,24,25,26,27,28,29,30,31,32,33,34,35,36,37,38,39,40,41,42,43,44,45,46,47] ⟨none,.mapUpd (.int .u8) (.t 12) (.c (.s (.int .u8 4))) (.t 20),none⟩
def T16_2p9:=hT R16_2p9 [21] [22] 23 [] [(22,.op (.mkFn 40 [.t 0] []) [.t 6])] [.tt 6,sb []]
def X16_2t9:=hS R16_2t9 R16_2p9 R16_2t10 [21] [22] [1,6,12,13,14,15,16,17,18,19,20,21,22,23,24,25,26,27,28,29,30,31,32,33,34,35,36,37,38,39,40,41,42,43,44,45,46,47]
def X16_2t10:=hP R16_2t10 R16_2t11 [22] [1,6,12,13,14,15,16,17,18,19,20,21,22,23,24,25,26,27,28,29,30,31,32,33,34,35,36,37,38,39,40,41,42,43,44,45,46,47] ⟨none,.mapUpd (.int .u8) (.t 12) (.c (.s (.int .u8 5))) (.t 22),none⟩
def T16_2p11:=hT R16_2p11 [23] [24] 25 [] [(24,.op (.mkFn 41 [.t 0] []) [.t 6])] [.tt 6,sb []]
def X16_2t11:=hS R16_2t11 R16_2p11 R16_2t12 [23] [24] [1,6,12,13,14,15,16,17,18,19,20,21,22,23,24,25,26,27,28,29,30,31,32,33,34,35,36,37,38,39,40,41,42,43,44,45,46,47]
def X16_2t12:=hP R16_2t12 R16_2t13 [24] [1,6,12,13,14,15,16,17,18,19,20,21,22,23,24,25,26,27,28,29,30,31,32,33,34,35,36,37,38,39,40,41,42,43,44,45,46,47] ⟨none,.mapUpd (.int .u8) (.t 12) (.c (.s (.int .u8 6))) (.t 24),none⟩
def T16_2p13:=hT R16_2p13 [25] [26] 27 [] [(26,.op (.mkFn 42 [.t 0] []) [.t 6])] [.tt 6,sb []]
def X16_2t13:=hS R16_2t13 R16_2p13 R16_2t14 [25] [26] [1,6,12,13,14,15,16,17,18,19,20,21,22,23,24,25,26,27,28,29,30,31,32,33,34,35,36,37,38,39,40,41,42,43,44,45,46,47]
def X16_2t14:=hP R16_2t14 R16_2t15 [26] [1,6,12,13,14,15,16,17,18,19,20,21,22,23,24,25,26,27,28,29,30,31,32,33,34,35,36,37,38,39,40,41,42,43,44,45,46,47] ⟨none,.mapUpd (.int .u8) (.t 12) (.c (.s (.int .u8 7))) (.t 26),none⟩
def T16_2p15:=hT R16_2p15 [27] [28] 29 [] [(28,.op (.mkFn 43 [.t 0] []) [.t 6])] [.tt 6,sb []]
def X16_2t15:=hS R16_2t15 R16_2p15 R16_2t16 [27] [28] [1,6,12,13,14,15,16,17,18,19,20,21,22,23,24,25,26,27,28,29,30,31,32,33,34,35,36,37,38,39,40,41,42,43,44,45,46,47]
def X16_2t16:=hP R16_2t16 R16_2t17 [28] [1,6,12,13,14,15,16,17,18,19,20,21,22,23,24,25,26,27,28,29,30,31,32,33,34,35,36,37,38,39,40,41,42,43,44,45,46,47] ⟨none,.mapUpd (.int .u8) (.t 12) (.c (.s (.int .u8 8))) (.t 28),none⟩
def T16_2p17:=hT R16_2p17 [29] [30] 31 [] [(30,.op (.mkFn 44 [.t 0] []) [.t 6])] [.tt 6,sb []]
def X16_2t17:=hS R16_2t17 R16_2p17 R16_2t18 [29] [30] [1,6,12,13,14,15,16,17,18,19,20,21,22,23,24,25,26,27,28,29,30,31,32,33,34,35,36,37,38,39,40,41,42,43,44,45,46,47]
def X16_2t18:=hP R16_2t18 R16_2t19 [30] [1,6,12,13,14,15,16,17,18,19,20,21,22,23,24,25,26,27,28,29,30,31,32,33,34,35,36,37,38,39,40,41,42,43,44,45,46,47] ⟨none,.mapUpd (.int .u8) (.t 12) (.c (.s (.int .u8 9))) (.t 30),none⟩
def T16_2p19:=hT R16_2p19 [31] [32] 33 [] [(32,.op (.mkFn 45 [.t 0] []) [.t 6])] [.tt 6,sb []]
def X16_2t19:=hS R16_2t19 R16_2p19 R16_2t20 [31] [32] [1,6,12,13,14,15,16,17,18,19,20,21,22,23,24,25,26,27,28,29,30,31,32,33,34,35,36,37,38,39,40,41,42,43,44,45,46,47]
def X16_2t20:=hP R16_2t20 R16_2t21 [32] [1,6,12,13,14,15,16,17,18,19,20,21,22,23,24,25,26,27,28,29,30,31,32,33,34,35,36,37,38,39,40,41,42,43,44,45,46,47] ⟨none,.mapUpd (.int .u8) (.t 12) (.c (.s (.int .u8 10))) (.t 32),none⟩
def T16_2p21:=hT R16_2p21 [33] [34] 35 [] [(34,.op (.mkFn 46 [.t 0] []) [.t 6])] [.tt 6,sb []]
def X16_2t21:=hS R16_2t21 R16_2p21 R16_2t22 [33] [34] [1,6,12,13,14,15,16,17,18,19,20,21,22,23,24,25,26,27,28,29,30,31,32,33,34,35,36,37,38,39,40,41,42,43,44,45,46,47]
def X16_2t22:=hP R16_2t22 R16_2t23 [34] [1,6,12,13,14,15,16,17,18,19,20,21,22,23,24,25,26,27,28,29,30,31,32,33,34,35,36,37,38,39,40,41,42,43,44,45,46,47] ⟨none,.mapUpd (.int .u8) (.t 12) (.c (.s (.int .u8 11))) (.t 34),none⟩
def T16_2p23:=hT R16_2p23 [35] [36] 37 [] [(36,.op (.mkFn 47 [.t 0] []) [.t 6])] [.tt 6,sb []]
def X16_2t23:=hS R16_2t23 R16_2p23 R16_2t24 [35] [36] [1,6,12,13,14,15,16,17,18,19,20,21,22,23,24,25,26,27,28,29,30,31,32,33,34,35,36,37,38,39,40,41,42,43,44,45,46,47]
def X16_2t24:=hP R16_2t24 R16_2t25 [36] [1,6,12,13,14,15,16,17,18,19,20,21,22,23,24,25,26,27,28,29,30,31,32,33,34,35,36,37,38,39,40,41,42,43,44,45,46,47] ⟨none,.mapUpd (.int .u8) (.t 12) (.c (.s (.int .u8 12))) (.t 36),none⟩
def T16_2p25:=hT R16_2p25 [37] [38] 39 [] [(38,.op (.mkFn 48 [.t 0] []) [.t 6])] [.tt 6,sb []]
def X16_2t25:=hS R16_2t25 R16_2p25 R16_2t26 [37] [38] [1,6,12,13,14,15,16,17,18,19,20,21,22,23,24,25,26,27,28,29,30,31,32,33,34,35,36,37,38,39,40,41,42,43,44,45,46,47]
def X16_2t26:=hP R16_2t26 R16_2t27 [38] [1,6,12,13,14,15,16,17,18,19,20,21,22,23,24,25,26,27,28,29,30,31,32,33,34,35,36,37,38,39,40,41,42,43,44,45,46,47] ⟨none,.mapUpd (.int .u8) (.t 12) (.c (.s (.int .u8 13))) (.t 38),none⟩
def T16_2p27:=hT R16_2p27 [39] [40] 41 [] [(40,.op (.mkFn 49 [.t 0] []) [.t 6])] [.tt 6,sb []]
def X16_2t27:=hS R16_2t27 R16_2p27 R16_2t28 [39] [40] [1,6,12,13,14,15,16,17,18,19,20,21,22,23,24,25,26,27,28,29,30,31,32,33,34,35,36,37,38,39,40,41,42,43,44,45,46,47]
def X16_2t28:=hP R16_2t28 R16_2t29 [40] [1,6,12,13,14,15,16,17,18,19,20,21,22,23,24,25,26,27,28,29,30,31,32,33,34,35,36,37,38,39,40,41,42,43,44,45,46,47] ⟨none,.mapUpd (.int .u8) (.t 12) (.c (.s (.int .u8 14))) (.t 40),none⟩
def T16_2p29:=hT R16_2p29 [41] [42] 43 [] [(42,.op (.mkFn 50 [.t 0] []) [.t 6])] [.tt 6,sb []]
def X16_2t29:=hS R16_2t29 R16_2p29 R16_2t30 [41] [42] [1,6,12,13,14,15,16,17,18,19,20,21,22,23,24,25,26,27,28,29,30,31,32,33,34,35,36,37,38,39,40,41,42,43,44,45,46,47]
def X16_2t30:=hP R16_2t30 R16_2t31 [42] [1,6,12,13,14,15,16,17,18,19,20,21,22,23,24,25,26,27,28,29,30,31,32,33,34,35,36,37,38,39,40,41,42,43,44,45,46,47] ⟨none,.mapUpd (.int .u8) (.t 12) (.c (.s (.int .u8 15))) (.t 42),none⟩
def T16_2p31:=hT R16_2p31 [6,43] [44] 45 [] [(44,.op (.mkFn 51 [.t 0] []) [.t 6])] [.tt 6,sb []]
def X16_2t31:=hS R16_2t31 R16_2p31 R16_2t32 [6,43] [44] [1,6,12,13,14,15,16,17,18,19,20,21,22,23,24,25,26,27,28,29,30,31,32,33,34,35,36,37,38,39,40,41,42,43,44,45,46,47]
def X16_2t32:=hP R16_2t32 R16_2t33 [44] [1,6,12,13,14,15,16,17,18,19,20,21,22,23,24,25,26,27,28,29,30,31,32,33,34,35,36,37,38,39,40,41,42,43,44,45,46,47] ⟨none,.mapUpd (.int .u8) (.t 12) (.c (.s (.int .u8 16))) (.t 44),none⟩
def T16_2t33:=hT R16_2t33 [1,6,12,13,14,15,16,17,18,19,20,21,22,23,24,25,26,27,28,29,30,31,32,33,34,35,36,37,38,39,40,41,42,43,44,45,46,47] [7] 48 [] [(7,.op (.mapGet (.int .u8) (.s .nilFunc) (.t 0) (.t 1) false) [.t 12,.t 1])] [.tt 12,.tt 1,sb [],sb []]
def X16_2t33:=hL R16_2t33 [1,6,12,13,14,15,16,17,18,19,20,21,22,23,24,25,26,27,28,29,30,31,32,33,34,35,36,37,38,39,40,41,42,43,44,45,46,47] [7]
def R16_3:LO:=[oM 48 7,⟨some 49,.eqNil .f false (.t 48),none⟩]
def T16_3:=hT R16_3 [48] [49] 50 [] [(49,.op (.eqNil .f false (.t 0)) [.t 7])] [.tt 7,sb []]
def R16_4t2:LO:=[⟨some 5,.move (.c (.s (.bool false))),none⟩]
def R16_4t1:LO:=⟨none,.store 3 (.t 4) (.t 50),none⟩ :: R16_4t2
def R16_4p0:LO:=[⟨some 50,.build [.s (.int .i64 0),.s (.int .i64 0),.s (.int .i64 0)] [(0,1),(1,1),(2,1)] [],none⟩]
def R16_4:LO:=R16_4p0 ++ R16_4t1
def T16_4p0:=hT R16_4p0 [7,49] [50] 51 [] [(50,.op (.build [.s (.int .i64 0),.s (.int .i64 0),.s (.int .i64 0)] [(0,1),(1,1),(2,1)] []) [])] [sb []]
def X16_4:=hS R16_4 R16_4p0 R16_4t1 [7,49] [50] [7,49,50]
def X16_4t1:=hP R16_4t1 R16_4t2 [50] [7,49,50] ⟨none,.store 3 (.t 4) (.t 50),none⟩
def T16_4t2:=hT R16_4t2 [7,49,50] [5] 6 [] [(5,.c (.s (.bool false)))] [.cc (.s (.bool false))]
def X16_4t2:=hL R16_4t2 [7,49,50] [5]
def R16_5t4:LO:=[oM 5 54]
def R16_5t3:LO:=⟨none,.store 3 (.t 4) (.t 53),none⟩ :: R16_5t4
def R16_5p2:LO:=[⟨some 53,.extract (.t 52) 0,none⟩,⟨some 54,.extract (.t 52) 1,none⟩]
def R16_5t2:LO:=R16_5p2 ++ R16_5t3
def R16_5t1:LO:=⟨some 52,.call (.t 51) [],none⟩ :: R16_5t2
def R16_5p0:LO:=[oM 51 7]
def R16_5:LO:=R16_5p0 ++ R16_5t1
def T16_5p0:=hT R16_5p0 [7,49] [51] 52 [] [(51,.t 7)] [.tt 7]
def X16_5:=hS R16_5 R16_5p0 R16_5t1 [7,49] [51] [7,49,51,52,53,54]
def X16_5t1:=hP R16_5t1 R16_5t2 [51] [7,49,51,52,53,54] ⟨some 52,.call (.t 51) [],none⟩
def T16_5p2:=hT R16_5p2 [52] [53,54] 55 [] [(53,.op (.extract (.t 0) 0) [.t 52]),(54,.op (.extract (.t 0) 1) [.t 52])] [sb [],.sub 1 [] []]
def X16_5t2:=hS R16_5t2 R16_5p2 R16_5t3 [52] [53,54] [7,49,51,52,53,54]
def X16_5t3:=hP R16_5t3 R16_5t4 [53] [7,49,51,52,53,54] ⟨none,.store 3 (.t 4) (.t 53),none⟩
def T16_5t4:=hT R16_5t4 [7,49,51,52,53,54] [5] 6 [] [(5,.t 54)] [.tt 54]
def X16_5t4:=hL R16_5t4 [7,49,51,52,53,54] [5]
def s_f16:ACFun:={ ntmps:=55,results:=[.cell 4 true 3,.tmp 5],body:=
 (.seq (.region R16_0 [] K16_0)
 (.seq (.region R16_1 [] [2,8,9,10,11])
 (.seq (.region R16_2 [] [1,6,12,13,14,15,16,17,18,19,20,21,22,23,24,25,26,27,28,29,30,31,32,33,34,35,36,37,38,39,40,41,42,43,44,45,46,47])
 (.seq (.seq (.regionE R16_3 [48] [49])
 (.cond (.t 49)
 (.seq (.region R16_4 [] [7,49,50])
 .ret)
 .skip))
 (.seq (.region R16_5 [] [7,49,51,52,53,54])
 .ret))))) }
theorem s_f16_first:firstOk (List.range' 2 (s_f16.ntmps - 2)) s_f16.body=true:=by kernel_rfl
abbrev k_f37:Nat:=37
def K37_0:List Nat:=[1] ++ List.range' 3 137
def A37_0_0:=hK K37_0 0
def A37_0_2:=hK K37_0 2
def A37_0_3:=hQ K37_0 3
def R37_0t1:LO:=[⟨some 3,.move (.c (.s (.bool false))),none⟩]
def R37_0p0:LO:=[⟨some 2,.alloc [.s (.int .i64 0),.s (.int .i64 0),.s (.int .i64 0)],none⟩]
def R37_0:LO:=R37_0p0 ++ R37_0t1
def K37_0p0:List Nat:=[1] ++ List.range' 3 137
def A37_0p0_0:=hK K37_0p0 0
def A37_0p0_2:=hK K37_0p0 2
def A37_0p0_3:=hQ K37_0p0 3
theorem X37_0 (call:CallF) (it:IterF) (base:Nat) (f:List V) (H:Heap):evC call it base (.region R37_0 [] K37_0) f H=thenC call it base (.region R37_0t1 [] K37_0) (opsC [] R37_0p0 K37_0p0 (evOps call base [⟨some 2,.alloc [.s (.int .i64 0),.s (.int .i64 0),.s (.int .i64 0)],none⟩] f H)):=(row_op call it base R37_0p0 R37_0t1 (kc:=K37_0p0) (by kernel_rfl) f H).trans (by rw [row_ops];rfl)
def T37_0t1:=hT R37_0t1 K37_0 [] 4 [] [] [.cc (.s (.bool false))]
def X37_0t1:=hL R37_0t1 K37_0 []
def R37_1:LO:=[oM 12 0,⟨some 13,.nilCheck (.t 12),none⟩,oF 14 0 13,oF 15 0 14,oL 16 15,⟨some 17,.lenS .s (.t 16),none⟩,⟨some 18,.move (.c (.s (.int .i64 0))),none⟩]
def T37_1:=hT R37_1 [12,13,14,15] [16,17,18] 19 [] [(16,.op (.load false 1 (.t 0)) [.op (.fieldAddr 0 (.t 0)) [.op (.fieldAddr 0 (.t 0)) [.op (.nilCheck (.t 0)) [.t 0]]]]),(17,.op (.lenS .s (.t 0)) [.op (.load false 1 (.t 0)) [.op (.fieldAddr 0 (.t 0)) [.op (.fieldAddr 0 (.t 0)) [.op (.nilCheck (.t 0)) [.t 0]]]]]),(18,.c (.s (.int .i64 0)))] [.tt 0,sb [0,0,0],sb [0,0],sb [0],sb [],.sub 1 [] [],.cc (.s (.int .i64 0))]
def R37_2:LO:=[⟨some 19,.bin .lss (.t 18) (.t 17),none⟩]
def T37_2:=hT R37_2 [] [19] 20 [] [(19,.op (.bin .lss (.t 0) (.t 1)) [.t 18,.t 17])] [sb []]
def R37_3t3:LO:=[⟨none,.store 3 (.t 5) (.t 22),none⟩]
def R37_3p2:LO:=[oM 4 20]
def R37_3t2:LO:=R37_3p2 ++ R37_3t3
def R37_3t1:LO:=⟨some 5,.alloc [.s (.string ⟨#[]⟩),.s (.slice none 0 0),.s (.slice none 0 0)],none⟩ :: R37_3t2
def R37_3p0:LO:=[oM 20 18,⟨some 21,.indexAddr 3 (.t 16) (.t 18),none⟩,⟨some 22,.load true 3 (.t 21),none⟩]
def R37_3:LO:=R37_3p0 ++ R37_3t1
def T37_3p0:=hT R37_3p0 [19,21] [20,22] 23 [] [(20,.t 18),(22,.op (.load true 3 (.t 0)) [.op (.indexAddr 3 (.t 0) (.t 1)) [.t 16,.t 18]])] [.tt 18,.sub 1 [0] [],.sub 1 [] []]
def X37_3:=hS R37_3 R37_3p0 R37_3t1 [19,21] [20,22] [19,20,21,22]
def X37_3t1:=hP R37_3t1 R37_3t2 [] [19,20,21,22] ⟨some 5,.alloc [.s (.string ⟨#[]⟩),.s (.slice none 0 0),.s (.slice none 0 0)],none⟩
def T37_3p2:=hT R37_3p2 [20] [4] 5 [] [(4,.t 20)] [.tt 20]
def X37_3t2:=hS R37_3t2 R37_3p2 R37_3t3 [20] [4] [19,20,21,22]
def X37_3t3:=hX R37_3t3 [19,20,21,22] [⟨none,.store 3 (.t 5) (.t 22),none⟩]
def R37_4t6:LO:=[⟨some 31,.pick (.t 27) (.c (.s (.bool true))) (.t 30),none⟩]
def R37_4t5:LO:=⟨some 30,.call (.c (.fn 93 [] [])) [.t 29,.c (.fn 94 [] [])],some (27,false)⟩ :: R37_4t6
def R37_4t4:LO:=gL 29 28 27 false :: R37_4t5
def R37_4t3:LO:=gF 28 1 5 27 false :: R37_4t4
def R37_4p2:LO:=[⟨some 26,.un .not (.t 25),none⟩,oM 27 26]
def R37_4t2:LO:=R37_4p2 ++ R37_4t3
def R37_4t1:LO:=⟨some 25,.call (.c (.fn 92 [] [])) [.t 24],none⟩ :: R37_4t2
def R37_4p0:LO:=[oF 23 0 5,oL 24 23]
def R37_4:LO:=R37_4p0 ++ R37_4t1
def T37_4p0:=hT R37_4p0 [23] [24] 25 [] [(24,.op (.load false 1 (.t 0)) [.op (.fieldAddr 0 (.t 0)) [.t 5]])] [sb [0],sb []]
def X37_4:=hS R37_4 R37_4p0 R37_4t1 [23] [24] [23,24,25,26,27,28,29,30]
def X37_4t1:=hP R37_4t1 R37_4t2 [24] [23,24,25,26,27,28,29,30] ⟨some 25,.call (.c (.fn 92 [] [])) [.t 24],none⟩
def T37_4p2:=hT R37_4p2 [25,26] [27] 28 [] [(27,.op (.un .not (.t 0)) [.t 25])] [sb [],sb []]
def X37_4t2:=hS R37_4t2 R37_4p2 R37_4t3 [25,26] [27] [23,24,25,26,27,28,29,30]
def X37_4t3:=hP R37_4t3 R37_4t4 [] [23,24,25,26,27,28,29,30] ⟨some 28,.fieldAddr 1 (.t 5),some (27,false)⟩
def X37_4t4:=hP R37_4t4 R37_4t5 [28] [23,24,25,26,27,28,29,30] ⟨some 29,.load false 1 (.t 28),some (27,false)⟩
def X37_4t5:=hP R37_4t5 R37_4t6 [29] [23,24,25,26,27,28,29,30] ⟨some 30,.call (.c (.fn 93 [] [])) [.t 29,.c (.fn 94 [] [])],some (27,false)⟩
def T37_4t6:=hT R37_4t6 [23,24,25,26,27,28,29,30] [31] 32 [] [(31,.pick (.t 27) (.c (.s (.bool true))) (.t 30))] [sb []]
def X37_4t6:=hL R37_4t6 [23,24,25,26,27,28,29,30] [31]
def R37_5t2:LO:=[⟨some 3,.move (.c (.s (.bool true))),none⟩]
def R37_5t1:LO:=⟨none,.store 3 (.t 2) (.t 33),none⟩ :: R37_5t2
def R37_5p0:LO:=[oM 32 4,⟨some 33,.build [.s (.int .i64 0),.s (.int .i64 0),.s (.int .i64 0)] [(0,1),(1,1),(2,1)] [(0,.t 32)],none⟩]
def R37_5:LO:=R37_5p0 ++ R37_5t1
def T37_5p0:=hT R37_5p0 [0,4,5,16,17,18,31,32] [33] 34 [] [(33,.op (.build [.s (.int .i64 0),.s (.int .i64 0),.s (.int .i64 0)] [(0,1),(1,1),(2,1)] [(0,.t 0)]) [.t 4])] [.tt 4,sb []]
def X37_5:=hS R37_5 R37_5p0 R37_5t1 [0,4,5,16,17,18,31,32] [33] [0,4,5,16,17,18,31,32,33]
def X37_5t1:=hP R37_5t1 R37_5t2 [33] [0,4,5,16,17,18,31,32,33] ⟨none,.store 3 (.t 2) (.t 33),none⟩
def T37_5t2:=hT R37_5t2 [0,4,5,16,17,18,31,32,33] [3] 4 [] [(3,.c (.s (.bool true)))] [.cc (.s (.bool true))]
def X37_5t2:=hL R37_5t2 [0,4,5,16,17,18,31,32,33] [3]
def R37_6:LO:=[oF 34 2 5,oL 35 34,⟨some 36,.lenS .s (.t 35),none⟩,⟨some 37,.move (.c (.s (.int .i64 0))),none⟩]
def T37_6:=hT R37_6 [5,31,34] [35,36,37] 38 [] [(35,.op (.load false 1 (.t 0)) [.op (.fieldAddr 2 (.t 0)) [.t 5]]),(36,.op (.lenS .s (.t 0)) [.op (.load false 1 (.t 0)) [.op (.fieldAddr 2 (.t 0)) [.t 5]]]),(37,.c (.s (.int .i64 0)))] [sb [0],sb [],.sub 1 [] [],.cc (.s (.int .i64 0))]
def R37_7:LO:=[⟨some 38,.bin .lss (.t 37) (.t 36),none⟩]
def T37_7:=hT R37_7 [] [38] 39 [] [(38,.op (.bin .lss (.t 0) (.t 1)) [.t 37,.t 36])] [sb []]
def R37_8t3:LO:=[⟨none,.store 2 (.t 7) (.t 41),none⟩]
def R37_8p2:LO:=[oM 6 39]
def R37_8t2:LO:=R37_8p2 ++ R37_8t3
def R37_8t1:LO:=⟨some 7,.alloc [.s (.string ⟨#[]⟩),.s (.slice none 0 0)],none⟩ :: R37_8t2
def R37_8p0:LO:=[oM 39 37,⟨some 40,.indexAddr 2 (.t 35) (.t 37),none⟩,⟨some 41,.load true 2 (.t 40),none⟩]
def R37_8:LO:=R37_8p0 ++ R37_8t1
def T37_8p0:=hT R37_8p0 [38,40] [39,41] 42 [] [(39,.t 37),(41,.op (.load true 2 (.t 0)) [.op (.indexAddr 2 (.t 0) (.t 1)) [.t 35,.t 37]])] [.tt 37,.sub 1 [0] [],.sub 1 [] []]
def X37_8:=hS R37_8 R37_8p0 R37_8t1 [38,40] [39,41] [38,39,40,41]
def X37_8t1:=hP R37_8t1 R37_8t2 [] [38,39,40,41] ⟨some 7,.alloc [.s (.string ⟨#[]⟩),.s (.slice none 0 0)],none⟩
def T37_8p2:=hT R37_8p2 [39] [6] 7 [] [(6,.t 39)] [.tt 39]
def X37_8t2:=hS R37_8t2 R37_8p2 R37_8t3 [39] [6] [38,39,40,41]
def X37_8t3:=hX R37_8t3 [38,39,40,41] [⟨none,.store 2 (.t 7) (.t 41),none⟩]
def R37_9t2:LO:=[⟨some 45,.un .not (.t 44),none⟩]
def R37_9t1:LO:=⟨some 44,.call (.c (.fn 92 [] [])) [.t 43],none⟩ :: R37_9t2
def R37_9p0:LO:=[oF 42 0 7,oL 43 42]
def R37_9:LO:=R37_9p0 ++ R37_9t1
def T37_9p0:=hT R37_9p0 [42] [43] 44 [] [(43,.op (.load false 1 (.t 0)) [.op (.fieldAddr 0 (.t 0)) [.t 7]])] [sb [0],sb []]
def X37_9:=hS R37_9 R37_9p0 R37_9t1 [42] [43] [42,43,44]
def X37_9t1:=hP R37_9t1 R37_9t2 [43] [42,43,44] ⟨some 44,.call (.c (.fn 92 [] [])) [.t 43],none⟩
def T37_9t2:=hT R37_9t2 [42,43,44] [45] 46 [] [(45,.op (.un .not (.t 0)) [.t 44])] [sb []]
def X37_9t2:=hL R37_9t2 [42,43,44] [45]
def R37_10t2:LO:=[⟨some 3,.move (.c (.s (.bool true))),none⟩]
def R37_10t1:LO:=⟨none,.store 3 (.t 2) (.t 48),none⟩ :: R37_10t2
def R37_10p0:LO:=[oM 46 4,oM 47 6,⟨some 48,.build [.s (.int .i64 0),.s (.int .i64 0),.s (.int .i64 0)] [(0,1),(1,1),(2,1)] [(0,.t 46),(1,.t 47)],none⟩]
def R37_10:LO:=R37_10p0 ++ R37_10t1
def T37_10p0:=hT R37_10p0 [0,4,6,7,16,17,18,35,36,37,45,46,47] [48] 49 [] [(48,.op (.build [.s (.int .i64 0),.s (.int .i64 0),.s (.int .i64 0)] [(0,1),(1,1),(2,1)] [(0,.t 0),(1,.t 1)]) [.t 4,.t 6])] [.tt 4,.tt 6,sb []]
def X37_10:=hS R37_10 R37_10p0 R37_10t1 [0,4,6,7,16,17,18,35,36,37,45,46,47] [48] [0,4,6,7,16,17,18,35,36,37,45,46,47,48]
def X37_10t1:=hP R37_10t1 R37_10t2 [48] [0,4,6,7,16,17,18,35,36,37,45,46,47,48] ⟨none,.store 3 (.t 2) (.t 48),none⟩
def T37_10t2:=hT R37_10t2 [0,4,6,7,16,17,18,35,36,37,45,46,47,48] [3] 4 [] [(3,.c (.s (.bool true)))] [.cc (.s (.bool true))]
def X37_10t2:=hL R37_10t2 [0,4,6,7,16,17,18,35,36,37,45,46,47,48] [3]
def R37_11:LO:=[oF 49 1 7,oL 50 49,⟨some 51,.lenS .s (.t 50),none⟩,⟨some 52,.move (.c (.s (.int .i64 0))),none⟩]
def T37_11:=hT R37_11 [7,45,49] [50,51,52] 53 [] [(50,.op (.load false 1 (.t 0)) [.op (.fieldAddr 1 (.t 0)) [.t 7]]),(51,.op (.lenS .s (.t 0)) [.op (.load false 1 (.t 0)) [.op (.fieldAddr 1 (.t 0)) [.t 7]]]),(52,.c (.s (.int .i64 0)))] [sb [0],sb [],.sub 1 [] [],.cc (.s (.int .i64 0))]
def R37_12:LO:=[⟨some 53,.bin .lss (.t 52) (.t 51),none⟩]
def T37_12:=hT R37_12 [] [53] 54 [] [(53,.op (.bin .lss (.t 0) (.t 1)) [.t 52,.t 51])] [sb []]
def R37_13t3:LO:=[⟨none,.store 8 (.t 9) (.t 56),none⟩]
def R37_13p2:LO:=[oM 8 54]
def R37_13t2:LO:=R37_13p2 ++ R37_13t3
def R37_13t1:LO:=⟨some 9,.alloc [.s (.int .u8 0),.s (.string ⟨#[]⟩),.s (.string ⟨#[]⟩),.s (.string ⟨#[]⟩),.s (.int .i64 0),.s (.string ⟨#[]⟩),.s (.slice none 0 0),.s (.slice none 0 0)],none⟩ :: R37_13t2
def R37_13p0:LO:=[oM 54 52,⟨some 55,.indexAddr 8 (.t 50) (.t 52),none⟩,⟨some 56,.load true 8 (.t 55),none⟩]
def R37_13:LO:=R37_13p0 ++ R37_13t1
def T37_13p0:=hT R37_13p0 [53,55] [54,56] 57 [] [(54,.t 52),(56,.op (.load true 8 (.t 0)) [.op (.indexAddr 8 (.t 0) (.t 1)) [.t 50,.t 52]])] [.tt 52,.sub 1 [0] [],.sub 1 [] []]
def X37_13:=hS R37_13 R37_13p0 R37_13t1 [53,55] [54,56] [53,54,55,56]
def X37_13t1:=hP R37_13t1 R37_13t2 [] [53,54,55,56] ⟨some 9,.alloc [.s (.int .u8 0),.s (.string ⟨#[]⟩),.s (.string ⟨#[]⟩),.s (.string ⟨#[]⟩),.s (.int .i64 0),.s (.string ⟨#[]⟩),.s (.slice none 0 0),.s (.slice none 0 0)],none⟩
def T37_13p2:=hT R37_13p2 [54] [8] 9 [] [(8,.t 54)] [.tt 54]
def X37_13t2:=hS R37_13t2 R37_13p2 R37_13t3 [54] [8] [53,54,55,56]
def X37_13t3:=hX R37_13t3 [53,54,55,56] [⟨none,.store 8 (.t 9) (.t 56),none⟩]
def R37_14t2:LO:=[⟨none,.store 7 (.t 10) (.t 63),none⟩]
def R37_14t1:LO:=⟨some 10,.alloc [.s (.bool false),.s (.bool false),.s (.bool false),.s (.bool false),.s (.bool false),.s (.bool false),.s (.bool false)],none⟩ :: R37_14t2
def R37_14p0:LO:=[oM 57 0,⟨some 58,.nilCheck (.t 57),none⟩,oF 59 1 58,oL 60 59,oF 61 0 9,oL 62 61,⟨some 63,.mapGet (.int .u8) (.agg [.s (.bool false),.s (.bool false),.s (.bool false),.s (.bool false),.s (.bool false),.s (.bool false),.s (.bool false)]) (.t 60) (.t 62) false,none⟩]
def R37_14:LO:=R37_14p0 ++ R37_14t1
def T37_14p0:=hT R37_14p0 [57,58,59,60,61,62] [63] 64 [] [(63,.op (.mapGet (.int .u8) (.agg [.s (.bool false),.s (.bool false),.s (.bool false),.s (.bool false),.s (.bool false),.s (.bool false),.s (.bool false)]) (.t 0) (.t 1) false) [.op (.load false 1 (.t 0)) [.op (.fieldAddr 1 (.t 0)) [.op (.nilCheck (.t 0)) [.t 0]]],.op (.load false 1 (.t 0)) [.op (.fieldAddr 0 (.t 0)) [.t 9]]])] [.tt 0,sb [0,0,0],sb [0,0],sb [0],sb [1,0],sb [1],sb []]
def X37_14:=hS R37_14 R37_14p0 R37_14t1 [57,58,59,60,61,62] [63] [57,58,59,60,61,62,63]
def X37_14t1:=hP R37_14t1 R37_14t2 [] [57,58,59,60,61,62,63] ⟨some 10,.alloc [.s (.bool false),.s (.bool false),.s (.bool false),.s (.bool false),.s (.bool false),.s (.bool false),.s (.bool false)],none⟩
def X37_14t2:=hX R37_14t2 [57,58,59,60,61,62,63] [⟨none,.store 7 (.t 10) (.t 63),none⟩]
def R37_15t29:LO:=[⟨some 100,.pick (.t 95) (.t 99) (.c (.s (.bool false))),some (92,false)⟩,⟨some 101,.pick (.t 92) (.c (.s (.bool true))) (.t 100),none⟩,oM 11 101]
def R37_15t28:LO:=⟨some 99,.call (.c (.fn 95 [] [])) [.c (.s (.bool true)),.t 98],some (95,true)⟩ :: R37_15t29
def R37_15t27:LO:=⟨some 98,.buildSl 1 1 [.s (.string ⟨#[]⟩)] [(0,.t 97)],some (95,true)⟩ :: R37_15t28
def R37_15t26:LO:=gL 97 96 95 true :: R37_15t27
def R37_15t25:LO:=gF 96 3 9 95 true :: R37_15t26
def R37_15t24:LO:=gM 95 94 92 false :: R37_15t25
def R37_15t23:LO:=gL 94 93 92 false :: R37_15t24
def R37_15t22:LO:=gF 93 2 10 92 false :: R37_15t23
def R37_15p21:LO:=[⟨some 90,.pick (.t 85) (.t 89) (.c (.s (.bool false))),some (82,false)⟩,⟨some 91,.pick (.t 82) (.c (.s (.bool true))) (.t 90),none⟩,oM 92 91]
def R37_15t21:LO:=R37_15p21 ++ R37_15t22
def R37_15t20:LO:=⟨some 89,.call (.c (.fn 95 [] [])) [.c (.s (.bool true)),.t 88],some (85,true)⟩ :: R37_15t21
def R37_15t19:LO:=⟨some 88,.buildSl 1 1 [.s (.string ⟨#[]⟩)] [(0,.t 87)],some (85,true)⟩ :: R37_15t20
def R37_15t18:LO:=gL 87 86 85 true :: R37_15t19
def R37_15t17:LO:=gF 86 2 9 85 true :: R37_15t18
def R37_15t16:LO:=gM 85 84 82 false :: R37_15t17
def R37_15t15:LO:=gL 84 83 82 false :: R37_15t16
def R37_15t14:LO:=gF 83 1 10 82 false :: R37_15t15
def R37_15p13:LO:=[⟨some 80,.pick (.t 75) (.t 79) (.c (.s (.bool false))),some (72,false)⟩,⟨some 81,.pick (.t 72) (.c (.s (.bool true))) (.t 80),none⟩,oM 82 81]
def R37_15t13:LO:=R37_15p13 ++ R37_15t14
def R37_15t12:LO:=⟨some 79,.call (.c (.fn 95 [] [])) [.c (.s (.bool false)),.t 78],some (75,true)⟩ :: R37_15t13
def R37_15t11:LO:=⟨some 78,.buildSl 1 1 [.s (.string ⟨#[]⟩)] [(0,.t 77)],some (75,true)⟩ :: R37_15t12
def R37_15t10:LO:=gL 77 76 75 true :: R37_15t11
def R37_15t9:LO:=gF 76 5 9 75 true :: R37_15t10
def R37_15t8:LO:=gM 75 74 72 false :: R37_15t9
def R37_15t7:LO:=gL 74 73 72 false :: R37_15t8
def R37_15t6:LO:=gF 73 4 10 72 false :: R37_15t7
def R37_15p5:LO:=[⟨some 71,.pick (.t 66) (.t 70) (.c (.s (.bool false))),none⟩,oM 72 71]
def R37_15t5:LO:=R37_15p5 ++ R37_15t6
def R37_15t4:LO:=⟨some 70,.call (.c (.fn 95 [] [])) [.c (.s (.bool false)),.t 69],some (66,true)⟩ :: R37_15t5
def R37_15t3:LO:=⟨some 69,.buildSl 1 1 [.s (.string ⟨#[]⟩)] [(0,.t 68)],some (66,true)⟩ :: R37_15t4
def R37_15t2:LO:=gL 68 67 66 true :: R37_15t3
def R37_15t1:LO:=gF 67 1 9 66 true :: R37_15t2
def R37_15p0:LO:=[oF 64 0 10,oL 65 64,oM 66 65]
def R37_15:LO:=R37_15p0 ++ R37_15t1
def T37_15p0:=hT R37_15p0 [64,65] [66] 67 [] [(66,.op (.load false 1 (.t 0)) [.op (.fieldAddr 0 (.t 0)) [.t 10]])] [sb [0],sb [],sb []]
def X37_15:=hS R37_15 R37_15p0 R37_15t1 [64,65] [66] [64,65,66,67,68,69,70,71,72,73,74,75,76,77,78,79,80,81,82,83,84,85,86,87,88,89,90,91,92,93,94,95,96,97,98,99,100,101]
def X37_15t1:=hP R37_15t1 R37_15t2 [] [64,65,66,67,68,69,70,71,72,73,74,75,76,77,78,79,80,81,82,83,84,85,86,87,88,89,90,91,92,93,94,95,96,97,98,99,100,101] ⟨some 67,.fieldAddr 1 (.t 9),some (66,true)⟩
def X37_15t2:=hP R37_15t2 R37_15t3 [67] [64,65,66,67,68,69,70,71,72,73,74,75,76,77,78,79,80,81,82,83,84,85,86,87,88,89,90,91,92,93,94,95,96,97,98,99,100,101] ⟨some 68,.load false 1 (.t 67),some (66,true)⟩
def X37_15t3:=hP R37_15t3 R37_15t4 [68] [64,65,66,67,68,69,70,71,72,73,74,75,76,77,78,79,80,81,82,83,84,85,86,87,88,89,90,91,92,93,94,95,96,97,98,99,100,101] ⟨some 69,.buildSl 1 1 [.s (.string ⟨#[]⟩)] [(0,.t 68)],some (66,true)⟩
def X37_15t4:=hP R37_15t4 R37_15t5 [69] [64,65,66,67,68,69,70,71,72,73,74,75,76,77,78,79,80,81,82,83,84,85,86,87,88,89,90,91,92,93,94,95,96,97,98,99,100,101] ⟨some 70,.call (.c (.fn 95 [] [])) [.c (.s (.bool false)),.t 69],some (66,true)⟩
def T37_15p5:=hT R37_15p5 [66,70,71] [72] 73 [] [(72,.pick (.t 66) (.t 70) (.c (.s (.bool false))))] [sb [],sb []]
def X37_15t5:=hS R37_15t5 R37_15p5 R37_15t6 [66,70,71] [72] [64,65,66,67,68,69,70,71,72,73,74,75,76,77,78,79,80,81,82,83,84,85,86,87,88,89,90,91,92,93,94,95,96,97,98,99,100,101]
def X37_15t6:=hP R37_15t6 R37_15t7 [] [64,65,66,67,68,69,70,71,72,73,74,75,76,77,78,79,80,81,82,83,84,85,86,87,88,89,90,91,92,93,94,95,96,97,98,99,100,101] ⟨some 73,.fieldAddr 4 (.t 10),some (72,false)⟩
def X37_15t7:=hP R37_15t7 R37_15t8 [73] [64,65,66,67,68,69,70,71,72,73,74,75,76,77,78,79,80,81,82,83,84,85,86,87,88,89,90,91,92,93,94,95,96,97,98,99,100,101] ⟨some 74,.load false 1 (.t 73),some (72,false)⟩
def X37_15t8:=hP R37_15t8 R37_15t9 [74] [64,65,66,67,68,69,70,71,72,73,74,75,76,77,78,79,80,81,82,83,84,85,86,87,88,89,90,91,92,93,94,95,96,97,98,99,100,101] ⟨some 75,.move (.t 74),some (72,false)⟩
def X37_15t9:=hP R37_15t9 R37_15t10 [] [64,65,66,67,68,69,70,71,72,73,74,75,76,77,78,79,80,81,82,83,84,85,86,87,88,89,90,91,92,93,94,95,96,97,98,99,100,101] ⟨some 76,.fieldAddr 5 (.t 9),some (75,true)⟩
def X37_15t10:=hP R37_15t10 R37_15t11 [76] [64,65,66,67,68,69,70,71,72,73,74,75,76,77,78,79,80,81,82,83,84,85,86,87,88,89,90,91,92,93,94,95,96,97,98,99,100,101] ⟨some 77,.load false 1 (.t 76),some (75,true)⟩
def X37_15t11:=hP R37_15t11 R37_15t12 [77] [64,65,66,67,68,69,70,71,72,73,74,75,76,77,78,79,80,81,82,83,84,85,86,87,88,89,90,91,92,93,94,95,96,97,98,99,100,101] ⟨some 78,.buildSl 1 1 [.s (.string ⟨#[]⟩)] [(0,.t 77)],some (75,true)⟩
def X37_15t12:=hP R37_15t12 R37_15t13 [78] [64,65,66,67,68,69,70,71,72,73,74,75,76,77,78,79,80,81,82,83,84,85,86,87,88,89,90,91,92,93,94,95,96,97,98,99,100,101] ⟨some 79,.call (.c (.fn 95 [] [])) [.c (.s (.bool false)),.t 78],some (75,true)⟩
def T37_15p13:=hT R37_15p13 [72,75,79,80,81] [82] 83 [] [(82,.pick (.t 72) (.c (.s (.bool true))) (.pick (.t 75) (.t 79) (.c (.s (.bool false)))))] [.sub 0 [2] [72],sb [],sb []]
def X37_15t13:=hS R37_15t13 R37_15p13 R37_15t14 [72,75,79,80,81] [82] [64,65,66,67,68,69,70,71,72,73,74,75,76,77,78,79,80,81,82,83,84,85,86,87,88,89,90,91,92,93,94,95,96,97,98,99,100,101]
def X37_15t14:=hP R37_15t14 R37_15t15 [] [64,65,66,67,68,69,70,71,72,73,74,75,76,77,78,79,80,81,82,83,84,85,86,87,88,89,90,91,92,93,94,95,96,97,98,99,100,101] ⟨some 83,.fieldAddr 1 (.t 10),some (82,false)⟩
def X37_15t15:=hP R37_15t15 R37_15t16 [83] [64,65,66,67,68,69,70,71,72,73,74,75,76,77,78,79,80,81,82,83,84,85,86,87,88,89,90,91,92,93,94,95,96,97,98,99,100,101] ⟨some 84,.load false 1 (.t 83),some (82,false)⟩
def X37_15t16:=hP R37_15t16 R37_15t17 [84] [64,65,66,67,68,69,70,71,72,73,74,75,76,77,78,79,80,81,82,83,84,85,86,87,88,89,90,91,92,93,94,95,96,97,98,99,100,101] ⟨some 85,.move (.t 84),some (82,false)⟩
def X37_15t17:=hP R37_15t17 R37_15t18 [] [64,65,66,67,68,69,70,71,72,73,74,75,76,77,78,79,80,81,82,83,84,85,86,87,88,89,90,91,92,93,94,95,96,97,98,99,100,101] ⟨some 86,.fieldAddr 2 (.t 9),some (85,true)⟩
def X37_15t18:=hP R37_15t18 R37_15t19 [86] [64,65,66,67,68,69,70,71,72,73,74,75,76,77,78,79,80,81,82,83,84,85,86,87,88,89,90,91,92,93,94,95,96,97,98,99,100,101] ⟨some 87,.load false 1 (.t 86),some (85,true)⟩
def X37_15t19:=hP R37_15t19 R37_15t20 [87] [64,65,66,67,68,69,70,71,72,73,74,75,76,77,78,79,80,81,82,83,84,85,86,87,88,89,90,91,92,93,94,95,96,97,98,99,100,101] ⟨some 88,.buildSl 1 1 [.s (.string ⟨#[]⟩)] [(0,.t 87)],some (85,true)⟩
def X37_15t20:=hP R37_15t20 R37_15t21 [88] [64,65,66,67,68,69,70,71,72,73,74,75,76,77,78,79,80,81,82,83,84,85,86,87,88,89,90,91,92,93,94,95,96,97,98,99,100,101] ⟨some 89,.call (.c (.fn 95 [] [])) [.c (.s (.bool true)),.t 88],some (85,true)⟩
def T37_15p21:=hT R37_15p21 [82,85,89,90,91] [92] 93 [] [(92,.pick (.t 82) (.c (.s (.bool true))) (.pick (.t 85) (.t 89) (.c (.s (.bool false)))))] [.sub 0 [2] [82],sb [],sb []]
def X37_15t21:=hS R37_15t21 R37_15p21 R37_15t22 [82,85,89,90,91] [92] [64,65,66,67,68,69,70,71,72,73,74,75,76,77,78,79,80,81,82,83,84,85,86,87,88,89,90,91,92,93,94,95,96,97,98,99,100,101]
def X37_15t22:=hP R37_15t22 R37_15t23 [] [64,65,66,67,68,69,70,71,72,73,74,75,76,77,78,79,80,81,82,83,84,85,86,87,88,89,90,91,92,93,94,95,96,97,98,99,100,101] ⟨some 93,.fieldAddr 2 (.t 10),some (92,false)⟩
def X37_15t23:=hP R37_15t23 R37_15t24 [93] [64,65,66,67,68,69,70,71,72,73,74,75,76,77,78,79,80,81,82,83,84,85,86,87,88,89,90,91,92,93,94,95,96,97,98,99,100,101] ⟨some 94,.load false 1 (.t 93),some (92,false)⟩
def X37_15t24:=hP R37_15t24 R37_15t25 [94] [64,65,66,67,68,69,70,71,72,73,74,75,76,77,78,79,80,81,82,83,84,85,86,87,88,89,90,91,92,93,94,95,96,97,98,99,100,101] ⟨some 95,.move (.t 94),some (92,false)⟩
def X37_15t25:=hP R37_15t25 R37_15t26 [] [64,65,66,67,68,69,70,71,72,73,74,75,76,77,78,79,80,81,82,83,84,85,86,87,88,89,90,91,92,93,94,95,96,97,98,99,100,101] ⟨some 96,.fieldAddr 3 (.t 9),some (95,true)⟩
def X37_15t26:=hP R37_15t26 R37_15t27 [96] [64,65,66,67,68,69,70,71,72,73,74,75,76,77,78,79,80,81,82,83,84,85,86,87,88,89,90,91,92,93,94,95,96,97,98,99,100,101] ⟨some 97,.load false 1 (.t 96),some (95,true)⟩
def X37_15t27:=hP R37_15t27 R37_15t28 [97] [64,65,66,67,68,69,70,71,72,73,74,75,76,77,78,79,80,81,82,83,84,85,86,87,88,89,90,91,92,93,94,95,96,97,98,99,100,101] ⟨some 98,.buildSl 1 1 [.s (.string ⟨#[]⟩)] [(0,.t 97)],some (95,true)⟩
def X37_15t28:=hP R37_15t28 R37_15t29 [98] [64,65,66,67,68,69,70,71,72,73,74,75,76,77,78,79,80,81,82,83,84,85,86,87,88,89,90,91,92,93,94,95,96,97,98,99,100,101] ⟨some 99,.call (.c (.fn 95 [] [])) [.c (.s (.bool true)),.t 98],some (95,true)⟩
def T37_15t29:=hT R37_15t29 [64,65,66,67,68,69,70,71,72,73,74,75,76,77,78,79,80,81,82,83,84,85,86,87,88,89,90,91,92,93,94,95,96,97,98,99,100,101] [11] 102 [] [(11,.pick (.t 92) (.c (.s (.bool true))) (.pick (.t 95) (.t 99) (.c (.s (.bool false)))))] [.sub 0 [2] [92],sb [],sb []]
def X37_15t29:=hL R37_15t29 [64,65,66,67,68,69,70,71,72,73,74,75,76,77,78,79,80,81,82,83,84,85,86,87,88,89,90,91,92,93,94,95,96,97,98,99,100,101] [11]
def R37_16t22:LO:=[⟨some 128,.pick (.t 124) (.c (.s (.bool true))) (.t 127),some (120,true)⟩,⟨some 129,.pick (.t 120) (.t 128) (.c (.s (.bool false))),some (117,false)⟩,⟨some 130,.pick (.t 117) (.c (.s (.bool true))) (.t 129),none⟩,⟨some 11,.move (.t 130),none⟩]
def R37_16p21:LO:=[⟨some 127,.call (.c (.fn 96 [] [])) [.t 126,.c (.s (.string ⟨#[]⟩))],some (124,false)⟩]
def R37_16t21:LO:=⟨some 127,.call (.c (.fn 96 [] [])) [.t 126,.c (.s (.string ⟨#[]⟩))],some (124,false)⟩ :: R37_16t22
def R37_16p20:LO:=[⟨some 126,.load false 1 (.t 125),some (124,false)⟩]
def R37_16t20:LO:=⟨some 126,.load false 1 (.t 125),some (124,false)⟩ :: R37_16t21
def R37_16p19:LO:=[⟨some 125,.fieldAddr 7 (.t 9),some (124,false)⟩]
def R37_16t19:LO:=⟨some 125,.fieldAddr 7 (.t 9),some (124,false)⟩ :: R37_16t20
def R37_16p18:LO:=[⟨some 124,.move (.t 123),some (120,true)⟩]
def R37_16t18:LO:=⟨some 124,.move (.t 123),some (120,true)⟩ :: R37_16t19
def R37_16p17:LO:=[⟨some 123,.call (.c (.fn 95 [] [])) [.c (.s (.bool false)),.t 122],some (120,true)⟩]
def R37_16t17:LO:=⟨some 123,.call (.c (.fn 95 [] [])) [.c (.s (.bool false)),.t 122],some (120,true)⟩ :: R37_16t18
def R37_16p16:LO:=[⟨some 122,.load false 1 (.t 121),some (120,true)⟩]
def R37_16t16:LO:=⟨some 122,.load false 1 (.t 121),some (120,true)⟩ :: R37_16t17
def R37_16p15:LO:=[⟨some 121,.fieldAddr 7 (.t 9),some (120,true)⟩]
def R37_16t15:LO:=⟨some 121,.fieldAddr 7 (.t 9),some (120,true)⟩ :: R37_16t16
def R37_16p14:LO:=[⟨some 120,.move (.t 119),some (117,false)⟩]
def R37_16t14:LO:=⟨some 120,.move (.t 119),some (117,false)⟩ :: R37_16t15
def R37_16p13:LO:=[⟨some 119,.load false 1 (.t 118),some (117,false)⟩]
def R37_16t13:LO:=⟨some 119,.load false 1 (.t 118),some (117,false)⟩ :: R37_16t14
def R37_16p12:LO:=[⟨some 118,.fieldAddr 6 (.t 10),some (117,false)⟩]
def R37_16t12:LO:=⟨some 118,.fieldAddr 6 (.t 10),some (117,false)⟩ :: R37_16t13
def R37_16p11:LO:=[⟨some 114,.pick (.t 110) (.c (.s (.bool true))) (.t 113),some (106,true)⟩,⟨some 115,.pick (.t 106) (.t 114) (.c (.s (.bool false))),some (103,false)⟩,⟨some 116,.pick (.t 103) (.c (.s (.bool true))) (.t 115),none⟩,⟨some 117,.move (.t 116),none⟩]
def R37_16t11:LO:=R37_16p11 ++ R37_16t12
def R37_16t10:LO:=⟨some 113,.call (.c (.fn 96 [] [])) [.t 112,.c (.s (.string ⟨#[]⟩))],some (110,false)⟩ :: R37_16t11
def R37_16t9:LO:=⟨some 112,.load false 1 (.t 111),some (110,false)⟩ :: R37_16t10
def R37_16t8:LO:=⟨some 111,.fieldAddr 6 (.t 9),some (110,false)⟩ :: R37_16t9
def R37_16t7:LO:=⟨some 110,.move (.t 109),some (106,true)⟩ :: R37_16t8
def R37_16t6:LO:=⟨some 109,.call (.c (.fn 95 [] [])) [.c (.s (.bool true)),.t 108],some (106,true)⟩ :: R37_16t7
def R37_16t5:LO:=⟨some 108,.load false 1 (.t 107),some (106,true)⟩ :: R37_16t6
def R37_16t4:LO:=⟨some 107,.fieldAddr 6 (.t 9),some (106,true)⟩ :: R37_16t5
def R37_16t3:LO:=⟨some 106,.move (.t 105),some (103,false)⟩ :: R37_16t4
def R37_16t2:LO:=⟨some 105,.load false 1 (.t 104),some (103,false)⟩ :: R37_16t3
def R37_16t1:LO:=⟨some 104,.fieldAddr 5 (.t 10),some (103,false)⟩ :: R37_16t2
def R37_16p0:LO:=[⟨some 102,.move (.t 11),none⟩,⟨some 103,.move (.t 102),none⟩]
def R37_16:LO:=R37_16p0 ++ R37_16t1
def T37_16p0:=hT R37_16p0 [11,102] [103] 104 [] [(103,.t 11)] [.tt 11,.tt 11]
def X37_16:=hS R37_16 R37_16p0 R37_16t1 [11,102] [103] [9,10,102,103,104,105,106,107,108,109,110,111,112,113,114,115,116,117,118,119,120,121,122,123,124,125,126,127,128,129,130]
def X37_16t1:=hP R37_16t1 R37_16t2 [] [9,10,102,103,104,105,106,107,108,109,110,111,112,113,114,115,116,117,118,119,120,121,122,123,124,125,126,127,128,129,130] ⟨some 104,.fieldAddr 5 (.t 10),some (103,false)⟩
def X37_16t2:=hP R37_16t2 R37_16t3 [104] [9,10,102,103,104,105,106,107,108,109,110,111,112,113,114,115,116,117,118,119,120,121,122,123,124,125,126,127,128,129,130] ⟨some 105,.load false 1 (.t 104),some (103,false)⟩
def X37_16t3:=hP R37_16t3 R37_16t4 [105] [9,10,102,103,104,105,106,107,108,109,110,111,112,113,114,115,116,117,118,119,120,121,122,123,124,125,126,127,128,129,130] ⟨some 106,.move (.t 105),some (103,false)⟩
def X37_16t4:=hP R37_16t4 R37_16t5 [] [9,10,102,103,104,105,106,107,108,109,110,111,112,113,114,115,116,117,118,119,120,121,122,123,124,125,126,127,128,129,130] ⟨some 107,.fieldAddr 6 (.t 9),some (106,true)⟩
def X37_16t5:=hP R37_16t5 R37_16t6 [107] [9,10,102,103,104,105,106,107,108,109,110,111,112,113,114,115,116,117,118,119,120,121,122,123,124,125,126,127,128,129,130] ⟨some 108,.load false 1 (.t 107),some (106,true)⟩
def X37_16t6:=hP R37_16t6 R37_16t7 [108] [9,10,102,103,104,105,106,107,108,109,110,111,112,113,114,115,116,117,118,119,120,121,122,123,124,125,126,127,128,129,130] ⟨some 109,.call (.c (.fn 95 [] [])) [.c (.s (.bool true)),.t 108],some (106,true)⟩
def X37_16t7:=hP R37_16t7 R37_16t8 [109] [9,10,102,103,104,105,106,107,108,109,110,111,112,113,114,115,116,117,118,119,120,121,122,123,124,125,126,127,128,129,130] ⟨some 110,.move (.t 109),some (106,true)⟩
def X37_16t8:=hP R37_16t8 R37_16t9 [] [9,10,102,103,104,105,106,107,108,109,110,111,112,113,114,115,116,117,118,119,120,121,122,123,124,125,126,127,128,129,130] ⟨some 111,.fieldAddr 6 (.t 9),some (110,false)⟩
def X37_16t9:=hP R37_16t9 R37_16t10 [111] [9,10,102,103,104,105,106,107,108,109,110,111,112,113,114,115,116,117,118,119,120,121,122,123,124,125,126,127,128,129,130] ⟨some 112,.load false 1 (.t 111),some (110,false)⟩
def X37_16t10:=hP R37_16t10 R37_16t11 [112] [9,10,102,103,104,105,106,107,108,109,110,111,112,113,114,115,116,117,118,119,120,121,122,123,124,125,126,127,128,129,130] ⟨some 113,.call (.c (.fn 96 [] [])) [.t 112,.c (.s (.string ⟨#[]⟩))],some (110,false)⟩
def T37_16p11:=hT R37_16p11 [103,106,110,113,114,115,116] [117] 118 [([(106,true,.t 106)],.pick (.t 110) (.c (.s (.bool true))) (.t 113))] [(117,.pick (.t 103) (.c (.s (.bool true))) (.pick (.t 106) (.pick (.t 110) (.c (.s (.bool true))) (.t 113)) (.c (.s (.bool false)))))] [.keep [(106,true,.t 106)] (.pick (.t 110) (.c (.s (.bool true))) (.t 113)),.sub 0 [2] [103],sb [],sb []]
def X37_16t11:=hS R37_16t11 R37_16p11 R37_16t12 [103,106,110,113,114,115,116] [117] [9,10,102,103,104,105,106,107,108,109,110,111,112,113,114,115,116,117,118,119,120,121,122,123,124,125,126,127,128,129,130]
def X37_16t12:=hP R37_16t12 R37_16t13 [10] [9,10,102,103,104,105,106,107,108,109,110,111,112,113,114,115,116,117,118,119,120,121,122,123,124,125,126,127,128,129,130] ⟨some 118,.fieldAddr 6 (.t 10),some (117,false)⟩
def X37_16t13:=hP R37_16t13 R37_16t14 [118] [9,10,102,103,104,105,106,107,108,109,110,111,112,113,114,115,116,117,118,119,120,121,122,123,124,125,126,127,128,129,130] ⟨some 119,.load false 1 (.t 118),some (117,false)⟩
def X37_16t14:=hP R37_16t14 R37_16t15 [119] [9,10,102,103,104,105,106,107,108,109,110,111,112,113,114,115,116,117,118,119,120,121,122,123,124,125,126,127,128,129,130] ⟨some 120,.move (.t 119),some (117,false)⟩
def X37_16t15:=hP R37_16t15 R37_16t16 [] [9,10,102,103,104,105,106,107,108,109,110,111,112,113,114,115,116,117,118,119,120,121,122,123,124,125,126,127,128,129,130] ⟨some 121,.fieldAddr 7 (.t 9),some (120,true)⟩
def X37_16t16:=hP R37_16t16 R37_16t17 [121] [9,10,102,103,104,105,106,107,108,109,110,111,112,113,114,115,116,117,118,119,120,121,122,123,124,125,126,127,128,129,130] ⟨some 122,.load false 1 (.t 121),some (120,true)⟩
def X37_16t17:=hP R37_16t17 R37_16t18 [122] [9,10,102,103,104,105,106,107,108,109,110,111,112,113,114,115,116,117,118,119,120,121,122,123,124,125,126,127,128,129,130] ⟨some 123,.call (.c (.fn 95 [] [])) [.c (.s (.bool false)),.t 122],some (120,true)⟩
def X37_16t18:=hP R37_16t18 R37_16t19 [123] [9,10,102,103,104,105,106,107,108,109,110,111,112,113,114,115,116,117,118,119,120,121,122,123,124,125,126,127,128,129,130] ⟨some 124,.move (.t 123),some (120,true)⟩
def X37_16t19:=hP R37_16t19 R37_16t20 [9] [9,10,102,103,104,105,106,107,108,109,110,111,112,113,114,115,116,117,118,119,120,121,122,123,124,125,126,127,128,129,130] ⟨some 125,.fieldAddr 7 (.t 9),some (124,false)⟩
def X37_16t20:=hP R37_16t20 R37_16t21 [125] [9,10,102,103,104,105,106,107,108,109,110,111,112,113,114,115,116,117,118,119,120,121,122,123,124,125,126,127,128,129,130] ⟨some 126,.load false 1 (.t 125),some (124,false)⟩
def X37_16t21:=hP R37_16t21 R37_16t22 [126] [9,10,102,103,104,105,106,107,108,109,110,111,112,113,114,115,116,117,118,119,120,121,122,123,124,125,126,127,128,129,130] ⟨some 127,.call (.c (.fn 96 [] [])) [.t 126,.c (.s (.string ⟨#[]⟩))],some (124,false)⟩
def T37_16t22:=hT R37_16t22 [9,10,102,103,104,105,106,107,108,109,110,111,112,113,114,115,116,117,118,119,120,121,122,123,124,125,126,127,128,129,130] [11] 131 [([(120,true,.t 120)],.pick (.t 124) (.c (.s (.bool true))) (.t 127))] [(11,.pick (.t 117) (.c (.s (.bool true))) (.pick (.t 120) (.pick (.t 124) (.c (.s (.bool true))) (.t 127)) (.c (.s (.bool false)))))] [.keep [(120,true,.t 120)] (.pick (.t 124) (.c (.s (.bool true))) (.t 127)),.sub 0 [2] [117],sb [],sb []]
def X37_16t22:=hL R37_16t22 [9,10,102,103,104,105,106,107,108,109,110,111,112,113,114,115,116,117,118,119,120,121,122,123,124,125,126,127,128,129,130] [11]
def R37_17:LO:=[oM 131 11]
def T37_17:=hT R37_17 [11] [131] 132 [] [(131,.t 11)] [.tt 11]
def R37_18t2:LO:=[⟨some 3,.move (.c (.s (.bool true))),none⟩]
def R37_18t1:LO:=⟨none,.store 3 (.t 2) (.t 135),none⟩ :: R37_18t2
def R37_18p0:LO:=[oM 132 4,oM 133 6,oM 134 8,⟨some 135,.build [.s (.int .i64 0),.s (.int .i64 0),.s (.int .i64 0)] [(0,1),(1,1),(2,1)] [(0,.t 132),(1,.t 133),(2,.t 134)],none⟩]
def R37_18:LO:=R37_18p0 ++ R37_18t1
def T37_18p0:=hT R37_18p0 [0,4,6,8,16,17,18,35,36,37,50,51,52,131,132,133,134] [135] 136 [] [(135,.op (.build [.s (.int .i64 0),.s (.int .i64 0),.s (.int .i64 0)] [(0,1),(1,1),(2,1)] [(0,.t 0),(1,.t 1),(2,.t 2)]) [.t 4,.t 6,.t 8])] [.tt 4,.tt 6,.tt 8,sb []]
def X37_18:=hS R37_18 R37_18p0 R37_18t1 [0,4,6,8,16,17,18,35,36,37,50,51,52,131,132,133,134] [135] [0,4,6,8,16,17,18,35,36,37,50,51,52,131,132,133,134,135]
def X37_18t1:=hP R37_18t1 R37_18t2 [135] [0,4,6,8,16,17,18,35,36,37,50,51,52,131,132,133,134,135] ⟨none,.store 3 (.t 2) (.t 135),none⟩
def T37_18t2:=hT R37_18t2 [0,4,6,8,16,17,18,35,36,37,50,51,52,131,132,133,134,135] [3] 4 [] [(3,.c (.s (.bool true)))] [.cc (.s (.bool true))]
def X37_18t2:=hL R37_18t2 [0,4,6,8,16,17,18,35,36,37,50,51,52,131,132,133,134,135] [3]
def R37_19:LO:=[⟨some 136,.bin .add (.t 52) (.c (.s (.int .i64 1))),none⟩,oM 52 136]
def T37_19:=hT R37_19 [8,131,136] [52] 137 [] [(52,.op (.bin .add (.t 0) (.c (.s (.int .i64 1)))) [.t 52,.c (.s (.int .i64 1))])] [sb [],sb []]
def s_f37_l0_b:ACode:=
 (.seq (.regionE R37_12 [] [53])
 (.seq (.cond (.t 53)
 .skip
 (.exit 4))
 (.seq (.block 5
 (.seq (.region R37_13 [] [53,54,55,56])
 (.seq (.region R37_14 [] [57,58,59,60,61,62,63])
 (.seq (.region R37_15 [] [64,65,66,67,68,69,70,71,72,73,74,75,76,77,78,79,80,81,82,83,84,85,86,87,88,89,90,91,92,93,94,95,96,97,98,99,100,101])
 (.seq (.region R37_16 [] [9,10,102,103,104,105,106,107,108,109,110,111,112,113,114,115,116,117,118,119,120,121,122,123,124,125,126,127,128,129,130])
 (.seq (.regionE R37_17 [11] [131])
 (.cond (.t 131)
 (.seq (.region R37_18 [] [0,4,6,8,16,17,18,35,36,37,50,51,52,131,132,133,134,135])
 .ret)
 .skip)))))))
 (.regionE R37_19 [8,131,136] [52]))))
def s_f37_l0:ACode:=s_f37_l0_b
def s_f37_l0_ev:=hE s_f37_l0 s_f37_l0_b
def R37_20:LO:=[⟨some 137,.bin .add (.t 37) (.c (.s (.int .i64 1))),none⟩,oM 37 137]
def T37_20:=hT R37_20 [6,50,51,52,53,137] [37] 138 [] [(37,.op (.bin .add (.t 0) (.c (.s (.int .i64 1)))) [.t 37,.c (.s (.int .i64 1))])] [sb [],sb []]
def s_f37_l1_b:ACode:=
 (.seq (.regionE R37_7 [] [38])
 (.seq (.cond (.t 38)
 .skip
 (.exit 2))
 (.seq (.block 3
 (.seq (.region R37_8 [] [38,39,40,41])
 (.seq (.seq (.region R37_9 [] [42,43,44])
 (.cond (.t 45)
 (.seq (.region R37_10 [] [0,4,6,7,16,17,18,35,36,37,45,46,47,48])
 .ret)
 .skip))
 (.seq (.regionE R37_11 [7,45,49] [50,51,52])
 (.block 4
 (.loop [] s_f37_l0))))))
 (.regionE R37_20 [6,50,51,52,53,137] [37]))))
def s_f37_l1:ACode:=s_f37_l1_b
def s_f37_l1_ev:=hE s_f37_l1 s_f37_l1_b
def R37_21:LO:=[⟨some 138,.bin .add (.t 18) (.c (.s (.int .i64 1))),none⟩,oM 18 138]
def T37_21:=hT R37_21 [4,35,36,37,38,138] [18] 139 [] [(18,.op (.bin .add (.t 0) (.c (.s (.int .i64 1)))) [.t 18,.c (.s (.int .i64 1))])] [sb [],sb []]
def s_f37_l2_b:ACode:=
 (.seq (.regionE R37_2 [] [19])
 (.seq (.cond (.t 19)
 .skip
 (.exit 0))
 (.seq (.block 1
 (.seq (.region R37_3 [] [19,20,21,22])
 (.seq (.seq (.region R37_4 [] [23,24,25,26,27,28,29,30])
 (.cond (.t 31)
 (.seq (.region R37_5 [] [0,4,5,16,17,18,31,32,33])
 .ret)
 .skip))
 (.seq (.regionE R37_6 [5,31,34] [35,36,37])
 (.block 2
 (.loop [] s_f37_l1))))))
 (.regionE R37_21 [4,35,36,37,38,138] [18]))))
def s_f37_l2:ACode:=s_f37_l2_b
def s_f37_l2_ev:=hE s_f37_l2 s_f37_l2_b
def R37_22t2:LO:=[⟨some 3,.move (.c (.s (.bool false))),none⟩]
def R37_22t1:LO:=⟨none,.store 3 (.t 2) (.t 139),none⟩ :: R37_22t2
def R37_22p0:LO:=[⟨some 139,.build [.s (.int .i64 0),.s (.int .i64 0),.s (.int .i64 0)] [(0,1),(1,1),(2,1)] [],none⟩]
def R37_22:LO:=R37_22p0 ++ R37_22t1
def T37_22p0:=hT R37_22p0 [0,16,17,18,19] [139] 140 [] [(139,.op (.build [.s (.int .i64 0),.s (.int .i64 0),.s (.int .i64 0)] [(0,1),(1,1),(2,1)] []) [])] [sb []]
def X37_22:=hS R37_22 R37_22p0 R37_22t1 [0,16,17,18,19] [139] [0,16,17,18,19,139]
def X37_22t1:=hP R37_22t1 R37_22t2 [139] [0,16,17,18,19,139] ⟨none,.store 3 (.t 2) (.t 139),none⟩
def T37_22t2:=hT R37_22t2 [0,16,17,18,19,139] [3] 4 [] [(3,.c (.s (.bool false)))] [.cc (.s (.bool false))]
def X37_22t2:=hL R37_22t2 [0,16,17,18,19,139] [3]
def s_f37:ACFun:={ ntmps:=140,results:=[.cell 2 true 3,.tmp 3],body:=
 (.seq (.region R37_0 [] K37_0)
 (.seq (.seq (.regionE R37_1 [12,13,14,15] [16,17,18])
 (.block 0
 (.loop [] s_f37_l2)))
 (.seq (.region R37_22 [] [0,16,17,18,19,139])
 .ret))) }
theorem s_f37_first:firstOk (List.range' 1 (s_f37.ntmps - 1)) s_f37.body=true:=by kernel_rfl
abbrev k_f44:Nat:=44
def K44_0:List Nat:=[0,3,4,5,6,7,8]
def A44_0_0:=hQ K44_0 0
def A44_0_1:=hK K44_0 1
def A44_0_2:=hK K44_0 2
def A44_0_3:=hQ K44_0 3
def R44_0t2:LO:=[⟨some 3,.move (.c (.s (.bool false))),none⟩]
def R44_0t1:LO:=⟨some 2,.alloc [.s (.int .i64 0),.s (.int .i64 0),.s (.int .i64 0)],none⟩ :: R44_0t2
def R44_0:LO:=⟨some 1,.box (.t 0),none⟩ :: R44_0t1
def X44_0:=hP R44_0 R44_0t1 [0,2,3,4,5,6,7,8] K44_0 ⟨some 1,.box (.t 0),none⟩
def X44_0t1:=hP R44_0t1 R44_0t2 [] K44_0 ⟨some 2,.alloc [.s (.int .i64 0),.s (.int .i64 0),.s (.int .i64 0)],none⟩
def T44_0t2:=hT R44_0t2 K44_0 [] 4 [] [] [.cc (.s (.bool false))]
def X44_0t2:=hL R44_0t2 K44_0 []
def R44_1t4:LO:=[oM 3 8]
def R44_1t3:LO:=⟨none,.store 3 (.t 2) (.t 7),none⟩ :: R44_1t4
def R44_1p2:LO:=[⟨some 7,.extract (.t 6) 0,none⟩,⟨some 8,.extract (.t 6) 1,none⟩]
def R44_1t2:LO:=R44_1p2 ++ R44_1t3
def R44_1t1:LO:=⟨some 6,.call (.c (.fn 102 [] [])) [.t 4,.t 5],none⟩ :: R44_1t2
def R44_1p0:LO:=[oL 4 1,⟨some 5,.mkFn 104 [] [.t 1],none⟩]
def R44_1:LO:=R44_1p0 ++ R44_1t1
def T44_1p0:=hT R44_1p0 [1] [4,5] 6 [] [(4,.op (.load false 1 (.t 0)) [.t 1]),(5,.op (.mkFn 104 [] [.t 0]) [.t 1])] [sb [],.sub 1 [] []]
def X44_1:=hS R44_1 R44_1p0 R44_1t1 [1] [4,5] [1,4,5,6,7,8]
def X44_1t1:=hP R44_1t1 R44_1t2 [4,5] [1,4,5,6,7,8] ⟨some 6,.call (.c (.fn 102 [] [])) [.t 4,.t 5],none⟩
def T44_1p2:=hT R44_1p2 [6] [7,8] 9 [] [(7,.op (.extract (.t 0) 0) [.t 6]),(8,.op (.extract (.t 0) 1) [.t 6])] [sb [],.sub 1 [] []]
def X44_1t2:=hS R44_1t2 R44_1p2 R44_1t3 [6] [7,8] [1,4,5,6,7,8]
def X44_1t3:=hP R44_1t3 R44_1t4 [7] [1,4,5,6,7,8] ⟨none,.store 3 (.t 2) (.t 7),none⟩
def T44_1t4:=hT R44_1t4 [1,4,5,6,7,8] [3] 4 [] [(3,.t 8)] [.tt 8]
def X44_1t4:=hL R44_1t4 [1,4,5,6,7,8] [3]
def s_f44:ACFun:={ ntmps:=9,results:=[.cell 2 true 3,.tmp 3],body:=
 (.seq (.region R44_0 [] K44_0)
 (.seq (.region R44_1 [] [1,4,5,6,7,8])
 .ret)) }
theorem s_f44_first:firstOk (List.range' 1 (s_f44.ntmps - 1)) s_f44.body=true:=by kernel_rfl
def a_f16:=ai A16_0p0_0 (ai A16_0p0_1 (ai A16_0p0_2 (ai A16_0p0_4 (ai A16_0p0_5 (ai X16_0 (ai X16_0t1 (ai T16_0t2 (ai X16_0t2 (ai A16_0_0 (ai A16_0_1 (ai A16_0_2 (ai A16_0_4 (ai A16_0_5 (ai T16_1p0 (ai X16_1 (ai X16_1t1 (ai T16_1p2 (ai X16_1t2 (ai X16_1t3 (ai T16_1t4 (ai X16_1t4 (ai X16_2 (ai T16_2p1 (ai X16_2t1 (ai X16_2t2 (ai T16_2p3 (ai X16_2t3 (ai X16_2t4 (ai T16_2p5 (ai X16_2t5 (ai X16_2t6 (ai T16_2p7 (ai X16_2t7 (ai X16_2t8 (ai T16_2p9 (ai X16_2t9 (ai X16_2t10 (ai T16_2p11 (ai X16_2t11 (ai X16_2t12 (ai T16_2p13 (ai X16_2t13 (ai X16_2t14 (ai T16_2p15 (ai X16_2t15 (ai X16_2t16 (ai T16_2p17 (ai X16_2t17 (ai X16_2t18 (ai T16_2p19 (ai X16_2t19 (ai X16_2t20 (ai T16_2p21 (ai X16_2t21 (ai X16_2t22 (ai T16_2p23 (ai X16_2t23 (ai X16_2t24 (ai T16_2p25 (ai X16_2t25 (ai X16_2t26 (ai T16_2p27 (ai X16_2t27 (ai X16_2t28 (ai T16_2p29 (ai X16_2t29 (ai X16_2t30 (ai T16_2p31 (ai X16_2t31 (ai X16_2t32 (ai T16_2t33 (ai X16_2t33 (ai T16_3 (ai T16_4p0 (ai X16_4 (ai X16_4t1 (ai T16_4t2 (ai X16_4t2 (ai T16_5p0 (ai X16_5 (ai X16_5t1 (ai T16_5p2 (ai X16_5t2 (ai X16_5t3 (ai T16_5t4 (X16_5t4))))))))))))))))))))))))))))))))))))))))))))))))))))))))))))))))))))))))))))))))))))))
def a_f37:=ai A37_0p0_0 (ai A37_0p0_2 (ai A37_0p0_3 (ai X37_0 (ai T37_0t1 (ai X37_0t1 (ai A37_0_0 (ai A37_0_2 (ai A37_0_3 (ai T37_1 (ai T37_2 (ai T37_3p0 (ai X37_3 (ai X37_3t1 (ai T37_3p2 (ai X37_3t2 (ai X37_3t3 (ai T37_4p0 (ai X37_4 (ai X37_4t1 (ai T37_4p2 (ai X37_4t2 (ai X37_4t3 (ai X37_4t4 (ai X37_4t5 (ai T37_4t6 (ai X37_4t6 (ai T37_5p0 (ai X37_5 (ai X37_5t1 (ai T37_5t2 (ai X37_5t2 (ai T37_6 (ai T37_7 (ai T37_8p0 (ai X37_8 (ai X37_8t1 (ai T37_8p2 (ai X37_8t2 (ai X37_8t3 (ai T37_9p0 (ai X37_9 (ai X37_9t1 (ai T37_9t2 (ai X37_9t2 (ai T37_10p0 (ai X37_10 (ai X37_10t1 (ai T37_10t2 (ai X37_10t2 (ai T37_11 (ai T37_12 (ai T37_13p0 (ai X37_13 (ai X37_13t1 (ai T37_13p2 (ai X37_13t2 (ai X37_13t3 (ai T37_14p0 (ai X37_14 (ai X37_14t1 (ai X37_14t2 (ai T37_15p0 (ai X37_15 (ai X37_15t1 (ai X37_15t2 (ai X37_15t3 (ai X37_15t4 (ai T37_15p5 (ai X37_15t5 (ai X37_15t6 (ai X37_15t7 (ai X37_15t8 (ai X37_15t9 (ai X37_15t10 (ai X37_15t11 (ai X37_15t12 (ai T37_15p13 (ai X37_15t13 (ai X37_15t14 (ai X37_15t15 (ai X37_15t16 (ai X37_15t17 (ai X37_15t18 (ai X37_15t19 (ai X37_15t20 (ai T37_15p21 (ai X37_15t21 (ai X37_15t22 (ai X37_15t23 (ai X37_15t24 (ai X37_15t25 (ai X37_15t26 (ai X37_15t27 (ai X37_15t28 (ai T37_15t29 (ai X37_15t29 (ai T37_16p0 (ai X37_16 (ai X37_16t1 (ai X37_16t2 (ai X37_16t3 (ai X37_16t4 (ai X37_16t5 (ai X37_16t6 (ai X37_16t7 (ai X37_16t8 (ai X37_16t9 (ai X37_16t10 (ai T37_16p11 (ai X37_16t11 (ai X37_16t12 (ai X37_16t13 (ai X37_16t14 (ai X37_16t15 (ai X37_16t16 (ai X37_16t17 (ai X37_16t18 (ai X37_16t19 (ai X37_16t20 (ai X37_16t21 (ai T37_16t22 (ai X37_16t22 (ai T37_17 (ai T37_18p0 (ai X37_18 (ai X37_18t1 (ai T37_18t2 (ai X37_18t2 (ai T37_19 (ai s_f37_l0_ev (ai T37_20 (ai s_f37_l1_ev (ai T37_21 (ai s_f37_l2_ev (ai T37_22p0 (ai X37_22 (ai X37_22t1 (ai T37_22t2 (X37_22t2)))))))))))))))))))))))))))))))))))))))))))))))))))))))))))))))))))))))))))))))))))))))))))))))))))))))))))))))))))))))))))))))))))))))))))
def a_f44:=ai X44_0 (ai X44_0t1 (ai T44_0t2 (ai X44_0t2 (ai A44_0_0 (ai A44_0_1 (ai A44_0_2 (ai A44_0_3 (ai T44_1p0 (ai X44_1 (ai X44_1t1 (ai T44_1p2 (ai X44_1t2 (ai X44_1t3 (ai T44_1t4 (X44_1t4)))))))))))))))
theorem SA2_16:compK Tryz.prog PX0 16=some (false,s_f16.ntmps,s_f16.results,s_f16.body.bare):=by kernel_rfl
theorem SA2_37:compK Tryz.prog PX0 37=some (false,s_f37.ntmps,s_f37.results,s_f37.body.bare):=by kernel_rfl
theorem SA2_44:compK Tryz.prog PX0 44=some (false,s_f44.ntmps,s_f44.results,s_f44.body.bare):=by kernel_rfl
end Go.Proofs.YtngfpadeebpoeaaGreatDoor
set_option maxRecDepth 100000
namespace Go.Proofs.YtngfpadeebpoeaaGreatDoor
open Go.AM
abbrev k_f10:Nat:=10
def K10_0:List Nat:=[0] ++ List.range' 2 96
def A10_0_0:=hQ K10_0 0
def A10_0_1:=hK K10_0 1
def A10_0_2:=hQ K10_0 2
def A10_0_3:=hQ K10_0 3
def R10_0t1:LO:=[⟨some 2,.move (.c (.s (.string ⟨#[]⟩))),none⟩,⟨some 3,.move (.c (.s (.int .i64 0))),none⟩]
def R10_0p0:LO:=[⟨some 1,.box (.t 0),none⟩]
def R10_0:LO:=R10_0p0 ++ R10_0t1
def K10_0p0:List Nat:=[0] ++ List.range' 2 96
def A10_0p0_0:=hQ K10_0p0 0
def A10_0p0_1:=hK K10_0p0 1
def A10_0p0_2:=hQ K10_0p0 2
def A10_0p0_3:=hQ K10_0p0 3
theorem X10_0 (call:CallF) (it:IterF) (base:Nat) (f:List V) (H:Heap):evC call it base (.region R10_0 [] K10_0) f H=thenC call it base (.region R10_0t1 [] K10_0) (opsC [] R10_0p0 K10_0p0 (evOps call base [⟨some 1,.box (.t 0),none⟩] f H)):=(row_op call it base R10_0p0 R10_0t1 (kc:=K10_0p0) (by kernel_rfl) f H).trans (by rw [row_ops];rfl)
def T10_0t1:=hT R10_0t1 K10_0 [] 4 [] [] [.cc (.s (.string ⟨#[]⟩)),.cc (.s (.int .i64 0))]
def X10_0t1:=hL R10_0t1 K10_0 []
def R10_1t1:LO:=[⟨some 19,.lenS .s (.t 18),none⟩,⟨some 20,.move (.c (.s (.int .i64 0))),none⟩]
def R10_1:LO:=⟨some 18,.buildSl 1 2 [.s (.int .u8 0),.s (.int .u8 0)] [(0,.c (.s (.int .u8 2))),(1,.c (.s (.int .u8 9)))],none⟩ :: R10_1t1
def X10_1:=hP R10_1 R10_1t1 [] [] ⟨some 18,.buildSl 1 2 [.s (.int .u8 0),.s (.int .u8 0)] [(0,.c (.s (.int .u8 2))),(1,.c (.s (.int .u8 9)))],none⟩
def T10_1t1:=hT R10_1t1 [] [19,20] 21 [] [(19,.op (.lenS .s (.t 0)) [.t 18]),(20,.c (.s (.int .i64 0)))] [sb [],.cc (.s (.int .i64 0))]
def X10_1t1:=hL R10_1t1 [] [19,20]
def R10_2:LO:=[⟨some 21,.bin .lss (.t 20) (.t 19),none⟩]
def T10_2:=hT R10_2 [] [21] 22 [] [(21,.op (.bin .lss (.t 0) (.t 1)) [.t 20,.t 19])] [sb []]
def R10_3:LO:=[⟨some 22,.indexAddr 1 (.t 18) (.t 20),none⟩,oL 23 22,oM 5 23]
def T10_3:=hT R10_3 [21,22,23] [5] 24 [] [(5,.op (.load false 1 (.t 0)) [.op (.indexAddr 1 (.t 0) (.t 1)) [.t 18,.t 20]])] [sb [0],sb [],sb []]
def R10_4t5:LO:=[oM 7 29]
def R10_4t4:LO:=⟨none,.store 3 (.t 6) (.t 28),none⟩ :: R10_4t5
def R10_4t3:LO:=⟨some 6,.alloc [.s (.int .i64 0),.s (.int .i64 0),.s (.int .i64 0)],none⟩ :: R10_4t4
def R10_4p2:LO:=[oM 24 27,⟨some 28,.extract (.t 24) 0,none⟩,⟨some 29,.extract (.t 24) 1,none⟩]
def R10_4t2:LO:=R10_4p2 ++ R10_4t3
def R10_4t1:LO:=⟨some 27,.call (.c (.fn 16 [] [])) [.t 25,.t 26],none⟩ :: R10_4t2
def R10_4p0:LO:=[⟨some 25,.load true 1 (.t 1),none⟩,oM 26 5]
def R10_4:LO:=R10_4p0 ++ R10_4t1
def T10_4p0:=hT R10_4p0 [5] [25,26] 27 [] [(25,.op (.load true 1 (.t 0)) [.t 1]),(26,.t 5)] [sb [],.tt 5]
def X10_4:=hS R10_4 R10_4p0 R10_4t1 [5] [25,26] [5,6,24,25,26,27,28,29]
def X10_4t1:=hP R10_4t1 R10_4t2 [25,26] [5,6,24,25,26,27,28,29] ⟨some 27,.call (.c (.fn 16 [] [])) [.t 25,.t 26],none⟩
def T10_4p2:=hT R10_4p2 [24,27] [28,29] 30 [] [(28,.op (.extract (.t 0) 0) [.t 27]),(29,.op (.extract (.t 0) 1) [.t 27])] [.tt 27,sb [],.sub 1 [] []]
def X10_4t2:=hS R10_4t2 R10_4p2 R10_4t3 [24,27] [28,29] [5,6,24,25,26,27,28,29]
def X10_4t3:=hP R10_4t3 R10_4t4 [] [5,6,24,25,26,27,28,29] ⟨some 6,.alloc [.s (.int .i64 0),.s (.int .i64 0),.s (.int .i64 0)],none⟩
def X10_4t4:=hP R10_4t4 R10_4t5 [6,28] [5,6,24,25,26,27,28,29] ⟨none,.store 3 (.t 6) (.t 28),none⟩
def T10_4t5:=hT R10_4t5 [5,6,24,25,26,27,28,29] [7] 8 [] [(7,.t 29)] [.tt 29]
def X10_4t5:=hL R10_4t5 [5,6,24,25,26,27,28,29] [7]
def R10_5:LO:=[oM 30 7]
def T10_5:=hT R10_5 [7] [30] 31 [] [(30,.t 7)] [.tt 7]
def R10_6:LO:=[⟨some 2,.move (.c (.s (.string ⟨#[]⟩))),none⟩,⟨some 3,.move (.c (.s (.int .i64 5))),none⟩]
def T10_6:=hT R10_6 [1,18,19,20,30] [2,3] 4 [] [(2,.c (.s (.string ⟨#[]⟩))),(3,.c (.s (.int .i64 5)))] [.cc (.s (.string ⟨#[]⟩)),.cc (.s (.int .i64 5))]
def R10_7:LO:=[⟨some 31,.bin .add (.t 20) (.c (.s (.int .i64 1))),none⟩,oM 20 31]
def T10_7:=hT R10_7 [30,31] [20] 32 [] [(20,.op (.bin .add (.t 0) (.c (.s (.int .i64 1)))) [.t 20,.c (.s (.int .i64 1))])] [sb [],sb []]
def s_f10_l0_b:ACode:=
 (.seq (.regionE R10_2 [] [21])
 (.seq (.cond (.t 21)
 .skip
 (.exit 0))
 (.seq (.block 1
 (.seq (.regionE R10_3 [21,22,23] [5])
 (.seq (.region R10_4 [] [5,6,24,25,26,27,28,29])
 (.seq (.regionE R10_5 [7] [30])
 (.cond (.t 30)
 (.seq (.regionE R10_6 [1,18,19,20,30] [2,3])
 .ret)
 .skip)))))
 (.regionE R10_7 [30,31] [20]))))
def s_f10_l0:ACode:=s_f10_l0_b
def s_f10_l0_ev:=hE s_f10_l0 s_f10_l0_b
def R10_8t1:LO:=[oM 8 32]
def R10_8:LO:=⟨some 32,.call (.c (.fn 17 [] [])) [],none⟩ :: R10_8t1
def X10_8:=hP R10_8 R10_8t1 [18,19,20,21] [18,19,20,21,32] ⟨some 32,.call (.c (.fn 17 [] [])) [],none⟩
def T10_8t1:=hT R10_8t1 [18,19,20,21,32] [8] 9 [] [(8,.t 32)] [.tt 32]
def X10_8t1:=hL R10_8t1 [18,19,20,21,32] [8]
def R10_9:LO:=[⟨some 9,.alloc [.unk,.s (.slice none 0 0)],none⟩]
def X10_9:=hX R10_9 [] [⟨some 9,.alloc [.unk,.s (.slice none 0 0)],none⟩]
def R10_10:LO:=[⟨some 33,.mkFn 18 [] [.t 9],none⟩,oM 10 33]
def T10_10:=hT R10_10 [33] [10] 34 [] [(10,.op (.mkFn 18 [] [.t 0]) [.t 9])] [sb [],sb []]
def R10_11:LO:=[oF 34 0 1,oL 35 34,⟨some 36,.lenS .s (.t 35),none⟩,⟨some 37,.move (.c (.s (.int .i64 0))),none⟩]
def T10_11:=hT R10_11 [1,34] [35,36,37] 38 [] [(35,.op (.load false 1 (.t 0)) [.op (.fieldAddr 0 (.t 0)) [.t 1]]),(36,.op (.lenS .s (.t 0)) [.op (.load false 1 (.t 0)) [.op (.fieldAddr 0 (.t 0)) [.t 1]]]),(37,.c (.s (.int .i64 0)))] [sb [0],sb [],.sub 1 [] [],.cc (.s (.int .i64 0))]
def R10_12:LO:=[⟨some 38,.bin .lss (.t 37) (.t 36),none⟩]
def T10_12:=hT R10_12 [] [38] 39 [] [(38,.op (.bin .lss (.t 0) (.t 1)) [.t 37,.t 36])] [sb []]
def R10_13t2:LO:=[⟨none,.store 3 (.t 12) (.t 40),none⟩]
def R10_13t1:LO:=⟨some 12,.alloc [.s (.string ⟨#[]⟩),.s (.slice none 0 0),.s (.slice none 0 0)],none⟩ :: R10_13t2
def R10_13p0:LO:=[⟨some 39,.indexAddr 3 (.t 35) (.t 37),none⟩,⟨some 40,.load true 3 (.t 39),none⟩]
def R10_13:LO:=R10_13p0 ++ R10_13t1
def T10_13p0:=hT R10_13p0 [38,39] [40] 41 [] [(40,.op (.load true 3 (.t 0)) [.op (.indexAddr 3 (.t 0) (.t 1)) [.t 35,.t 37]])] [sb [0],sb []]
def X10_13:=hS R10_13 R10_13p0 R10_13t1 [38,39] [40] [38,39,40]
def X10_13t1:=hP R10_13t1 R10_13t2 [] [38,39,40] ⟨some 12,.alloc [.s (.string ⟨#[]⟩),.s (.slice none 0 0),.s (.slice none 0 0)],none⟩
def X10_13t2:=hX R10_13t2 [38,39,40] [⟨none,.store 3 (.t 12) (.t 40),none⟩]
def R10_14t6:LO:=[⟨some 51,.call (.t 41) [.t 50],none⟩]
def R10_14t5:LO:=⟨some 50,.buildSl 1 1 [.s (.string ⟨#[]⟩)] [(0,.t 49)],none⟩ :: R10_14t6
def R10_14t4:LO:=⟨some 49,.call (.c (.fn 21 [] [])) [.t 48],none⟩ :: R10_14t5
def R10_14t3:LO:=⟨some 48,.buildSl 1 3 [.s (.string ⟨#[]⟩),.s (.string ⟨#[]⟩),.s (.string ⟨#[]⟩)] [(0,.c (.s (.string ⟨#[102,117,110,99]⟩))),(1,.t 47),(2,.c (.s (.string ⟨#[123]⟩)))],none⟩ :: R10_14t4
def R10_14p2:LO:=[⟨some 47,.bin .add (.t 43) (.t 46),none⟩]
def R10_14t2:LO:=R10_14p2 ++ R10_14t3
def R10_14t1:LO:=⟨some 46,.callR (.c (.fn 22 [] [])) [.t 45],none⟩ :: R10_14t2
def R10_14p0:LO:=[oM 41 10,oF 42 0 12,oL 43 42,oF 44 1 12,oL 45 44]
def R10_14:LO:=R10_14p0 ++ R10_14t1
def T10_14p0:=hT R10_14p0 [42,44] [41,43,45] 46 [] [(41,.t 10),(43,.op (.load false 1 (.t 0)) [.op (.fieldAddr 0 (.t 0)) [.t 12]]),(45,.op (.load false 1 (.t 0)) [.op (.fieldAddr 1 (.t 0)) [.t 12]])] [.tt 10,.sub 1 [0] [],.sub 1 [] [],.sub 2 [0] [],.sub 2 [] []]
def X10_14:=hS R10_14 R10_14p0 R10_14t1 [42,44] [41,43,45] [41,42,43,44,45,46,47,48,49,50,51]
def X10_14t1:=hP R10_14t1 R10_14t2 [45] [41,42,43,44,45,46,47,48,49,50,51] ⟨some 46,.callR (.c (.fn 22 [] [])) [.t 45],none⟩
def T10_14p2:=hT R10_14p2 [43,46] [47] 48 [] [(47,.op (.bin .add (.t 0) (.t 1)) [.t 43,.t 46])] [sb []]
def X10_14t2:=hS R10_14t2 R10_14p2 R10_14t3 [43,46] [47] [41,42,43,44,45,46,47,48,49,50,51]
def X10_14t3:=hP R10_14t3 R10_14t4 [47] [41,42,43,44,45,46,47,48,49,50,51] ⟨some 48,.buildSl 1 3 [.s (.string ⟨#[]⟩),.s (.string ⟨#[]⟩),.s (.string ⟨#[]⟩)] [(0,.c (.s (.string ⟨#[102,117,110,99]⟩))),(1,.t 47),(2,.c (.s (.string ⟨#[123]⟩)))],none⟩
def X10_14t4:=hP R10_14t4 R10_14t5 [48] [41,42,43,44,45,46,47,48,49,50,51] ⟨some 49,.call (.c (.fn 21 [] [])) [.t 48],none⟩
def X10_14t5:=hP R10_14t5 R10_14t6 [49] [41,42,43,44,45,46,47,48,49,50,51] ⟨some 50,.buildSl 1 1 [.s (.string ⟨#[]⟩)] [(0,.t 49)],none⟩
def X10_14t6:=hX R10_14t6 [41,42,43,44,45,46,47,48,49,50,51] [⟨some 51,.call (.t 41) [.t 50],none⟩]
def R10_15:LO:=[oF 52 2 12,oL 53 52,⟨some 54,.lenS .s (.t 53),none⟩,⟨some 55,.move (.c (.s (.int .i64 0))),none⟩]
def T10_15:=hT R10_15 [12,52] [53,54,55] 56 [] [(53,.op (.load false 1 (.t 0)) [.op (.fieldAddr 2 (.t 0)) [.t 12]]),(54,.op (.lenS .s (.t 0)) [.op (.load false 1 (.t 0)) [.op (.fieldAddr 2 (.t 0)) [.t 12]]]),(55,.c (.s (.int .i64 0)))] [sb [0],sb [],.sub 1 [] [],.cc (.s (.int .i64 0))]
def R10_16:LO:=[⟨some 56,.bin .lss (.t 55) (.t 54),none⟩]
def T10_16:=hT R10_16 [] [56] 57 [] [(56,.op (.bin .lss (.t 0) (.t 1)) [.t 55,.t 54])] [sb []]
def R10_17t2:LO:=[⟨none,.store 2 (.t 14) (.t 58),none⟩]
def R10_17t1:LO:=⟨some 14,.alloc [.s (.string ⟨#[]⟩),.s (.slice none 0 0)],none⟩ :: R10_17t2
def R10_17p0:LO:=[⟨some 57,.indexAddr 2 (.t 53) (.t 55),none⟩,⟨some 58,.load true 2 (.t 57),none⟩]
def R10_17:LO:=R10_17p0 ++ R10_17t1
def T10_17p0:=hT R10_17p0 [56,57] [58] 59 [] [(58,.op (.load true 2 (.t 0)) [.op (.indexAddr 2 (.t 0) (.t 1)) [.t 53,.t 55]])] [sb [0],sb []]
def X10_17:=hS R10_17 R10_17p0 R10_17t1 [56,57] [58] [56,57,58]
def X10_17t1:=hP R10_17t1 R10_17t2 [] [56,57,58] ⟨some 14,.alloc [.s (.string ⟨#[]⟩),.s (.slice none 0 0)],none⟩
def X10_17t2:=hX R10_17t2 [56,57,58] [⟨none,.store 2 (.t 14) (.t 58),none⟩]
def R10_18t2:LO:=[⟨some 63,.call (.t 59) [.t 62],none⟩]
def R10_18t1:LO:=⟨some 62,.buildSl 1 2 [.s (.string ⟨#[]⟩),.s (.string ⟨#[]⟩)] [(0,.t 61),(1,.c (.s (.string ⟨#[58]⟩)))],none⟩ :: R10_18t2
def R10_18p0:LO:=[oM 59 10,oF 60 0 14,oL 61 60]
def R10_18:LO:=R10_18p0 ++ R10_18t1
def T10_18p0:=hT R10_18p0 [60] [59,61] 62 [] [(59,.t 10),(61,.op (.load false 1 (.t 0)) [.op (.fieldAddr 0 (.t 0)) [.t 14]])] [.tt 10,.sub 1 [0] [],.sub 1 [] []]
def X10_18:=hS R10_18 R10_18p0 R10_18t1 [60] [59,61] [59,60,61,62,63]
def X10_18t1:=hP R10_18t1 R10_18t2 [61] [59,60,61,62,63] ⟨some 62,.buildSl 1 2 [.s (.string ⟨#[]⟩),.s (.string ⟨#[]⟩)] [(0,.t 61),(1,.c (.s (.string ⟨#[58]⟩)))],none⟩
def X10_18t2:=hX R10_18t2 [59,60,61,62,63] [⟨some 63,.call (.t 59) [.t 62],none⟩]
def R10_19:LO:=[oF 64 1 14,oL 65 64,⟨some 66,.lenS .s (.t 65),none⟩,⟨some 67,.move (.c (.s (.int .i64 0))),none⟩]
def T10_19:=hT R10_19 [14,64] [65,66,67] 68 [] [(65,.op (.load false 1 (.t 0)) [.op (.fieldAddr 1 (.t 0)) [.t 14]]),(66,.op (.lenS .s (.t 0)) [.op (.load false 1 (.t 0)) [.op (.fieldAddr 1 (.t 0)) [.t 14]]]),(67,.c (.s (.int .i64 0)))] [sb [0],sb [],.sub 1 [] [],.cc (.s (.int .i64 0))]
def R10_20:LO:=[⟨some 68,.bin .lss (.t 67) (.t 66),none⟩]
def T10_20:=hT R10_20 [] [68] 69 [] [(68,.op (.bin .lss (.t 0) (.t 1)) [.t 67,.t 66])] [sb []]
def R10_21t2:LO:=[⟨none,.store 8 (.t 16) (.t 70),none⟩]
def R10_21t1:LO:=⟨some 16,.alloc [.s (.int .u8 0),.s (.string ⟨#[]⟩),.s (.string ⟨#[]⟩),.s (.string ⟨#[]⟩),.s (.int .i64 0),.s (.string ⟨#[]⟩),.s (.slice none 0 0),.s (.slice none 0 0)],none⟩ :: R10_21t2
def R10_21p0:LO:=[⟨some 69,.indexAddr 8 (.t 65) (.t 67),none⟩,⟨some 70,.load true 8 (.t 69),none⟩]
def R10_21:LO:=R10_21p0 ++ R10_21t1
def T10_21p0:=hT R10_21p0 [68,69] [70] 71 [] [(70,.op (.load true 8 (.t 0)) [.op (.indexAddr 8 (.t 0) (.t 1)) [.t 65,.t 67]])] [sb [0],sb []]
def X10_21:=hS R10_21 R10_21p0 R10_21t1 [68,69] [70] [68,69,70]
def X10_21t1:=hP R10_21t1 R10_21t2 [] [68,69,70] ⟨some 16,.alloc [.s (.int .u8 0),.s (.string ⟨#[]⟩),.s (.string ⟨#[]⟩),.s (.string ⟨#[]⟩),.s (.int .i64 0),.s (.string ⟨#[]⟩),.s (.slice none 0 0),.s (.slice none 0 0)],none⟩
def X10_21t2:=hX R10_21t2 [68,69,70] [⟨none,.store 8 (.t 16) (.t 70),none⟩]
def R10_22t2:LO:=[oM 17 76]
def R10_22t1:LO:=⟨some 76,.call (.t 74) [.t 75],none⟩ :: R10_22t2
def R10_22p0:LO:=[oM 71 8,oF 72 0 16,oL 73 72,⟨some 74,.mapGet (.int .u8) (.s .nilFunc) (.t 71) (.t 73) false,none⟩,⟨some 75,.load true 8 (.t 16),none⟩]
def R10_22:LO:=R10_22p0 ++ R10_22t1
def T10_22p0:=hT R10_22p0 [71,72,73] [74,75] 76 [] [(74,.op (.mapGet (.int .u8) (.s .nilFunc) (.t 0) (.t 1) false) [.t 8,.op (.load false 1 (.t 0)) [.op (.fieldAddr 0 (.t 0)) [.t 16]]]),(75,.op (.load true 8 (.t 0)) [.t 16])] [.tt 8,sb [1,0],sb [1],sb [],.sub 1 [] []]
def X10_22:=hS R10_22 R10_22p0 R10_22t1 [71,72,73] [74,75] [71,72,73,74,75,76]
def X10_22t1:=hP R10_22t1 R10_22t2 [74,75] [71,72,73,74,75,76] ⟨some 76,.call (.t 74) [.t 75],none⟩
def T10_22t2:=hT R10_22t2 [71,72,73,74,75,76] [17] 18 [] [(17,.t 76)] [.tt 76]
def X10_22t2:=hL R10_22t2 [71,72,73,74,75,76] [17]
def R10_23:LO:=[oF 77 1 16,oL 78 77,⟨some 79,.bin .neq (.t 78) (.c (.s (.string ⟨#[]⟩))),none⟩]
def T10_23:=hT R10_23 [77,78] [79] 80 [] [(79,.op (.bin .neq (.t 0) (.c (.s (.string ⟨#[]⟩)))) [.op (.load false 1 (.t 0)) [.op (.fieldAddr 1 (.t 0)) [.t 16]],.c (.s (.string ⟨#[]⟩))])] [sb [0,0],sb [0],sb []]
def R10_24t3:LO:=[oM 17 84]
def R10_24t2:LO:=⟨some 84,.call (.c (.fn 21 [] [])) [.t 83],none⟩ :: R10_24t3
def R10_24t1:LO:=⟨some 83,.buildSl 1 3 [.s (.string ⟨#[]⟩),.s (.string ⟨#[]⟩),.s (.string ⟨#[]⟩)] [(0,.t 81),(1,.c (.s (.string ⟨#[61]⟩))),(2,.t 82)],none⟩ :: R10_24t2
def R10_24p0:LO:=[oF 80 1 16,oL 81 80,oM 82 17]
def R10_24:LO:=R10_24p0 ++ R10_24t1
def T10_24p0:=hT R10_24p0 [16,17,79,80] [81,82] 83 [] [(81,.op (.load false 1 (.t 0)) [.op (.fieldAddr 1 (.t 0)) [.t 16]]),(82,.t 17)] [sb [0],sb [],.tt 17]
def X10_24:=hS R10_24 R10_24p0 R10_24t1 [16,17,79,80] [81,82] [16,79,80,81,82,83,84]
def X10_24t1:=hP R10_24t1 R10_24t2 [81,82] [16,79,80,81,82,83,84] ⟨some 83,.buildSl 1 3 [.s (.string ⟨#[]⟩),.s (.string ⟨#[]⟩),.s (.string ⟨#[]⟩)] [(0,.t 81),(1,.c (.s (.string ⟨#[61]⟩))),(2,.t 82)],none⟩
def X10_24t2:=hP R10_24t2 R10_24t3 [83] [16,79,80,81,82,83,84] ⟨some 84,.call (.c (.fn 21 [] [])) [.t 83],none⟩
def T10_24t3:=hT R10_24t3 [16,79,80,81,82,83,84] [17] 18 [] [(17,.t 84)] [.tt 84]
def X10_24t3:=hL R10_24t3 [16,79,80,81,82,83,84] [17]
def R10_25t2:LO:=[⟨some 88,.call (.t 85) [.t 87],none⟩]
def R10_25t1:LO:=⟨some 87,.buildSl 1 2 [.s (.string ⟨#[]⟩),.s (.string ⟨#[]⟩)] [(0,.c (.s (.string ⟨#[32,32]⟩))),(1,.t 86)],none⟩ :: R10_25t2
def R10_25p0:LO:=[oM 85 10,oM 86 17]
def R10_25:LO:=R10_25p0 ++ R10_25t1
def T10_25p0:=hT R10_25p0 [16,17,79] [85,86] 87 [] [(85,.t 10),(86,.t 17)] [.tt 10,.tt 17]
def X10_25:=hS R10_25 R10_25p0 R10_25t1 [16,17,79] [85,86] [16,17,79,85,86,87,88]
def X10_25t1:=hP R10_25t1 R10_25t2 [86] [16,17,79,85,86,87,88] ⟨some 87,.buildSl 1 2 [.s (.string ⟨#[]⟩),.s (.string ⟨#[]⟩)] [(0,.c (.s (.string ⟨#[32,32]⟩))),(1,.t 86)],none⟩
def X10_25t2:=hX R10_25t2 [16,17,79,85,86,87,88] [⟨some 88,.call (.t 85) [.t 87],none⟩]
def R10_26:LO:=[⟨some 89,.bin .add (.t 67) (.c (.s (.int .i64 1))),none⟩,oM 67 89]
def T10_26:=hT R10_26 [89] [67] 90 [] [(67,.op (.bin .add (.t 0) (.c (.s (.int .i64 1)))) [.t 67,.c (.s (.int .i64 1))])] [sb [],sb []]
def s_f10_l1_b:ACode:=
 (.seq (.regionE R10_20 [] [68])
 (.seq (.cond (.t 68)
 .skip
 (.exit 6))
 (.seq (.block 7
 (.seq (.region R10_21 [] [68,69,70])
 (.seq (.region R10_22 [] [71,72,73,74,75,76])
 (.seq (.seq (.regionE R10_23 [77,78] [79])
 (.cond (.t 79)
 (.region R10_24 [] [16,79,80,81,82,83,84])
 .skip))
 (.region R10_25 [] [16,17,79,85,86,87,88])))))
 (.regionE R10_26 [89] [67]))))
def s_f10_l1:ACode:=s_f10_l1_b
def s_f10_l1_ev:=hE s_f10_l1 s_f10_l1_b
def R10_27:LO:=[⟨some 90,.bin .add (.t 55) (.c (.s (.int .i64 1))),none⟩,oM 55 90]
def T10_27:=hT R10_27 [65,66,67,68,90] [55] 91 [] [(55,.op (.bin .add (.t 0) (.c (.s (.int .i64 1)))) [.t 55,.c (.s (.int .i64 1))])] [sb [],sb []]
def s_f10_l2_b:ACode:=
 (.seq (.regionE R10_16 [] [56])
 (.seq (.cond (.t 56)
 .skip
 (.exit 4))
 (.seq (.block 5
 (.seq (.region R10_17 [] [56,57,58])
 (.seq (.region R10_18 [] [59,60,61,62,63])
 (.seq (.regionE R10_19 [14,64] [65,66,67])
 (.block 6
 (.loop [] s_f10_l1))))))
 (.regionE R10_27 [65,66,67,68,90] [55]))))
def s_f10_l2:ACode:=s_f10_l2_b
def s_f10_l2_ev:=hE s_f10_l2 s_f10_l2_b
def R10_28t2:LO:=[⟨some 93,.call (.t 91) [.t 92],none⟩]
def R10_28t1:LO:=⟨some 92,.buildSl 1 1 [.s (.string ⟨#[]⟩)] [(0,.c (.s (.string ⟨#[125]⟩)))],none⟩ :: R10_28t2
def R10_28p0:LO:=[oM 91 10]
def R10_28:LO:=R10_28p0 ++ R10_28t1
def T10_28p0:=hT R10_28p0 [53,54,55,56] [91] 92 [] [(91,.t 10)] [.tt 10]
def X10_28:=hS R10_28 R10_28p0 R10_28t1 [53,54,55,56] [91] [53,54,55,56,91,92,93]
def X10_28t1:=hP R10_28t1 R10_28t2 [] [53,54,55,56,91,92,93] ⟨some 92,.buildSl 1 1 [.s (.string ⟨#[]⟩)] [(0,.c (.s (.string ⟨#[125]⟩)))],none⟩
def X10_28t2:=hX R10_28t2 [53,54,55,56,91,92,93] [⟨some 93,.call (.t 91) [.t 92],none⟩]
def R10_29:LO:=[⟨some 94,.bin .add (.t 37) (.c (.s (.int .i64 1))),none⟩,oM 37 94]
def T10_29:=hT R10_29 [94] [37] 95 [] [(37,.op (.bin .add (.t 0) (.c (.s (.int .i64 1)))) [.t 37,.c (.s (.int .i64 1))])] [sb [],sb []]
def s_f10_l3_b:ACode:=
 (.seq (.regionE R10_12 [] [38])
 (.seq (.cond (.t 38)
 .skip
 (.exit 2))
 (.seq (.block 3
 (.seq (.region R10_13 [] [38,39,40])
 (.seq (.region R10_14 [] [41,42,43,44,45,46,47,48,49,50,51])
 (.seq (.seq (.regionE R10_15 [12,52] [53,54,55])
 (.block 4
 (.loop [] s_f10_l2)))
 (.region R10_28 [] [53,54,55,56,91,92,93])))))
 (.regionE R10_29 [94] [37]))))
def s_f10_l3:ACode:=s_f10_l3_b
def s_f10_l3_ev:=hE s_f10_l3 s_f10_l3_b
def R10_30t1:LO:=[⟨some 96,.bin .gtr (.t 95) (.c (.s (.int .i64 1048576))),none⟩]
def R10_30:LO:=⟨some 95,.call (.c (.fn 23 [] [])) [.t 9],none⟩ :: R10_30t1
def X10_30:=hP R10_30 R10_30t1 [8,10,35,36,37,38] [8,10,35,36,37,38,95] ⟨some 95,.call (.c (.fn 23 [] [])) [.t 9],none⟩
def T10_30t1:=hT R10_30t1 [8,10,35,36,37,38,95] [96] 97 [] [(96,.op (.bin .gtr (.t 0) (.c (.s (.int .i64 1048576)))) [.t 95,.c (.s (.int .i64 1048576))])] [sb []]
def X10_30t1:=hL R10_30t1 [8,10,35,36,37,38,95] [96]
def R10_31:LO:=[⟨some 2,.move (.c (.s (.string ⟨#[]⟩))),none⟩,⟨some 3,.move (.c (.s (.int .i64 2))),none⟩]
def T10_31:=hT R10_31 [9,96] [2,3] 4 [] [(2,.c (.s (.string ⟨#[]⟩))),(3,.c (.s (.int .i64 2)))] [.cc (.s (.string ⟨#[]⟩)),.cc (.s (.int .i64 2))]
def R10_32t1:LO:=[oM 2 97,⟨some 3,.move (.c (.s (.int .i64 0))),none⟩]
def R10_32:LO:=⟨some 97,.call (.c (.fn 24 [] [])) [.t 9],none⟩ :: R10_32t1
def X10_32:=hP R10_32 R10_32t1 [9,96] [9,96,97] ⟨some 97,.call (.c (.fn 24 [] [])) [.t 9],none⟩
def T10_32t1:=hT R10_32t1 [9,96,97] [2,3] 4 [] [(2,.t 97),(3,.c (.s (.int .i64 0)))] [.tt 97,.cc (.s (.int .i64 0))]
def X10_32t1:=hL R10_32t1 [9,96,97] [2,3]
def s_f10:ACFun:={ ntmps:=98,results:=[.tmp 2,.tmp 3],body:=
 (.seq (.region R10_0 [] K10_0)
 (.seq (.seq (.region R10_1 [] [])
 (.block 0
 (.loop [] s_f10_l0)))
 (.seq (.region R10_8 [] [18,19,20,21,32])
 (.seq (.region R10_9 [] [])
 (.seq (.regionE R10_10 [33] [10])
 (.seq (.seq (.regionE R10_11 [1,34] [35,36,37])
 (.block 2
 (.loop [] s_f10_l3)))
 (.seq (.seq (.region R10_30 [] [8,10,35,36,37,38,95])
 (.cond (.t 96)
 (.seq (.regionE R10_31 [9,96] [2,3])
 .ret)
 .skip))
 (.seq (.region R10_32 [] [9,96,97])
 .ret)))))))) }
theorem s_f10_first:firstOk (List.range' 1 (s_f10.ntmps - 1)) s_f10.body=true:=by kernel_rfl
abbrev k_f17:Nat:=17
def K17_0:List Nat:=List.range' 0 7
theorem s_f17_r0_kT:killV K17_0 (startV 7 [] 0)=[]:=by kernel_rfl
def R17_0:LO:=[⟨some 0,.move (.c (.s (.map none))),none⟩]
def T17_0:=hT R17_0 K17_0 [] 1 [] [] [.cc (.s (.map none))]
def R17_1t1:LO:=[⟨none,.store 1 (.t 1) (.c (.fn 52 [] [])),none⟩]
def R17_1:LO:=⟨some 1,.alloc [.s .nilFunc],none⟩ :: R17_1t1
def X17_1:=hP R17_1 R17_1t1 [] [] ⟨some 1,.alloc [.s .nilFunc],none⟩
def X17_1t1:=hX R17_1t1 [] [⟨none,.store 1 (.t 1) (.c (.fn 52 [] [])),none⟩]
def R17_2t18:LO:=[oM 6 2,oM 0 6]
def R17_2t17:LO:=⟨none,.mapUpd (.int .u8) (.t 2) (.c (.s (.int .u8 14))) (.c (.fn 68 [] [])),none⟩ :: R17_2t18
def R17_2t16:LO:=⟨none,.mapUpd (.int .u8) (.t 2) (.c (.s (.int .u8 13))) (.c (.fn 67 [] [])),none⟩ :: R17_2t17
def R17_2t15:LO:=⟨none,.mapUpd (.int .u8) (.t 2) (.c (.s (.int .u8 12))) (.c (.fn 66 [] [])),none⟩ :: R17_2t16
def R17_2t14:LO:=⟨none,.mapUpd (.int .u8) (.t 2) (.c (.s (.int .u8 11))) (.c (.fn 65 [] [])),none⟩ :: R17_2t15
def R17_2t13:LO:=⟨none,.mapUpd (.int .u8) (.t 2) (.c (.s (.int .u8 10))) (.c (.fn 64 [] [])),none⟩ :: R17_2t14
def R17_2t12:LO:=⟨none,.mapUpd (.int .u8) (.t 2) (.c (.s (.int .u8 9))) (.c (.fn 63 [] [])),none⟩ :: R17_2t13
def R17_2t11:LO:=⟨none,.mapUpd (.int .u8) (.t 2) (.c (.s (.int .u8 8))) (.c (.fn 62 [] [])),none⟩ :: R17_2t12
def R17_2t10:LO:=⟨none,.mapUpd (.int .u8) (.t 2) (.c (.s (.int .u8 7))) (.t 5),none⟩ :: R17_2t11
def R17_2p9:LO:=[⟨some 5,.mkFn 61 [] [.t 1],none⟩]
def R17_2t9:LO:=R17_2p9 ++ R17_2t10
def R17_2t8:LO:=⟨none,.mapUpd (.int .u8) (.t 2) (.c (.s (.int .u8 6))) (.c (.fn 59 [] [])),none⟩ :: R17_2t9
def R17_2t7:LO:=⟨none,.mapUpd (.int .u8) (.t 2) (.c (.s (.int .u8 5))) (.c (.fn 58 [] [])),none⟩ :: R17_2t8
def R17_2t6:LO:=⟨none,.mapUpd (.int .u8) (.t 2) (.c (.s (.int .u8 4))) (.c (.fn 57 [] [])),none⟩ :: R17_2t7
def R17_2t5:LO:=⟨none,.mapUpd (.int .u8) (.t 2) (.c (.s (.int .u8 3))) (.c (.fn 56 [] [])),none⟩ :: R17_2t6
def R17_2t4:LO:=⟨none,.mapUpd (.int .u8) (.t 2) (.c (.s (.int .u8 2))) (.t 4),none⟩ :: R17_2t5
def R17_2p3:LO:=[⟨some 4,.mkFn 55 [] [.t 1],none⟩]
def R17_2t3:LO:=R17_2p3 ++ R17_2t4
def R17_2t2:LO:=⟨none,.mapUpd (.int .u8) (.t 2) (.c (.s (.int .u8 1))) (.t 3),none⟩ :: R17_2t3
def R17_2p1:LO:=[⟨some 3,.mkFn 54 [] [.t 1],none⟩]
def R17_2t1:LO:=R17_2p1 ++ R17_2t2
def R17_2:LO:=⟨some 2,.mapNew,none⟩ :: R17_2t1
def X17_2:=hP R17_2 R17_2t1 [] [1,2,3,4,5,6] ⟨some 2,.mapNew,none⟩
def T17_2p1:=hT R17_2p1 [] [3] 4 [] [(3,.op (.mkFn 54 [] [.t 0]) [.t 1])] [sb []]
def X17_2t1:=hS R17_2t1 R17_2p1 R17_2t2 [] [3] [1,2,3,4,5,6]
def X17_2t2:=hP R17_2t2 R17_2t3 [3] [1,2,3,4,5,6] ⟨none,.mapUpd (.int .u8) (.t 2) (.c (.s (.int .u8 1))) (.t 3),none⟩
def T17_2p3:=hT R17_2p3 [] [4] 5 [] [(4,.op (.mkFn 55 [] [.t 0]) [.t 1])] [sb []]
def X17_2t3:=hS R17_2t3 R17_2p3 R17_2t4 [] [4] [1,2,3,4,5,6]
def X17_2t4:=hP R17_2t4 R17_2t5 [4] [1,2,3,4,5,6] ⟨none,.mapUpd (.int .u8) (.t 2) (.c (.s (.int .u8 2))) (.t 4),none⟩
def X17_2t5:=hP R17_2t5 R17_2t6 [] [1,2,3,4,5,6] ⟨none,.mapUpd (.int .u8) (.t 2) (.c (.s (.int .u8 3))) (.c (.fn 56 [] [])),none⟩
def X17_2t6:=hP R17_2t6 R17_2t7 [] [1,2,3,4,5,6] ⟨none,.mapUpd (.int .u8) (.t 2) (.c (.s (.int .u8 4))) (.c (.fn 57 [] [])),none⟩
def X17_2t7:=hP R17_2t7 R17_2t8 [] [1,2,3,4,5,6] ⟨none,.mapUpd (.int .u8) (.t 2) (.c (.s (.int .u8 5))) (.c (.fn 58 [] [])),none⟩
def X17_2t8:=hP R17_2t8 R17_2t9 [] [1,2,3,4,5,6] ⟨none,.mapUpd (.int .u8) (.t 2) (.c (.s (.int .u8 6))) (.c (.fn 59 [] [])),none⟩
def T17_2p9:=hT R17_2p9 [1] [5] 6 [] [(5,.op (.mkFn 61 [] [.t 0]) [.t 1])] [sb []]
def X17_2t9:=hS R17_2t9 R17_2p9 R17_2t10 [1] [5] [1,2,3,4,5,6]
def X17_2t10:=hP R17_2t10 R17_2t11 [5] [1,2,3,4,5,6] ⟨none,.mapUpd (.int .u8) (.t 2) (.c (.s (.int .u8 7))) (.t 5),none⟩
def X17_2t11:=hP R17_2t11 R17_2t12 [] [1,2,3,4,5,6] ⟨none,.mapUpd (.int .u8) (.t 2) (.c (.s (.int .u8 8))) (.c (.fn 62 [] [])),none⟩
def X17_2t12:=hP R17_2t12 R17_2t13 [] [1,2,3,4,5,6] ⟨none,.mapUpd (.int .u8) (.t 2) (.c (.s (.int .u8 9))) (.c (.fn 63 [] [])),none⟩
def X17_2t13:=hP R17_2t13 R17_2t14 [] [1,2,3,4,5,6] ⟨none,.mapUpd (.int .u8) (.t 2) (.c (.s (.int .u8 10))) (.c (.fn 64 [] [])),none⟩
def X17_2t14:=hP R17_2t14 R17_2t15 [] [1,2,3,4,5,6] ⟨none,.mapUpd (.int .u8) (.t 2) (.c (.s (.int .u8 11))) (.c (.fn 65 [] [])),none⟩
def X17_2t15:=hP R17_2t15 R17_2t16 [] [1,2,3,4,5,6] ⟨none,.mapUpd (.int .u8) (.t 2) (.c (.s (.int .u8 12))) (.c (.fn 66 [] [])),none⟩
def X17_2t16:=hP R17_2t16 R17_2t17 [] [1,2,3,4,5,6] ⟨none,.mapUpd (.int .u8) (.t 2) (.c (.s (.int .u8 13))) (.c (.fn 67 [] [])),none⟩
def X17_2t17:=hP R17_2t17 R17_2t18 [] [1,2,3,4,5,6] ⟨none,.mapUpd (.int .u8) (.t 2) (.c (.s (.int .u8 14))) (.c (.fn 68 [] [])),none⟩
def T17_2t18:=hT R17_2t18 [1,2,3,4,5,6] [0] 7 [] [(0,.t 2)] [.tt 2,.tt 2]
def X17_2t18:=hL R17_2t18 [1,2,3,4,5,6] [0]
def s_f17:ACFun:={ ntmps:=7,results:=[.tmp 0],body:=
 (.seq (.regionE R17_0 K17_0 [])
 (.seq (.region R17_1 [] [])
 (.seq (.region R17_2 [] [1,2,3,4,5,6])
 .ret))) }
abbrev k_f18:Nat:=18
def K18_0:List Nat:=List.range' 0 7
def A18_0_0:=hQ K18_0 0
def A18_0_1:=hQ K18_0 1
def A18_0_3:=hQ K18_0 3
def A18_0_4:=hQ K18_0 4
def A18_0_5:=hQ K18_0 5
def A18_0_6:=hQ K18_0 6
def R18_0t3:LO:=[⟨some 6,.call (.c (.fn 19 [] [])) [.t 1,.t 5],none⟩]
def R18_0p2:LO:=[⟨some 5,.bin .add (.t 4) (.c (.s (.string ⟨#[10]⟩))),none⟩]
def R18_0t2:LO:=R18_0p2 ++ R18_0t3
def R18_0t1:LO:=⟨some 4,.call (.c (.fn 20 [] [])) [.t 3,.c (.s (.string ⟨#[]⟩))],none⟩ :: R18_0t2
def R18_0p0:LO:=[oM 3 0]
def R18_0:LO:=R18_0p0 ++ R18_0t1
def T18_0p0:=hT R18_0p0 [0,2,4,5,6] [3] 4 [] [(3,.t 0)] [.tt 0]
def X18_0:=hS R18_0 R18_0p0 R18_0t1 [0,2,4,5,6] [3] K18_0
def X18_0t1:=hP R18_0t1 R18_0t2 [3] K18_0 ⟨some 4,.call (.c (.fn 20 [] [])) [.t 3,.c (.s (.string ⟨#[]⟩))],none⟩
def T18_0p2:=hT R18_0p2 [4] [5] 6 [] [(5,.op (.bin .add (.t 0) (.c (.s (.string ⟨#[10]⟩)))) [.t 4,.c (.s (.string ⟨#[10]⟩))])] [sb []]
def X18_0t2:=hS R18_0t2 R18_0p2 R18_0t3 [4] [5] K18_0
def X18_0t3:=hX R18_0t3 K18_0 [⟨some 6,.call (.c (.fn 19 [] [])) [.t 1,.t 5],none⟩]
def s_f18:ACFun:={ ntmps:=7,results:=[],body:=
 (.region R18_0 [] K18_0) }
theorem s_f18_first:firstOk (List.range' 2 (s_f18.ntmps - 2)) s_f18.body=true:=by kernel_rfl
abbrev k_f19:Nat:=19
def K19_0:List Nat:=List.range' 2 17
theorem s_f19_r0_kT:killV K19_0 (startV 19 [] 2)=[]:=by kernel_rfl
def s_f19_r0_kA0:=hK K19_0 0
def s_f19_r0_kA1:=hK K19_0 1
def R19_0:LO:=[⟨some 4,.move (.c (.s (.int .i64 0))),none⟩,⟨some 5,.move (.c (.s .nilIface)),none⟩]
def T19_0:=hT R19_0 K19_0 [] 6 [] [] [.cc (.s (.int .i64 0)),.cc (.s .nilIface)]
def R19_1t1:LO:=[⟨some 7,.call (.c (.fn 70 [] [])) [.t 6],none⟩]
def R19_1p0:LO:=[oM 6 0]
def R19_1:LO:=R19_1p0 ++ R19_1t1
def T19_1p0:=hT R19_1p0 [] [6] 7 [] [(6,.t 0)] [.tt 0]
def X19_1:=hS R19_1 R19_1p0 R19_1t1 [] [6] [6,7]
def X19_1t1:=hX R19_1t1 [6,7] [⟨some 7,.call (.c (.fn 70 [] [])) [.t 6],none⟩]
def R19_2t3:LO:=[⟨none,.store 1 (.t 16) (.t 14),none⟩]
def R19_2p2:LO:=[⟨some 15,.nilCheck (.t 8),none⟩,oF 16 1 15]
def R19_2t2:LO:=R19_2p2 ++ R19_2t3
def R19_2t1:LO:=⟨some 14,.append 1 1 (.t 12) (.t 13),none⟩ :: R19_2t2
def R19_2p0:LO:=[oM 8 0,oM 9 0,⟨some 10,.nilCheck (.t 9),none⟩,oF 11 1 10,oL 12 11,oM 13 1]
def R19_2:LO:=R19_2p0 ++ R19_2t1
def T19_2p0:=hT R19_2p0 [0,9,10,11] [8,12,13] 14 [] [(8,.t 0),(12,.op (.load false 1 (.t 0)) [.op (.fieldAddr 1 (.t 0)) [.op (.nilCheck (.t 0)) [.t 0]]]),(13,.t 1)] [.tt 0,.tt 0,.sub 1 [0,0] [],.sub 1 [0] [],.sub 1 [] [],.tt 1]
def X19_2:=hS R19_2 R19_2p0 R19_2t1 [0,9,10,11] [8,12,13] [0,8,9,10,11,12,13,14,15,16]
def X19_2t1:=hP R19_2t1 R19_2t2 [12,13] [0,8,9,10,11,12,13,14,15,16] ⟨some 14,.append 1 1 (.t 12) (.t 13),none⟩
def T19_2p2:=hT R19_2p2 [8,15] [16] 17 [] [(16,.op (.fieldAddr 1 (.t 0)) [.op (.nilCheck (.t 0)) [.t 8]])] [sb [0],sb []]
def X19_2t2:=hS R19_2t2 R19_2p2 R19_2t3 [8,15] [16] [0,8,9,10,11,12,13,14,15,16]
def X19_2t3:=hX R19_2t3 [0,8,9,10,11,12,13,14,15,16] [⟨none,.store 1 (.t 16) (.t 14),none⟩]
def R19_3:LO:=[oM 17 1,⟨some 18,.lenS .p (.t 17),none⟩,oM 4 18,⟨some 5,.move (.c (.s .nilIface)),none⟩]
def T19_3:=hT R19_3 [1,17,18] [4,5] 19 [] [(4,.op (.lenS .p (.t 0)) [.t 1]),(5,.c (.s .nilIface))] [.tt 1,sb [],sb [],.cc (.s .nilIface)]
def s_f19:ACFun:={ ntmps:=19,results:=[.tmp 4,.tmp 5],body:=
 (.seq (.regionE R19_0 K19_0 [])
 (.seq (.region R19_1 [] [6,7])
 (.seq (.region R19_2 [] [0,8,9,10,11,12,13,14,15,16])
 (.seq (.regionE R19_3 [1,17,18] [4,5])
 .ret)))) }
abbrev k_f21:Nat:=21
def K21_0:List Nat:=[1,2,3,4]
theorem s_f21_r0_kT:killV K21_0 (startV 5 [] 1)=[]:=by kernel_rfl
def s_f21_r0_kA0:=hK K21_0 0
def R21_0:LO:=[⟨some 2,.move (.c (.s (.string ⟨#[]⟩))),none⟩]
def T21_0:=hT R21_0 K21_0 [] 3 [] [] [.cc (.s (.string ⟨#[]⟩))]
def R21_1t2:LO:=[oM 2 4]
def R21_1t1:LO:=⟨some 4,.call (.c (.fn 20 [] [])) [.t 3,.c (.s (.string ⟨#[32]⟩))],none⟩ :: R21_1t2
def R21_1p0:LO:=[oM 3 0]
def R21_1:LO:=R21_1p0 ++ R21_1t1
def T21_1p0:=hT R21_1p0 [0] [3] 4 [] [(3,.t 0)] [.tt 0]
def X21_1:=hS R21_1 R21_1p0 R21_1t1 [0] [3] [0,3,4]
def X21_1t1:=hP R21_1t1 R21_1t2 [3] [0,3,4] ⟨some 4,.call (.c (.fn 20 [] [])) [.t 3,.c (.s (.string ⟨#[32]⟩))],none⟩
def T21_1t2:=hT R21_1t2 [0,3,4] [2] 3 [] [(2,.t 4)] [.tt 4]
def X21_1t2:=hL R21_1t2 [0,3,4] [2]
def s_f21:ACFun:={ ntmps:=5,results:=[.tmp 2],body:=
 (.seq (.regionE R21_0 K21_0 [])
 (.seq (.region R21_1 [] [0,3,4])
 .ret)) }
abbrev k_f22:Nat:=22
def K22_0:List Nat:=List.range' 1 6
theorem s_f22_r0_kT:killV K22_0 (startV 7 [] 1)=[]:=by kernel_rfl
def s_f22_r0_kA0:=hK K22_0 0
def R22_0:LO:=[⟨some 2,.move (.c (.s (.string ⟨#[]⟩))),none⟩]
def T22_0:=hT R22_0 K22_0 [] 3 [] [] [.cc (.s (.string ⟨#[]⟩))]
def R22_1t2:LO:=[⟨some 5,.bin .add (.c (.s (.string ⟨#[40]⟩))) (.t 4),none⟩,⟨some 6,.bin .add (.t 5) (.c (.s (.string ⟨#[41]⟩))),none⟩,oM 2 6]
def R22_1t1:LO:=⟨some 4,.call (.c (.fn 20 [] [])) [.t 3,.c (.s (.string ⟨#[44,32]⟩))],none⟩ :: R22_1t2
def R22_1p0:LO:=[oM 3 0]
def R22_1:LO:=R22_1p0 ++ R22_1t1
def T22_1p0:=hT R22_1p0 [0] [3] 4 [] [(3,.t 0)] [.tt 0]
def X22_1:=hS R22_1 R22_1p0 R22_1t1 [0] [3] [0,3,4,5,6]
def X22_1t1:=hP R22_1t1 R22_1t2 [3] [0,3,4,5,6] ⟨some 4,.call (.c (.fn 20 [] [])) [.t 3,.c (.s (.string ⟨#[44,32]⟩))],none⟩
def T22_1t2:=hT R22_1t2 [0,3,4,5,6] [2] 7 [] [(2,.op (.bin .add (.t 0) (.c (.s (.string ⟨#[41]⟩)))) [.op (.bin .add (.c (.s (.string ⟨#[40]⟩))) (.t 1)) [.c (.s (.string ⟨#[40]⟩)),.t 4],.c (.s (.string ⟨#[41]⟩))])] [sb [0],sb [],sb []]
def X22_1t2:=hL R22_1t2 [0,3,4,5,6] [2]
def s_f22:ACFun:={ ntmps:=7,results:=[.tmp 2],body:=
 (.seq (.regionE R22_0 K22_0 [])
 (.seq (.region R22_1 [] [0,3,4,5,6])
 .ret)) }
abbrev k_f23:Nat:=23
def K23_0:List Nat:=List.range' 1 7
theorem s_f23_r0_kT:killV K23_0 (startV 8 [] 1)=[]:=by kernel_rfl
def s_f23_r0_kA0:=hK K23_0 0
def R23_0:LO:=[⟨some 2,.move (.c (.s (.int .i64 0))),none⟩]
def T23_0:=hT R23_0 K23_0 [] 3 [] [] [.cc (.s (.int .i64 0))]
def R23_1:LO:=[oM 3 0,⟨some 4,.nilCheck (.t 3),none⟩,oF 5 1 4,oL 6 5,⟨some 7,.lenS .s (.t 6),none⟩,oM 2 7]
def T23_1:=hT R23_1 [0,3,4,5,6,7] [2] 8 [] [(2,.op (.lenS .s (.t 0)) [.op (.load false 1 (.t 0)) [.op (.fieldAddr 1 (.t 0)) [.op (.nilCheck (.t 0)) [.t 0]]]])] [.tt 0,sb [0,0,0],sb [0,0],sb [0],sb [],sb []]
def s_f23:ACFun:={ ntmps:=8,results:=[.tmp 2],body:=
 (.seq (.regionE R23_0 K23_0 [])
 (.seq (.regionE R23_1 [0,3,4,5,6,7] [2])
 .ret)) }
abbrev k_f52:Nat:=52
def K52_0:List Nat:=[0,2,3,4,5]
def A52_0_0:=hQ K52_0 0
def A52_0_1:=hK K52_0 1
def A52_0_2:=hQ K52_0 2
def R52_0t1:LO:=[⟨some 2,.move (.c (.s (.string ⟨#[]⟩))),none⟩]
def R52_0:LO:=⟨some 1,.box (.t 0),none⟩ :: R52_0t1
def X52_0:=hP R52_0 R52_0t1 [0,2,3,4,5] K52_0 ⟨some 1,.box (.t 0),none⟩
def T52_0t1:=hT R52_0t1 K52_0 [] 3 [] [] [.cc (.s (.string ⟨#[]⟩))]
def X52_0t1:=hL R52_0t1 K52_0 []
def R52_1t2:LO:=[oM 2 5]
def R52_1t1:LO:=⟨some 5,.call (.c (.fn 53 [] [])) [.t 4],none⟩ :: R52_1t2
def R52_1p0:LO:=[oF 3 4 1,oL 4 3]
def R52_1:LO:=R52_1p0 ++ R52_1t1
def T52_1p0:=hT R52_1p0 [1,3] [4] 5 [] [(4,.op (.load false 1 (.t 0)) [.op (.fieldAddr 4 (.t 0)) [.t 1]])] [sb [0],sb []]
def X52_1:=hS R52_1 R52_1p0 R52_1t1 [1,3] [4] [1,3,4,5]
def X52_1t1:=hP R52_1t1 R52_1t2 [4] [1,3,4,5] ⟨some 5,.call (.c (.fn 53 [] [])) [.t 4],none⟩
def T52_1t2:=hT R52_1t2 [1,3,4,5] [2] 3 [] [(2,.t 5)] [.tt 5]
def X52_1t2:=hL R52_1t2 [1,3,4,5] [2]
def s_f52:ACFun:={ ntmps:=6,results:=[.tmp 2],body:=
 (.seq (.region R52_0 [] K52_0)
 (.seq (.region R52_1 [] [1,3,4,5])
 .ret)) }
theorem s_f52_first:firstOk (List.range' 1 (s_f52.ntmps - 1)) s_f52.body=true:=by kernel_rfl
abbrev k_f54:Nat:=54
def K54_0:List Nat:=[0,3,4,5,6,7,8]
def A54_0_0:=hQ K54_0 0
def A54_0_1:=hK K54_0 1
def A54_0_2:=hK K54_0 2
def A54_0_3:=hQ K54_0 3
def R54_0t1:LO:=[⟨some 3,.move (.c (.s (.string ⟨#[]⟩))),none⟩]
def R54_0:LO:=⟨some 2,.box (.t 0),none⟩ :: R54_0t1
def X54_0:=hP R54_0 R54_0t1 [0,3,4,5,6,7,8] K54_0 ⟨some 2,.box (.t 0),none⟩
def T54_0t1:=hT R54_0t1 K54_0 [] 4 [] [] [.cc (.s (.string ⟨#[]⟩))]
def X54_0t1:=hL R54_0t1 K54_0 []
def R54_1t4:LO:=[oM 3 8]
def R54_1t3:LO:=⟨some 8,.call (.c (.fn 21 [] [])) [.t 7],none⟩ :: R54_1t4
def R54_1t2:LO:=⟨some 7,.buildSl 1 2 [.s (.string ⟨#[]⟩),.s (.string ⟨#[]⟩)] [(0,.c (.s (.string ⟨#[97,108,108,111,99,97]⟩))),(1,.t 6)],none⟩ :: R54_1t3
def R54_1t1:LO:=⟨some 6,.call (.t 4) [.t 5],none⟩ :: R54_1t2
def R54_1p0:LO:=[oL 4 1,⟨some 5,.load true 8 (.t 2),none⟩]
def R54_1:LO:=R54_1p0 ++ R54_1t1
def T54_1p0:=hT R54_1p0 [1,2] [4,5] 6 [] [(4,.op (.load false 1 (.t 0)) [.t 1]),(5,.op (.load true 8 (.t 0)) [.t 2])] [sb [],.sub 1 [] []]
def X54_1:=hS R54_1 R54_1p0 R54_1t1 [1,2] [4,5] [1,2,4,5,6,7,8]
def X54_1t1:=hP R54_1t1 R54_1t2 [4,5] [1,2,4,5,6,7,8] ⟨some 6,.call (.t 4) [.t 5],none⟩
def X54_1t2:=hP R54_1t2 R54_1t3 [6] [1,2,4,5,6,7,8] ⟨some 7,.buildSl 1 2 [.s (.string ⟨#[]⟩),.s (.string ⟨#[]⟩)] [(0,.c (.s (.string ⟨#[97,108,108,111,99,97]⟩))),(1,.t 6)],none⟩
def X54_1t3:=hP R54_1t3 R54_1t4 [7] [1,2,4,5,6,7,8] ⟨some 8,.call (.c (.fn 21 [] [])) [.t 7],none⟩
def T54_1t4:=hT R54_1t4 [1,2,4,5,6,7,8] [3] 4 [] [(3,.t 8)] [.tt 8]
def X54_1t4:=hL R54_1t4 [1,2,4,5,6,7,8] [3]
def s_f54:ACFun:={ ntmps:=9,results:=[.tmp 3],body:=
 (.seq (.region R54_0 [] K54_0)
 (.seq (.region R54_1 [] [1,2,4,5,6,7,8])
 .ret)) }
theorem s_f54_first:firstOk (List.range' 2 (s_f54.ntmps - 2)) s_f54.body=true:=by kernel_rfl
abbrev k_f55:Nat:=55
def K55_0:List Nat:=[0,3,4,5,6,7,8]
def A55_0_0:=hQ K55_0 0
def A55_0_1:=hK K55_0 1
def A55_0_2:=hK K55_0 2
def A55_0_3:=hQ K55_0 3
def R55_0t1:LO:=[⟨some 3,.move (.c (.s (.string ⟨#[]⟩))),none⟩]
def R55_0:LO:=⟨some 2,.box (.t 0),none⟩ :: R55_0t1
def X55_0:=hP R55_0 R55_0t1 [0,3,4,5,6,7,8] K55_0 ⟨some 2,.box (.t 0),none⟩
def T55_0t1:=hT R55_0t1 K55_0 [] 4 [] [] [.cc (.s (.string ⟨#[]⟩))]
def X55_0t1:=hL R55_0t1 K55_0 []
def R55_1t4:LO:=[oM 3 8]
def R55_1t3:LO:=⟨some 8,.call (.c (.fn 21 [] [])) [.t 7],none⟩ :: R55_1t4
def R55_1t2:LO:=⟨some 7,.buildSl 1 2 [.s (.string ⟨#[]⟩),.s (.string ⟨#[]⟩)] [(0,.c (.s (.string ⟨#[109,97,108,108,111,99]⟩))),(1,.t 6)],none⟩ :: R55_1t3
def R55_1t1:LO:=⟨some 6,.call (.t 4) [.t 5],none⟩ :: R55_1t2
def R55_1p0:LO:=[oL 4 1,⟨some 5,.load true 8 (.t 2),none⟩]
def R55_1:LO:=R55_1p0 ++ R55_1t1
def T55_1p0:=hT R55_1p0 [1,2] [4,5] 6 [] [(4,.op (.load false 1 (.t 0)) [.t 1]),(5,.op (.load true 8 (.t 0)) [.t 2])] [sb [],.sub 1 [] []]
def X55_1:=hS R55_1 R55_1p0 R55_1t1 [1,2] [4,5] [1,2,4,5,6,7,8]
def X55_1t1:=hP R55_1t1 R55_1t2 [4,5] [1,2,4,5,6,7,8] ⟨some 6,.call (.t 4) [.t 5],none⟩
def X55_1t2:=hP R55_1t2 R55_1t3 [6] [1,2,4,5,6,7,8] ⟨some 7,.buildSl 1 2 [.s (.string ⟨#[]⟩),.s (.string ⟨#[]⟩)] [(0,.c (.s (.string ⟨#[109,97,108,108,111,99]⟩))),(1,.t 6)],none⟩
def X55_1t3:=hP R55_1t3 R55_1t4 [7] [1,2,4,5,6,7,8] ⟨some 8,.call (.c (.fn 21 [] [])) [.t 7],none⟩
def T55_1t4:=hT R55_1t4 [1,2,4,5,6,7,8] [3] 4 [] [(3,.t 8)] [.tt 8]
def X55_1t4:=hL R55_1t4 [1,2,4,5,6,7,8] [3]
def s_f55:ACFun:={ ntmps:=9,results:=[.tmp 3],body:=
 (.seq (.region R55_0 [] K55_0)
 (.seq (.region R55_1 [] [1,2,4,5,6,7,8])
 .ret)) }
theorem s_f55_first:firstOk (List.range' 2 (s_f55.ntmps - 2)) s_f55.body=true:=by kernel_rfl
abbrev k_f56:Nat:=56
def K56_0:List Nat:=[0,1,2]
def A56_0_0:=hQ K56_0 0
def A56_0_1:=hQ K56_0 1
def A56_0_2:=hQ K56_0 2
def R56_0t1:LO:=[⟨some 2,.move (.c (.s (.string ⟨#[]⟩))),none⟩]
def R56_0:LO:=⟨some 1,.box (.t 0),none⟩ :: R56_0t1
def X56_0:=hP R56_0 R56_0t1 [0,1,2] K56_0 ⟨some 1,.box (.t 0),none⟩
def T56_0t1:=hT R56_0t1 K56_0 [] 3 [] [] [.cc (.s (.string ⟨#[]⟩))]
def X56_0t1:=hL R56_0t1 K56_0 []
def R56_1:LO:=[⟨some 2,.move (.c (.s (.string ⟨#[110,117,108,108]⟩))),none⟩]
def T56_1:=hT R56_1 [] [2] 3 [] [(2,.c (.s (.string ⟨#[110,117,108,108]⟩)))] [.cc (.s (.string ⟨#[110,117,108,108]⟩))]
def s_f56:ACFun:={ ntmps:=3,results:=[.tmp 2],body:=
 (.seq (.region R56_0 [] K56_0)
 (.seq (.regionE R56_1 [] [2])
 .ret)) }
theorem s_f56_first:firstOk (List.range' 1 (s_f56.ntmps - 1)) s_f56.body=true:=by kernel_rfl
abbrev k_f57:Nat:=57
def K57_0:List Nat:=[0,2,3,4,5,6]
def A57_0_0:=hQ K57_0 0
def A57_0_1:=hK K57_0 1
def A57_0_2:=hQ K57_0 2
def R57_0t1:LO:=[⟨some 2,.move (.c (.s (.string ⟨#[]⟩))),none⟩]
def R57_0:LO:=⟨some 1,.box (.t 0),none⟩ :: R57_0t1
def X57_0:=hP R57_0 R57_0t1 [0,2,3,4,5,6] K57_0 ⟨some 1,.box (.t 0),none⟩
def T57_0t1:=hT R57_0t1 K57_0 [] 3 [] [] [.cc (.s (.string ⟨#[]⟩))]
def X57_0t1:=hL R57_0t1 K57_0 []
def R57_1t3:LO:=[oM 2 6]
def R57_1t2:LO:=⟨some 6,.call (.c (.fn 21 [] [])) [.t 5],none⟩ :: R57_1t3
def R57_1t1:LO:=⟨some 5,.buildSl 1 2 [.s (.string ⟨#[]⟩),.s (.string ⟨#[]⟩)] [(0,.c (.s (.string ⟨#[97,100,100,114]⟩))),(1,.t 4)],none⟩ :: R57_1t2
def R57_1p0:LO:=[oF 3 5 1,oL 4 3]
def R57_1:LO:=R57_1p0 ++ R57_1t1
def T57_1p0:=hT R57_1p0 [1,3] [4] 5 [] [(4,.op (.load false 1 (.t 0)) [.op (.fieldAddr 5 (.t 0)) [.t 1]])] [sb [0],sb []]
def X57_1:=hS R57_1 R57_1p0 R57_1t1 [1,3] [4] [1,3,4,5,6]
def X57_1t1:=hP R57_1t1 R57_1t2 [4] [1,3,4,5,6] ⟨some 5,.buildSl 1 2 [.s (.string ⟨#[]⟩),.s (.string ⟨#[]⟩)] [(0,.c (.s (.string ⟨#[97,100,100,114]⟩))),(1,.t 4)],none⟩
def X57_1t2:=hP R57_1t2 R57_1t3 [5] [1,3,4,5,6] ⟨some 6,.call (.c (.fn 21 [] [])) [.t 5],none⟩
def T57_1t3:=hT R57_1t3 [1,3,4,5,6] [2] 3 [] [(2,.t 6)] [.tt 6]
def X57_1t3:=hL R57_1t3 [1,3,4,5,6] [2]
def s_f57:ACFun:={ ntmps:=7,results:=[.tmp 2],body:=
 (.seq (.region R57_0 [] K57_0)
 (.seq (.region R57_1 [] [1,3,4,5,6])
 .ret)) }
theorem s_f57_first:firstOk (List.range' 1 (s_f57.ntmps - 1)) s_f57.body=true:=by kernel_rfl
abbrev k_f58:Nat:=58
def K58_0:List Nat:=[0,2,3,4,5,6]
def A58_0_0:=hQ K58_0 0
def A58_0_1:=hK K58_0 1
def A58_0_2:=hQ K58_0 2
def R58_0t1:LO:=[⟨some 2,.move (.c (.s (.string ⟨#[]⟩))),none⟩]
def R58_0:LO:=⟨some 1,.box (.t 0),none⟩ :: R58_0t1
def X58_0:=hP R58_0 R58_0t1 [0,2,3,4,5,6] K58_0 ⟨some 1,.box (.t 0),none⟩
def T58_0t1:=hT R58_0t1 K58_0 [] 3 [] [] [.cc (.s (.string ⟨#[]⟩))]
def X58_0t1:=hL R58_0t1 K58_0 []
def R58_1t3:LO:=[oM 2 6]
def R58_1t2:LO:=⟨some 6,.call (.c (.fn 21 [] [])) [.t 5],none⟩ :: R58_1t3
def R58_1t1:LO:=⟨some 5,.buildSl 1 2 [.s (.string ⟨#[]⟩),.s (.string ⟨#[]⟩)] [(0,.c (.s (.string ⟨#[99,111,112,121]⟩))),(1,.t 4)],none⟩ :: R58_1t2
def R58_1p0:LO:=[oF 3 2 1,oL 4 3]
def R58_1:LO:=R58_1p0 ++ R58_1t1
def T58_1p0:=hT R58_1p0 [1,3] [4] 5 [] [(4,.op (.load false 1 (.t 0)) [.op (.fieldAddr 2 (.t 0)) [.t 1]])] [sb [0],sb []]
def X58_1:=hS R58_1 R58_1p0 R58_1t1 [1,3] [4] [1,3,4,5,6]
def X58_1t1:=hP R58_1t1 R58_1t2 [4] [1,3,4,5,6] ⟨some 5,.buildSl 1 2 [.s (.string ⟨#[]⟩),.s (.string ⟨#[]⟩)] [(0,.c (.s (.string ⟨#[99,111,112,121]⟩))),(1,.t 4)],none⟩
def X58_1t2:=hP R58_1t2 R58_1t3 [5] [1,3,4,5,6] ⟨some 6,.call (.c (.fn 21 [] [])) [.t 5],none⟩
def T58_1t3:=hT R58_1t3 [1,3,4,5,6] [2] 3 [] [(2,.t 6)] [.tt 6]
def X58_1t3:=hL R58_1t3 [1,3,4,5,6] [2]
def s_f58:ACFun:={ ntmps:=7,results:=[.tmp 2],body:=
 (.seq (.region R58_0 [] K58_0)
 (.seq (.region R58_1 [] [1,3,4,5,6])
 .ret)) }
theorem s_f58_first:firstOk (List.range' 1 (s_f58.ntmps - 1)) s_f58.body=true:=by kernel_rfl
abbrev k_f59:Nat:=59
def K59_0:List Nat:=[0,2,3,4,5,6]
def A59_0_0:=hQ K59_0 0
def A59_0_1:=hK K59_0 1
def A59_0_2:=hQ K59_0 2
def R59_0t1:LO:=[⟨some 2,.move (.c (.s (.string ⟨#[]⟩))),none⟩]
def R59_0:LO:=⟨some 1,.box (.t 0),none⟩ :: R59_0t1
def X59_0:=hP R59_0 R59_0t1 [0,2,3,4,5,6] K59_0 ⟨some 1,.box (.t 0),none⟩
def T59_0t1:=hT R59_0t1 K59_0 [] 3 [] [] [.cc (.s (.string ⟨#[]⟩))]
def X59_0t1:=hL R59_0t1 K59_0 []
def R59_1t4:LO:=[oM 2 6]
def R59_1t3:LO:=⟨some 6,.call (.c (.fn 21 [] [])) [.t 5],none⟩ :: R59_1t4
def R59_1t2:LO:=⟨some 5,.buildSl 1 2 [.s (.string ⟨#[]⟩),.s (.string ⟨#[]⟩)] [(0,.c (.s (.string ⟨#[112,104,105]⟩))),(1,.t 4)],none⟩ :: R59_1t3
def R59_1t1:LO:=⟨some 4,.call (.c (.fn 60 [] [])) [.t 3],none⟩ :: R59_1t2
def R59_1p0:LO:=[⟨some 3,.load true 8 (.t 1),none⟩]
def R59_1:LO:=R59_1p0 ++ R59_1t1
def T59_1p0:=hT R59_1p0 [1] [3] 4 [] [(3,.op (.load true 8 (.t 0)) [.t 1])] [sb []]
def X59_1:=hS R59_1 R59_1p0 R59_1t1 [1] [3] [1,3,4,5,6]
def X59_1t1:=hP R59_1t1 R59_1t2 [3] [1,3,4,5,6] ⟨some 4,.call (.c (.fn 60 [] [])) [.t 3],none⟩
def X59_1t2:=hP R59_1t2 R59_1t3 [4] [1,3,4,5,6] ⟨some 5,.buildSl 1 2 [.s (.string ⟨#[]⟩),.s (.string ⟨#[]⟩)] [(0,.c (.s (.string ⟨#[112,104,105]⟩))),(1,.t 4)],none⟩
def X59_1t3:=hP R59_1t3 R59_1t4 [5] [1,3,4,5,6] ⟨some 6,.call (.c (.fn 21 [] [])) [.t 5],none⟩
def T59_1t4:=hT R59_1t4 [1,3,4,5,6] [2] 3 [] [(2,.t 6)] [.tt 6]
def X59_1t4:=hL R59_1t4 [1,3,4,5,6] [2]
def s_f59:ACFun:={ ntmps:=7,results:=[.tmp 2],body:=
 (.seq (.region R59_0 [] K59_0)
 (.seq (.region R59_1 [] [1,3,4,5,6])
 .ret)) }
theorem s_f59_first:firstOk (List.range' 1 (s_f59.ntmps - 1)) s_f59.body=true:=by kernel_rfl
abbrev k_f60:Nat:=60
def K60_0:List Nat:=[0] ++ List.range' 2 28
def A60_0_0:=hQ K60_0 0
def A60_0_1:=hK K60_0 1
def A60_0_2:=hQ K60_0 2
def R60_0t1:LO:=[⟨some 2,.move (.c (.s (.string ⟨#[]⟩))),none⟩]
def R60_0:LO:=⟨some 1,.box (.t 0),none⟩ :: R60_0t1
def X60_0:=hP R60_0 R60_0t1 [0,2,3,4,5,6,7,8,9,10,11,12,13,14,15,16,17,18,19,20,21,22,23,24,25,26,27,28,29] K60_0 ⟨some 1,.box (.t 0),none⟩
def T60_0t1:=hT R60_0t1 K60_0 [] 3 [] [] [.cc (.s (.string ⟨#[]⟩))]
def X60_0t1:=hL R60_0t1 K60_0 []
def R60_1:LO:=[⟨some 3,.move (.c (.s (.slice none 0 0))),none⟩]
def T60_1:=hT R60_1 [] [3] 4 [] [(3,.c (.s (.slice none 0 0)))] [.cc (.s (.slice none 0 0))]
def R60_2:LO:=[oF 6 7 1,oL 7 6,⟨some 8,.lenS .s (.t 7),none⟩,⟨some 9,.move (.c (.s (.int .i64 0))),none⟩]
def T60_2:=hT R60_2 [6] [7,8,9] 10 [] [(7,.op (.load false 1 (.t 0)) [.op (.fieldAddr 7 (.t 0)) [.t 1]]),(8,.op (.lenS .s (.t 0)) [.op (.load false 1 (.t 0)) [.op (.fieldAddr 7 (.t 0)) [.t 1]]]),(9,.c (.s (.int .i64 0)))] [sb [0],sb [],.sub 1 [] [],.cc (.s (.int .i64 0))]
def R60_3:LO:=[⟨some 10,.bin .lss (.t 9) (.t 8),none⟩]
def T60_3:=hT R60_3 [] [10] 11 [] [(10,.op (.bin .lss (.t 0) (.t 1)) [.t 9,.t 8])] [sb []]
def R60_4:LO:=[oM 11 9,⟨some 12,.indexAddr 1 (.t 7) (.t 9),none⟩,oL 13 12,oM 4 11,oM 5 13]
def T60_4:=hT R60_4 [10,11,12,13] [4,5] 14 [] [(4,.t 9),(5,.op (.load false 1 (.t 0)) [.op (.indexAddr 1 (.t 0) (.t 1)) [.t 7,.t 9]])] [.tt 9,.sub 1 [0] [],.sub 1 [] [],.tt 9,.sub 1 [] []]
def R60_5t3:LO:=[oM 3 24]
def R60_5t2:LO:=⟨some 24,.append 1 16 (.t 14) (.t 23),none⟩ :: R60_5t3
def R60_5t1:LO:=⟨some 23,.buildSl 1 1 [.s (.string ⟨#[]⟩)] [(0,.t 22)],none⟩ :: R60_5t2
def R60_5p0:LO:=[oM 14 3,oM 15 5,⟨some 16,.bin .add (.t 15) (.c (.s (.string ⟨#[58,32]⟩))),none⟩,oF 17 6 1,oL 18 17,oM 19 4,⟨some 20,.indexAddr 1 (.t 18) (.t 19),none⟩,oL 21 20,⟨some 22,.bin .add (.t 16) (.t 21),none⟩]
def R60_5:LO:=R60_5p0 ++ R60_5t1
def T60_5p0:=hT R60_5p0 [3,4,5,15,16,17,18,19,20,21] [14,22] 23 [] [(14,.t 3),(22,.op (.bin .add (.t 0) (.t 1)) [.op (.bin .add (.t 0) (.c (.s (.string ⟨#[58,32]⟩)))) [.t 5,.c (.s (.string ⟨#[58,32]⟩))],.op (.load false 1 (.t 0)) [.op (.indexAddr 1 (.t 0) (.t 1)) [.op (.load false 1 (.t 0)) [.op (.fieldAddr 6 (.t 0)) [.t 1]],.t 4]]])] [.tt 3,.tt 5,.sub 1 [0] [],.sub 1 [1,0,0,0] [],.sub 1 [1,0,0] [],.tt 4,.sub 1 [1,0] [],.sub 1 [1] [],.sub 1 [] []]
def X60_5:=hS R60_5 R60_5p0 R60_5t1 [3,4,5,15,16,17,18,19,20,21] [14,22] [4,5,14,15,16,17,18,19,20,21,22,23,24]
def X60_5t1:=hP R60_5t1 R60_5t2 [22] [4,5,14,15,16,17,18,19,20,21,22,23,24] ⟨some 23,.buildSl 1 1 [.s (.string ⟨#[]⟩)] [(0,.t 22)],none⟩
def X60_5t2:=hP R60_5t2 R60_5t3 [14,23] [4,5,14,15,16,17,18,19,20,21,22,23,24] ⟨some 24,.append 1 16 (.t 14) (.t 23),none⟩
def T60_5t3:=hT R60_5t3 [4,5,14,15,16,17,18,19,20,21,22,23,24] [3] 4 [] [(3,.t 24)] [.tt 24]
def X60_5t3:=hL R60_5t3 [4,5,14,15,16,17,18,19,20,21,22,23,24] [3]
def R60_6:LO:=[⟨some 25,.bin .add (.t 9) (.c (.s (.int .i64 1))),none⟩,oM 9 25]
def T60_6:=hT R60_6 [25] [9] 26 [] [(9,.op (.bin .add (.t 0) (.c (.s (.int .i64 1)))) [.t 9,.c (.s (.int .i64 1))])] [sb [],sb []]
def s_f60_l0_b:ACode:=
 (.seq (.regionE R60_3 [] [10])
 (.seq (.cond (.t 10)
 .skip
 (.exit 0))
 (.seq (.block 1
 (.seq (.regionE R60_4 [10,11,12,13] [4,5])
 (.region R60_5 [] [4,5,14,15,16,17,18,19,20,21,22,23,24])))
 (.regionE R60_6 [25] [9]))))
def s_f60_l0:ACode:=s_f60_l0_b
def s_f60_l0_ev:=hE s_f60_l0 s_f60_l0_b
def R60_7t2:LO:=[⟨some 28,.bin .add (.c (.s (.string ⟨#[91]⟩))) (.t 27),none⟩,⟨some 29,.bin .add (.t 28) (.c (.s (.string ⟨#[93]⟩))),none⟩,oM 2 29]
def R60_7t1:LO:=⟨some 27,.call (.c (.fn 20 [] [])) [.t 26,.c (.s (.string ⟨#[44,32]⟩))],none⟩ :: R60_7t2
def R60_7p0:LO:=[oM 26 3]
def R60_7:LO:=R60_7p0 ++ R60_7t1
def T60_7p0:=hT R60_7p0 [1,3,7,8,9,10] [26] 27 [] [(26,.t 3)] [.tt 3]
def X60_7:=hS R60_7 R60_7p0 R60_7t1 [1,3,7,8,9,10] [26] [1,3,7,8,9,10,26,27,28,29]
def X60_7t1:=hP R60_7t1 R60_7t2 [26] [1,3,7,8,9,10,26,27,28,29] ⟨some 27,.call (.c (.fn 20 [] [])) [.t 26,.c (.s (.string ⟨#[44,32]⟩))],none⟩
def T60_7t2:=hT R60_7t2 [1,3,7,8,9,10,26,27,28,29] [2] 30 [] [(2,.op (.bin .add (.t 0) (.c (.s (.string ⟨#[93]⟩)))) [.op (.bin .add (.c (.s (.string ⟨#[91]⟩))) (.t 1)) [.c (.s (.string ⟨#[91]⟩)),.t 27],.c (.s (.string ⟨#[93]⟩))])] [sb [0],sb [],sb []]
def X60_7t2:=hL R60_7t2 [1,3,7,8,9,10,26,27,28,29] [2]
def s_f60:ACFun:={ ntmps:=30,results:=[.tmp 2],body:=
 (.seq (.region R60_0 [] K60_0)
 (.seq (.regionE R60_1 [] [3])
 (.seq (.seq (.regionE R60_2 [6] [7,8,9])
 (.block 0
 (.loop [] s_f60_l0)))
 (.seq (.region R60_7 [] [1,3,7,8,9,10,26,27,28,29])
 .ret)))) }
theorem s_f60_first:firstOk (List.range' 1 (s_f60.ntmps - 1)) s_f60.body=true:=by kernel_rfl
abbrev k_f61:Nat:=61
def K61_0:List Nat:=[0] ++ List.range' 3 8
def A61_0_0:=hQ K61_0 0
def A61_0_1:=hK K61_0 1
def A61_0_2:=hK K61_0 2
def A61_0_3:=hQ K61_0 3
def R61_0t1:LO:=[⟨some 3,.move (.c (.s (.string ⟨#[]⟩))),none⟩]
def R61_0:LO:=⟨some 2,.box (.t 0),none⟩ :: R61_0t1
def X61_0:=hP R61_0 R61_0t1 [0,3,4,5,6,7,8,9,10] K61_0 ⟨some 2,.box (.t 0),none⟩
def T61_0t1:=hT R61_0t1 K61_0 [] 4 [] [] [.cc (.s (.string ⟨#[]⟩))]
def X61_0t1:=hL R61_0t1 K61_0 []
def R61_1t4:LO:=[oM 3 10]
def R61_1t3:LO:=⟨some 10,.call (.c (.fn 21 [] [])) [.t 9],none⟩ :: R61_1t4
def R61_1t2:LO:=⟨some 9,.buildSl 1 3 [.s (.string ⟨#[]⟩),.s (.string ⟨#[]⟩),.s (.string ⟨#[]⟩)] [(0,.c (.s (.string ⟨#[102,105,101,108,100]⟩))),(1,.t 5),(2,.t 8)],none⟩ :: R61_1t3
def R61_1t1:LO:=⟨some 8,.callR (.t 6) [.t 7],none⟩ :: R61_1t2
def R61_1p0:LO:=[oF 4 2 2,oL 5 4,oL 6 1,⟨some 7,.load true 8 (.t 2),none⟩]
def R61_1:LO:=R61_1p0 ++ R61_1t1
def T61_1p0:=hT R61_1p0 [1,2,4] [5,6,7] 8 [] [(5,.op (.load false 1 (.t 0)) [.op (.fieldAddr 2 (.t 0)) [.t 2]]),(6,.op (.load false 1 (.t 0)) [.t 1]),(7,.op (.load true 8 (.t 0)) [.t 2])] [sb [0],sb [],.sub 1 [] [],.sub 2 [] []]
def X61_1:=hS R61_1 R61_1p0 R61_1t1 [1,2,4] [5,6,7] [1,2,4,5,6,7,8,9,10]
def X61_1t1:=hP R61_1t1 R61_1t2 [6,7] [1,2,4,5,6,7,8,9,10] ⟨some 8,.callR (.t 6) [.t 7],none⟩
def X61_1t2:=hP R61_1t2 R61_1t3 [5,8] [1,2,4,5,6,7,8,9,10] ⟨some 9,.buildSl 1 3 [.s (.string ⟨#[]⟩),.s (.string ⟨#[]⟩),.s (.string ⟨#[]⟩)] [(0,.c (.s (.string ⟨#[102,105,101,108,100]⟩))),(1,.t 5),(2,.t 8)],none⟩
def X61_1t3:=hP R61_1t3 R61_1t4 [9] [1,2,4,5,6,7,8,9,10] ⟨some 10,.call (.c (.fn 21 [] [])) [.t 9],none⟩
def T61_1t4:=hT R61_1t4 [1,2,4,5,6,7,8,9,10] [3] 4 [] [(3,.t 10)] [.tt 10]
def X61_1t4:=hL R61_1t4 [1,2,4,5,6,7,8,9,10] [3]
def s_f61:ACFun:={ ntmps:=11,results:=[.tmp 3],body:=
 (.seq (.region R61_0 [] K61_0)
 (.seq (.region R61_1 [] [1,2,4,5,6,7,8,9,10])
 .ret)) }
theorem s_f61_first:firstOk (List.range' 2 (s_f61.ntmps - 2)) s_f61.body=true:=by kernel_rfl
abbrev k_f62:Nat:=62
def K62_0:List Nat:=[0,2,3,4,5,6]
def A62_0_0:=hQ K62_0 0
def A62_0_1:=hK K62_0 1
def A62_0_2:=hQ K62_0 2
def R62_0t1:LO:=[⟨some 2,.move (.c (.s (.string ⟨#[]⟩))),none⟩]
def R62_0:LO:=⟨some 1,.box (.t 0),none⟩ :: R62_0t1
def X62_0:=hP R62_0 R62_0t1 [0,2,3,4,5,6] K62_0 ⟨some 1,.box (.t 0),none⟩
def T62_0t1:=hT R62_0t1 K62_0 [] 3 [] [] [.cc (.s (.string ⟨#[]⟩))]
def X62_0t1:=hL R62_0t1 K62_0 []
def R62_1t3:LO:=[oM 2 6]
def R62_1t2:LO:=⟨some 6,.call (.c (.fn 21 [] [])) [.t 5],none⟩ :: R62_1t3
def R62_1t1:LO:=⟨some 5,.buildSl 1 2 [.s (.string ⟨#[]⟩),.s (.string ⟨#[]⟩)] [(0,.c (.s (.string ⟨#[108,111,97,100]⟩))),(1,.t 4)],none⟩ :: R62_1t2
def R62_1p0:LO:=[oF 3 2 1,oL 4 3]
def R62_1:LO:=R62_1p0 ++ R62_1t1
def T62_1p0:=hT R62_1p0 [1,3] [4] 5 [] [(4,.op (.load false 1 (.t 0)) [.op (.fieldAddr 2 (.t 0)) [.t 1]])] [sb [0],sb []]
def X62_1:=hS R62_1 R62_1p0 R62_1t1 [1,3] [4] [1,3,4,5,6]
def X62_1t1:=hP R62_1t1 R62_1t2 [4] [1,3,4,5,6] ⟨some 5,.buildSl 1 2 [.s (.string ⟨#[]⟩),.s (.string ⟨#[]⟩)] [(0,.c (.s (.string ⟨#[108,111,97,100]⟩))),(1,.t 4)],none⟩
def X62_1t2:=hP R62_1t2 R62_1t3 [5] [1,3,4,5,6] ⟨some 6,.call (.c (.fn 21 [] [])) [.t 5],none⟩
def T62_1t3:=hT R62_1t3 [1,3,4,5,6] [2] 3 [] [(2,.t 6)] [.tt 6]
def X62_1t3:=hL R62_1t3 [1,3,4,5,6] [2]
def s_f62:ACFun:={ ntmps:=7,results:=[.tmp 2],body:=
 (.seq (.region R62_0 [] K62_0)
 (.seq (.region R62_1 [] [1,3,4,5,6])
 .ret)) }
theorem s_f62_first:firstOk (List.range' 1 (s_f62.ntmps - 1)) s_f62.body=true:=by kernel_rfl
abbrev k_f63:Nat:=63
def K63_0:List Nat:=[0] ++ List.range' 2 8
def A63_0_0:=hQ K63_0 0
def A63_0_1:=hK K63_0 1
def A63_0_2:=hQ K63_0 2
def R63_0t1:LO:=[⟨some 2,.move (.c (.s (.string ⟨#[]⟩))),none⟩]
def R63_0:LO:=⟨some 1,.box (.t 0),none⟩ :: R63_0t1
def X63_0:=hP R63_0 R63_0t1 [0,2,3,4,5,6,7,8,9] K63_0 ⟨some 1,.box (.t 0),none⟩
def T63_0t1:=hT R63_0t1 K63_0 [] 3 [] [] [.cc (.s (.string ⟨#[]⟩))]
def X63_0t1:=hL R63_0t1 K63_0 []
def R63_1t3:LO:=[oM 2 9]
def R63_1t2:LO:=⟨some 9,.call (.c (.fn 21 [] [])) [.t 8],none⟩ :: R63_1t3
def R63_1t1:LO:=⟨some 8,.buildSl 1 3 [.s (.string ⟨#[]⟩),.s (.string ⟨#[]⟩),.s (.string ⟨#[]⟩)] [(0,.c (.s (.string ⟨#[115,116,111,114,101]⟩))),(1,.t 5),(2,.t 7)],none⟩ :: R63_1t2
def R63_1p0:LO:=[oF 3 2 1,oL 4 3,⟨some 5,.bin .add (.t 4) (.c (.s (.string ⟨#[44]⟩))),none⟩,oF 6 3 1,oL 7 6]
def R63_1:LO:=R63_1p0 ++ R63_1t1
def T63_1p0:=hT R63_1p0 [1,3,4,6] [5,7] 8 [] [(5,.op (.bin .add (.t 0) (.c (.s (.string ⟨#[44]⟩)))) [.op (.load false 1 (.t 0)) [.op (.fieldAddr 2 (.t 0)) [.t 1]],.c (.s (.string ⟨#[44]⟩))]),(7,.op (.load false 1 (.t 0)) [.op (.fieldAddr 3 (.t 0)) [.t 1]])] [sb [0,0],sb [0],sb [],.sub 1 [0] [],.sub 1 [] []]
def X63_1:=hS R63_1 R63_1p0 R63_1t1 [1,3,4,6] [5,7] [1,3,4,5,6,7,8,9]
def X63_1t1:=hP R63_1t1 R63_1t2 [5,7] [1,3,4,5,6,7,8,9] ⟨some 8,.buildSl 1 3 [.s (.string ⟨#[]⟩),.s (.string ⟨#[]⟩),.s (.string ⟨#[]⟩)] [(0,.c (.s (.string ⟨#[115,116,111,114,101]⟩))),(1,.t 5),(2,.t 7)],none⟩
def X63_1t2:=hP R63_1t2 R63_1t3 [8] [1,3,4,5,6,7,8,9] ⟨some 9,.call (.c (.fn 21 [] [])) [.t 8],none⟩
def T63_1t3:=hT R63_1t3 [1,3,4,5,6,7,8,9] [2] 3 [] [(2,.t 9)] [.tt 9]
def X63_1t3:=hL R63_1t3 [1,3,4,5,6,7,8,9] [2]
def s_f63:ACFun:={ ntmps:=10,results:=[.tmp 2],body:=
 (.seq (.region R63_0 [] K63_0)
 (.seq (.region R63_1 [] [1,3,4,5,6,7,8,9])
 .ret)) }
theorem s_f63_first:firstOk (List.range' 1 (s_f63.ntmps - 1)) s_f63.body=true:=by kernel_rfl
abbrev k_f64:Nat:=64
def K64_0:List Nat:=[0] ++ List.range' 2 9
def A64_0_0:=hQ K64_0 0
def A64_0_1:=hK K64_0 1
def A64_0_2:=hQ K64_0 2
def R64_0t1:LO:=[⟨some 2,.move (.c (.s (.string ⟨#[]⟩))),none⟩]
def R64_0:LO:=⟨some 1,.box (.t 0),none⟩ :: R64_0t1
def X64_0:=hP R64_0 R64_0t1 [0,2,3,4,5,6,7,8,9,10] K64_0 ⟨some 1,.box (.t 0),none⟩
def T64_0t1:=hT R64_0t1 K64_0 [] 3 [] [] [.cc (.s (.string ⟨#[]⟩))]
def X64_0t1:=hL R64_0t1 K64_0 []
def R64_1t5:LO:=[oM 2 10]
def R64_1t4:LO:=⟨some 10,.call (.c (.fn 21 [] [])) [.t 9],none⟩ :: R64_1t5
def R64_1t3:LO:=⟨some 9,.buildSl 1 2 [.s (.string ⟨#[]⟩),.s (.string ⟨#[]⟩)] [(0,.c (.s (.string ⟨#[99,97,108,108]⟩))),(1,.t 8)],none⟩ :: R64_1t4
def R64_1p2:LO:=[⟨some 8,.bin .add (.t 4) (.t 7),none⟩]
def R64_1t2:LO:=R64_1p2 ++ R64_1t3
def R64_1t1:LO:=⟨some 7,.callR (.c (.fn 22 [] [])) [.t 6],none⟩ :: R64_1t2
def R64_1p0:LO:=[oF 3 5 1,oL 4 3,oF 5 6 1,oL 6 5]
def R64_1:LO:=R64_1p0 ++ R64_1t1
def T64_1p0:=hT R64_1p0 [1,3,5] [4,6] 7 [] [(4,.op (.load false 1 (.t 0)) [.op (.fieldAddr 5 (.t 0)) [.t 1]]),(6,.op (.load false 1 (.t 0)) [.op (.fieldAddr 6 (.t 0)) [.t 1]])] [sb [0],sb [],.sub 1 [0] [],.sub 1 [] []]
def X64_1:=hS R64_1 R64_1p0 R64_1t1 [1,3,5] [4,6] [1,3,4,5,6,7,8,9,10]
def X64_1t1:=hP R64_1t1 R64_1t2 [6] [1,3,4,5,6,7,8,9,10] ⟨some 7,.callR (.c (.fn 22 [] [])) [.t 6],none⟩
def T64_1p2:=hT R64_1p2 [4,7] [8] 9 [] [(8,.op (.bin .add (.t 0) (.t 1)) [.t 4,.t 7])] [sb []]
def X64_1t2:=hS R64_1t2 R64_1p2 R64_1t3 [4,7] [8] [1,3,4,5,6,7,8,9,10]
def X64_1t3:=hP R64_1t3 R64_1t4 [8] [1,3,4,5,6,7,8,9,10] ⟨some 9,.buildSl 1 2 [.s (.string ⟨#[]⟩),.s (.string ⟨#[]⟩)] [(0,.c (.s (.string ⟨#[99,97,108,108]⟩))),(1,.t 8)],none⟩
def X64_1t4:=hP R64_1t4 R64_1t5 [9] [1,3,4,5,6,7,8,9,10] ⟨some 10,.call (.c (.fn 21 [] [])) [.t 9],none⟩
def T64_1t5:=hT R64_1t5 [1,3,4,5,6,7,8,9,10] [2] 3 [] [(2,.t 10)] [.tt 10]
def X64_1t5:=hL R64_1t5 [1,3,4,5,6,7,8,9,10] [2]
def s_f64:ACFun:={ ntmps:=11,results:=[.tmp 2],body:=
 (.seq (.region R64_0 [] K64_0)
 (.seq (.region R64_1 [] [1,3,4,5,6,7,8,9,10])
 .ret)) }
theorem s_f64_first:firstOk (List.range' 1 (s_f64.ntmps - 1)) s_f64.body=true:=by kernel_rfl
abbrev k_f65:Nat:=65
def K65_0:List Nat:=[0] ++ List.range' 2 9
def A65_0_0:=hQ K65_0 0
def A65_0_1:=hK K65_0 1
def A65_0_2:=hQ K65_0 2
def R65_0t1:LO:=[⟨some 2,.move (.c (.s (.string ⟨#[]⟩))),none⟩]
def R65_0:LO:=⟨some 1,.box (.t 0),none⟩ :: R65_0t1
def X65_0:=hP R65_0 R65_0t1 [0,2,3,4,5,6,7,8,9,10] K65_0 ⟨some 1,.box (.t 0),none⟩
def T65_0t1:=hT R65_0t1 K65_0 [] 3 [] [] [.cc (.s (.string ⟨#[]⟩))]
def X65_0t1:=hL R65_0t1 K65_0 []
def R65_1t5:LO:=[oM 2 10]
def R65_1t4:LO:=⟨some 10,.call (.c (.fn 21 [] [])) [.t 9],none⟩ :: R65_1t5
def R65_1t3:LO:=⟨some 9,.buildSl 1 2 [.s (.string ⟨#[]⟩),.s (.string ⟨#[]⟩)] [(0,.c (.s (.string ⟨#[105,99,97,108,108]⟩))),(1,.t 8)],none⟩ :: R65_1t4
def R65_1p2:LO:=[⟨some 8,.bin .add (.t 4) (.t 7),none⟩]
def R65_1t2:LO:=R65_1p2 ++ R65_1t3
def R65_1t1:LO:=⟨some 7,.callR (.c (.fn 22 [] [])) [.t 6],none⟩ :: R65_1t2
def R65_1p0:LO:=[oF 3 2 1,oL 4 3,oF 5 6 1,oL 6 5]
def R65_1:LO:=R65_1p0 ++ R65_1t1
def T65_1p0:=hT R65_1p0 [1,3,5] [4,6] 7 [] [(4,.op (.load false 1 (.t 0)) [.op (.fieldAddr 2 (.t 0)) [.t 1]]),(6,.op (.load false 1 (.t 0)) [.op (.fieldAddr 6 (.t 0)) [.t 1]])] [sb [0],sb [],.sub 1 [0] [],.sub 1 [] []]
def X65_1:=hS R65_1 R65_1p0 R65_1t1 [1,3,5] [4,6] [1,3,4,5,6,7,8,9,10]
def X65_1t1:=hP R65_1t1 R65_1t2 [6] [1,3,4,5,6,7,8,9,10] ⟨some 7,.callR (.c (.fn 22 [] [])) [.t 6],none⟩
def T65_1p2:=hT R65_1p2 [4,7] [8] 9 [] [(8,.op (.bin .add (.t 0) (.t 1)) [.t 4,.t 7])] [sb []]
def X65_1t2:=hS R65_1t2 R65_1p2 R65_1t3 [4,7] [8] [1,3,4,5,6,7,8,9,10]
def X65_1t3:=hP R65_1t3 R65_1t4 [8] [1,3,4,5,6,7,8,9,10] ⟨some 9,.buildSl 1 2 [.s (.string ⟨#[]⟩),.s (.string ⟨#[]⟩)] [(0,.c (.s (.string ⟨#[105,99,97,108,108]⟩))),(1,.t 8)],none⟩
def X65_1t4:=hP R65_1t4 R65_1t5 [9] [1,3,4,5,6,7,8,9,10] ⟨some 10,.call (.c (.fn 21 [] [])) [.t 9],none⟩
def T65_1t5:=hT R65_1t5 [1,3,4,5,6,7,8,9,10] [2] 3 [] [(2,.t 10)] [.tt 10]
def X65_1t5:=hL R65_1t5 [1,3,4,5,6,7,8,9,10] [2]
def s_f65:ACFun:={ ntmps:=11,results:=[.tmp 2],body:=
 (.seq (.region R65_0 [] K65_0)
 (.seq (.region R65_1 [] [1,3,4,5,6,7,8,9,10])
 .ret)) }
theorem s_f65_first:firstOk (List.range' 1 (s_f65.ntmps - 1)) s_f65.body=true:=by kernel_rfl
abbrev k_f66:Nat:=66
def K66_0:List Nat:=[0] ++ List.range' 2 11
def A66_0_0:=hQ K66_0 0
def A66_0_1:=hK K66_0 1
def A66_0_2:=hQ K66_0 2
def R66_0t1:LO:=[⟨some 2,.move (.c (.s (.string ⟨#[]⟩))),none⟩]
def R66_0:LO:=⟨some 1,.box (.t 0),none⟩ :: R66_0t1
def X66_0:=hP R66_0 R66_0t1 [0,2,3,4,5,6,7,8,9,10,11,12] K66_0 ⟨some 1,.box (.t 0),none⟩
def T66_0t1:=hT R66_0t1 K66_0 [] 3 [] [] [.cc (.s (.string ⟨#[]⟩))]
def X66_0t1:=hL R66_0t1 K66_0 []
def R66_1t3:LO:=[oM 2 12]
def R66_1t2:LO:=⟨some 12,.call (.c (.fn 21 [] [])) [.t 11],none⟩ :: R66_1t3
def R66_1t1:LO:=⟨some 11,.buildSl 1 3 [.s (.string ⟨#[]⟩),.s (.string ⟨#[]⟩),.s (.string ⟨#[]⟩)] [(0,.c (.s (.string ⟨#[98,114]⟩))),(1,.t 6),(2,.t 10)],none⟩ :: R66_1t2
def R66_1p0:LO:=[oF 3 7 1,oL 4 3,⟨some 5,.indexAddr 1 (.t 4) (.c (.s (.int .i64 0))),none⟩,oL 6 5,oF 7 7 1,oL 8 7,⟨some 9,.indexAddr 1 (.t 8) (.c (.s (.int .i64 1))),none⟩,oL 10 9]
def R66_1:LO:=R66_1p0 ++ R66_1t1
def T66_1p0:=hT R66_1p0 [1,3,4,5,7,8,9] [6,10] 11 [] [(6,.op (.load false 1 (.t 0)) [.op (.indexAddr 1 (.t 0) (.c (.s (.int .i64 0)))) [.op (.load false 1 (.t 0)) [.op (.fieldAddr 7 (.t 0)) [.t 1]],.c (.s (.int .i64 0))]]),(10,.op (.load false 1 (.t 0)) [.op (.indexAddr 1 (.t 0) (.c (.s (.int .i64 1)))) [.op (.load false 1 (.t 0)) [.op (.fieldAddr 7 (.t 0)) [.t 1]],.c (.s (.int .i64 1))]])] [sb [0,0,0],sb [0,0],sb [0],sb [],sb [0,0,0],sb [0,0],.sub 1 [0] [],.sub 1 [] []]
def X66_1:=hS R66_1 R66_1p0 R66_1t1 [1,3,4,5,7,8,9] [6,10] [1,3,4,5,6,7,8,9,10,11,12]
def X66_1t1:=hP R66_1t1 R66_1t2 [6,10] [1,3,4,5,6,7,8,9,10,11,12] ⟨some 11,.buildSl 1 3 [.s (.string ⟨#[]⟩),.s (.string ⟨#[]⟩),.s (.string ⟨#[]⟩)] [(0,.c (.s (.string ⟨#[98,114]⟩))),(1,.t 6),(2,.t 10)],none⟩
def X66_1t2:=hP R66_1t2 R66_1t3 [11] [1,3,4,5,6,7,8,9,10,11,12] ⟨some 12,.call (.c (.fn 21 [] [])) [.t 11],none⟩
def T66_1t3:=hT R66_1t3 [1,3,4,5,6,7,8,9,10,11,12] [2] 3 [] [(2,.t 12)] [.tt 12]
def X66_1t3:=hL R66_1t3 [1,3,4,5,6,7,8,9,10,11,12] [2]
def s_f66:ACFun:={ ntmps:=13,results:=[.tmp 2],body:=
 (.seq (.region R66_0 [] K66_0)
 (.seq (.region R66_1 [] [1,3,4,5,6,7,8,9,10,11,12])
 .ret)) }
theorem s_f66_first:firstOk (List.range' 1 (s_f66.ntmps - 1)) s_f66.body=true:=by kernel_rfl
abbrev k_f67:Nat:=67
def K67_0:List Nat:=[0,2,3,4,5,6,7,8]
def A67_0_0:=hQ K67_0 0
def A67_0_1:=hK K67_0 1
def A67_0_2:=hQ K67_0 2
def R67_0t1:LO:=[⟨some 2,.move (.c (.s (.string ⟨#[]⟩))),none⟩]
def R67_0:LO:=⟨some 1,.box (.t 0),none⟩ :: R67_0t1
def X67_0:=hP R67_0 R67_0t1 [0,2,3,4,5,6,7,8] K67_0 ⟨some 1,.box (.t 0),none⟩
def T67_0t1:=hT R67_0t1 K67_0 [] 3 [] [] [.cc (.s (.string ⟨#[]⟩))]
def X67_0t1:=hL R67_0t1 K67_0 []
def R67_1t3:LO:=[oM 2 8]
def R67_1t2:LO:=⟨some 8,.call (.c (.fn 21 [] [])) [.t 7],none⟩ :: R67_1t3
def R67_1t1:LO:=⟨some 7,.buildSl 1 2 [.s (.string ⟨#[]⟩),.s (.string ⟨#[]⟩)] [(0,.c (.s (.string ⟨#[103,111,116,111]⟩))),(1,.t 6)],none⟩ :: R67_1t2
def R67_1p0:LO:=[oF 3 7 1,oL 4 3,⟨some 5,.indexAddr 1 (.t 4) (.c (.s (.int .i64 0))),none⟩,oL 6 5]
def R67_1:LO:=R67_1p0 ++ R67_1t1
def T67_1p0:=hT R67_1p0 [1,3,4,5] [6] 7 [] [(6,.op (.load false 1 (.t 0)) [.op (.indexAddr 1 (.t 0) (.c (.s (.int .i64 0)))) [.op (.load false 1 (.t 0)) [.op (.fieldAddr 7 (.t 0)) [.t 1]],.c (.s (.int .i64 0))]])] [sb [0,0,0],sb [0,0],sb [0],sb []]
def X67_1:=hS R67_1 R67_1p0 R67_1t1 [1,3,4,5] [6] [1,3,4,5,6,7,8]
def X67_1t1:=hP R67_1t1 R67_1t2 [6] [1,3,4,5,6,7,8] ⟨some 7,.buildSl 1 2 [.s (.string ⟨#[]⟩),.s (.string ⟨#[]⟩)] [(0,.c (.s (.string ⟨#[103,111,116,111]⟩))),(1,.t 6)],none⟩
def X67_1t2:=hP R67_1t2 R67_1t3 [7] [1,3,4,5,6,7,8] ⟨some 8,.call (.c (.fn 21 [] [])) [.t 7],none⟩
def T67_1t3:=hT R67_1t3 [1,3,4,5,6,7,8] [2] 3 [] [(2,.t 8)] [.tt 8]
def X67_1t3:=hL R67_1t3 [1,3,4,5,6,7,8] [2]
def s_f67:ACFun:={ ntmps:=9,results:=[.tmp 2],body:=
 (.seq (.region R67_0 [] K67_0)
 (.seq (.region R67_1 [] [1,3,4,5,6,7,8])
 .ret)) }
theorem s_f67_first:firstOk (List.range' 1 (s_f67.ntmps - 1)) s_f67.body=true:=by kernel_rfl
abbrev k_f68:Nat:=68
def K68_0:List Nat:=[0,2,3,4,5,6,7]
def A68_0_0:=hQ K68_0 0
def A68_0_1:=hK K68_0 1
def A68_0_2:=hQ K68_0 2
def R68_0t1:LO:=[⟨some 2,.move (.c (.s (.string ⟨#[]⟩))),none⟩]
def R68_0:LO:=⟨some 1,.box (.t 0),none⟩ :: R68_0t1
def X68_0:=hP R68_0 R68_0t1 [0,2,3,4,5,6,7] K68_0 ⟨some 1,.box (.t 0),none⟩
def T68_0t1:=hT R68_0t1 K68_0 [] 3 [] [] [.cc (.s (.string ⟨#[]⟩))]
def X68_0t1:=hL R68_0t1 K68_0 []
def R68_1t4:LO:=[oM 2 7]
def R68_1t3:LO:=⟨some 7,.call (.c (.fn 69 [] [])) [.t 6,.c (.s (.string ⟨#[32]⟩))],none⟩ :: R68_1t4
def R68_1t2:LO:=⟨some 6,.call (.c (.fn 21 [] [])) [.t 5],none⟩ :: R68_1t3
def R68_1t1:LO:=⟨some 5,.buildSl 1 2 [.s (.string ⟨#[]⟩),.s (.string ⟨#[]⟩)] [(0,.c (.s (.string ⟨#[114,101,116]⟩))),(1,.t 4)],none⟩ :: R68_1t2
def R68_1p0:LO:=[oF 3 2 1,oL 4 3]
def R68_1:LO:=R68_1p0 ++ R68_1t1
def T68_1p0:=hT R68_1p0 [1,3] [4] 5 [] [(4,.op (.load false 1 (.t 0)) [.op (.fieldAddr 2 (.t 0)) [.t 1]])] [sb [0],sb []]
def X68_1:=hS R68_1 R68_1p0 R68_1t1 [1,3] [4] [1,3,4,5,6,7]
def X68_1t1:=hP R68_1t1 R68_1t2 [4] [1,3,4,5,6,7] ⟨some 5,.buildSl 1 2 [.s (.string ⟨#[]⟩),.s (.string ⟨#[]⟩)] [(0,.c (.s (.string ⟨#[114,101,116]⟩))),(1,.t 4)],none⟩
def X68_1t2:=hP R68_1t2 R68_1t3 [5] [1,3,4,5,6,7] ⟨some 6,.call (.c (.fn 21 [] [])) [.t 5],none⟩
def X68_1t3:=hP R68_1t3 R68_1t4 [6] [1,3,4,5,6,7] ⟨some 7,.call (.c (.fn 69 [] [])) [.t 6,.c (.s (.string ⟨#[32]⟩))],none⟩
def T68_1t4:=hT R68_1t4 [1,3,4,5,6,7] [2] 3 [] [(2,.t 7)] [.tt 7]
def X68_1t4:=hL R68_1t4 [1,3,4,5,6,7] [2]
def s_f68:ACFun:={ ntmps:=8,results:=[.tmp 2],body:=
 (.seq (.region R68_0 [] K68_0)
 (.seq (.region R68_1 [] [1,3,4,5,6,7])
 .ret)) }
theorem s_f68_first:firstOk (List.range' 1 (s_f68.ntmps - 1)) s_f68.body=true:=by kernel_rfl
abbrev k_f20:Nat:=20
abbrev k_f24:Nat:=24
abbrev k_f53:Nat:=53
abbrev k_f69:Nat:=69
abbrev k_strings_Builder_copyCheck:Nat:=70
def a_f10:=ai A10_0p0_0 (ai A10_0p0_1 (ai A10_0p0_2 (ai A10_0p0_3 (ai X10_0 (ai T10_0t1 (ai X10_0t1 (ai A10_0_0 (ai A10_0_1 (ai A10_0_2 (ai A10_0_3 (ai X10_1 (ai T10_1t1 (ai X10_1t1 (ai T10_2 (ai T10_3 (ai T10_4p0 (ai X10_4 (ai X10_4t1 (ai T10_4p2 (ai X10_4t2 (ai X10_4t3 (ai X10_4t4 (ai T10_4t5 (ai X10_4t5 (ai T10_5 (ai T10_6 (ai T10_7 (ai s_f10_l0_ev (ai X10_8 (ai T10_8t1 (ai X10_8t1 (ai X10_9 (ai T10_10 (ai T10_11 (ai T10_12 (ai T10_13p0 (ai X10_13 (ai X10_13t1 (ai X10_13t2 (ai T10_14p0 (ai X10_14 (ai X10_14t1 (ai T10_14p2 (ai X10_14t2 (ai X10_14t3 (ai X10_14t4 (ai X10_14t5 (ai X10_14t6 (ai T10_15 (ai T10_16 (ai T10_17p0 (ai X10_17 (ai X10_17t1 (ai X10_17t2 (ai T10_18p0 (ai X10_18 (ai X10_18t1 (ai X10_18t2 (ai T10_19 (ai T10_20 (ai T10_21p0 (ai X10_21 (ai X10_21t1 (ai X10_21t2 (ai T10_22p0 (ai X10_22 (ai X10_22t1 (ai T10_22t2 (ai X10_22t2 (ai T10_23 (ai T10_24p0 (ai X10_24 (ai X10_24t1 (ai X10_24t2 (ai T10_24t3 (ai X10_24t3 (ai T10_25p0 (ai X10_25 (ai X10_25t1 (ai X10_25t2 (ai T10_26 (ai s_f10_l1_ev (ai T10_27 (ai s_f10_l2_ev (ai T10_28p0 (ai X10_28 (ai X10_28t1 (ai X10_28t2 (ai T10_29 (ai s_f10_l3_ev (ai X10_30 (ai T10_30t1 (ai X10_30t1 (ai T10_31 (ai X10_32 (ai T10_32t1 (X10_32t1)))))))))))))))))))))))))))))))))))))))))))))))))))))))))))))))))))))))))))))))))))))))))))))))))
def a_f17:=ai T17_0 (ai s_f17_r0_kT (ai X17_1 (ai X17_1t1 (ai X17_2 (ai T17_2p1 (ai X17_2t1 (ai X17_2t2 (ai T17_2p3 (ai X17_2t3 (ai X17_2t4 (ai X17_2t5 (ai X17_2t6 (ai X17_2t7 (ai X17_2t8 (ai T17_2p9 (ai X17_2t9 (ai X17_2t10 (ai X17_2t11 (ai X17_2t12 (ai X17_2t13 (ai X17_2t14 (ai X17_2t15 (ai X17_2t16 (ai X17_2t17 (ai T17_2t18 (X17_2t18))))))))))))))))))))))))))
def a_f18:=ai T18_0p0 (ai X18_0 (ai X18_0t1 (ai T18_0p2 (ai X18_0t2 (ai X18_0t3 (ai A18_0_0 (ai A18_0_1 (ai A18_0_3 (ai A18_0_4 (ai A18_0_5 (A18_0_6)))))))))))
def a_f19:=ai T19_0 (ai s_f19_r0_kT (ai s_f19_r0_kA0 (ai s_f19_r0_kA1 (ai T19_1p0 (ai X19_1 (ai X19_1t1 (ai T19_2p0 (ai X19_2 (ai X19_2t1 (ai T19_2p2 (ai X19_2t2 (ai X19_2t3 (T19_3)))))))))))))
def a_f21:=ai T21_0 (ai s_f21_r0_kT (ai s_f21_r0_kA0 (ai T21_1p0 (ai X21_1 (ai X21_1t1 (ai T21_1t2 (X21_1t2)))))))
def a_f22:=ai T22_0 (ai s_f22_r0_kT (ai s_f22_r0_kA0 (ai T22_1p0 (ai X22_1 (ai X22_1t1 (ai T22_1t2 (X22_1t2)))))))
def a_f23:=ai T23_0 (ai s_f23_r0_kT (ai s_f23_r0_kA0 (T23_1)))
def a_f52:=ai X52_0 (ai T52_0t1 (ai X52_0t1 (ai A52_0_0 (ai A52_0_1 (ai A52_0_2 (ai T52_1p0 (ai X52_1 (ai X52_1t1 (ai T52_1t2 (X52_1t2))))))))))
def a_f54:=ai X54_0 (ai T54_0t1 (ai X54_0t1 (ai A54_0_0 (ai A54_0_1 (ai A54_0_2 (ai A54_0_3 (ai T54_1p0 (ai X54_1 (ai X54_1t1 (ai X54_1t2 (ai X54_1t3 (ai T54_1t4 (X54_1t4)))))))))))))
def a_f55:=ai X55_0 (ai T55_0t1 (ai X55_0t1 (ai A55_0_0 (ai A55_0_1 (ai A55_0_2 (ai A55_0_3 (ai T55_1p0 (ai X55_1 (ai X55_1t1 (ai X55_1t2 (ai X55_1t3 (ai T55_1t4 (X55_1t4)))))))))))))
def a_f56:=ai X56_0 (ai T56_0t1 (ai X56_0t1 (ai A56_0_0 (ai A56_0_1 (ai A56_0_2 (T56_1))))))
def a_f57:=ai X57_0 (ai T57_0t1 (ai X57_0t1 (ai A57_0_0 (ai A57_0_1 (ai A57_0_2 (ai T57_1p0 (ai X57_1 (ai X57_1t1 (ai X57_1t2 (ai T57_1t3 (X57_1t3)))))))))))
def a_f58:=ai X58_0 (ai T58_0t1 (ai X58_0t1 (ai A58_0_0 (ai A58_0_1 (ai A58_0_2 (ai T58_1p0 (ai X58_1 (ai X58_1t1 (ai X58_1t2 (ai T58_1t3 (X58_1t3)))))))))))
def a_f59:=ai X59_0 (ai T59_0t1 (ai X59_0t1 (ai A59_0_0 (ai A59_0_1 (ai A59_0_2 (ai T59_1p0 (ai X59_1 (ai X59_1t1 (ai X59_1t2 (ai X59_1t3 (ai T59_1t4 (X59_1t4))))))))))))
def a_f60:=ai X60_0 (ai T60_0t1 (ai X60_0t1 (ai A60_0_0 (ai A60_0_1 (ai A60_0_2 (ai T60_1 (ai T60_2 (ai T60_3 (ai T60_4 (ai T60_5p0 (ai X60_5 (ai X60_5t1 (ai X60_5t2 (ai T60_5t3 (ai X60_5t3 (ai T60_6 (ai s_f60_l0_ev (ai T60_7p0 (ai X60_7 (ai X60_7t1 (ai T60_7t2 (X60_7t2))))))))))))))))))))))
def a_f61:=ai X61_0 (ai T61_0t1 (ai X61_0t1 (ai A61_0_0 (ai A61_0_1 (ai A61_0_2 (ai A61_0_3 (ai T61_1p0 (ai X61_1 (ai X61_1t1 (ai X61_1t2 (ai X61_1t3 (ai T61_1t4 (X61_1t4)))))))))))))
def a_f62:=ai X62_0 (ai T62_0t1 (ai X62_0t1 (ai A62_0_0 (ai A62_0_1 (ai A62_0_2 (ai T62_1p0 (ai X62_1 (ai X62_1t1 (ai X62_1t2 (ai T62_1t3 (X62_1t3)))))))))))
def a_f63:=ai X63_0 (ai T63_0t1 (ai X63_0t1 (ai A63_0_0 (ai A63_0_1 (ai A63_0_2 (ai T63_1p0 (ai X63_1 (ai X63_1t1 (ai X63_1t2 (ai T63_1t3 (X63_1t3)))))))))))
def a_f64:=ai X64_0 (ai T64_0t1 (ai X64_0t1 (ai A64_0_0 (ai A64_0_1 (ai A64_0_2 (ai T64_1p0 (ai X64_1 (ai X64_1t1 (ai T64_1p2 (ai X64_1t2 (ai X64_1t3 (ai X64_1t4 (ai T64_1t5 (X64_1t5))))))))))))))
def a_f65:=ai X65_0 (ai T65_0t1 (ai X65_0t1 (ai A65_0_0 (ai A65_0_1 (ai A65_0_2 (ai T65_1p0 (ai X65_1 (ai X65_1t1 (ai T65_1p2 (ai X65_1t2 (ai X65_1t3 (ai X65_1t4 (ai T65_1t5 (X65_1t5))))))))))))))
def a_f66:=ai X66_0 (ai T66_0t1 (ai X66_0t1 (ai A66_0_0 (ai A66_0_1 (ai A66_0_2 (ai T66_1p0 (ai X66_1 (ai X66_1t1 (ai X66_1t2 (ai T66_1t3 (X66_1t3)))))))))))
def a_f67:=ai X67_0 (ai T67_0t1 (ai X67_0t1 (ai A67_0_0 (ai A67_0_1 (ai A67_0_2 (ai T67_1p0 (ai X67_1 (ai X67_1t1 (ai X67_1t2 (ai T67_1t3 (X67_1t3)))))))))))
def a_f68:=ai X68_0 (ai T68_0t1 (ai X68_0t1 (ai A68_0_0 (ai A68_0_1 (ai A68_0_2 (ai T68_1p0 (ai X68_1 (ai X68_1t1 (ai X68_1t2 (ai X68_1t3 (ai T68_1t4 (X68_1t4))))))))))))
theorem SA3_10:compK Tryz.prog PX0 10=some (false,s_f10.ntmps,s_f10.results,s_f10.body.bare):=by kernel_rfl
theorem SA3_17:compK Tryz.prog PX0 17=some (false,s_f17.ntmps,s_f17.results,s_f17.body.bare):=by kernel_rfl
theorem SA3_18:compK Tryz.prog PX0 18=some (false,s_f18.ntmps,s_f18.results,s_f18.body.bare):=by kernel_rfl
theorem SA3_19:compK Tryz.prog PX0 19=some (false,s_f19.ntmps,s_f19.results,s_f19.body.bare):=by kernel_rfl
theorem SA3_21:compK Tryz.prog PX0 21=some (false,s_f21.ntmps,s_f21.results,s_f21.body.bare):=by kernel_rfl
theorem SA3_22:compK Tryz.prog PX0 22=some (false,s_f22.ntmps,s_f22.results,s_f22.body.bare):=by kernel_rfl
theorem SA3_23:compK Tryz.prog PX0 23=some (false,s_f23.ntmps,s_f23.results,s_f23.body.bare):=by kernel_rfl
theorem SA3_52:compK Tryz.prog PX0 52=some (false,s_f52.ntmps,s_f52.results,s_f52.body.bare):=by kernel_rfl
theorem SA3_54:compK Tryz.prog PX0 54=some (false,s_f54.ntmps,s_f54.results,s_f54.body.bare):=by kernel_rfl
theorem SA3_55:compK Tryz.prog PX0 55=some (false,s_f55.ntmps,s_f55.results,s_f55.body.bare):=by kernel_rfl
theorem SA3_56:compK Tryz.prog PX0 56=some (false,s_f56.ntmps,s_f56.results,s_f56.body.bare):=by kernel_rfl
theorem SA3_57:compK Tryz.prog PX0 57=some (false,s_f57.ntmps,s_f57.results,s_f57.body.bare):=by kernel_rfl
theorem SA3_58:compK Tryz.prog PX0 58=some (false,s_f58.ntmps,s_f58.results,s_f58.body.bare):=by kernel_rfl
theorem SA3_59:compK Tryz.prog PX0 59=some (false,s_f59.ntmps,s_f59.results,s_f59.body.bare):=by kernel_rfl
theorem SA3_60:compK Tryz.prog PX0 60=some (false,s_f60.ntmps,s_f60.results,s_f60.body.bare):=by kernel_rfl
theorem SA3_61:compK Tryz.prog PX0 61=some (false,s_f61.ntmps,s_f61.results,s_f61.body.bare):=by kernel_rfl
theorem SA3_62:compK Tryz.prog PX0 62=some (false,s_f62.ntmps,s_f62.results,s_f62.body.bare):=by kernel_rfl
theorem SA3_63:compK Tryz.prog PX0 63=some (false,s_f63.ntmps,s_f63.results,s_f63.body.bare):=by kernel_rfl
theorem SA3_64:compK Tryz.prog PX0 64=some (false,s_f64.ntmps,s_f64.results,s_f64.body.bare):=by kernel_rfl
theorem SA3_65:compK Tryz.prog PX0 65=some (false,s_f65.ntmps,s_f65.results,s_f65.body.bare):=by kernel_rfl
theorem SA3_66:compK Tryz.prog PX0 66=some (false,s_f66.ntmps,s_f66.results,s_f66.body.bare):=by kernel_rfl
theorem SA3_67:compK Tryz.prog PX0 67=some (false,s_f67.ntmps,s_f67.results,s_f67.body.bare):=by kernel_rfl
theorem SA3_68:compK Tryz.prog PX0 68=some (false,s_f68.ntmps,s_f68.results,s_f68.body.bare):=by kernel_rfl
end Go.Proofs.YtngfpadeebpoeaaGreatDoor
