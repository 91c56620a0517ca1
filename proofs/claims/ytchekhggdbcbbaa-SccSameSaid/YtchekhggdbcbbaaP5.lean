/- Texts of the proof: SccF2, SccF3, SccF4, SccF5, SccF6, TarP2, SccF7, AmU, AmX, SccG1, TarN, AmU2, SccG2, SccG3, SccG4, SccG5, SccG6, TarO, SccG7. -/
import Derived.Test.YtchekhggdbcbbaaP0
import Derived.Test.YtchekhggdbcbbaaP1
import Derived.Test.YtchekhggdbcbbaaP2
import Derived.Test.YtchekhggdbcbbaaP3
import Derived.Test.YtchekhggdbcbbaaP4
import Derived.Laws.Bits64b
set_option linter.all false
set_option maxRecDepth 100000
namespace Go.Proofs.Ytchekhggdbcbbaa
open Go.AM
theorem TS.keepOthers {m0 n:Nat} {d:Ids} {vr:V} {H:Heap} {vt vy:V} {s:Tar.St} (t:TS m0 n d vr H vt vy s) {x:Nat} (hx:x∈d.all) (ob:Ob):OwnC 1 (H.set x ob) vt (s.wait.map fun (v:Nat)=>[I v])∧OwnC 2 (H.set x ob) vy (s.way.reverse.map fun (p:Nat × Nat)=>[I p.1,I p.2])∧(∀ z∈d.all,z < (H.set x ob).length)∧(∀ {z:Nat} {c:List V},z≠x→getC H z 0=some c→getC (H.set x ob) z 0=some c):=
 ⟨t.ot.set (t.ft x hx) ob,t.oy.set (t.fy x hx) ob,fun z hz=>by rw [List.length_set];exact t.lt z hz,fun {z c} hz hg=>by rw [getC_set_ne _ hz];exact hg⟩
theorem TS.nds {m0 n:Nat} {d:Ids} {vr:V} {H:Heap} {vt vy:V} {s:Tar.St} (t:TS m0 n d vr H vt vy s):(d.i≠d.b∧d.i≠d.y∧d.i≠d.iw∧d.i≠d.il∧d.i≠d.ic)∧(d.b≠d.y∧d.b≠d.iw∧d.b≠d.il∧d.b≠d.ic)∧(d.y≠d.iw∧d.y≠d.il∧d.y≠d.ic)∧(d.iw≠d.il∧d.iw≠d.ic)∧d.il≠d.ic:=by
 have nd:=t.nd
 simp only [Ids.all,List.nodup_cons,List.mem_cons,List.not_mem_nil,or_false,not_or,List.nodup_nil,and_true,not_false_eq_true] at nd
 exact nd
theorem TS.lowSet {m0 n:Nat} {d:Ids} {vr:V} {H:Heap} {vt vy:V} {s:Tar.St} (t:TS m0 n d vr H vt vy s) (f:Nat→Nat):TS m0 n d vr (H.set d.il (.cells 0 (fV n f))) vt vy { s with low:=f }:=by
 obtain ⟨h1,h2,h3,h4⟩:=t.keepOthers (x:=d.il) (by simp [Ids.all]) (.cells 0 (fV n f))
 obtain ⟨⟨_,_,_,nil',_⟩,⟨_,_,nbl,_⟩,⟨_,nyl,_⟩,⟨nwl,_⟩,nlc⟩:=t.nds
 exact ⟨h4 nbl t.hb,h4 nil' t.hi,h4 nyl t.hy,h4 nwl t.cw,getC_set t.cl 0,h4 (Ne.symm nlc) t.cc,h1,h2,t.nd,t.ft,t.fy,t.ty,t.bs,t.bt,t.by',h3⟩
theorem TS.compSet {m0 n:Nat} {d:Ids} {vr:V} {H:Heap} {vt vy:V} {s:Tar.St} (t:TS m0 n d vr H vt vy s) (f:Nat→Option Nat):TS m0 n d vr (H.set d.ic (.cells 0 (cV n f))) vt vy { s with comp:=f }:=by
 obtain ⟨h1,h2,h3,h4⟩:=t.keepOthers (x:=d.ic) (by simp [Ids.all]) (.cells 0 (cV n f))
 obtain ⟨⟨_,_,_,_,nic⟩,⟨_,_,_,nbc⟩,⟨_,_,nyc⟩,⟨_,nwc⟩,nlc⟩:=t.nds
 exact ⟨h4 nbc t.hb,h4 nic t.hi,h4 nyc t.hy,h4 nwc t.cw,h4 nlc t.cl,getC_set t.cc 0,h1,h2,t.nd,t.ft,t.fy,t.ty,t.bs,t.bt,t.by',h3⟩
theorem ownC_cut {w:Nat} {H:Heap} {v:V} {R:List (List V)} (h:OwnC w H v R) {k:Nat} (hk:k≤R.length):∃ v',xSlice w v none (some (.s (.int .i64 (k:Nat))))=some v'∧OwnC w H v' (R.take k)∧∀ id g n u,v'=.sl id g 0 n u→∃ g' n',v=.sl id g' 0 n' u:=by
 obtain ⟨hR,⟨rfl,hv⟩ | ⟨id,g,c,rfl,hc,hl,ht⟩⟩:=h
 ·have hk0:k=0:=Nat.le_zero.1 hk
  subst hk0
  refine ⟨v,?_,⟨fun r hr=>by simp at hr,.inl ⟨rfl,hv⟩⟩,fun id g n u e=>by rcases hv with rfl | rfl <;> cases e⟩
  rcases hv with rfl | rfl <;> rfl
 ·have hle:k * w≤R.length * w:=Nat.mul_le_mul_right w hk
  have hmin:(R.take k).length=k:=by rw [List.length_take,Nat.min_eq_left hk]
  have hRt:∀ r∈R.take k,r.length=w:=fun r hr=>hR r (List.mem_of_mem_take hr)
  refine ⟨.sl id g 0 k w,?_,⟨hRt,.inr ⟨id,g,c,by rw [hmin],hc,by rw [hmin];omega,?_⟩⟩,fun id' g' n u e=>by cases e;exact ⟨g,R.length,rfl⟩⟩
  ·have i4:(0:Int)≤(0:Int)∧(0:Int)≤k∧(k:Int)≤R.length∧w=w:=⟨by omega,by omega,by omega,rfl⟩
   have i5:((k:Int) - 0).toNat=k:=by omega
   simp only [xslice_sl,bndV_none,bndV_int,cutSl_some,cast0,i4,i5,and_self,if_true,Int.toNat_zero,Nat.zero_mul,Nat.add_zero]
  ·rw [hmin]
   have e1:R.flatten=(R.take k).flatten ++ (R.drop k).flatten:=by rw [← List.flatten_append,List.take_append_drop]
   have e2:=flat_len (R.take k) hRt
   rw [hmin] at e2
   rw [e1] at ht
   have:=congrArg (List.take (k * w)) ht
   rw [List.take_take,Nat.min_eq_left hle,List.take_left' e2] at this
   exact this
theorem TS.wayCut {m0 n:Nat} {d:Ids} {vr:V} {H:Heap} {vt vy:V} {s:Tar.St} (t:TS m0 n d vr H vt vy s) {vy':V} {rest:List (Nat × Nat)} (ho:OwnC 2 H vy' (rest.reverse.map fun (p:Nat × Nat)=>[I p.1,I p.2])) (hs:∀ id g n u,vy'=.sl id g 0 n u→∃ g' n',vy=.sl id g' 0 n' u):TS m0 n d vr (H.set d.y (.cells 0 [vy'])) vt vy' { s with way:=rest }:=by
 obtain ⟨h1,h2,h3,h4⟩:=t.keepOthers (x:=d.y) (by simp [Ids.all]) (.cells 0 [vy'])
 obtain ⟨⟨_,niy,_,_,_⟩,⟨nby,_,_,_⟩,⟨nyw,nyl,nyc⟩,⟨_,_⟩,_⟩:=t.nds
 have fy':∀ x∈d.all,Off vy' x:=fun x hx id g k w e=>by
  obtain ⟨g',n',e'⟩:=hs id g k w e
  exact t.fy x hx id g' n' w e'
 refine ⟨h4 nby t.hb,h4 niy t.hi,getC_set t.hy 0,h4 (Ne.symm nyw) t.cw,h4 (Ne.symm nyl) t.cl,h4 (Ne.symm nyc) t.cc,h1,ho.set (fy' _ (by simp [Ids.all])) _,t.nd,t.ft,fy',?_,t.bs,t.bt,?_,h3⟩
 ·intro id g k w e id' g' k' w' e' e0
  obtain ⟨g2,n2,e2⟩:=hs id' g' k' w' e'
  exact t.ty id g k w e id' g2 n2 w' e2 e0
 ·intro id g k w e
  obtain ⟨g2,n2,e2⟩:=hs id g k w e
  exact t.by' id g2 n2 w e2
theorem TS.waitCut {m0 n:Nat} {d:Ids} {vr:V} {H:Heap} {vt vy:V} {s:Tar.St} (t:TS m0 n d vr H vt vy s) {vt':V} {l:List Nat} (ho:OwnC 1 H vt' (l.map fun (v:Nat)=>[I v])) (hs:∀ id g n u,vt'=.sl id g 0 n u→∃ g' n',vt=.sl id g' 0 n' u):TS m0 n d vr (H.set d.i (.cells 0 [vr,.sl d.iw 0 0 n 1,.sl d.il 0 0 n 1,vt',.sl d.ic 0 0 n 1,I s.clock])) vt' vy { s with wait:=l }:=by
 obtain ⟨h1,h2,h3,h4⟩:=t.keepOthers (x:=d.i) (by simp [Ids.all]) (.cells 0 [vr,.sl d.iw 0 0 n 1,.sl d.il 0 0 n 1,vt',.sl d.ic 0 0 n 1,I s.clock])
 obtain ⟨⟨nib,niy,niw,nil',nic⟩,_,_,_,_⟩:=t.nds
 have ft':∀ x∈d.all,Off vt' x:=fun x hx id g k w e=>by
  obtain ⟨g',n',e'⟩:=hs id g k w e
  exact t.ft x hx id g' n' w e'
 refine ⟨h4 (Ne.symm nib) t.hb,getC_set t.hi 0,h4 (Ne.symm niy) t.hy,h4 (Ne.symm niw) t.cw,h4 (Ne.symm nil') t.cl,h4 (Ne.symm nic) t.cc,ho.set (ft' _ (by simp [Ids.all])) _,h2,t.nd,ft',t.fy,?_,t.bs,?_,t.by',h3⟩
 ·intro id g k w e
  obtain ⟨g2,n2,e2⟩:=hs id g k w e
  exact t.ty id g2 n2 w e2
 ·intro id g k w e
  obtain ⟨g2,n2,e2⟩:=hs id g k w e
  exact t.bt id g2 n2 w e2
theorem TS.edge {m0 n:Nat} {d:Ids} {vr:V} {H:Heap} {vt vy:V} {s:Tar.St} (t:TS m0 n d vr H vt vy s) {i e:Nat} {rest:List (Nat × Nat)} (hw:s.way=(i,e) :: rest):∃ id g c,xIndexAddr 2 vy (.s (.int .i64 (rest.length:Nat)))=some (.ref id g (rest.length * 2))∧getC H id g=some c∧m0≤id∧rest.length * 2+2≤c.length∧(c.drop (rest.length * 2)).take 1=[I i]∧(c.drop (rest.length * 2+1)).take 1=[I e]∧TS m0 n d vr (H.set id (.cells g (c.set (rest.length * 2+1) (I (e+1:Nat))))) vt vy { s with way:=(i,e+1) :: rest }:=by
 have oy:=t.oy
 have hR:(s.way.reverse.map fun (p:Nat × Nat)=>[I p.1,I p.2])=(rest.reverse.map fun (p:Nat × Nat)=>[I p.1,I p.2]) ++ [[I i,I e]]:=by rw [hw];simp
 have hr:(s.way.reverse.map fun (p:Nat × Nat)=>[I p.1,I p.2])[rest.length]?=some [I i,I e]:=by
  rw [hR,List.getElem?_append_right (by simp)];simp
 obtain ⟨id,g,c,hv,hc,ha,h2,hl⟩:=oy.at' hr
 have hRl:(s.way.reverse.map fun (p:Nat × Nat)=>[I p.1,I p.2]).length=rest.length+1:=by rw [hR];simp
 rw [hRl] at hv
 have hm:=t.by' id g _ _ hv
 have hid:∀ x∈d.all,id≠x:=fun x hx=>t.fy x hx id g _ _ hv
 have tk:c.take ((rest.length+1) * 2)=(rest.reverse.map fun (p:Nat × Nat)=>[I p.1,I p.2]).flatten ++ [I i,I e]:=by
  obtain ⟨_,⟨h0,_⟩ | ⟨id',g',c',e',hc',_,ht⟩⟩:=oy
  ·rw [h0] at hRl;simp at hRl
  ·rw [hv] at e'
   simp only [V.sl.injEq] at e'
   obtain ⟨rfl,rfl,_⟩:=e'
   rw [hc] at hc'
   cases hc'
   rw [hRl] at ht
   rw [ht,hR,List.flatten_append]
   rfl
 have hA:∀ r∈(rest.reverse.map fun (p:Nat × Nat)=>[I p.1,I p.2]),r.length=2:=fun r hr=>by
  obtain ⟨x,_,rfl⟩:=List.mem_map.1 hr;rfl
 have hAl:(rest.reverse.map fun (p:Nat × Nat)=>[I p.1,I p.2]).flatten.length=rest.length * 2:=by
  rw [flat_len _ hA];simp
 have c1:(c.drop (rest.length * 2)).take 1=[I i]:=by
  have:=congrArg (List.take 1) h2
  rw [List.take_take] at this
  exact this
 have c2:(c.drop (rest.length * 2+1)).take 1=[I e]:=by
  have:=congrArg (fun l=>(List.drop 1 l).take 1) h2
  rw [← List.drop_drop]
  rw [show (List.drop 1 (List.drop (rest.length * 2) c)).take 1=(fun l=>(List.drop 1 l).take 1) ((c.drop (rest.length * 2)).take 2) by simp only [List.drop_take,List.take_take];rfl]
  exact this
 refine ⟨id,g,c,ha,hc,hm,hl,c1,c2,?_⟩
 have keep:∀ {z:Nat} {cc:List V},z∈d.all→getC H z 0=some cc→getC (H.set id (.cells g (c.set (rest.length * 2+1) (I (e+1:Nat))))) z 0=some cc:=fun {z cc} hz hg=>by rw [getC_set_ne _ (Ne.symm (hid z hz))];exact hg
 refine ⟨keep (by simp [Ids.all]) t.hb,keep (by simp [Ids.all]) t.hi,keep (by simp [Ids.all]) t.hy,keep (by simp [Ids.all]) t.cw,keep (by simp [Ids.all]) t.cl,keep (by simp [Ids.all]) t.cc,t.ot.set (fun id' g' k' w' e' e0=>t.ty id' g' k' w' e' id g _ _ hv e0.symm) _,?_,t.nd,t.ft,t.fy,t.ty,t.bs,t.bt,t.by',fun z hz=>by rw [List.length_set];exact t.lt z hz⟩
 have hR':(((i,e+1) :: rest).reverse.map fun (p:Nat × Nat)=>[I p.1,I p.2])=(rest.reverse.map fun (p:Nat × Nat)=>[I p.1,I p.2]) ++ [[I i,I (e+1:Nat)]]:=by simp
 show OwnC 2 _ vy (((i,e+1) :: rest).reverse.map fun (p:Nat × Nat)=>[I p.1,I p.2])
 rw [hR']
 have hlen:((rest.reverse.map fun (p:Nat × Nat)=>[I p.1,I p.2]) ++ [[I i,I (e+1:Nat)]]).length=rest.length+1:=by simp
 refine ⟨fun r hr=>?_,.inr ⟨id,g,c.set (rest.length * 2+1) (I (e+1:Nat)),by rw [hlen];exact hv,getC_set hc g,by rw [hlen,List.length_set];omega,?_⟩⟩
 ·rcases List.mem_append.1 hr with hr | hr
  ·exact hA r hr
  ·rw [List.mem_singleton] at hr;rw [hr];rfl
 ·rw [hlen,List.take_set,tk,List.set_append_right _ _ (by omega),hAl,show rest.length * 2+1 - rest.length * 2=1 by omega,List.flatten_append]
  rfl
end Go.Proofs.Ytchekhggdbcbbaa
set_option maxRecDepth 100000
namespace Go.Proofs.Ytchekhggdbcbbaa
open Go.AM
def rowsN (n:Nat) (G:Nat→List Nat):List (List V):=(List.range n).map fun v=>(G v).map fun (u:Nat)=>I u
def entE (d:Ids):Env:=[(2,.ref d.b 0 0),(4,.ref d.y 0 0),(5,.fn 44 [] [.ref d.b 0 0,.ref d.y 0 0])]
theorem TS.trim {m0 n L:Nat} {d:Ids} {vr:V} {H:Heap} {vt vy:V} {s:Tar.St} (t:TS m0 n d vr H vt vy s) (hL:∀ x∈d.all,x < L) (fr:List V):TS m0 n d vr (Go.AM.trim L fr H) vt vy s:=by
 have hu:∀ (x:Nat) (c:List V) (v:V),x∈d.all→getC H x 0=some c→v∈c→∀ id g k w,v=.sl id g 0 k w→(Go.AM.trim L fr H)[id]?=H[id]?:=by
  intro x c v hx hc hv id g k w e
  rcases trim_cells L fr H with e0 | ⟨e0,_,h0⟩
  ·rw [e0]
  ·have:=h0 x 0 c (hL x hx) hc v hv
   rw [e] at this
   simp only [idsUnder,decide_eq_true_eq] at this
   rw [e0,List.getElem?_take_of_lt this]
 refine ⟨trim_get t.hb (hL _ (by simp [Ids.all])),trim_get t.hi (hL _ (by simp [Ids.all])),trim_get t.hy (hL _ (by simp [Ids.all])),trim_get t.cw (hL _ (by simp [Ids.all])),trim_get t.cl (hL _ (by simp [Ids.all])),trim_get t.cc (hL _ (by simp [Ids.all])),t.ot.keep fun id g k e=>hu d.i _ vt (by simp [Ids.all]) t.hi (by simp) id g k 1 e,t.oy.keep fun id g k e=>hu d.y _ vy (by simp [Ids.all]) t.hy (by simp) id g k 2 e,t.nd,t.ft,t.fy,t.ty,t.bs,t.bt,t.by',fun x hx=>?_⟩
 rcases trim_cells L fr H with e0 | ⟨e0,_,_⟩
 ·rw [e0];exact t.lt x hx
 ·rw [e0,List.length_take]
  have:=hL x hx
  have:=t.lt x hx
  omega
theorem w64 {n:Nat} (h:n < 2 ^ 62):IntKind.i64.wrap ((n:Int)+1)=((n+1:Nat):Int):=by rw [IntKind.wrap_i64];omega
theorem cV_get {n:Nat} (f:Nat→Option Nat) {v:Nat} (h:v < n):(cV n f)[v]?=some (oV (f v)):=by simp [cV,h]
theorem min_if (a b:Nat):(if ((b:Nat):Int) < ((a:Nat):Int) then ((b:Nat):Int) else ((a:Nat):Int))=((min a b:Nat):Int):=by
 split
 ·rw [Nat.min_eq_right (by omega)]
 ·rw [Nat.min_eq_left (by omega)]
theorem take1_of {l:List V} {i:Nat} {x:V} (h:l[i]?=some x):(l.drop i).take 1=[x]:=take_one h
section
variable {CT:Nat→Option CFun}
theorem round_begin (hT:CT k_f44=some (.code s_f44)) (hX:CT k_f35=some (.code s_f35)) {base m0 n L:Nat} (hbm:base≤m0) {d:Ids} (hL:∀ x∈d.all,x < L) (hmL:m0≤L) {vr:V} {G:Nat→List Nat} {H0:Heap} (hrow:∀ H,KeepD m0 [] H0 H→RdRows H vr (rowsN n G)) {H:Heap} (hk:KeepD m0 [] H0 H) (hLH:L≤H.length) {vt vy:V} {s:Tar.St} (t:TS m0 n d vr H vt vy s) {i e:Nat} {rest:List (Nat × Nat)} (hw:s.way=(i,e) :: rest) (hi:i < n) (hn:n < 2 ^ 40) (hG:∀ v,(G v).length < 2 ^ 40) (hc:s.clock < 2 ^ 60) (hwl:s.wait.length < 2 ^ 40) (hyl:s.way.length < 2 ^ 39) {k:Nat} (he:(G i)[e]?=some k) (hk0:s.when k=0) (hkn:k < n):
 ∃ vt' vy' H',itW (evC (callW CT) itW base s_f27_l1) [7,8,81,153] L (frOf 188 (entE d)) H=itW (evC (callW CT) itW base s_f27_l1) [7,8,81,153] L (frOf 188 (entE d)) H'∧TS m0 n d vr H' vt' vy' (Tar.begin' { s with way:=(i,e+1) :: rest } k)∧KeepD m0 [] H H'∧L≤H'.length:=by
 have hb:=t.hb
 have hii:=t.hi
 have hy:=t.hy
 have wl:s.way.length=rest.length+1:=by rw [hw];rfl
 have nl:=fun H2=>t.oy.len H2
 rw [List.length_map,List.length_reverse,wl] at nl
 have hpos:decide (((rest.length+1:Nat):Int) > 0)=true:=by rw [decide_eq_true_iff];omega
 have wp:IntKind.i64.wrap (((rest.length+1:Nat):Int) - 1)=(rest.length:Int):=by rw [IntKind.wrap_i64];omega
 obtain ⟨id,g,c,ha,hcc,hm,hl,c1,c2,tE⟩:=t.edge hw
 have hri:(rowsN n G)[i]?=some ((G i).map fun (u:Nat)=>I u):=by simp [rowsN,hi]
 obtain ⟨ra,rx,r1,r2,r3,r4⟩:=(hrow H hk).at hri
 have rl:=r3.len
 rw [List.length_map] at rl
 have hel:e < (G i).length:=(List.getElem?_eq_some_iff.1 he).1
 have hlt:((e:Int) < ((G i).length:Int)):=by omega
 have we:=w64 (n:=e) (by have:=hG i;omega)
 have hre:((G i).map fun (u:Nat)=>I u)[e]?=some (I k):=by rw [List.getElem?_map,he];rfl
 obtain ⟨ea,e1,e2⟩:=r3.at' r4 hre
 obtain ⟨H1,hH1⟩:∃ H1,H.set id (.cells g (c.set (rest.length * 2+1) (I (e+1:Nat))))=H1:=⟨_,rfl⟩
 rw [hH1] at tE
 have st1:storeV H base 1 (I (e+1:Nat)) (.ref id g (rest.length * 2+1))=some H1:=by
  rw [storeV_at hcc (Nat.le_trans hbm hm) rfl (by omega),hH1]
 have b1:=tE.hb
 have i1:=tE.hi
 have w1:=tE.cw
 have hix:(0≤(k:Int)∧(k:Int) < (n:Int)∧1=1):=by omega
 have wk:=take1_of (fV_get s.when hkn)
 rw [hk0] at wk
 have kH1:KeepD m0 [] H H1:=⟨by rw [← hH1,List.length_set];omega,fun x hx _=>by rw [← hH1,List.getElem?_set_ne (by omega)]⟩
 obtain ⟨vt',vy',H2,eB,tB,lB,kB⟩:=begin_fun hT hbm tE hkn hc hwl (by show ((i,e+1) :: rest).length < 2 ^ 40;rw [List.length_cons,← wl];omega)
 have kH2:KeepD m0 [] H1 H2:=⟨by have:=kH1.1;omega,fun x hx _=>kB x (by have:=kH1.1;omega) (fun hd=>by have:=t.bs x hd;omega) (fun id g k w e0 e1=>by have:=tE.bt id g k w e0;omega) (fun id g k w e0 e1=>by have:=tE.by' id g k w e0;omega)⟩
 refine ⟨vt',vy',_,?_,tB.trim hL (frOf 188 (entE d)),KeepD.trim (kH1.trans kH2 (Nat.le_refl _)) hmL (frOf 188 (entE d)),trim_le (by rw [← hH1,List.length_set] at lB;omega)⟩
 rw [itW_step]
 simp only [I] at st1 i1 eB c1 c2 wk
 simp only [entE,I,a_f27,s_f27_l0_b,s_f27_l1_b,aa,bl,i64,reduceIte,reduceCtorEq,Nat.reduceEqDiff,Nat.reduceLT,Nat.reduceLeDiff,Nat.reduceBEq,Nat.reduceAdd,fillA,splice,Nat.reduceMul,amY,op_eqP,hb,hii,hy,nl,hpos,wp,ha,hcc,c1,c2,r1,r2,rl,hlt,e1,e2,we,st1,b1,i1,hix,w1,wk,eB]
theorem round_skip (hT:CT k_f44=some (.code s_f44)) (hX:CT k_f35=some (.code s_f35)) {base m0 n L:Nat} (hbm:base≤m0) {d:Ids} (hL:∀ x∈d.all,x < L) (hmL:m0≤L) {vr:V} {G:Nat→List Nat} {H0:Heap} (hrow:∀ H,KeepD m0 [] H0 H→RdRows H vr (rowsN n G)) {H:Heap} (hk:KeepD m0 [] H0 H) (hLH:L≤H.length) {vt vy:V} {s:Tar.St} (t:TS m0 n d vr H vt vy s) {i e:Nat} {rest:List (Nat × Nat)} (hw:s.way=(i,e) :: rest) (hi:i < n) (hn:n < 2 ^ 40) (hG:∀ v,(G v).length < 2 ^ 40) (hc:s.clock < 2 ^ 60) (hwl:s.wait.length < 2 ^ 40) (hyl:s.way.length < 2 ^ 39) {k:Nat} (he:(G i)[e]?=some k) (hk0:s.when k≠0) (hkn:k < n) (hkc:s.comp k≠none):
 ∃ H',itW (evC (callW CT) itW base s_f27_l1) [7,8,81,153] L (frOf 188 (entE d)) H=itW (evC (callW CT) itW base s_f27_l1) [7,8,81,153] L (frOf 188 (entE d)) H'∧TS m0 n d vr H' vt vy { s with way:=(i,e+1) :: rest }∧KeepD m0 [] H H'∧L≤H'.length:=by
 have hb:=t.hb
 have hii:=t.hi
 have hy:=t.hy
 have wl:s.way.length=rest.length+1:=by rw [hw];rfl
 have nl:=fun H2=>t.oy.len H2
 rw [List.length_map,List.length_reverse,wl] at nl
 have hpos:decide (((rest.length+1:Nat):Int) > 0)=true:=by rw [decide_eq_true_iff];omega
 have wp:IntKind.i64.wrap (((rest.length+1:Nat):Int) - 1)=(rest.length:Int):=by rw [IntKind.wrap_i64];omega
 obtain ⟨id,g,c,ha,hcc,hm,hl,c1,c2,tE⟩:=t.edge hw
 have hri:(rowsN n G)[i]?=some ((G i).map fun (u:Nat)=>I u):=by simp [rowsN,hi]
 obtain ⟨ra,rx,r1,r2,r3,r4⟩:=(hrow H hk).at hri
 have rl:=r3.len
 rw [List.length_map] at rl
 have hel:e < (G i).length:=(List.getElem?_eq_some_iff.1 he).1
 have hlt:((e:Int) < ((G i).length:Int)):=by omega
 have we:=w64 (n:=e) (by have:=hG i;omega)
 have hre:((G i).map fun (u:Nat)=>I u)[e]?=some (I k):=by rw [List.getElem?_map,he];rfl
 obtain ⟨ea,e1,e2⟩:=r3.at' r4 hre
 obtain ⟨H1,hH1⟩:∃ H1,H.set id (.cells g (c.set (rest.length * 2+1) (I (e+1:Nat))))=H1:=⟨_,rfl⟩
 rw [hH1] at tE
 have st1:storeV H base 1 (I (e+1:Nat)) (.ref id g (rest.length * 2+1))=some H1:=by
  rw [storeV_at hcc (Nat.le_trans hbm hm) rfl (by omega),hH1]
 have b1:=tE.hb
 have i1:=tE.hi
 have w1:=tE.cw
 have p1:=tE.cc
 have o1:=tE.cl
 have hix:(0≤(k:Int)∧(k:Int) < (n:Int)∧1=1):=by omega
 have hixi:(0≤(i:Int)∧(i:Int) < (n:Int)∧1=1):=by omega
 have wk:=take1_of (fV_get s.when hkn)
 have kz:(((s.when k:Nat):Int) == 0)=false:=by rw [beq_eq_false_iff_ne];omega
 have kH1:KeepD m0 [] H H1:=⟨by rw [← hH1,List.length_set];omega,fun x hx _=>by rw [← hH1,List.getElem?_set_ne (by omega)]⟩
 have lH1:H1.length=H.length:=by rw [← hH1,List.length_set]
 obtain ⟨r,hr⟩:∃ r,s.comp k=some r:=by cases hc2:s.comp k with | none=>exact absurd hc2 hkc | some r=>exact ⟨r,rfl⟩
 have ck:=take1_of (cV_get s.comp hkn)
 rw [hr] at ck
 have cneg:decide (((r:Nat):Int) < 0)=false:=by rw [decide_eq_false_iff_not];omega
 refine ⟨_,?_,tE.trim hL (frOf 188 (entE d)),KeepD.trim kH1 hmL (frOf 188 (entE d)),trim_le (by omega)⟩
 rw [itW_step]
 simp only [I,oV] at st1 i1 c1 c2 wk ck
 simp only [entE,I,a_f27,s_f27_l0_b,s_f27_l1_b,aa,bl,i64,reduceIte,reduceCtorEq,Nat.reduceEqDiff,Nat.reduceLT,Nat.reduceLeDiff,Nat.reduceBEq,Nat.reduceAdd,fillA,splice,Nat.reduceMul,amY,op_eqP,hb,hii,hy,nl,hpos,wp,ha,hcc,c1,c2,r1,r2,rl,hlt,e1,e2,we,st1,b1,i1,hix,w1,wk,kz,p1,ck,cneg]
theorem round_low (hT:CT k_f44=some (.code s_f44)) (hX:CT k_f35=some (.code s_f35)) {base m0 n L:Nat} (hbm:base≤m0) {d:Ids} (hL:∀ x∈d.all,x < L) (hmL:m0≤L) {vr:V} {G:Nat→List Nat} {H0:Heap} (hrow:∀ H,KeepD m0 [] H0 H→RdRows H vr (rowsN n G)) {H:Heap} (hk:KeepD m0 [] H0 H) (hLH:L≤H.length) {vt vy:V} {s:Tar.St} (t:TS m0 n d vr H vt vy s) {i e:Nat} {rest:List (Nat × Nat)} (hw:s.way=(i,e) :: rest) (hi:i < n) (hn:n < 2 ^ 40) (hG:∀ v,(G v).length < 2 ^ 40) (hc:s.clock < 2 ^ 60) (hwl:s.wait.length < 2 ^ 40) (hyl:s.way.length < 2 ^ 39) {k:Nat} (he:(G i)[e]?=some k) (hk0:s.when k≠0) (hkn:k < n) (hkc:s.comp k=none):
 ∃ H',itW (evC (callW CT) itW base s_f27_l1) [7,8,81,153] L (frOf 188 (entE d)) H=itW (evC (callW CT) itW base s_f27_l1) [7,8,81,153] L (frOf 188 (entE d)) H'∧TS m0 n d vr H' vt vy { s with way:=(i,e+1) :: rest,low:=Tar.upd s.low i (min (s.low i) (s.when k)) }∧KeepD m0 [] H H'∧L≤H'.length:=by
 have hb:=t.hb
 have hii:=t.hi
 have hy:=t.hy
 have wl:s.way.length=rest.length+1:=by rw [hw];rfl
 have nl:=fun H2=>t.oy.len H2
 rw [List.length_map,List.length_reverse,wl] at nl
 have hpos:decide (((rest.length+1:Nat):Int) > 0)=true:=by rw [decide_eq_true_iff];omega
 have wp:IntKind.i64.wrap (((rest.length+1:Nat):Int) - 1)=(rest.length:Int):=by rw [IntKind.wrap_i64];omega
 obtain ⟨id,g,c,ha,hcc,hm,hl,c1,c2,tE⟩:=t.edge hw
 have hri:(rowsN n G)[i]?=some ((G i).map fun (u:Nat)=>I u):=by simp [rowsN,hi]
 obtain ⟨ra,rx,r1,r2,r3,r4⟩:=(hrow H hk).at hri
 have rl:=r3.len
 rw [List.length_map] at rl
 have hel:e < (G i).length:=(List.getElem?_eq_some_iff.1 he).1
 have hlt:((e:Int) < ((G i).length:Int)):=by omega
 have we:=w64 (n:=e) (by have:=hG i;omega)
 have hre:((G i).map fun (u:Nat)=>I u)[e]?=some (I k):=by rw [List.getElem?_map,he];rfl
 obtain ⟨ea,e1,e2⟩:=r3.at' r4 hre
 obtain ⟨H1,hH1⟩:∃ H1,H.set id (.cells g (c.set (rest.length * 2+1) (I (e+1:Nat))))=H1:=⟨_,rfl⟩
 rw [hH1] at tE
 have st1:storeV H base 1 (I (e+1:Nat)) (.ref id g (rest.length * 2+1))=some H1:=by
  rw [storeV_at hcc (Nat.le_trans hbm hm) rfl (by omega),hH1]
 have b1:=tE.hb
 have i1:=tE.hi
 have w1:=tE.cw
 have p1:=tE.cc
 have o1:=tE.cl
 have hix:(0≤(k:Int)∧(k:Int) < (n:Int)∧1=1):=by omega
 have hixi:(0≤(i:Int)∧(i:Int) < (n:Int)∧1=1):=by omega
 have wk:=take1_of (fV_get s.when hkn)
 have kz:(((s.when k:Nat):Int) == 0)=false:=by rw [beq_eq_false_iff_ne];omega
 have kH1:KeepD m0 [] H H1:=⟨by rw [← hH1,List.length_set];omega,fun x hx _=>by rw [← hH1,List.getElem?_set_ne (by omega)]⟩
 have lH1:H1.length=H.length:=by rw [← hH1,List.length_set]
 have ck:=take1_of (cV_get s.comp hkn)
 rw [hkc] at ck
 have oi:=take1_of (fV_get s.low hi)
 have hmin:=min_if (s.low i) (s.when k)
 have dneg:decide ((-1:Int) < 0)=true:=by decide
 have bil:base≤d.il:=Nat.le_trans hbm (t.bs _ (by simp [Ids.all]))
 obtain ⟨H2,hH2⟩:∃ H2,H1.set d.il (.cells 0 (fV n (Tar.upd s.low i (min (s.low i) (s.when k)))))=H2:=⟨_,rfl⟩
 have tL:=tE.lowSet (Tar.upd s.low i (min (s.low i) (s.when k)))
 rw [hH2] at tL
 have st2:storeV H1 base 1 (I (min (s.low i) (s.when k):Nat)) (.ref d.il 0 i)=some H2:=by
  rw [storeV_at o1 bil rfl (by rw [fV_len];exact hi),fV_set,hH2]
 have kH2:KeepD m0 [] H1 H2:=⟨by rw [← hH2,List.length_set];omega,fun x hx _=>by rw [← hH2,List.getElem?_set_ne (by have:=t.bs d.il (by simp [Ids.all]);omega)]⟩
 refine ⟨_,?_,tL.trim hL (frOf 188 (entE d)),KeepD.trim (kH1.trans kH2 (Nat.le_refl _)) hmL (frOf 188 (entE d)),trim_le (by rw [← hH2,List.length_set];omega)⟩
 rw [itW_step]
 simp only [I,oV] at st1 st2 i1 c1 c2 wk ck oi
 simp only [entE,I,a_f27,s_f27_l0_b,s_f27_l1_b,aa,bl,i64,reduceIte,reduceCtorEq,Nat.reduceEqDiff,Nat.reduceLT,Nat.reduceLeDiff,Nat.reduceBEq,Nat.reduceAdd,fillA,splice,Nat.reduceMul,amY,op_eqP,hb,hii,hy,nl,hpos,wp,ha,hcc,c1,c2,r1,r2,rl,hlt,e1,e2,we,st1,b1,i1,hix,hixi,w1,wk,kz,p1,ck,o1,oi,hmin,dneg,st2]
 trace_state
end
end Go.Proofs.Ytchekhggdbcbbaa
set_option maxRecDepth 100000
namespace Go.Proofs.Ytchekhggdbcbbaa
open Go.AM
theorem flat_ones:∀ l:List Nat,(l.map fun (x:Nat)=>[I x]).flatten=l.map fun (x:Nat)=>I x
 | []=>rfl
 | x :: l=>by rw [List.map_cons,List.flatten_cons,flat_ones l];rfl
theorem idx_le:∀ (l:List Nat) (j y:Nat),l[j]?=some y→l.idxOf y≤j
 | [],j,y,h=>by simp at h
 | x :: l,j,y,h=>by
   rw [List.idxOf_cons]
   by_cases e:x=y
   ·rw [e,beq_self_eq_true];exact Nat.zero_le _
   ·have:(x == y)=false:=by simpa using e
    rw [this]
    cases j with
    | zero=>simp at h;exact absurd h e
    | succ j=>
      have:=idx_le l j y (by simpa using h)
      show l.idxOf y+1≤j+1
      omega
theorem ownC_one {H:Heap} {v:V} {l:List Nat} (h:OwnC 1 H v (l.map fun (x:Nat)=>[I x])):(l=[]∧(v=nilS∨v=.esl))∨∃ id g c,v=.sl id g 0 l.length 1∧getC H id g=some c∧l.length≤c.length∧c.take l.length=l.map fun (x:Nat)=>I x:=by
 obtain ⟨_,⟨h0,hv⟩ | ⟨id,g,c,rfl,hc,hl,ht⟩⟩:=h
 ·exact .inl ⟨List.map_eq_nil_iff.1 h0,hv⟩
 ·rw [List.length_map,Nat.mul_one] at hl ht
  refine .inr ⟨id,g,c,by rw [List.length_map],hc,hl,?_⟩
  rw [ht,flat_ones]
theorem ownC_rd {H:Heap} {v:V} {l:List Nat} (h:OwnC 1 H v (l.map fun (x:Nat)=>[I x])):Rd H v (l.map fun (x:Nat)=>I x)∧Wide1 v:=by
 rcases ownC_one h with ⟨rfl,rfl | rfl⟩ | ⟨id,g,c,rfl,hc,hl,ht⟩
 ·exact ⟨Rd.nil H,trivial⟩
 ·exact ⟨Rd.esl H,trivial⟩
 ·refine ⟨?_,trivial⟩
  have:=Rd.sl hc (off:=0) (n:=l.length) (by omega)
  rwa [List.drop_zero,ht] at this
theorem ownC_from {H:Heap} {v:V} {l:List Nat} (h:OwnC 1 H v (l.map fun (x:Nat)=>[I x])) {k:Nat} (hk:k < l.length):∃ v' id g,xSlice 1 v (some (.s (.int .i64 (k:Nat)))) none=some v'∧(∀ H',xLen H' .s v'=some (.s (.int .i64 (l.length - k:Nat))))∧v=.sl id g 0 l.length 1∧∀ (j x:Nat),(l.drop k)[j]?=some x→xIndexAddr 1 v' (.s (.int .i64 (j:Nat)))=some (.ref id g (k+j))∧∀ H',H'[id]?=H[id]?→xLoad H' false 1 (.ref id g (k+j))=some (.s (.int .i64 x)):=by
 rcases ownC_one h with ⟨rfl,_⟩ | ⟨id,g,c,rfl,hc,hl,ht⟩
 ·simp at hk
 ·have i4:(0:Int)≤(k:Int)∧(k:Int)≤l.length∧(l.length:Int)≤l.length∧1=1:=⟨by omega,by omega,by omega,rfl⟩
  have i5:((l.length:Int) - k).toNat=l.length - k:=by omega
  refine ⟨.sl id g k (l.length - k) 1,id,g,?_,fun H'=>rfl,rfl,fun j x hx=>?_⟩
  ·simp only [xslice_sl,bndV_none,bndV_int,cutSl_some,i4,i5,and_self,if_true,Int.toNat_natCast,Nat.mul_one,Nat.zero_add]
  ·have hj:=(List.getElem?_eq_some_iff.1 hx).1
   rw [List.length_drop] at hj
   refine ⟨?_,fun H' e=>?_⟩
   ·rw [xi_sl,if_pos ⟨by omega,by omega,rfl⟩,Int.toNat_natCast,Nat.mul_one]
   ·have hc':getC H' id g=some c:=by unfold getC at hc ⊢;rw [e];exact hc
    have hcx:c[k+j]?=some (I x):=by
     have e1:(c.take l.length)[k+j]?=c[k+j]?:=List.getElem?_take_of_lt (by omega)
     rw [← e1,ht,List.getElem?_map,← List.getElem?_drop,hx]
     rfl
    simp only [xo_ref,hc',take_one hcx,List.length_singleton,if_true,shut_one]
section
variable {CT:Nat→Option CFun}
theorem idxN_loop (base:Nat) {H:Heap} {v:V} {l:List Nat} (hr:Rd H v (l.map fun (x:Nat)=>I x)) (hw:Wide1 v) (hn:l.length < 2 ^ 60) (y:Nat) (hy:y∈l):∀ (n j:Nat),j+n=l.length→j≤l.idxOf y→
 itW (evC (callW CT) itW base s_f35_l0) [] H.length (frOf 19 [(0,v),(1,I y),(7,I l.length),(8,I j)]) H=some (.ret,frOf 19 [(4,I (l.idxOf y))],H):=by
 intro n
 induction n with
 | zero=>
   intro j hj hle
   have:=List.idxOf_lt_length_of_mem hy
   omega
 | succ n ih=>
   intro j hj hle
   have hlt:j < l.length:=by omega
   have hlt':((j:Int) < (l.length:Int)):=by omega
   have hx:(l.map fun (x:Nat)=>I x)[j]?=some (I l[j]):=by rw [List.getElem?_map,List.getElem?_eq_getElem hlt];rfl
   obtain ⟨a,a1,a2⟩:=hr.at' hw hx
   have w:=w64 (n:=j) (by omega)
   rw [itW_step]
   by_cases e:l[j]=y
   ·have ei:l.idxOf y=j:=by
     refine Nat.le_antisymm ?_ hle
     exact idx_le l j y (by rw [List.getElem?_eq_getElem hlt,e])
    have hq:(((y:Nat):Int) == ((l[j]:Nat):Int))=true:=by rw [e,beq_self_eq_true]
    rw [ei]
    simp only [a_f35,s_f35_l0_b,aa,bl,i64,reduceIte,reduceCtorEq,Nat.reduceEqDiff,Nat.reduceLT,Nat.reduceLeDiff,Nat.reduceBEq,Nat.reduceAdd,fillA,splice,Nat.reduceMul,amY,op_eqP,I,hlt',a1,a2,hq]
   ·have hq:(((y:Nat):Int) == ((l[j]:Nat):Int))=false:=by rw [beq_eq_false_iff_ne];intro h;exact e (by omega)
    have hne:l.idxOf y≠j:=by
     intro h0
     have h1:=List.getElem_idxOf (List.idxOf_lt_length_of_mem hy)
     simp only [h0] at h1
     exact e h1
    have ih':=ih (j+1) (by omega) (by omega)
    simp only [I] at ih'
    simp only [a_f35,s_f35_l0_b,aa,bl,i64,reduceIte,reduceCtorEq,Nat.reduceEqDiff,Nat.reduceLT,Nat.reduceLeDiff,Nat.reduceBEq,Nat.reduceAdd,fillA,splice,Nat.reduceMul,amY,op_eqP,I,hlt',a1,a2,hq,w,ih']
theorem idxN_fun (hT:CT k_f35=some (.code s_f35)) (base:Nat) {H:Heap} {v:V} {l:List Nat} (hr:Rd H v (l.map fun (x:Nat)=>I x)) (hw:Wide1 v) (hn:l.length < 2 ^ 60) (y:Nat) (hy:y∈l):
 callW CT (.fn k_f35 [] []) [v,.s (.int .i64 y)] base H=some (.s (.int .i64 (l.idxOf y:Nat)),H):=by
 refine callW_fn (c:=s_f35) hT (by simp [s_f35]) ?_
 have e1:=hr.len
 rw [List.length_map] at e1
 have hl:=idxN_loop (CT:=CT) base hr hw hn y hy l.length 0 (by omega) (Nat.zero_le _)
 simp only [I,show ((0:Nat):Int)=0 from rfl] at hl
 simp only [s_f35,a_f35,s_f35_l0_b,aa,bl,i64,reduceIte,reduceCtorEq,Nat.reduceEqDiff,Nat.reduceLT,Nat.reduceLeDiff,Nat.reduceBEq,Nat.reduceAdd,fillA,splice,Nat.reduceMul,amY,op_eqP,e1,hl]
end
end Go.Proofs.Ytchekhggdbcbbaa
set_option maxRecDepth 100000
namespace Go.Proofs.Ytchekhggdbcbbaa
open Go.AM
theorem cV_set (n:Nat) (f:Nat→Option Nat) (v x:Nat):(cV n f).set v (I x)=cV n (Tar.upd f v (some x)):=by
 apply List.ext_getElem?
 intro i
 unfold cV
 rw [List.getElem?_set,List.getElem?_map,List.getElem?_map,List.length_map,List.length_range]
 by_cases hi:i < n
 ·rw [List.getElem?_range hi]
  by_cases e:v=i
  ·subst e
   simp [hi,Tar.upd,oV]
  ·simp [e,Tar.upd,Ne.symm e]
 ·rw [List.getElem?_eq_none (by simpa using hi)]
  by_cases e:v=i
  ·subst e;simp [hi]
  ·simp [e]
def compF (f:Nat→Option Nat) (i:Nat) (D:List Nat):Nat→Option Nat:=fun v=>if v∈D then some i else f v
theorem compF_snoc (f:Nat→Option Nat) (i:Nat) (D:List Nat) (k:Nat):Tar.upd (compF f i D) k (some i)=compF f i (D ++ [k]):=by
 funext v
 unfold Tar.upd compF
 by_cases e:v=k
 ·simp [e]
 ·simp [e]
def entW (d:Ids) (i a:Nat) (w:V) (len j:Nat):Env:=[(2,.ref d.b 0 0),(4,.ref d.y 0 0),(5,.fn 44 [] [.ref d.b 0 0,.ref d.y 0 0]),(7,I i),(10,I a),(165,w),(166,I len),(167,I j)]
section
variable {CT:Nat→Option CFun}
theorem comp_loop {base m0 n:Nat} (hbm:base≤m0) {d:Ids} {vr:V} {H:Heap} {vt vy:V} {s:Tar.St} (t:TS m0 n d vr H vt vy s) {i a:Nat} {D:List Nat} {w:V} {id g:Nat} (hidc:id≠d.ic) (hwl:∀ H',xLen H' .s w=some (.s (.int .i64 (D.length:Nat)))) (hw:∀ (j x:Nat),D[j]?=some x→xIndexAddr 1 w (.s (.int .i64 (j:Nat)))=some (.ref id g (a+j))∧∀ H',H'[id]?=H[id]?→xLoad H' false 1 (.ref id g (a+j))=some (.s (.int .i64 x))) (hD:∀ x∈D,x < n) (hDl:D.length < 2 ^ 50):∀ (m j:Nat),j+m=D.length→
 itW (evC (callW CT) itW base s_f27_l0) [] H.length (frOf 188 (entW d i a w D.length j)) (H.set d.ic (.cells 0 (cV n (compF s.comp i (D.take j)))))=some (.ext 2,frOf 188 (entW d i a w D.length D.length ++ [(168,bl false)]),H.set d.ic (.cells 0 (cV n (compF s.comp i D)))):=by
 have bic:base≤d.ic:=Nat.le_trans hbm (t.bs _ (by simp [Ids.all]))
 intro m
 induction m with
 | zero=>
   intro j hj
   obtain rfl:j=D.length:=by omega
   have tr:∀ fr ob,Go.AM.trim H.length fr (H.set d.ic ob)=H.set d.ic ob:=fun fr ob=>trim_same (by simp)
   rw [List.take_of_length_le (Nat.le_refl _),itW_step]
   simp only [entW,a_f27,s_f27_l0_b,s_f27_l1_b,aa,bl,i64,reduceIte,reduceCtorEq,Nat.reduceEqDiff,Nat.reduceLT,Nat.reduceLeDiff,Nat.reduceBEq,Nat.reduceAdd,fillA,splice,Nat.reduceMul,amY,op_eqP,I,bl,Int.lt_irrefl,tr]
 | succ m ih=>
   intro j hj
   have hjl:j < D.length:=by omega
   have hlt':((j:Int) < (D.length:Int)):=by omega
   have hx:D[j]?=some D[j]:=List.getElem?_eq_getElem hjl
   obtain ⟨a1,a2⟩:=hw j _ hx
   have wj:=w64 (n:=j) (by omega)
   have ih':=ih (j+1) (by omega)
   have hk:=hD D[j] (List.getElem_mem hjl)
   have htk:D.take (j+1)=D.take j ++ [D[j]]:=by rw [List.take_add_one,hx];rfl
   rw [htk,← compF_snoc] at ih'
   have tC:=t.compSet (compF s.comp i (D.take j))
   obtain ⟨K,hK⟩:∃ K,H.set d.ic (.cells 0 (cV n (compF s.comp i (D.take j))))=K:=⟨_,rfl⟩
   have a3:=a2 K (by rw [← hK,List.getElem?_set_ne (Ne.symm hidc)])
   have lK:K.length=H.length:=by rw [← hK,List.length_set]
   rw [hK] at tC
   have hb:=tC.hb
   have hi:=tC.hi
   have hix:(0≤((D[j]:Nat):Int)∧((D[j]:Nat):Int) < (n:Int)∧1=1):=by omega
   have hst:storeV K base 1 (I i) (.ref d.ic 0 D[j])=some (H.set d.ic (.cells 0 (cV n (Tar.upd (compF s.comp i (D.take j)) D[j] (some i))))):=by
    rw [storeV_at tC.cc bic rfl (by simp [cV];exact hk),cV_set,← hK,List.set_set]
   have tr:∀ fr ob,Go.AM.trim H.length fr (H.set d.ic ob)=H.set d.ic ob:=fun fr ob=>trim_same (by simp)
   rw [hK,itW_step]
   simp only [entW,I] at ih'
   simp only [I] at hst hi
   simp only [entW,a_f27,s_f27_l0_b,s_f27_l1_b,aa,bl,i64,reduceIte,reduceCtorEq,Nat.reduceEqDiff,Nat.reduceLT,Nat.reduceLeDiff,Nat.reduceBEq,Nat.reduceAdd,fillA,splice,Nat.reduceMul,amY,op_eqP,I,bl,hlt',a1,a3,hb,hi,hix,hst,↓hst,wj,tr,lK,ih']
   trace_state
end
end Go.Proofs.Ytchekhggdbcbbaa
set_option maxRecDepth 100000
namespace Go.Proofs.Ytchekhggdbcbbaa
open Go.AM
theorem getC_ob' {H:Heap} {i g:Nat} {c:List V} (h:getC H i g=some c):H[i]?=some (.cells g c):=by
 unfold getC at h
 cases ho:H[i]? with
 | none=>rw [ho] at h;cases h
 | some o=>
   rw [ho] at h
   cases o with
   | cells g2 c2=>
     dsimp only at h
     split at h
     ·rename_i e
      cases h
      rw [e]
     ·cases h
   | map _=>cases h
   | loop _ _ _ _ _ _=>cases h
   | dead=>cases h
section
variable {CT:Nat→Option CFun}
theorem round_back (hT:CT k_f44=some (.code s_f44)) (hX:CT k_f35=some (.code s_f35)) {base m0 n L:Nat} (hbm:base≤m0) {d:Ids} (hL:∀ x∈d.all,x < L) (hmL:m0≤L) {vr:V} {G:Nat→List Nat} {H0:Heap} (hrow:∀ H,KeepD m0 [] H0 H→RdRows H vr (rowsN n G)) {H:Heap} (hk:KeepD m0 [] H0 H) (hLH:L≤H.length) {vt vy:V} {s:Tar.St} (t:TS m0 n d vr H vt vy s) {i e:Nat} {rest:List (Nat × Nat)} (hw:s.way=(i,e) :: rest) (hi:i < n) (hn:n < 2 ^ 40) (hG:∀ v,(G v).length < 2 ^ 40) (hc:s.clock < 2 ^ 60) (hwl:s.wait.length < 2 ^ 40) (hyl:s.way.length < 2 ^ 39) (he:e=(G i).length) {up e':Nat} {rest':List (Nat × Nat)} (hr:rest=(up,e') :: rest') (hup:up < n) (hui:i≠up) (hlw:s.low i≠s.when i):
 ∃ vy' H',itW (evC (callW CT) itW base s_f27_l1) [7,8,81,153] L (frOf 188 (entE d)) H=itW (evC (callW CT) itW base s_f27_l1) [7,8,81,153] L (frOf 188 (entE d)) H'∧TS m0 n d vr H' vt vy' { s with way:=rest,low:=Tar.upd s.low up (min (s.low up) (s.low i)) }∧KeepD m0 [] H H'∧L≤H'.length:=by
 have hb:=t.hb
 have hii:=t.hi
 have hy:=t.hy
 have wl:s.way.length=rest.length+1:=by rw [hw];rfl
 have nl:=fun H2=>t.oy.len H2
 rw [List.length_map,List.length_reverse,wl] at nl
 have hpos:decide (((rest.length+1:Nat):Int) > 0)=true:=by rw [decide_eq_true_iff];omega
 have wp:IntKind.i64.wrap (((rest.length+1:Nat):Int) - 1)=(rest.length:Int):=by rw [IntKind.wrap_i64];omega
 obtain ⟨id,g,c,ha,hcc,hm,hl,c1,c2,tE⟩:=t.edge hw
 have hri:(rowsN n G)[i]?=some ((G i).map fun (u:Nat)=>I u):=by simp [rowsN,hi]
 obtain ⟨ra,rx,r1,r2,r3,r4⟩:=(hrow H hk).at hri
 have rl:=r3.len
 rw [List.length_map] at rl
 have hlt:decide ((e:Int) < ((G i).length:Int))=false:=by rw [decide_eq_false_iff_not];omega
 have hR:(s.way.reverse.map fun (p:Nat × Nat)=>[I p.1,I p.2])=(rest.reverse.map fun (p:Nat × Nat)=>[I p.1,I p.2]) ++ [[I i,I e]]:=by rw [hw];simp
 obtain ⟨vy',z1,oy',hs'⟩:=ownC_cut t.oy (k:=rest.length) (by rw [hR];simp)
 rw [hR,List.take_left' (by simp)] at oy'
 have nl1:=fun H2=>oy'.len H2
 rw [List.length_map,List.length_reverse] at nl1
 have vyc:=ownC_cells oy'
 have vyo:=oy'.one
 have by1:base≤d.y:=Nat.le_trans hbm (t.bs _ (by simp [Ids.all]))
 obtain ⟨H1,hH1⟩:∃ H1,H.set d.y (.cells 0 [vy'])=H1:=⟨_,rfl⟩
 have t1:=t.wayCut oy' hs'
 rw [hH1] at t1
 have kH1:KeepD m0 [] H H1:=⟨by rw [← hH1,List.length_set];omega,fun x hx _=>by rw [← hH1,List.getElem?_set_ne (by have:=t.bs d.y (by simp [Ids.all]);omega)]⟩
 have lH1:H1.length=H.length:=by rw [← hH1,List.length_set]
 have b1:=t1.hb
 have i1:=t1.hi
 have y1:=t1.hy
 have w1:=t1.cw
 have o1:=t1.cl
 have hixi:(0≤(i:Int)∧(i:Int) < (n:Int)∧1=1):=by omega
 have wi:=take1_of (fV_get s.when hi)
 have oi:=take1_of (fV_get s.low hi)
 have hw1:({ s with way:=rest }:Tar.St).way=(up,e') :: rest':=hr
 obtain ⟨id2,g2,cc2,ha2,hcc2,hm2,hl2,u1,u2,_⟩:=t1.edge hw1
 have rl2:rest.length=rest'.length+1:=by rw [hr];rfl
 have hpos2:decide (((rest.length:Nat):Int) > 0)=true:=by rw [decide_eq_true_iff];omega
 have wp2:IntKind.i64.wrap (((rest.length:Nat):Int) - 1)=(rest'.length:Int):=by rw [IntKind.wrap_i64];omega
 have hixu:(0≤(up:Int)∧(up:Int) < (n:Int)∧1=1):=by omega
 have ou:=take1_of (fV_get s.low hup)
 have hmin:=min_if (s.low up) (s.low i)
 have bil:base≤d.il:=Nat.le_trans hbm (t.bs _ (by simp [Ids.all]))
 obtain ⟨f2,hf2⟩:∃ f,Tar.upd s.low up (min (s.low up) (s.low i))=f:=⟨_,rfl⟩
 obtain ⟨H2,hH2⟩:∃ H2,H1.set d.il (.cells 0 (fV n f2))=H2:=⟨_,rfl⟩
 have t2:=t1.lowSet f2
 rw [hH2] at t2
 have st2:storeV H1 base 1 (I (min (s.low up) (s.low i):Nat)) (.ref d.il 0 up)=some H2:=by
  rw [storeV_at o1 bil rfl (by rw [fV_len];exact hup),fV_set,hf2,hH2]
 have kH2:KeepD m0 [] H1 H2:=⟨by rw [← hH2,List.length_set];omega,fun x hx _=>by rw [← hH2,List.getElem?_set_ne (by have:=t.bs d.il (by simp [Ids.all]);omega)]⟩
 have lH2:H2.length=H.length:=by rw [← hH2,List.length_set,lH1]
 have b2:=t2.hb
 have i2:=t2.hi
 have w2:=t2.cw
 have o2:=t2.cl
 have f2i:f2 i=s.low i:=by rw [← hf2];exact Tar.upd_ne _ _ hui
 have oi2:=take1_of (fV_get f2 hi)
 rw [f2i] at oi2
 have hlw':(((s.low i:Nat):Int) == ((s.when i:Nat):Int))=false:=by rw [beq_eq_false_iff_ne];intro h;exact hlw (by omega)
 rw [hf2]
 refine ⟨vy',_,?_,t2.trim hL (frOf 188 (entE d)),KeepD.trim (kH1.trans kH2 (Nat.le_refl _)) hmL (frOf 188 (entE d)),trim_le (by omega)⟩
 rw [itW_step]
 simp only [I] at st2 i1 i2 c1 c2 wi oi u1 ou oi2
 simp only [entE,I,a_f27,s_f27_l0_b,s_f27_l1_b,aa,bl,i64,reduceIte,reduceCtorEq,Nat.reduceEqDiff,Nat.reduceLT,Nat.reduceLeDiff,Nat.reduceBEq,Nat.reduceAdd,fillA,splice,Nat.reduceMul,amY,op_eqP,hb,hii,hy,nl,hpos,wp,ha,hcc,c1,c2,r1,r2,rl,hlt,z1,vyc,vyo,by1,hH1,nl1,b1,i1,y1,w1,o1,hixi,wi,oi,hpos2,wp2,ha2,hcc2,u1,hixu,ou,hmin,st2,b2,i2,w2,o2,oi2,hlw']
theorem round_comp0 (hT:CT k_f44=some (.code s_f44)) (hX:CT k_f35=some (.code s_f35)) {base m0 n L:Nat} (hbm:base≤m0) {d:Ids} (hL:∀ x∈d.all,x < L) (hmL:m0≤L) {vr:V} {G:Nat→List Nat} {H0:Heap} (hrow:∀ H,KeepD m0 [] H0 H→RdRows H vr (rowsN n G)) {H:Heap} (hk:KeepD m0 [] H0 H) (hLH:L≤H.length) {vt vy:V} {s:Tar.St} (t:TS m0 n d vr H vt vy s) {i e:Nat} {rest:List (Nat × Nat)} (hw:s.way=(i,e) :: rest) (hi:i < n) (hn:n < 2 ^ 40) (hG:∀ v,(G v).length < 2 ^ 40) (hc:s.clock < 2 ^ 60) (hwl:s.wait.length < 2 ^ 40) (hyl:s.way.length < 2 ^ 39) (he:e=(G i).length) (hr:rest=[]) (hiw:i∈s.wait) (hwn:∀ x∈s.wait,x < n) (hlw:s.low i=s.when i):
 ∃ vt' vy' H',itW (evC (callW CT) itW base s_f27_l1) [7,8,81,153] L (frOf 188 (entE d)) H=itW (evC (callW CT) itW base s_f27_l1) [7,8,81,153] L (frOf 188 (entE d)) H'∧TS m0 n d vr H' vt' vy' { s with way:=rest,comp:=compF s.comp i (s.wait.drop (s.wait.idxOf i)),wait:=s.wait.take (s.wait.idxOf i) }∧KeepD m0 [] H H'∧L≤H'.length:=by
 have hb:=t.hb
 have hii:=t.hi
 have hy:=t.hy
 have wl:s.way.length=rest.length+1:=by rw [hw];rfl
 have nl:=fun H2=>t.oy.len H2
 rw [List.length_map,List.length_reverse,wl] at nl
 have hpos:decide (((rest.length+1:Nat):Int) > 0)=true:=by rw [decide_eq_true_iff];omega
 have wp:IntKind.i64.wrap (((rest.length+1:Nat):Int) - 1)=(rest.length:Int):=by rw [IntKind.wrap_i64];omega
 obtain ⟨id,g,c,ha,hcc,hm,hl,c1,c2,tE⟩:=t.edge hw
 have hri:(rowsN n G)[i]?=some ((G i).map fun (u:Nat)=>I u):=by simp [rowsN,hi]
 obtain ⟨ra,rx,r1,r2,r3,r4⟩:=(hrow H hk).at hri
 have rl:=r3.len
 rw [List.length_map] at rl
 have hlt:decide ((e:Int) < ((G i).length:Int))=false:=by rw [decide_eq_false_iff_not];omega
 have hR:(s.way.reverse.map fun (p:Nat × Nat)=>[I p.1,I p.2])=(rest.reverse.map fun (p:Nat × Nat)=>[I p.1,I p.2]) ++ [[I i,I e]]:=by rw [hw];simp
 obtain ⟨vy',z1,oy',hs'⟩:=ownC_cut t.oy (k:=rest.length) (by rw [hR];simp)
 rw [hR,List.take_left' (by simp)] at oy'
 have nl1:=fun H2=>oy'.len H2
 rw [List.length_map,List.length_reverse] at nl1
 have vyc:=ownC_cells oy'
 have vyo:=oy'.one
 have by1:base≤d.y:=Nat.le_trans hbm (t.bs _ (by simp [Ids.all]))
 obtain ⟨H1,hH1⟩:∃ H1,H.set d.y (.cells 0 [vy'])=H1:=⟨_,rfl⟩
 have t1:=t.wayCut oy' hs'
 rw [hH1] at t1
 have kH1:KeepD m0 [] H H1:=⟨by rw [← hH1,List.length_set];omega,fun x hx _=>by rw [← hH1,List.getElem?_set_ne (by have:=t.bs d.y (by simp [Ids.all]);omega)]⟩
 have lH1:H1.length=H.length:=by rw [← hH1,List.length_set]
 have b1:=t1.hb
 have i1:=t1.hi
 have y1:=t1.hy
 have w1:=t1.cw
 have o1:=t1.cl
 have hixi:(0≤(i:Int)∧(i:Int) < (n:Int)∧1=1):=by omega
 have wi:=take1_of (fV_get s.when hi)
 have oi:=take1_of (fV_get s.low hi)
 have hidx:=idxN_fun hX base (ownC_rd t1.ot).1 (ownC_rd t1.ot).2 (show s.wait.length < 2 ^ 60 by omega) i hiw
 have hatl:=List.idxOf_lt_length_of_mem hiw
 obtain ⟨a,hat⟩:∃ a,s.wait.idxOf i=a:=⟨_,rfl⟩
 rw [hat] at hatl
 have hidx':callW CT (.fn k_f35 [] []) [vt,.s (.int .i64 i)] base H1=some (.s (.int .i64 (a:Nat)),H1):=by rw [← hat];exact hidx
 obtain ⟨v165,idt,gt,z2,l165,hvt,hacc⟩:=ownC_from t1.ot (k:=a) hatl
 have hdl:(s.wait.drop a).length=s.wait.length - a:=List.length_drop ..
 have hlp:=comp_loop (CT:=CT) hbm t1 (i:=i) (a:=a) (D:=s.wait.drop a) (w:=v165) (id:=idt) (g:=gt) (t1.ft d.ic (by simp [Ids.all]) idt gt _ _ hvt) (fun H'=>by rw [hdl];exact l165 H') hacc (fun x hx=>hwn x (List.mem_of_mem_drop hx)) (by omega) (s.wait.drop a).length 0 (by omega)
 have hc0:compF s.comp i ((s.wait.drop a).take 0)=s.comp:=by funext v;simp [compF]
 have hset0:(H1).set d.ic (.cells 0 (cV n s.comp))=H1:=set_same_ob (getC_ob' t1.cc)
 rw [show ({ s with way:=rest }:Tar.St).comp=s.comp from rfl] at hlp
 rw [hc0,hset0] at hlp
 have t3:=t1.compSet (compF s.comp i (s.wait.drop a))
 obtain ⟨H3,hH3⟩:∃ H3,(H1).set d.ic (.cells 0 (cV n (compF s.comp i (s.wait.drop a))))=H3:=⟨_,rfl⟩
 rw [hH3] at t3 hlp
 have l3:H3.length=H.length:=by rw [← hH3,List.length_set];exact lH1
 have b3:=t3.hb
 have i3:=t3.hi
 obtain ⟨vt',z3,ot',hst'⟩:=ownC_cut t3.ot (k:=a) (by rw [List.length_map];exact Nat.le_of_lt hatl)
 rw [← List.map_take] at ot'
 have vtc:=ownC_cells ot'
 have vto:=ot'.one
 have t4:=t3.waitCut (vt':=vt') (l:=s.wait.take a) ot' hst'
 obtain ⟨H4,hH4⟩:∃ H4,H3.set d.i (.cells 0 [vr,.sl d.iw 0 0 n 1,.sl d.il 0 0 n 1,vt',.sl d.ic 0 0 n 1,I s.clock])=H4:=⟨_,rfl⟩
 have t4':=t4
 change TS m0 n d vr (H3.set d.i (.cells 0 [vr,.sl d.iw 0 0 n 1,.sl d.il 0 0 n 1,vt',.sl d.ic 0 0 n 1,I s.clock])) vt' vy' _ at t4'
 rw [hH4] at t4'
 have bi4:base≤d.i:=Nat.le_trans hbm (t.bs _ (by simp [Ids.all]))
 have kH3:KeepD m0 [] H1 H3:=⟨by rw [← hH3,List.length_set,lH1];omega,fun x hx _=>by rw [← hH3,List.getElem?_set_ne (by have:=t.bs d.ic (by simp [Ids.all]);omega)]⟩
 have kH4:KeepD m0 [] H3 H4:=⟨by rw [← hH4,List.length_set,l3];omega,fun x hx _=>by rw [← hH4,List.getElem?_set_ne (by have:=t.bs d.i (by simp [Ids.all]);omega)]⟩
 have hpos2:decide (((rest.length:Nat):Int) > 0)=false:=by rw [hr];rfl
 have hlw':(((s.low i:Nat):Int) == ((s.when i:Nat):Int))=true:=by rw [hlw,beq_self_eq_true]
 rw [hat]
 refine ⟨vt',vy',_,?_,t4'.trim hL (frOf 188 (entE d)),KeepD.trim ((kH1.trans kH3 (Nat.le_refl _)).trans kH4 (Nat.le_refl _)) hmL (frOf 188 (entE d)),trim_le (by rw [← hH4,List.length_set];omega)⟩
 rw [itW_step]
 simp only [I,entW,hdl,List.cons_append,List.nil_append,show ((0:Nat):Int)=0 from rfl] at i1 c1 c2 wi oi i3 hH4 hlp
 simp only [entE,I,a_f27,s_f27_l0_b,s_f27_l1_b,aa,bl,i64,reduceIte,reduceCtorEq,Nat.reduceEqDiff,Nat.reduceLT,Nat.reduceLeDiff,Nat.reduceBEq,Nat.reduceAdd,fillA,splice,Nat.reduceMul,amY,op_eqP,hb,hii,hy,nl,hpos,wp,ha,hcc,c1,c2,r1,r2,rl,hlt,z1,vyc,vyo,by1,hH1,nl1,b1,i1,y1,w1,o1,hixi,wi,oi,hpos2,hlw',hidx',z2,l165,hlp,b3,i3,z3,vtc,vto,bi4,hH4]
theorem round_comp (hT:CT k_f44=some (.code s_f44)) (hX:CT k_f35=some (.code s_f35)) {base m0 n L:Nat} (hbm:base≤m0) {d:Ids} (hL:∀ x∈d.all,x < L) (hmL:m0≤L) {vr:V} {G:Nat→List Nat} {H0:Heap} (hrow:∀ H,KeepD m0 [] H0 H→RdRows H vr (rowsN n G)) {H:Heap} (hk:KeepD m0 [] H0 H) (hLH:L≤H.length) {vt vy:V} {s:Tar.St} (t:TS m0 n d vr H vt vy s) {i e:Nat} {rest:List (Nat × Nat)} (hw:s.way=(i,e) :: rest) (hi:i < n) (hn:n < 2 ^ 40) (hG:∀ v,(G v).length < 2 ^ 40) (hc:s.clock < 2 ^ 60) (hwl:s.wait.length < 2 ^ 40) (hyl:s.way.length < 2 ^ 39) (he:e=(G i).length) {up e':Nat} {rest':List (Nat × Nat)} (hr:rest=(up,e') :: rest') (hup:up < n) (hui:i≠up) (hiw:i∈s.wait) (hwn:∀ x∈s.wait,x < n) (hlw:s.low i=s.when i):
 ∃ vt' vy' H',itW (evC (callW CT) itW base s_f27_l1) [7,8,81,153] L (frOf 188 (entE d)) H=itW (evC (callW CT) itW base s_f27_l1) [7,8,81,153] L (frOf 188 (entE d)) H'∧TS m0 n d vr H' vt' vy' { s with way:=rest,comp:=compF s.comp i (s.wait.drop (s.wait.idxOf i)),wait:=s.wait.take (s.wait.idxOf i),low:=Tar.upd s.low up (min (s.low up) (s.low i)) }∧KeepD m0 [] H H'∧L≤H'.length:=by
 have hb:=t.hb
 have hii:=t.hi
 have hy:=t.hy
 have wl:s.way.length=rest.length+1:=by rw [hw];rfl
 have nl:=fun H2=>t.oy.len H2
 rw [List.length_map,List.length_reverse,wl] at nl
 have hpos:decide (((rest.length+1:Nat):Int) > 0)=true:=by rw [decide_eq_true_iff];omega
 have wp:IntKind.i64.wrap (((rest.length+1:Nat):Int) - 1)=(rest.length:Int):=by rw [IntKind.wrap_i64];omega
 obtain ⟨id,g,c,ha,hcc,hm,hl,c1,c2,tE⟩:=t.edge hw
 have hri:(rowsN n G)[i]?=some ((G i).map fun (u:Nat)=>I u):=by simp [rowsN,hi]
 obtain ⟨ra,rx,r1,r2,r3,r4⟩:=(hrow H hk).at hri
 have rl:=r3.len
 rw [List.length_map] at rl
 have hlt:decide ((e:Int) < ((G i).length:Int))=false:=by rw [decide_eq_false_iff_not];omega
 have hR:(s.way.reverse.map fun (p:Nat × Nat)=>[I p.1,I p.2])=(rest.reverse.map fun (p:Nat × Nat)=>[I p.1,I p.2]) ++ [[I i,I e]]:=by rw [hw];simp
 obtain ⟨vy',z1,oy',hs'⟩:=ownC_cut t.oy (k:=rest.length) (by rw [hR];simp)
 rw [hR,List.take_left' (by simp)] at oy'
 have nl1:=fun H2=>oy'.len H2
 rw [List.length_map,List.length_reverse] at nl1
 have vyc:=ownC_cells oy'
 have vyo:=oy'.one
 have by1:base≤d.y:=Nat.le_trans hbm (t.bs _ (by simp [Ids.all]))
 obtain ⟨H1,hH1⟩:∃ H1,H.set d.y (.cells 0 [vy'])=H1:=⟨_,rfl⟩
 have t1:=t.wayCut oy' hs'
 rw [hH1] at t1
 have kH1:KeepD m0 [] H H1:=⟨by rw [← hH1,List.length_set];omega,fun x hx _=>by rw [← hH1,List.getElem?_set_ne (by have:=t.bs d.y (by simp [Ids.all]);omega)]⟩
 have lH1:H1.length=H.length:=by rw [← hH1,List.length_set]
 have b1:=t1.hb
 have i1:=t1.hi
 have y1:=t1.hy
 have w1:=t1.cw
 have o1:=t1.cl
 have hixi:(0≤(i:Int)∧(i:Int) < (n:Int)∧1=1):=by omega
 have wi:=take1_of (fV_get s.when hi)
 have oi:=take1_of (fV_get s.low hi)
 have hw1:({ s with way:=rest }:Tar.St).way=(up,e') :: rest':=hr
 obtain ⟨id2,g2,cc2,ha2,hcc2,hm2,hl2,u1,u2,_⟩:=t1.edge hw1
 have rl2:rest.length=rest'.length+1:=by rw [hr];rfl
 have hpos2:decide (((rest.length:Nat):Int) > 0)=true:=by rw [decide_eq_true_iff];omega
 have wp2:IntKind.i64.wrap (((rest.length:Nat):Int) - 1)=(rest'.length:Int):=by rw [IntKind.wrap_i64];omega
 have hixu:(0≤(up:Int)∧(up:Int) < (n:Int)∧1=1):=by omega
 have ou:=take1_of (fV_get s.low hup)
 have hmin:=min_if (s.low up) (s.low i)
 have bil:base≤d.il:=Nat.le_trans hbm (t.bs _ (by simp [Ids.all]))
 obtain ⟨f2,hf2⟩:∃ f,Tar.upd s.low up (min (s.low up) (s.low i))=f:=⟨_,rfl⟩
 obtain ⟨H2,hH2⟩:∃ H2,H1.set d.il (.cells 0 (fV n f2))=H2:=⟨_,rfl⟩
 have t2:=t1.lowSet f2
 rw [hH2] at t2
 have st2:storeV H1 base 1 (I (min (s.low up) (s.low i):Nat)) (.ref d.il 0 up)=some H2:=by
  rw [storeV_at o1 bil rfl (by rw [fV_len];exact hup),fV_set,hf2,hH2]
 have kH2:KeepD m0 [] H1 H2:=⟨by rw [← hH2,List.length_set];omega,fun x hx _=>by rw [← hH2,List.getElem?_set_ne (by have:=t.bs d.il (by simp [Ids.all]);omega)]⟩
 have lH2:H2.length=H.length:=by rw [← hH2,List.length_set,lH1]
 have b2:=t2.hb
 have i2:=t2.hi
 have w2:=t2.cw
 have o2:=t2.cl
 have f2i:f2 i=s.low i:=by rw [← hf2];exact Tar.upd_ne _ _ hui
 have oi2:=take1_of (fV_get f2 hi)
 rw [f2i] at oi2
 have hidx:=idxN_fun hX base (ownC_rd t2.ot).1 (ownC_rd t2.ot).2 (show s.wait.length < 2 ^ 60 by omega) i hiw
 have hatl:=List.idxOf_lt_length_of_mem hiw
 obtain ⟨a,hat⟩:∃ a,s.wait.idxOf i=a:=⟨_,rfl⟩
 rw [hat] at hatl
 have hidx':callW CT (.fn k_f35 [] []) [vt,.s (.int .i64 i)] base H2=some (.s (.int .i64 (a:Nat)),H2):=by rw [← hat];exact hidx
 obtain ⟨v165,idt,gt,z2,l165,hvt,hacc⟩:=ownC_from t2.ot (k:=a) hatl
 have hdl:(s.wait.drop a).length=s.wait.length - a:=List.length_drop ..
 have hlp:=comp_loop (CT:=CT) hbm t2 (i:=i) (a:=a) (D:=s.wait.drop a) (w:=v165) (id:=idt) (g:=gt) (t2.ft d.ic (by simp [Ids.all]) idt gt _ _ hvt) (fun H'=>by rw [hdl];exact l165 H') hacc (fun x hx=>hwn x (List.mem_of_mem_drop hx)) (by omega) (s.wait.drop a).length 0 (by omega)
 have hc0:compF s.comp i ((s.wait.drop a).take 0)=s.comp:=by funext v;simp [compF]
 have hset0:(H2).set d.ic (.cells 0 (cV n s.comp))=H2:=set_same_ob (getC_ob' t2.cc)
 rw [show ({ s with way:=rest,low:=f2 }:Tar.St).comp=s.comp from rfl] at hlp
 rw [hc0,hset0] at hlp
 have t3:=t2.compSet (compF s.comp i (s.wait.drop a))
 obtain ⟨H3,hH3⟩:∃ H3,(H2).set d.ic (.cells 0 (cV n (compF s.comp i (s.wait.drop a))))=H3:=⟨_,rfl⟩
 rw [hH3] at t3 hlp
 have l3:H3.length=H.length:=by rw [← hH3,List.length_set];exact lH2
 have b3:=t3.hb
 have i3:=t3.hi
 obtain ⟨vt',z3,ot',hst'⟩:=ownC_cut t3.ot (k:=a) (by rw [List.length_map];exact Nat.le_of_lt hatl)
 rw [← List.map_take] at ot'
 have vtc:=ownC_cells ot'
 have vto:=ot'.one
 have t4:=t3.waitCut (vt':=vt') (l:=s.wait.take a) ot' hst'
 obtain ⟨H4,hH4⟩:∃ H4,H3.set d.i (.cells 0 [vr,.sl d.iw 0 0 n 1,.sl d.il 0 0 n 1,vt',.sl d.ic 0 0 n 1,I s.clock])=H4:=⟨_,rfl⟩
 have t4':=t4
 change TS m0 n d vr (H3.set d.i (.cells 0 [vr,.sl d.iw 0 0 n 1,.sl d.il 0 0 n 1,vt',.sl d.ic 0 0 n 1,I s.clock])) vt' vy' _ at t4'
 rw [hH4] at t4'
 have bi4:base≤d.i:=Nat.le_trans hbm (t.bs _ (by simp [Ids.all]))
 have kH3:KeepD m0 [] H2 H3:=⟨by rw [← hH3,List.length_set,lH2];omega,fun x hx _=>by rw [← hH3,List.getElem?_set_ne (by have:=t.bs d.ic (by simp [Ids.all]);omega)]⟩
 have kH4:KeepD m0 [] H3 H4:=⟨by rw [← hH4,List.length_set,l3];omega,fun x hx _=>by rw [← hH4,List.getElem?_set_ne (by have:=t.bs d.i (by simp [Ids.all]);omega)]⟩
 have hlw':(((s.low i:Nat):Int) == ((s.when i:Nat):Int))=true:=by rw [hlw,beq_self_eq_true]
 rw [hat,hf2]
 refine ⟨vt',vy',_,?_,t4'.trim hL (frOf 188 (entE d)),KeepD.trim (((kH1.trans kH2 (Nat.le_refl _)).trans kH3 (Nat.le_refl _)).trans kH4 (Nat.le_refl _)) hmL (frOf 188 (entE d)),trim_le (by rw [← hH4,List.length_set];omega)⟩
 rw [itW_step]
 simp only [I,entW,hdl,List.cons_append,List.nil_append,show ((0:Nat):Int)=0 from rfl] at st2 i1 i2 c1 c2 wi oi u1 ou oi2 i3 hH4 hlp
 simp only [entE,I,a_f27,s_f27_l0_b,s_f27_l1_b,aa,bl,i64,reduceIte,reduceCtorEq,Nat.reduceEqDiff,Nat.reduceLT,Nat.reduceLeDiff,Nat.reduceBEq,Nat.reduceAdd,fillA,splice,Nat.reduceMul,amY,op_eqP,hb,hii,hy,nl,hpos,wp,ha,hcc,c1,c2,r1,r2,rl,hlt,z1,vyc,vyo,by1,hH1,nl1,b1,i1,y1,w1,o1,hixi,wi,oi,hpos2,wp2,ha2,hcc2,u1,hixu,ou,hmin,st2,b2,i2,w2,o2,oi2,hlw',hidx',z2,l165,hlp,b3,i3,z3,vtc,vto,bi4,hH4]
end
end Go.Proofs.Ytchekhggdbcbbaa
namespace Go.AM.Tar
def cntN (n:Nat) (f:Nat→Nat):Nat:=((List.range n).map f).sum
theorem cntN_succ (n:Nat) (f:Nat→Nat):cntN (n+1) f=cntN n f+f n:=by simp [cntN,List.range_succ,List.sum_append]
theorem cntN_congr:∀ {n:Nat} {f g:Nat→Nat},(∀ v,v < n→g v=f v)→cntN n g=cntN n f:=by
 intro n
 induction n with
 | zero=>intro f g _;rfl
 | succ n ih=>intro f g h;rw [cntN_succ,cntN_succ,ih fun v hv=>h v (by omega),h n (by omega)]
theorem cntN_upd:∀ {n k:Nat} {f g:Nat→Nat},k < n→(∀ v,v≠k→g v=f v)→cntN n g+f k=cntN n f+g k:=by
 intro n
 induction n with
 | zero=>intro k f g hk;omega
 | succ n ih=>
   intro k f g hk h
   rw [cntN_succ,cntN_succ]
   by_cases e:k=n
   ·subst e
    rw [cntN_congr fun v hv=>h v (by omega)]
    omega
   ·have:=ih (k:=k) (by omega) h
    rw [h n (Ne.symm e)]
    omega
theorem nodup_le:∀ {n:Nat} {l:List Nat},l.Nodup→(∀ x∈l,x < n)→l.length≤n:=by
 intro n
 induction n with
 | zero=>
   intro l _ h
   cases l with
   | nil=>exact Nat.le_refl _
   | cons x l=>exact absurd (h x List.mem_cons_self) (by omega)
 | succ n ih=>
   intro l hd h
   by_cases hn:n∈l
   ·have h1:=ih (l:=l.erase n) (hd.erase n) (fun x hx=>by
     have h2:=h x (List.mem_of_mem_erase hx)
     have h3:x≠n:=fun e=>by subst e;exact (List.Nodup.mem_erase_iff hd).1 hx |>.1 rfl
     omega)
    have:=List.length_erase_of_mem hn
    omega
   ·have:=ih hd (fun x hx=>by
     have h2:=h x hx
     have h3:x≠n:=fun e=>hn (e ▸ hx)
     omega)
    omega
def mes (G:Nat→List Nat) (n:Nat) (s:St):Nat:=cntN n (fun v=>if s.when v=0 then (G v).length+2 else 0)+(s.way.map fun p=>(G p.1).length - p.2+1).sum
structure Ok (G:Nat→List Nat) (n:Nat) (s:St):Prop where
 inv:Inv G s
 clk:s.clock+cntN n (fun v=>if s.when v=0 then 1 else 0)=n
 vis:∀ v,s.when v≠0→v < n
theorem cntN_one (n:Nat):cntN n (fun _=>1)=n:=by
 induction n with
 | zero=>rfl
 | succ n ih=>rw [cntN_succ,ih]
theorem Ok.clock {G:Nat→List Nat} {n:Nat} {s:St} (h:Ok G n s):s.clock≤n:=by have:=h.clk;omega
theorem Ok.wait {G:Nat→List Nat} {n:Nat} {s:St} (h:Ok G n s):s.wait.length≤n:=
 nodup_le (h.inv.ws.imp fun {a b} hab e=>by rw [e] at hab;exact Nat.lt_irrefl _ hab) (fun x hx=>h.vis x ((h.inv.w1 x).1 hx).1)
theorem Ok.way {G:Nat→List Nat} {n:Nat} {s:St} (h:Ok G n s):s.way.length≤n:=by
 have:=nodup_le (n:=n) (l:=s.way.map Prod.fst) (by
  rw [List.Nodup,List.pairwise_map]
  exact h.inv.ys.imp fun {a b} hab e=>by rw [e] at hab;exact Nat.lt_irrefl _ hab) (fun x hx=>by
  obtain ⟨p,hp,rfl⟩:=List.mem_map.1 hx
  exact h.vis _ ((h.inv.w1 _).1 (h.inv.y1 p hp).1).1)
 rwa [List.length_map] at this
theorem Ok.top {G:Nat→List Nat} {n:Nat} {s:St} (h:Ok G n s) {p:Nat × Nat} (hp:p∈s.way):p.1 < n:=h.vis _ ((h.inv.w1 _).1 (h.inv.y1 p hp).1).1
theorem begin_cnt {n k:Nat} {s:St} (hk:s.when k=0) (hkn:k < n) (w:Nat→Nat) (hw:w k≠0∨True):cntN n (fun v=>if (begin' s k).when v=0 then w v else 0)+w k=cntN n (fun v=>if s.when v=0 then w v else 0):=by
 have:=cntN_upd (n:=n) (k:=k) (f:=fun v=>if s.when v=0 then w v else 0) (g:=fun v=>if (begin' s k).when v=0 then w v else 0) hkn (fun v hv=>by
  show (if upd s.when k (s.clock+1) v=0 then w v else 0)=_
  rw [upd_ne _ _ hv])
 have e1:(if (begin' s k).when k=0 then w k else 0)=0:=by
  show (if upd s.when k (s.clock+1) k=0 then w k else 0)=0
  rw [upd_self];simp
 have e2:(if s.when k=0 then w k else 0)=w k:=if_pos hk
 rw [e1,e2] at this
 omega
theorem ok_begin {G:Nat→List Nat} {n:Nat} {s:St} {k:Nat} (h:Ok G n s) (hk:s.when k=0) (hkn:k < n) (hi:Inv G (begin' s k)):Ok G n (begin' s k):=by
 refine ⟨hi,?_,fun v hv=>?_⟩
 ·have:=begin_cnt hk hkn (fun _=>1) (.inr trivial)
  have h2:=h.clk
  show s.clock+1+_=n
  omega
 ·by_cases e:v=k
  ·rw [e];exact hkn
  ·change upd s.when k (s.clock+1) v≠0 at hv
   rw [upd_ne _ _ e] at hv
   exact h.vis v hv
theorem mes_begin {G:Nat→List Nat} {n:Nat} {s:St} {k:Nat} (hk:s.when k=0) (hkn:k < n):mes G n (begin' s k)+1=mes G n s:=by
 have:=begin_cnt hk hkn (fun v=>(G v).length+2) (.inr trivial)
 unfold mes
 show cntN n (fun v=>if (begin' s k).when v=0 then (G v).length+2 else 0)+(((k,0) :: s.way).map fun p=>(G p.1).length - p.2+1).sum+1=_
 rw [List.map_cons,List.sum_cons]
 dsimp only at this ⊢
 omega
theorem wait_nil {G:Nat→List Nat} {s:St} (h:Inv G s) (hw:s.way=[]):s.wait=[]:=by
 cases hs:s.wait with
 | nil=>rfl
 | cons v l=>
   obtain ⟨p,hp,_⟩:=h.sg v (by rw [hs];exact List.mem_cons_self)
   rw [hw] at hp
   cases hp
theorem ok_root {G:Nat→List Nat} {n:Nat} {s:St} {k:Nat} (h:Ok G n s) (hw:s.way=[]) (hk:s.when k=0) (hkn:k < n):Ok G n (begin' s k):=ok_begin h hk hkn (inv_begin h.inv hk (.inl ⟨hw,wait_nil h.inv hw⟩))
def St.start:St:=⟨fun _=>0,fun _=>0,fun _=>none,[],[],0⟩
theorem ok_start (G:Nat→List Nat) (n:Nat):Ok G n St.start:=by
 refine ⟨?_,?_,fun v hv=>absurd rfl hv⟩
 ·constructor <;> simp [St.start]
 ·show 0+cntN n (fun v=>if 0=0 then 1 else 0)=n
  simp only [if_true,Nat.zero_add]
  exact cntN_one n
theorem ok_of {G:Nat→List Nat} {n:Nat} {s s':St} (h:Ok G n s) (hi:Inv G s') (h1:s'.clock=s.clock) (h2:s'.when=s.when):Ok G n s':=⟨hi,by rw [h1,h2];exact h.clk,by rw [h2];exact h.vis⟩
theorem wait_cut {G:Nat→List Nat} {s:St} (h:Inv G s) {i:Nat} (hi:i∈s.wait):s.wait.take (s.wait.idxOf i)=s.wait.filter (fun v=>decide (s.when v < s.when i))∧∀ v,v∈s.wait.drop (s.wait.idxOf i)↔v∈s.wait∧s.when i≤s.when v:=by
 have key:∀ l:List Nat,l.Pairwise (fun a b=>s.when a < s.when b)→i∈l→l.take (l.idxOf i)=l.filter (fun v=>decide (s.when v < s.when i))∧∀ v,v∈l.drop (l.idxOf i)↔v∈l∧s.when i≤s.when v:=by
  intro l
  induction l with
  | nil=>intro _ hx;cases hx
  | cons x l ih=>
    intro hp hx
    obtain ⟨hp1,hp2⟩:=List.pairwise_cons.1 hp
    rw [List.idxOf_cons]
    by_cases e:x=i
    ·subst e
     rw [beq_self_eq_true]
     simp only [cond_true,List.take_zero,List.drop_zero]
     refine ⟨?_,fun v=>⟨fun hv=>⟨hv,?_⟩,fun hv=>hv.1⟩⟩
     ·symm
      rw [List.filter_eq_nil_iff]
      intro v hv
      rcases List.mem_cons.1 hv with rfl | hv
      ·simp
      ·have:=hp1 v hv;simp;omega
     ·rcases List.mem_cons.1 hv with rfl | hv
      ·exact Nat.le_refl _
      ·exact Nat.le_of_lt (hp1 v hv)
    ·have hil:i∈l:=by rcases List.mem_cons.1 hx with h0 | h0;exact absurd h0.symm e;exact h0
     have hb:(x == i)=false:=by simpa using e
     obtain ⟨h1,h2⟩:=ih hp2 hil
     have hxi:=hp1 i hil
     rw [hb]
     simp only [cond_false,List.take_succ_cons,List.drop_succ_cons]
     refine ⟨?_,fun v=>?_⟩
     ·rw [List.filter_cons,if_pos (by simpa using hxi),h1]
     ·rw [h2]
      refine ⟨fun hv=>⟨List.mem_cons_of_mem _ hv.1,hv.2⟩,fun hv=>⟨?_,hv.2⟩⟩
      rcases List.mem_cons.1 hv.1 with rfl | hv1
      ·omega
      ·exact hv1
 exact key s.wait h.ws hi
theorem comp_end {G:Nat→List Nat} {n:Nat} {s:St} (h:Ok G n s) (hw:s.way=[]) (hv:∀ v,v < n→s.when v≠0):∀ v,v < n→∃ r,s.comp v=some r:=by
 intro v hn
 cases hc:s.comp v with
 | some r=>exact ⟨r,rfl⟩
 | none=>
   have:=(h.inv.w1 v).2 ⟨hv v hn,hc⟩
   rw [wait_nil h.inv hw] at this
   cases this
theorem comp_same {G:Nat→List Nat} {n:Nat} {s:St} (h:Ok G n s) (hw:s.way=[]) (hv:∀ v,v < n→s.when v≠0) {u v:Nat} (hu:u < n) (hvn:v < n):s.comp u=s.comp v↔Rc G u v∧Rc G v u:=by
 obtain ⟨r,hr⟩:=comp_end h hw hv u hu
 obtain ⟨q,hq⟩:=comp_end h hw hv v hvn
 exact h.inv.co u v (by rw [hr];simp) (by rw [hq];simp)
theorem inv_second {G:Nat→List Nat} {s:St} {x:Nat × Nat} {i e k:Nat} {rest:List (Nat × Nat)} (h:Inv G s) (hw:s.way=x :: (i,e) :: rest) (he:(G i)[e]?=some k) (hk:s.when k≠0) (hC:k∈s.wait→s.low i≤s.when k):Inv G { s with way:=x :: (i,e+1) :: rest }:=by
 have hi:(i,e)∈s.way:=by rw [hw];simp
 have hlt:e < (G i).length:=(List.getElem?_eq_some_iff.1 he).1
 have hin:∀ p∈(x :: (i,e+1) :: rest:List (Nat × Nat)),p=(i,e+1)∨p∈s.way:=by
  intro p hp
  rw [hw]
  rcases List.mem_cons.1 hp with rfl | hp
  ·exact .inr List.mem_cons_self
  ·rcases List.mem_cons.1 hp with rfl | hp
   ·exact .inl rfl
   ·exact .inr (List.mem_cons_of_mem _ (List.mem_cons_of_mem _ hp))
 have hout:∀ p∈s.way,∃ q∈(x :: (i,e+1) :: rest:List (Nat × Nat)),q.1=p.1:=by
  intro p hp
  rw [hw] at hp
  rcases List.mem_cons.1 hp with rfl | hp
  ·exact ⟨_,List.mem_cons_self,rfl⟩
  ·rcases List.mem_cons.1 hp with rfl | hp
   ·exact ⟨(i,e+1),by simp,rfl⟩
   ·exact ⟨p,by simp [hp],rfl⟩
 have hoff:∀ v,(∀ p∈(x :: (i,e+1) :: rest:List (Nat × Nat)),p.1≠v)→∀ p∈s.way,p.1≠v:=by
  intro v hv p hp e0
  obtain ⟨q,hq,e1⟩:=hout p hp
  exact hv q hq (e1.trans e0)
 have hfst:∀ p∈(x :: (i,e+1) :: rest:List (Nat × Nat)),∃ q∈s.way,q.1=p.1:=by
  intro p hp
  rcases hin p hp with rfl | h1
  ·exact ⟨(i,e),hi,rfl⟩
  ·exact ⟨p,h1,rfl⟩
 have htake:∀ u∈(G i).take (e+1),u∈(G i).take e∨u=k:=by
  intro u hu
  rw [take_one_more he] at hu
  rcases List.mem_append.1 hu with h1 | h1
  ·exact .inl h1
  ·exact .inr (List.mem_singleton.1 h1)
 constructor
 ·exact h.c1
 ·exact h.inj
 ·exact h.w1
 ·exact h.w0
 ·exact h.ws
 ·intro p hp
  rcases hin p hp with rfl | hp
  ·exact ⟨(h.y1 _ hi).1,hlt⟩
  ·exact h.y1 p hp
 ·have ys:=h.ys
  rw [hw] at ys
  obtain ⟨y1,y2⟩:=List.pairwise_cons.1 ys
  obtain ⟨y3,y4⟩:=List.pairwise_cons.1 y2
  refine List.pairwise_cons.2 ⟨fun q hq=>?_,List.pairwise_cons.2 ⟨y3,y4⟩⟩
  rcases List.mem_cons.1 hq with rfl | hq
  ·exact y1 (i,e) List.mem_cons_self
  ·exact y1 q (List.mem_cons_of_mem _ hq)
 ·exact fun v hv hp u hu=>h.done v hv (hoff v hp) u hu
 ·intro p hp u hu
  rcases hin p hp with rfl | hp
  ·rcases htake u hu with h1 | rfl
   ·exact h.part _ hi u h1
   ·exact hk
  ·exact h.part p hp u hu
 ·exact h.cl
 ·exact h.co
 ·exact h.rp
 ·exact h.l1
 ·exact fun v hv hp u hu huw=>h.l2 v hv (hoff v hp) u hu huw
 ·intro p hp u hu huw
  rcases hin p hp with rfl | hp
  ·rcases htake u hu with h1 | rfl
   ·exact h.l2' _ hi u h1 huw
   ·exact hC huw
  ·exact h.l2' p hp u hu huw
 ·exact fun v hv hp=>h.l3 v hv (hoff v hp)
 ·intro v hv
  obtain ⟨p,hp,h1,h2,h3⟩:=h.sg v hv
  obtain ⟨q,hq,e1⟩:=hout p hp
  refine ⟨q,hq,by rw [e1];exact h1,by show s.low q.1≤s.low v;rw [e1];exact h2,fun r hr hrv=>?_⟩
  obtain ⟨r',hr',e2⟩:=hfst r hr
  have:=h3 r' hr' (by rw [e2];exact hrv)
  rw [e2] at this
  show s.when r.1≤s.when q.1
  rw [e1];exact this
 ·intro p hp v hv hle
  obtain ⟨q,hq,e1⟩:=hfst p hp
  have:=h.r1 q hq v hv (by rw [e1];exact hle)
  rwa [e1] at this
 ·intro pre a b r ew
  change x :: (i,e+1) :: rest=pre ++ a :: b :: r at ew
  cases pre with
  | nil=>
    simp only [List.nil_append,List.cons.injEq] at ew
    obtain ⟨rfl,rfl,rfl⟩:=ew
    exact h.ed [] x (i,e) rest hw
  | cons y pre=>
    simp only [List.cons_append,List.cons.injEq] at ew
    obtain ⟨rfl,ew⟩:=ew
    cases pre with
    | nil=>
      simp only [List.nil_append,List.cons.injEq] at ew
      obtain ⟨rfl,ew⟩:=ew
      exact h.ed [x] (i,e) b r (by rw [hw,ew];rfl)
    | cons z pre=>
      simp only [List.cons_append,List.cons.injEq] at ew
      exact h.ed (x :: (i,e) :: pre) a b r (by rw [hw,ew.2];rfl)
theorem upd_same {α:Type} (f:Nat→α) (i:Nat):upd f i (f i)=f:=by
 funext j
 unfold upd
 split
 ·rename_i e;rw [e]
 ·rfl
theorem ok_push {G:Nat→List Nat} {n:Nat} {s:St} {i e k:Nat} {rest:List (Nat × Nat)} (h:Ok G n s) (hw:s.way=(i,e) :: rest) (he:(G i)[e]?=some k) (hk:s.when k=0) (hkn:k < n):Ok G n (begin' { s with way:=(i,e+1) :: rest } k)∧mes G n (begin' { s with way:=(i,e+1) :: rest } k) < mes G n s:=by
 have hlt:e < (G i).length:=(List.getElem?_eq_some_iff.1 he).1
 have hkG:k∈G i:=List.mem_of_getElem? he
 have hiw:=(h.inv.y1 (i,e) (by rw [hw];exact List.mem_cons_self)).1
 have h1:=inv_begin h.inv hk (.inr ⟨i,e,rest,hw,hkG⟩)
 have hik:i≠k:=fun e0=>((h.inv.w1 i).1 hiw).1 (e0 ▸ hk)
 have h2:=inv_second (x:=(k,0)) (rest:=rest) h1 (by show (k,0) :: s.way=_;rw [hw]) he (by show upd s.when k (s.clock+1) k≠0;rw [upd_self];omega) (fun _=>by
  show upd s.low k (s.clock+1) i≤upd s.when k (s.clock+1) k
  rw [upd_self,upd_ne _ _ hik]
  have:=(h.inv.l1 i hiw).1
  have:=h.inv.c1 i
  omega)
 have h3:=ok_begin h hk hkn h1
 refine ⟨ok_of h3 h2 rfl rfl,?_⟩
 have h4:=mes_begin (G:=G) hk hkn
 have e1:mes G n (begin' { s with way:=(i,e+1) :: rest } k)+1=mes G n (begin' s k):=by
  unfold mes
  show cntN n (fun v=>if (begin' s k).when v=0 then (G v).length+2 else 0)+(((k,0) :: (i,e+1) :: rest).map fun p=>(G p.1).length - p.2+1).sum+1=cntN n (fun v=>if (begin' s k).when v=0 then (G v).length+2 else 0)+(((k,0) :: s.way).map fun p=>(G p.1).length - p.2+1).sum
  rw [hw]
  simp only [List.map_cons,List.sum_cons]
  omega
 omega
theorem mes_way {G:Nat→List Nat} {n:Nat} {s s':St} (h1:s'.when=s.when) (h2:(s'.way.map fun p=>(G p.1).length - p.2+1).sum < (s.way.map fun p=>(G p.1).length - p.2+1).sum):mes G n s' < mes G n s:=by
 unfold mes
 rw [h1]
 omega
theorem ok_skip {G:Nat→List Nat} {n:Nat} {s:St} {i e k:Nat} {rest:List (Nat × Nat)} (h:Ok G n s) (hw:s.way=(i,e) :: rest) (he:(G i)[e]?=some k) (hk:s.when k≠0) (hc:s.comp k≠none):Ok G n { s with way:=(i,e+1) :: rest }∧mes G n { s with way:=(i,e+1) :: rest } < mes G n s:=by
 have hlt:e < (G i).length:=(List.getElem?_eq_some_iff.1 he).1
 have hiw:=(h.inv.y1 (i,e) (by rw [hw];exact List.mem_cons_self)).1
 have h1:=inv_edge (m:=s.low i) h.inv hw he hk (Nat.le_refl _) (h.inv.l1 i hiw).2 (fun hx=>absurd ((h.inv.w1 k).1 hx).2 hc)
 rw [upd_same] at h1
 refine ⟨ok_of h h1 rfl rfl,mes_way rfl ?_⟩
 rw [hw]
 simp only [List.map_cons,List.sum_cons]
 omega
theorem ok_low {G:Nat→List Nat} {n:Nat} {s:St} {i e k:Nat} {rest:List (Nat × Nat)} (h:Ok G n s) (hw:s.way=(i,e) :: rest) (he:(G i)[e]?=some k) (hk:s.when k≠0) (hc:s.comp k=none):Ok G n { s with way:=(i,e+1) :: rest,low:=upd s.low i (min (s.low i) (s.when k)) }∧mes G n { s with way:=(i,e+1) :: rest,low:=upd s.low i (min (s.low i) (s.when k)) } < mes G n s:=by
 have hlt:e < (G i).length:=(List.getElem?_eq_some_iff.1 he).1
 have hkG:k∈G i:=List.mem_of_getElem? he
 have hiw:=(h.inv.y1 (i,e) (by rw [hw];exact List.mem_cons_self)).1
 have hkw:=(h.inv.w1 k).2 ⟨hk,hc⟩
 have h1:=inv_edge (m:=min (s.low i) (s.when k)) h.inv hw he hk (Nat.min_le_left _ _) (by
  rcases Nat.le_total (s.low i) (s.when k) with hm | hm
  ·rw [Nat.min_eq_left hm];exact (h.inv.l1 i hiw).2
  ·rw [Nat.min_eq_right hm];exact ⟨k,hkw,rfl,Rc.one hkG⟩) (fun _=>Nat.min_le_right _ _)
 refine ⟨ok_of h h1 rfl rfl,mes_way rfl ?_⟩
 rw [hw]
 simp only [List.map_cons,List.sum_cons]
 omega
theorem ok_back {G:Nat→List Nat} {n:Nat} {s:St} {i e up e':Nat} {rest:List (Nat × Nat)} (h:Ok G n s) (hw:s.way=(i,e) :: (up,e') :: rest) (he:e=(G i).length) (hlw:s.low i≠s.when i):Ok G n { s with way:=(up,e') :: rest,low:=upd s.low up (min (s.low up) (s.low i)) }∧mes G n { s with way:=(up,e') :: rest,low:=upd s.low up (min (s.low up) (s.low i)) } < mes G n s:=by
 refine ⟨ok_of h (inv_back h.inv hw he hlw) rfl rfl,mes_way rfl ?_⟩
 rw [hw]
 simp only [List.map_cons,List.sum_cons]
 omega
theorem ok_comp {G:Nat→List Nat} {n:Nat} {s:St} {i e:Nat} {rest:List (Nat × Nat)} (h:Ok G n s) (hw:s.way=(i,e) :: rest) (he:e=(G i).length) (hlw:s.low i=s.when i) (f:Nat→Option Nat) (hf:∀ v,f v=if v∈s.wait.drop (s.wait.idxOf i) then some i else s.comp v):Ok G n { s with way:=rest,comp:=f,wait:=s.wait.take (s.wait.idxOf i) }∧mes G n { s with way:=rest,comp:=f,wait:=s.wait.take (s.wait.idxOf i) } < mes G n s:=by
 have hiw:=(h.inv.y1 (i,e) (by rw [hw];exact List.mem_cons_self)).1
 obtain ⟨c1,c2⟩:=wait_cut h.inv hiw
 have h1:=inv_comp h.inv hw he hlw
 have ef:f=fun v=>if v∈s.wait∧s.when i≤s.when v then some i else s.comp v:=by
  funext v
  rw [hf v]
  simp only [c2]
 rw [ef,c1]
 refine ⟨ok_of h h1 rfl rfl,mes_way rfl ?_⟩
 rw [hw]
 simp only [List.map_cons,List.sum_cons]
 omega
theorem low_up {G:Nat→List Nat} {s:St} {i e up e':Nat} {rest:List (Nat × Nat)} (h:Inv G s) (hw:s.way=(i,e) :: (up,e') :: rest) (hlw:s.low i=s.when i):upd s.low up (min (s.low up) (s.low i))=s.low:=by
 have h1:=(way_ne h hw (up,e') List.mem_cons_self).2
 have h2:=(h.l1 up (h.y1 (up,e') (by rw [hw];simp)).1).1
 rw [Nat.min_eq_left (by simp only at h1;omega),upd_same]
end Go.AM.Tar
set_option maxRecDepth 100000
namespace Go.Proofs.Ytchekhggdbcbbaa
open Go.AM
open Tar (Ok mes)
section
variable {CT:Nat→Option CFun}
theorem enter_end {base m0 n L:Nat} {d:Ids} (hL:∀ x∈d.all,x < L) {vr:V} {H:Heap} {vt vy:V} {s:Tar.St} (t:TS m0 n d vr H vt vy s) (hw:s.way=[]) (hmL:m0≤L) (hLH:L≤H.length):
 ∃ H',itW (evC (callW CT) itW base s_f27_l1) [7,8,81,153] L (frOf 188 (entE d)) H=some (.ext 0,frOf 188 (entE d ++ [(20,bl false)]),H')∧TS m0 n d vr H' vt vy s∧KeepD m0 [] H H'∧L≤H'.length:=by
 have hy:=t.hy
 have nl:=fun H2=>t.oy.len H2
 rw [List.length_map,List.length_reverse,hw,List.length_nil] at nl
 have hz:decide ((0:Int) > 0)=false:=by decide
 refine ⟨_,?_,t.trim hL (frOf 188 (entE d ++ [(20,bl false)])),KeepD.trim ⟨by omega,fun _ _ _=>rfl⟩ hmL _,trim_le hLH⟩
 rw [itW_step]
 simp only [entE,I,bl,a_f27,s_f27_l0_b,s_f27_l1_b,aa,bl,i64,reduceIte,reduceCtorEq,Nat.reduceEqDiff,Nat.reduceLT,Nat.reduceLeDiff,Nat.reduceBEq,Nat.reduceAdd,fillA,splice,Nat.reduceMul,amY,op_eqP,hy,nl,hz]
theorem enter_loop (hT:CT k_f44=some (.code s_f44)) (hX:CT k_f35=some (.code s_f35)) {base m0 n L:Nat} (hbm:base≤m0) {d:Ids} (hL:∀ x∈d.all,x < L) (hmL:m0≤L) {vr:V} {G:Nat→List Nat} {H0:Heap} (hrow:∀ H,KeepD m0 [] H0 H→RdRows H vr (rowsN n G)) (hn:n < 2 ^ 38) (hG:∀ v,(G v).length < 2 ^ 40) (hin:∀ v,∀ u∈G v,u < n):
 ∀ (m:Nat) (H:Heap) (vt vy:V) (s:Tar.St),mes G n s < m→KeepD m0 [] H0 H→L≤H.length→TS m0 n d vr H vt vy s→Ok G n s→
 ∃ vt' vy' H' s',itW (evC (callW CT) itW base s_f27_l1) [7,8,81,153] L (frOf 188 (entE d)) H=some (.ext 0,frOf 188 (entE d ++ [(20,bl false)]),H')∧TS m0 n d vr H' vt' vy' s'∧Ok G n s'∧s'.way=[]∧KeepD m0 [] H H'∧L≤H'.length∧∀ v,s.when v≠0→s'.when v≠0:=by
 intro m
 induction m with
 | zero=>intro H vt vy s hm;omega
 | succ m ih=>
   intro H vt vy s hm hk hLH t ok
   have hcl:=ok.clock
   have hwt:=ok.wait
   have hwy:=ok.way
   have htr:∀ {H1:Heap},KeepD m0 [] H H1→KeepD m0 [] H0 H1:=fun {H1} k=>hk.trans k (Nat.le_refl _)
   cases hw:s.way with
   | nil=>
     obtain ⟨H',h1,h2,h3,h4⟩:=enter_end (CT:=CT) (base:=base) hL t hw hmL hLH
     exact ⟨vt,vy,H',s,h1,h2,ok,hw,h3,h4,fun _ h=>h⟩
   | cons p rest=>
     obtain ⟨i,e⟩:=p
     have hi:i < n:=ok.top (p:=(i,e)) (by rw [hw];exact List.mem_cons_self)
     obtain ⟨hiw,hel⟩:=ok.inv.y1 (i,e) (by rw [hw];exact List.mem_cons_self)
     simp only at hiw hel
     by_cases he:e < (G i).length
     ·have hek:(G i)[e]?=some ((G i)[e]):=List.getElem?_eq_getElem he
      obtain ⟨k,hkd⟩:∃ k,(G i)[e]=k:=⟨_,rfl⟩
      rw [hkd] at hek
      have hkn:k < n:=hin i k (List.mem_of_getElem? hek)
      by_cases hk0:s.when k=0
      ·obtain ⟨o1,o2⟩:=Tar.ok_push ok hw hek hk0 hkn
       obtain ⟨vt1,vy1,H1,e1,t1,k1,l1⟩:=round_begin hT hX hbm hL hmL hrow hk hLH t hw hi (by omega) hG (by omega) (by omega) (by omega) hek hk0 hkn
       obtain ⟨vt',vy',H',s',e2,t2,ok2,w2,k2,l2,m2⟩:=ih H1 vt1 vy1 _ (by omega) (htr k1) l1 t1 o1
       refine ⟨vt',vy',H',s',e1.trans e2,t2,ok2,w2,k1.trans k2 (Nat.le_refl _),l2,fun v hv=>m2 v ?_⟩
       show Tar.upd s.when k (s.clock+1) v≠0
       by_cases ev:v=k
       ·rw [ev,Tar.upd_self];omega
       ·rw [Tar.upd_ne _ _ ev];exact hv
      ·cases hc:s.comp k with
       | some r=>
         have hc':s.comp k≠none:=by rw [hc];simp
         obtain ⟨o1,o2⟩:=Tar.ok_skip ok hw hek hk0 hc'
         obtain ⟨H1,e1,t1,k1,l1⟩:=round_skip hT hX hbm hL hmL hrow hk hLH t hw hi (by omega) hG (by omega) (by omega) (by omega) hek hk0 hkn hc'
         obtain ⟨vt',vy',H',s',e2,t2,ok2,w2,k2,l2,m2⟩:=ih H1 vt vy _ (by omega) (htr k1) l1 t1 o1
         exact ⟨vt',vy',H',s',e1.trans e2,t2,ok2,w2,k1.trans k2 (Nat.le_refl _),l2,m2⟩
       | none=>
         obtain ⟨o1,o2⟩:=Tar.ok_low ok hw hek hk0 hc
         obtain ⟨H1,e1,t1,k1,l1⟩:=round_low hT hX hbm hL hmL hrow hk hLH t hw hi (by omega) hG (by omega) (by omega) (by omega) hek hk0 hkn hc
         obtain ⟨vt',vy',H',s',e2,t2,ok2,w2,k2,l2,m2⟩:=ih H1 vt vy _ (by omega) (htr k1) l1 t1 o1
         exact ⟨vt',vy',H',s',e1.trans e2,t2,ok2,w2,k1.trans k2 (Nat.le_refl _),l2,m2⟩
     ·have he':e=(G i).length:=by omega
      have hwn:∀ x∈s.wait,x < n:=fun x hx=>ok.vis x ((ok.inv.w1 x).1 hx).1
      cases rest with
      | nil=>
        have hlw:=Tar.low_first ok.inv hw
        obtain ⟨o1,o2⟩:=Tar.ok_comp ok hw he' hlw (compF s.comp i (s.wait.drop (s.wait.idxOf i))) (fun v=>rfl)
        obtain ⟨vt1,vy1,H1,e1,t1,k1,l1⟩:=round_comp0 hT hX hbm hL hmL hrow hk hLH t hw hi (by omega) hG (by omega) (by omega) (by omega) he' rfl hiw hwn hlw
        obtain ⟨vt',vy',H',s',e2,t2,ok2,w2,k2,l2,m2⟩:=ih H1 vt1 vy1 _ (by omega) (htr k1) l1 t1 o1
        exact ⟨vt',vy',H',s',e1.trans e2,t2,ok2,w2,k1.trans k2 (Nat.le_refl _),l2,m2⟩
      | cons q rest=>
        obtain ⟨up,e'⟩:=q
        have hup:up < n:=ok.top (p:=(up,e')) (by rw [hw];simp)
        have hui:i≠up:=fun e0=>(Tar.way_ne ok.inv hw (up,e') List.mem_cons_self).1 e0.symm
        by_cases hlw:s.low i=s.when i
        ·obtain ⟨o1,o2⟩:=Tar.ok_comp ok hw he' hlw (compF s.comp i (s.wait.drop (s.wait.idxOf i))) (fun v=>rfl)
         obtain ⟨vt1,vy1,H1,e1,t1,k1,l1⟩:=round_comp hT hX hbm hL hmL hrow hk hLH t hw hi (by omega) hG (by omega) (by omega) (by omega) he' rfl hup hui hiw hwn hlw
         rw [Tar.low_up ok.inv hw hlw] at t1
         obtain ⟨vt',vy',H',s',e2,t2,ok2,w2,k2,l2,m2⟩:=ih H1 vt1 vy1 _ (by omega) (htr k1) l1 t1 o1
         exact ⟨vt',vy',H',s',e1.trans e2,t2,ok2,w2,k1.trans k2 (Nat.le_refl _),l2,m2⟩
        ·obtain ⟨o1,o2⟩:=Tar.ok_back ok hw he' hlw
         obtain ⟨vy1,H1,e1,t1,k1,l1⟩:=round_back hT hX hbm hL hmL hrow hk hLH t hw hi (by omega) hG (by omega) (by omega) (by omega) he' rfl hup hui hlw
         obtain ⟨vt',vy',H',s',e2,t2,ok2,w2,k2,l2,m2⟩:=ih H1 vt vy1 _ (by omega) (htr k1) l1 t1 o1
         exact ⟨vt',vy',H',s',e1.trans e2,t2,ok2,w2,k1.trans k2 (Nat.le_refl _),l2,m2⟩
end
end Go.Proofs.Ytchekhggdbcbbaa
namespace Go.AM
theorem it_rel {S T:Type} (n:Nat) (P:Nat→S→Prop) (X:Nat→S→T) (step:∀ i s,i < n→P i s→∃ s',X i s=X (i+1) s'∧P (i+1) s'):∀ i s,i≤n→P i s→∃ s',X i s=X n s'∧P n s':=by
 have key:∀ d i s,i+d=n→P i s→∃ s',X i s=X n s'∧P n s':=by
  intro d
  induction d with
  | zero=>
    intro i s hi hp
    obtain rfl:i=n:=by omega
    exact ⟨s,rfl,hp⟩
  | succ d ih=>
    intro i s hi hp
    obtain ⟨s1,h1,h2⟩:=step i s (by omega) hp
    obtain ⟨s2,h3,h4⟩:=ih (i+1) s1 (by omega) h2
    exact ⟨s2,h1.trans h3,h4⟩
 exact fun i s hi hp=>key (n - i) i s (by omega) hp
theorem it_fun {T:Type} (n:Nat) (X:Nat→T) (step:∀ i,i < n→X i=X (i+1)):∀ i,i≤n→X i=X n:=by
 intro i hi
 obtain ⟨_,h,_⟩:=it_rel (S:=Unit) n (fun _ _=>True) (fun i _=>X i) (fun i s h _=>⟨(),step i h,trivial⟩) i () hi trivial
 exact h
theorem it_find {T:Type} (n:Nat) (p:Nat→Bool) (X:Nat→T) (step:∀ i,i < n→p i=false→X i=X (i+1)):(∀ i,i < n→p i=false)∧X 0=X n∨∃ i,i < n∧p i=true∧(∀ j,j < i→p j=false)∧X 0=X i:=by
 have key:∀ d i,i+d=n→(∀ j,j < i→p j=false)→X 0=X i→(∀ i,i < n→p i=false)∧X 0=X n∨∃ i,i < n∧p i=true∧(∀ j,j < i→p j=false)∧X 0=X i:=by
  intro d
  induction d with
  | zero=>
    intro i hi hp hx
    obtain rfl:i=n:=by omega
    exact .inl ⟨hp,hx⟩
  | succ d ih=>
    intro i hi hp hx
    cases hpi:p i with
    | true=>exact .inr ⟨i,by omega,hpi,hp,hx⟩
    | false=>
      refine ih (i+1) (by omega) (fun j hj=>?_) (hx.trans (step i (by omega) hpi))
      by_cases e:j=i
      ·rw [e];exact hpi
      ·exact hp j (by omega)
 exact key n 0 (by omega) (fun j hj=>by omega) rfl
theorem op_copy (call:CallF) (base:Nat) (fr:List V) (H:Heap) (sz:Nat) (d s:Opd):evOp call base fr H (.copy sz d s)=copyV H base sz (ev fr d) (ev fr s):=rfl
theorem iV_get {H:Heap} {v:V} {l:List Int} (h:Rd H v (l.map iV)) (hw:Wide1 v) {k:Nat} (hk:k < l.length):∃ a,xIndexAddr 1 v (.s (.int .i64 k))=some a∧xLoad H false 1 a=some (.s (.int .i64 (l.getD k 0))):=h.at' hw (by rw [List.getElem?_map,List.getElem?_eq_getElem hk,List.getD,List.getElem?_eq_getElem hk];rfl)
theorem rows_ext {A:Heap} {v:V} {R:List (List V)} (h:RdRows A v R) {i:Nat} {r:List V} (hr:R[i]?=some r):∃ a x,xIndexAddr 1 v (.s (.int .i64 i))=some a∧Rd A x r∧Wide1 x∧∀ H',Ext A H'→xLoad H' false 1 a=some x:=by
 obtain ⟨vs,h1,h2,h3,h4⟩:=h
 obtain ⟨x,hx,h5,h6⟩:=h4 i r hr
 obtain ⟨a,a1,a2⟩:=h1.at' h2 hx
 refine ⟨a,x,a1,h5,h6,fun H' k=>?_⟩
 obtain ⟨b,b1,b2⟩:=(h1.ext k).at' h2 hx
 rw [a1] at b1
 cases b1
 exact b2
theorem getD_some {α:Type} {l:List α} {k:Nat} {x:α} (h:l[k]?=some x) (d:α):l.getD k d=x:=by rw [List.getD,h];rfl
theorem some_getD {α:Type} {l:List α} {k:Nat} (h:k < l.length) (d:α):l[k]?=some (l.getD k d):=by rw [List.getD,List.getElem?_eq_getElem h];rfl
theorem copyV_of {H:Heap} {base sz m id g off len:Nat} {s:V} {xs c:List V} (hs:∀ b,s≠.s (.string b)) (he:elems H sz s=some (m,xs)) (ho:xs.all V.one=true) (hb:base≤id) (hc:getC H id g=some c) (hl:off+len * sz≤c.length):copyV H base sz (.sl id g off len sz) s=some (.s (.int .i64 (min m len:Nat)),H.set id (.cells g (splice c off (xs.take (min m len * sz))))):=by
 unfold copyV
 split
 ·rename_i b;exact absurd rfl (hs b)
 ·rw [he]
  simp only [ho,if_true,true_and,hb,hc,hl,i64]
end Go.AM
namespace Go.AM
theorem w64_and (a b:Nat) (ha:a < 2 ^ 64) (hb:b < 2 ^ 64):xBin .and (.s (.int .u64 (a:Int))) (.s (.int .u64 (b:Int)))=some (.s (.int .u64 ((a &&& b:Nat):Int))):=by
 rw [xb_and]
 have hx:a &&& b < 2 ^ 64:=Nat.and_lt_two_pow _ hb
 have h1:(BitVec.ofInt 64 (a:Int)).toNat=a:=by rw [BitVec.ofInt_natCast,BitVec.toNat_ofNat];exact Nat.mod_eq_of_lt ha
 have h2:(BitVec.ofInt 64 (b:Int)).toNat=b:=by rw [BitVec.ofInt_natCast,BitVec.toNat_ofNat];exact Nat.mod_eq_of_lt hb
 have:IntKind.u64.wrap ((BitVec.ofInt IntKind.u64.bits (a:Int) &&& BitVec.ofInt IntKind.u64.bits (b:Int)).toNat:Int)=((a &&& b:Nat):Int):=by
  show IntKind.u64.wrap ((BitVec.ofInt 64 (a:Int) &&& BitVec.ofInt 64 (b:Int)).toNat:Int)=_
  rw [BitVec.toNat_and,h1,h2,IntKind.wrap_u64]
  omega
 rw [this]
theorem w64_shr (a b:Nat) (j:IntKind) (hb:b < 64):xBin .shr (.s (.int .u64 (a:Int))) (.s (.int j (b:Int)))=some (.s (.int .u64 ((a / 2 ^ b:Nat):Int))):=by
 rw [xb_shr,if_neg (by omega)]
 have h1:min (Int.toNat (b:Int)) IntKind.u64.bits=b:=by
  show min (Int.toNat (b:Int)) 64=b
  simp only [Int.toNat_natCast];omega
 rw [h1]
 congr 3
 show (a:Int).fdiv _=_
 rw [Int.fdiv_eq_ediv_of_nonneg _ (by exact_mod_cast Nat.zero_le _)]
 simp
def oA (w:Nat):Nat:=(w / 2 &&& 6148914691236517205)+(w &&& 6148914691236517205)
def oB (w:Nat):Nat:=(w / 4 &&& 3689348814741910323)+(w &&& 3689348814741910323)
end Go.AM
set_option maxRecDepth 100000
namespace Go.Proofs.Ytchekhggdbcbbaa
open Go.AM
section
variable {CT:Nat→Option CFun}
theorem mul64_fun (hT:CT k_f50=some (.code s_f50)) (base:Nat) (H:Heap) (n:Nat) (hn:n < 2 ^ 32):
 callW CT (.fn k_f50 [] []) [.s (.int .u64 1),.s (.int .u64 n)] base H=some (.tup [.s (.int .u64 0),.s (.int .u64 n)],H):=by
 have a1:=w64_and 1 4294967295 (by decide) (by decide)
 have a2:=w64_and n 4294967295 (by omega) (by decide)
 have e1:(1 &&& 4294967295:Nat)=1:=by decide
 have e2:(n &&& 4294967295:Nat)=n:=by
  rw [show (4294967295:Nat)=2 ^ 32 - 1 by decide,Nat.and_two_pow_sub_one_eq_mod]
  exact Nat.mod_eq_of_lt hn
 rw [e1] at a1
 rw [e2] at a2
 have s1:=w64_shr 1 32 .u64 (by decide)
 have s2:=w64_shr n 32 .u64 (by decide)
 have s3:=w64_shr 0 32 .u64 (by decide)
 have e3:n / 2 ^ 32=0:=Nat.div_eq_of_lt hn
 rw [e3] at s2
 have a3:=w64_and 0 4294967295 (by decide) (by decide)
 have m1:IntKind.u64.wrap (1 * (n:Int))=(n:Int):=by rw [IntKind.wrap_u64];omega
 have m2:IntKind.u64.wrap ((0:Int) * (n:Int))=0:=by rw [IntKind.wrap_u64];omega
 have m3:IntKind.u64.wrap ((1:Int) * 0)=0:=by rfl
 have m4:IntKind.u64.wrap ((0:Int) * 0)=0:=by rfl
 have m5:IntKind.u64.wrap ((0:Int)+0)=0:=by rfl
 have s4:=w64_shr n 32 .i64 (by decide)
 have s5:=w64_shr 1 32 .i64 (by decide)
 have s6:=w64_shr 0 32 .i64 (by decide)
 rw [e3] at s4
 refine callW_fn (c:=s_f50) hT (by simp [s_f50]) ?_
 simp only [show ((1:Nat):Int)=1 from rfl,show ((4294967295:Nat):Int)=4294967295 from rfl,show ((32:Nat):Int)=32 from rfl,show ((0:Nat):Int)=0 from rfl,show (1 / 2 ^ 32:Nat)=0 by decide,show (0 / 2 ^ 32:Nat)=0 by decide,show (0 &&& 4294967295:Nat)=0 by decide] at a1 a2 a3 s1 s2 s3 s4 s5 s6
 simp only [s_f50,a_f50,aa,bl,i64,reduceIte,reduceCtorEq,Nat.reduceEqDiff,Nat.reduceLT,Nat.reduceLeDiff,Nat.reduceBEq,Nat.reduceAdd,fillA,splice,Nat.reduceMul,amY,op_eqP,a1,a2,a3,s1,s2,s3,s4,s5,s6,m1,m2,m3,m4,m5]
theorem mul_fun (hM:CT k_f43=some (.code s_f43)) (hT:CT k_f50=some (.code s_f50)) (base:Nat) (H:Heap) (n:Nat) (hn:n < 2 ^ 32):
 callW CT (.fn k_f43 [] []) [.s (.int .u64 1),.s (.int .u64 n)] base H=some (.tup [.s (.int .u64 0),.s (.int .u64 n)],H):=by
 have m:=mul64_fun hT base H n hn
 refine callW_fn (c:=s_f43) hM (by simp [s_f43]) ?_
 simp only [s_f43,a_f43,aa,bl,i64,reduceIte,reduceCtorEq,Nat.reduceEqDiff,Nat.reduceLT,Nat.reduceLeDiff,Nat.reduceBEq,Nat.reduceAdd,fillA,splice,Nat.reduceMul,amY,op_eqP,m]
def filled (n k:Nat):List V:=List.replicate k (iV (-1)) ++ List.replicate (n - k) (iV 0)
theorem rep_loop (base:Nat) (A:Heap) (n:Nat) (hb:base≤A.length) (hn:n < 2 ^ 32):∀ (m k:Nat),n≤k+m→(1≤k∨k=n)→k≤n→
 itW (evC (callW CT) itW base s_f26_l0) [] (A.length+1) (frOf 48 [(7,.sl A.length 0 0 n 1),(8,.s (.int .i64 k))]) (A ++ [.cells 0 (filled n k)])=some (.ext 0,frOf 48 [(7,.sl A.length 0 0 n 1),(8,.s (.int .i64 n)),(37,bl false)],A ++ [.cells 0 (filled n n)]):=by
 have ts:∀ (fr:List V) (ob:Ob),trim (A.length+1) fr (A ++ [ob])=A ++ [ob]:=fun fr ob=>trim_same (by simp)
 intro m
 induction m with
 | zero=>
   intro k h1 h2 h3
   obtain rfl:k=n:=by omega
   rw [itW_step]
   simp only [a_f26,s_f26_l0_b,aa,bl,i64,reduceIte,reduceCtorEq,Nat.reduceEqDiff,Nat.reduceLT,Nat.reduceLeDiff,Nat.reduceBEq,Nat.reduceAdd,fillA,splice,Nat.reduceMul,amY,op_eqP,Int.lt_irrefl,ts,bl]
 | succ m ih=>
   intro k h1 h2 h3
   by_cases hk:k=n
   ·subst hk
    rw [itW_step]
    simp only [a_f26,s_f26_l0_b,aa,bl,i64,reduceIte,reduceCtorEq,Nat.reduceEqDiff,Nat.reduceLT,Nat.reduceLeDiff,Nat.reduceBEq,Nat.reduceAdd,fillA,splice,Nat.reduceMul,amY,op_eqP,Int.lt_irrefl,ts,bl]
   ·have hlt:(k:Int) < (n:Int):=by omega
    have hz:∀ x y:Nat,(0:Int)≤x↔True:=fun x y=>by simp
    have i1:(0:Int)≤(k:Int)∧(k:Int)≤n∧(n:Int)≤n∧1=1:=by omega
    have i2:(0:Int)≤0∧(0:Int)≤k∧(k:Int)≤n∧1=1:=by omega
    have i3:((n:Int) - k).toNat=n - k:=by omega
    have i4:((k:Int) - 0).toNat=k:=by omega
    have hc:getC (A ++ [.cells 0 (filled n k)]) A.length 0=some (filled n k):=getC_new _ _ _
    have hl:(filled n k).length=n:=by simp [filled];omega
    have hcp:copyV (A ++ [.cells 0 (filled n k)]) base 1 (.sl A.length 0 k (n - k) 1) (.sl A.length 0 0 k 1)=some (.s (.int .i64 (min k (n - k):Nat)),A ++ [.cells 0 (filled n (k+min k (n - k)))]):=by
     have ht:(filled n k).take k=List.replicate k (iV (-1)):=List.take_left' (by simp)
     have he:elems (A ++ [.cells 0 (filled n k)]) 1 (.sl A.length 0 0 k 1)=some (k,List.replicate k (iV (-1))):=by
      simp only [elems,hc,List.drop_zero,Nat.mul_one,ht,List.length_replicate,if_true]
     have hall:(List.replicate k (iV (-1))).all V.one=true:=by
      rw [List.all_eq_true]
      intro x hx
      rw [(List.mem_replicate.1 hx).2]
      rfl
     have hsp:splice (filled n k) k ((List.replicate k (iV (-1))).take (min k (n - k) * 1))=filled n (k+min k (n - k)):=by
      have hd:(filled n k).drop (k+min k (n - k))=List.replicate (n - k - min k (n - k)) (iV 0):=by
       rw [filled,← List.drop_drop,List.drop_left' (by simp),List.drop_replicate]
      have hm:min (min k (n - k)) k=min k (n - k):=by omega
      rw [splice,ht,Nat.mul_one,List.take_replicate,List.length_replicate,hm,hd,filled,List.replicate_append_replicate,Nat.sub_sub]
     simp only [copyV,he,hall,if_true,true_and,hb,hc,hl,hsp,set_snoc,show k+(n - k) * 1≤n by omega,i64]
    have hw:IntKind.i64.wrap ((k:Int)+(min k (n - k):Nat))=((k+min k (n - k):Nat):Int):=by rw [IntKind.wrap_i64];omega
    have ih':=ih (k+min k (n - k)) (by omega) (by omega) (by omega)
    rw [itW_step]
    simp only [a_f26,s_f26_l0_b,aa,bl,i64,reduceIte,reduceCtorEq,Nat.reduceEqDiff,Nat.reduceLT,Nat.reduceLeDiff,Nat.reduceBEq,Nat.reduceAdd,fillA,splice,Nat.reduceMul,amY,op_eqP,hlt,op_copy,xslice_sl,bndV_none,bndV_int,cutSl_some,i1,i2,i3,i4,and_self,Int.toNat_natCast,Int.toNat_zero,hcp,hw,ts]
    exact ih'
theorem repeat_fun (hR:CT k_f26=some (.code s_f26)) (hM:CT k_f43=some (.code s_f43)) (hT:CT k_f50=some (.code s_f50)) (base:Nat) (H:Heap) (v:V) (hv:Rd H v [iV (-1)]) (n:Nat) (hn:n < 2 ^ 32) (hb:base≤H.length):
 callW CT (.fn k_f26 [] []) [v,.s (.int .i64 n)] base H=some (.sl H.length 0 0 n 1,H ++ [.cells 0 (List.replicate n (iV (-1)))]):=by
 have hm:=mul_fun hM hT base H n hn
 have hl:=hv.len
 have hmk:=make_n (H:=H) (zero:=[.s (.int .i64 0)]) (sz:=1) (bytes:=8) (k:=.i64) (k':=.i64) (n:=n) (by omega)
 rw [flat_one] at hmk
 have w1:IntKind.u64.wrap 1=1:=rfl
 have w2:IntKind.u64.wrap (n:Int)=n:=by rw [IntKind.wrap_u64];omega
 have w3:IntKind.i64.wrap (n:Int)=n:=by rw [IntKind.wrap_i64];omega
 have z1:decide ((n:Int) < 0)=false:=by rw [decide_eq_false_iff_not];omega
 have z2:decide ((n:Int) > 9223372036854775807)=false:=by rw [decide_eq_false_iff_not];omega
 have z3:decide ((0:Int) > 0)=false:=by decide
 have hex:=hv.ext (Ext.app H [Ob.cells 0 (List.replicate n (.s (.int .i64 0)))])
 have hcp:copyV (H ++ [.cells 0 (List.replicate n (.s (.int .i64 0)))]) base 1 (.sl H.length 0 0 n 1) v=some (.s (.int .i64 (min 1 n:Nat)),H ++ [.cells 0 (filled n (min 1 n))]):=by
  have hc:getC (H ++ [Ob.cells 0 (List.replicate n (.s (.int .i64 0)))]) H.length 0=some (List.replicate n (.s (.int .i64 0))):=getC_new _ _ _
  have he:=hex.2
  simp only [List.length_cons,List.length_nil,Nat.zero_add] at he
  have hall:[iV (-1)].all V.one=true:=rfl
  have hsp:splice (List.replicate n (.s (.int .i64 0))) 0 ([iV (-1)].take (min 1 n * 1))=filled n (min 1 n):=by
   cases n with
   | zero=>rfl
   | succ n=>
     have:min 1 (n+1)=1:=by omega
     rw [this]
     simp [splice,filled,iV]
  rw [copyV_of (off:=0) (len:=n) hex.1 he hall hb hc (by rw [List.length_replicate];omega),hsp,set_snoc]
 have hrl:=rep_loop (CT:=CT) base H n hb hn n (min 1 n) (by omega) (by omega) (by omega)
 have hf:filled n n=List.replicate n (iV (-1)):=by simp [filled]
 have hlen1:∀ ob,(H ++ [ob]).length=H.length+1:=fun ob=>by simp
 rw [hf] at hrl
 refine callW_fn (c:=s_f26) hR (by simp [s_f26]) ?_
 simp only [List.length_cons,List.length_nil,Nat.zero_add] at hl
 simp only [s_f26,a_f26,s_f26_l0_b,aa,bl,i64,reduceIte,reduceCtorEq,Nat.reduceEqDiff,Nat.reduceLT,Nat.reduceLeDiff,Nat.reduceBEq,Nat.reduceAdd,fillA,splice,Nat.reduceMul,amY,op_eqP,hl,show ((1:Nat):Int)=1 from rfl,z1,w1,w2,w3,hm,z2,z3,op_mkSl,hmk,op_copy,hcp,hlen1,hrl]
theorem indexI_fun (hT:CT k_f35=some (.code s_f35)) (base:Nat) {H:Heap} {v:V} {l:List Int} (hr:Rd H v (l.map iV)) (hw:Wide1 v) (hn:l.length < 2 ^ 60) (y:Int):
 callW CT (.fn k_f35 [] []) [v,.s (.int .i64 y)] base H=some (.s (.int .i64 (if y∈l then (l.idxOf y:Nat) else -1)),H):=by
 have e1:=iV_len hr
 have hst:∀ i,i < l.length→(y == l.getD i 0)=false→itW (evC (callW CT) itW base s_f35_l0) [] H.length (frOf 19 [(0,v),(1,.s (.int .i64 y)),(7,.s (.int .i64 l.length)),(8,.s (.int .i64 i))]) H=itW (evC (callW CT) itW base s_f35_l0) [] H.length (frOf 19 [(0,v),(1,.s (.int .i64 y)),(7,.s (.int .i64 l.length)),(8,.s (.int .i64 (i+1:Nat)))]) H:=by
  intro i hi hp
  have hlt':((i:Int) < (l.length:Int)):=by omega
  obtain ⟨a,a1,a2⟩:=iV_get hr hw hi
  have w:=w64 (n:=i) (by omega)
  rw [itW_step]
  simp only [a_f35,s_f35_l0_b,aa,bl,i64,reduceIte,reduceCtorEq,Nat.reduceEqDiff,Nat.reduceLT,Nat.reduceLeDiff,Nat.reduceBEq,Nat.reduceAdd,fillA,splice,Nat.reduceMul,amY,op_eqP,hlt',a1,a2,hp,w,trim_same rfl]
 refine callW_fn (c:=s_f35) hT (by simp [s_f35]) ?_
 rcases it_find l.length (fun i=>y == l.getD i 0) (fun i=>itW (evC (callW CT) itW base s_f35_l0) [] H.length (frOf 19 [(0,v),(1,.s (.int .i64 y)),(7,.s (.int .i64 l.length)),(8,.s (.int .i64 i))]) H) hst with ⟨h1,h2⟩ | ⟨i,hi,h1,h2,h3⟩
 ·have hny:y ∉ l:=fun hm=>by
   obtain ⟨i,hi,e⟩:=List.getElem_of_mem hm
   have:=h1 i hi
   simp only [List.getD,List.getElem?_eq_getElem hi,Option.getD_some,e,beq_self_eq_true] at this
   cases this
  rw [if_neg hny]
  have hend:itW (evC (callW CT) itW base s_f35_l0) [] H.length (frOf 19 [(0,v),(1,.s (.int .i64 y)),(7,.s (.int .i64 l.length)),(8,.s (.int .i64 l.length))]) H=some (.ext 0,frOf 19 [(0,v),(1,.s (.int .i64 y)),(7,.s (.int .i64 l.length)),(8,.s (.int .i64 l.length)),(9,bl false)],H):=by
   rw [itW_step]
   simp only [a_f35,s_f35_l0_b,aa,bl,i64,reduceIte,reduceCtorEq,Nat.reduceEqDiff,Nat.reduceLT,Nat.reduceLeDiff,Nat.reduceBEq,Nat.reduceAdd,fillA,splice,Nat.reduceMul,amY,op_eqP,Int.lt_irrefl,trim_same rfl,bl]
  have h4:=h2.trans hend
  simp only [bl,show ((0:Nat):Int)=0 from rfl] at h4
  simp only [s_f35,a_f35,s_f35_l0_b,aa,bl,i64,reduceIte,reduceCtorEq,Nat.reduceEqDiff,Nat.reduceLT,Nat.reduceLeDiff,Nat.reduceBEq,Nat.reduceAdd,fillA,splice,Nat.reduceMul,amY,op_eqP,e1,h4]
 ·have hg:l[i]?=some y:=by rw [some_getD hi 0,eq_of_beq h1]
  have hm:y∈l:=List.mem_of_getElem? hg
  have hix:l.idxOf y=i:=by
   refine Nat.le_antisymm ?_ ?_
   ·have:=List.idxOf_lt_length_of_mem hm
    rcases Nat.lt_or_ge i (l.idxOf y) with hlt | hge
    ·exact absurd hg (by
      have:=List.not_of_lt_findIdx (xs:=l) (p:=(· == y)) (i:=i) hlt
      rw [List.getElem?_eq_getElem hi]
      intro e0
      simp only [Option.some.injEq] at e0
      rw [e0] at this
      simp at this)
    ·exact hge
   ·rcases Nat.lt_or_ge (l.idxOf y) i with hlt | hge
    ·have:=h2 _ hlt
     have h5:=List.getElem_idxOf (List.idxOf_lt_length_of_mem hm)
     simp only [List.getD,List.getElem?_eq_getElem (List.idxOf_lt_length_of_mem hm),Option.getD_some,h5,beq_self_eq_true] at this
     cases this
    ·exact hge
  rw [if_pos hm,hix]
  have hlt':((i:Int) < (l.length:Int)):=by omega
  obtain ⟨a,a1,a2⟩:=iV_get hr hw hi
  have hend:itW (evC (callW CT) itW base s_f35_l0) [] H.length (frOf 19 [(0,v),(1,.s (.int .i64 y)),(7,.s (.int .i64 l.length)),(8,.s (.int .i64 i))]) H=some (.ret,frOf 19 [(4,.s (.int .i64 i))],H):=by
   rw [itW_step]
   simp only [a_f35,s_f35_l0_b,aa,bl,i64,reduceIte,reduceCtorEq,Nat.reduceEqDiff,Nat.reduceLT,Nat.reduceLeDiff,Nat.reduceBEq,Nat.reduceAdd,fillA,splice,Nat.reduceMul,amY,op_eqP,hlt',a1,a2,h1]
  have h4:=h3.trans hend
  simp only [show ((0:Nat):Int)=0 from rfl] at h4
  simp only [s_f35,a_f35,s_f35_l0_b,aa,bl,i64,reduceIte,reduceCtorEq,Nat.reduceEqDiff,Nat.reduceLT,Nat.reduceLeDiff,Nat.reduceBEq,Nat.reduceAdd,fillA,splice,Nat.reduceMul,amY,op_eqP,e1,h4]
theorem contains_fun (hC:CT k_f30=some (.code s_f30)) (hT:CT k_f35=some (.code s_f35)) (base:Nat) {H:Heap} {v:V} {l:List Int} (hr:Rd H v (l.map iV)) (hw:Wide1 v) (hn:l.length < 2 ^ 60) (y:Int):
 callW CT (.fn k_f30 [] []) [v,.s (.int .i64 y)] base H=some (.s (.bool (decide (y∈l))),H):=by
 have h:=indexI_fun hT base hr hw hn y
 refine callW_fn (c:=s_f30) hC (by simp [s_f30]) ?_
 simp only [s_f30,a_f30,aa,bl,i64,reduceIte,reduceCtorEq,Nat.reduceEqDiff,Nat.reduceLT,Nat.reduceLeDiff,Nat.reduceBEq,Nat.reduceAdd,fillA,splice,Nat.reduceMul,amY,op_eqP,h]
 by_cases hm:y∈l
 ·simp [hm]
 ·simp [hm]
def cntZ (l:List Int):Int:=l.foldl (fun n k=>if n < k+1 then k+1 else n) 0
theorem count_fun (hC:CT k_f29=some (.code s_f29)) (base:Nat) {H:Heap} {v:V} {l:List Int} (hr:Rd H v (l.map iV)) (hw:Wide1 v) (hn:l.length < 2 ^ 60) (hl:∀ x∈l,0≤x∧x < 2 ^ 40):
 callW CT (.fn k_f29 [] []) [v] base H=some (.s (.int .i64 (cntZ l)),H):=by
 have e1:=iV_len hr
 have key:∀ i,i < l.length→itW (evC (callW CT) itW base s_f29_l0) [] H.length (frOf 18 [(3,.s (.int .i64 (cntZ (l.take i)))),(6,v),(7,.s (.int .i64 l.length)),(8,.s (.int .i64 i))]) H=itW (evC (callW CT) itW base s_f29_l0) [] H.length (frOf 18 [(3,.s (.int .i64 (cntZ (l.take (i+1))))),(6,v),(7,.s (.int .i64 l.length)),(8,.s (.int .i64 (i+1:Nat)))]) H:=by
  intro i hi
  have hlt':((i:Int) < (l.length:Int)):=by omega
  obtain ⟨a,a1,a2⟩:=iV_get hr hw hi
  have w:=w64 (n:=i) (by omega)
  have hx:=hl (l.getD i 0) (List.mem_of_getElem? (some_getD hi 0))
  have w2:IntKind.i64.wrap (l.getD i 0+1)=l.getD i 0+1:=by rw [IntKind.wrap_i64];omega
  have ht:cntZ (l.take (i+1))=(if cntZ (l.take i) < l.getD i 0+1 then l.getD i 0+1 else cntZ (l.take i)):=by
   rw [List.take_add_one,some_getD hi 0]
   simp [cntZ,List.foldl_append]
  rw [ht,itW_step]
  simp only [a_f29,s_f29_l0_b,aa,bl,i64,reduceIte,reduceCtorEq,Nat.reduceEqDiff,Nat.reduceLT,Nat.reduceLeDiff,Nat.reduceBEq,Nat.reduceAdd,fillA,splice,Nat.reduceMul,amY,op_eqP,hlt',a1,a2,w,w2,trim_same rfl]
 have h2:=it_fun l.length (fun i=>itW (evC (callW CT) itW base s_f29_l0) [] H.length (frOf 18 [(3,.s (.int .i64 (cntZ (l.take i)))),(6,v),(7,.s (.int .i64 l.length)),(8,.s (.int .i64 i))]) H) key 0 (Nat.zero_le _)
 have hend:itW (evC (callW CT) itW base s_f29_l0) [] H.length (frOf 18 [(3,.s (.int .i64 (cntZ (l.take l.length)))),(6,v),(7,.s (.int .i64 l.length)),(8,.s (.int .i64 l.length))]) H=some (.ext 0,frOf 18 [(3,.s (.int .i64 (cntZ l))),(6,v),(7,.s (.int .i64 l.length)),(8,.s (.int .i64 l.length)),(9,bl false)],H):=by
  rw [itW_step,List.take_length]
  simp only [a_f29,s_f29_l0_b,aa,bl,i64,reduceIte,reduceCtorEq,Nat.reduceEqDiff,Nat.reduceLT,Nat.reduceLeDiff,Nat.reduceBEq,Nat.reduceAdd,fillA,splice,Nat.reduceMul,amY,op_eqP,Int.lt_irrefl,trim_same rfl,bl]
 have h4:=h2.trans hend
 simp only [bl,show ((0:Nat):Int)=0 from rfl,List.take_zero,show cntZ []=0 from rfl] at h4
 refine callW_fn (c:=s_f29) hC (by simp [s_f29]) ?_
 simp only [s_f29,a_f29,s_f29_l0_b,aa,bl,i64,reduceIte,reduceCtorEq,Nat.reduceEqDiff,Nat.reduceLT,Nat.reduceLeDiff,Nat.reduceBEq,Nat.reduceAdd,fillA,splice,Nat.reduceMul,amY,op_eqP,e1,h4]
end
end Go.Proofs.Ytchekhggdbcbbaa
namespace Go.AM
def numE (E:Nat→Nat→Bool):Nat→List Int × Nat
 | 0=>([],0)
 | i+1=>match (List.range i).find? (fun k=>E i k) with
   | some k=>((numE E i).1 ++ [(numE E i).1.getD k 0],(numE E i).2)
   | none=>((numE E i).1 ++ [((numE E i).2:Int)],(numE E i).2+1)
theorem numE_some {E:Nat→Nat→Bool} {i k:Nat} (h:(List.range i).find? (fun k=>E i k)=some k):numE E (i+1)=((numE E i).1 ++ [(numE E i).1.getD k 0],(numE E i).2):=by
 rw [numE,h]
theorem numE_none {E:Nat→Nat→Bool} {i:Nat} (h:(List.range i).find? (fun k=>E i k)=none):numE E (i+1)=((numE E i).1 ++ [((numE E i).2:Int)],(numE E i).2+1):=by
 rw [numE,h]
theorem numE_len (E:Nat→Nat→Bool):∀ i,(numE E i).1.length=i:=by
 intro i
 induction i with
 | zero=>rfl
 | succ i ih=>
   cases hk:(List.range i).find? (fun k=>E i k) with
   | some k=>rw [numE_some hk];simp [ih]
   | none=>rw [numE_none hk];simp [ih]
structure EqOn (E:Nat→Nat→Bool) (n:Nat):Prop where
 refl:∀ a,a < n→E a a=true
 symm:∀ a b,a < n→b < n→E a b=true→E b a=true
 trans:∀ a b c,a < n→b < n→c < n→E a b=true→E b c=true→E a c=true
structure NumOk (E:Nat→Nat→Bool) (i:Nat) (l:List Int) (c:Nat):Prop where
 len:l.length=i
 same:∀ a b,a < i→b < i→(l.getD a 0=l.getD b 0↔E a b=true)
 lt:∀ a,a < i→0≤l.getD a 0∧l.getD a 0 < c
 onto:∀ j,j < c→∃ a,a < i∧l.getD a 0=(j:Int)
theorem getD_snoc_lt {l:List Int} {a:Nat} (x:Int) (h:a < l.length):(l ++ [x]).getD a 0=l.getD a 0:=by
 rw [List.getD,List.getD,List.getElem?_append_left h]
theorem getD_snoc_eq {l:List Int} {a:Nat} (x:Int) (h:a=l.length):(l ++ [x]).getD a 0=x:=by
 subst h
 rw [List.getD,List.getElem?_append_right (Nat.le_refl _)]
 simp
theorem numE_ok {E:Nat→Nat→Bool} {n:Nat} (hE:EqOn E n):∀ i,i≤n→NumOk E i (numE E i).1 (numE E i).2:=by
 intro i
 induction i with
 | zero=>intro _;exact ⟨rfl,fun a b h=>absurd h (by omega),fun a h=>absurd h (by omega),fun j h=>absurd h (by simp [numE])⟩
 | succ i ih=>
   intro hi
   have h:=ih (by omega)
   have hlen:=h.len
   cases hk:(List.range i).find? (fun k=>E i k) with
   | some k=>
     rw [numE_some hk]
     have hkE:=List.find?_some hk
     have hki:k < i:=List.mem_range.1 (List.mem_of_find?_eq_some hk)
     refine ⟨by simp [hlen],fun a b ha hb=>?_,fun a ha=>?_,fun j hj=>?_⟩
     ·by_cases ea:a=i
      ·by_cases eb:b=i
       ·rw [ea,eb];simp [hE.refl i (by omega)]
       ·rw [ea,getD_snoc_eq _ hlen.symm,getD_snoc_lt _ (by omega),h.same k b hki (by omega)]
        exact ⟨fun e=>hE.trans _ _ _ (by omega) (by omega) (by omega) hkE e,fun e=>hE.trans _ _ _ (by omega) (by omega) (by omega) (hE.symm _ _ (by omega) (by omega) hkE) e⟩
      ·by_cases eb:b=i
       ·rw [eb,getD_snoc_eq _ hlen.symm,getD_snoc_lt _ (by omega),h.same a k (by omega) hki]
        exact ⟨fun e=>hE.trans _ _ _ (by omega) (by omega) (by omega) e (hE.symm _ _ (by omega) (by omega) hkE),fun e=>hE.trans _ _ _ (by omega) (by omega) (by omega) e hkE⟩
       ·rw [getD_snoc_lt _ (by omega),getD_snoc_lt _ (by omega)];exact h.same a b (by omega) (by omega)
     ·by_cases ea:a=i
      ·rw [ea,getD_snoc_eq _ hlen.symm];exact h.lt k hki
      ·rw [getD_snoc_lt _ (by omega)];exact h.lt a (by omega)
     ·obtain ⟨a,ha,e⟩:=h.onto j hj
      exact ⟨a,by omega,by rw [getD_snoc_lt _ (by omega)];exact e⟩
   | none=>
     rw [numE_none hk]
     have hno:∀ k,k < i→E i k=false:=fun k hk2=>by
      have:=List.find?_eq_none.1 hk k (List.mem_range.2 hk2)
      simpa using this
     have hne:∀ a,a < i→(numE E i).1.getD a 0≠((numE E i).2:Int):=fun a ha e=>by have:=(h.lt a ha).2;omega
     refine ⟨by simp [hlen],fun a b ha hb=>?_,fun a ha=>?_,fun j hj=>?_⟩
     ·by_cases ea:a=i
      ·by_cases eb:b=i
       ·rw [ea,eb];simp [hE.refl i (by omega)]
       ·rw [ea,getD_snoc_eq _ hlen.symm,getD_snoc_lt _ (by omega),hno b (by omega)]
        exact ⟨fun e=>absurd e.symm (hne b (by omega)),fun e=>by cases e⟩
      ·by_cases eb:b=i
       ·rw [eb,getD_snoc_eq _ hlen.symm,getD_snoc_lt _ (by omega)]
        refine ⟨fun e=>absurd e (hne a (by omega)),fun e=>?_⟩
        have:=hE.symm _ _ (by omega) (by omega) e
        rw [hno a (by omega)] at this
        cases this
       ·rw [getD_snoc_lt _ (by omega),getD_snoc_lt _ (by omega)];exact h.same a b (by omega) (by omega)
     ·by_cases ea:a=i
      ·rw [ea,getD_snoc_eq _ hlen.symm];omega
      ·rw [getD_snoc_lt _ (by omega)];have:=h.lt a (by omega);omega
     ·by_cases ej:j=(numE E i).2
      ·exact ⟨i,by omega,by rw [getD_snoc_eq _ hlen.symm,ej]⟩
      ·obtain ⟨a,ha,e⟩:=h.onto j (by omega)
       exact ⟨a,by omega,by rw [getD_snoc_lt _ (by omega)];exact e⟩
theorem numE_next {E:Nat→Nat→Bool} {n i:Nat} (hE:EqOn E n) (hi:i < n):((numE E (i+1)).1.getD i 0 < ((numE E i).2:Int)∧(numE E (i+1)).2=(numE E i).2)∨((numE E (i+1)).1.getD i 0=((numE E i).2:Int)∧(numE E (i+1)).2=(numE E i).2+1):=by
 have h:=numE_ok hE i (by omega)
 have hlen:=h.len
 cases hk:(List.range i).find? (fun k=>E i k) with
 | some k=>
   rw [numE_some hk]
   have hki:k < i:=List.mem_range.1 (List.mem_of_find?_eq_some hk)
   exact .inl ⟨by rw [getD_snoc_eq _ hlen.symm];exact (h.lt k hki).2,rfl⟩
 | none=>
   rw [numE_none hk]
   exact .inr ⟨by rw [getD_snoc_eq _ hlen.symm],rfl⟩
theorem numE_pre (E:Nat→Nat→Bool):∀ (d i a:Nat),a < i→(numE E (i+d)).1.getD a 0=(numE E i).1.getD a 0:=by
 intro d
 induction d with
 | zero=>intro i a _;rfl
 | succ d ih=>
   intro i a ha
   rw [← ih i a ha]
   show (numE E (i+d+1)).1.getD a 0=_
   have hl:=numE_len E (i+d)
   cases hk:(List.range (i+d)).find? (fun k=>E (i+d) k) with
   | some k=>rw [numE_some hk];exact getD_snoc_lt _ (by omega)
   | none=>rw [numE_none hk];exact getD_snoc_lt _ (by omega)
theorem numE_le (E:Nat→Nat→Bool):∀ i,(numE E i).2≤i:=by
 intro i
 induction i with
 | zero=>exact Nat.le_refl _
 | succ i ih=>
   cases hk:(List.range i).find? (fun k=>E i k) with
   | some k=>rw [numE_some hk];show (numE E i).2≤_;omega
   | none=>rw [numE_none hk];show (numE E i).2+1≤_;omega
def numK (κ:Nat→Int):Nat→List Int × List Int
 | 0=>([],[])
 | i+1=>if κ i∈(numK κ i).2 then ((numK κ i).1 ++ [(((numK κ i).2.idxOf (κ i):Nat):Int)],(numK κ i).2) else ((numK κ i).1 ++ [((numK κ i).2.length:Int)],(numK κ i).2 ++ [κ i])
theorem numK_old {κ:Nat→Int} {i:Nat} (h:κ i∈(numK κ i).2):numK κ (i+1)=((numK κ i).1 ++ [(((numK κ i).2.idxOf (κ i):Nat):Int)],(numK κ i).2):=by
 rw [numK,if_pos h]
theorem numK_new {κ:Nat→Int} {i:Nat} (h:κ i ∉ (numK κ i).2):numK κ (i+1)=((numK κ i).1 ++ [((numK κ i).2.length:Int)],(numK κ i).2 ++ [κ i]):=by
 rw [numK,if_neg h]
theorem idxOf_snoc {ks:List Int} {x k:Int} (h:x∈ks):(ks ++ [k]).idxOf x=ks.idxOf x:=by rw [List.idxOf_append,if_pos h]
theorem numK_num {E:Nat→Nat→Bool} {κ:Nat→Int} {n:Nat} (h:∀ a b,a < n→b < n→(E a b=true↔κ a=κ b)):∀ i,i≤n→(numK κ i).1=(numE E i).1∧(numK κ i).2.length=(numE E i).2∧(∀ a,a < i→κ a∈(numK κ i).2∧(numE E i).1.getD a 0=((numK κ i).2.idxOf (κ a):Nat))∧(∀ x∈(numK κ i).2,∃ a,a < i∧κ a=x):=by
 intro i
 induction i with
 | zero=>intro _;exact ⟨rfl,rfl,fun a h=>absurd h (by omega),fun x hx=>by simp [numK] at hx⟩
 | succ i ih=>
   intro hi
   obtain ⟨h1,h2,h3,h4⟩:=ih (by omega)
   have hlen:=numE_len E i
   cases hk:(List.range i).find? (fun k=>E i k) with
   | some k=>
     rw [numE_some hk]
     have hkE:=List.find?_some hk
     have hki:k < i:=List.mem_range.1 (List.mem_of_find?_eq_some hk)
     have hkk:=(h i k (by omega) (by omega)).1 hkE
     have hmem:κ i∈(numK κ i).2:=by rw [hkk];exact (h3 k hki).1
     rw [numK_old hmem]
     refine ⟨by rw [h1,(h3 k hki).2,hkk],h2,fun a ha=>?_,fun x hx=>?_⟩
     ·by_cases ea:a=i
      ·rw [ea,getD_snoc_eq _ hlen.symm,(h3 k hki).2,hkk];exact ⟨(h3 k hki).1,rfl⟩
      ·rw [getD_snoc_lt _ (by omega)];exact h3 a (by omega)
     ·obtain ⟨a,ha,e⟩:=h4 x hx;exact ⟨a,by omega,e⟩
   | none=>
     rw [numE_none hk]
     have hmem:κ i ∉ (numK κ i).2:=fun hm=>by
      obtain ⟨a,ha,e⟩:=h4 _ hm
      have h5:=List.find?_eq_none.1 hk a (List.mem_range.2 ha)
      exact h5 ((h i a (by omega) (by omega)).2 e.symm)
     rw [numK_new hmem]
     refine ⟨by rw [h1,h2],by simp [h2],fun a ha=>?_,fun x hx=>?_⟩
     ·by_cases ea:a=i
      ·rw [ea,getD_snoc_eq _ hlen.symm]
       refine ⟨by simp,?_⟩
       rw [List.idxOf_append,if_neg hmem]
       simp [h2]
      ·rw [getD_snoc_lt _ (by omega),idxOf_snoc (h3 a (by omega)).1]
       exact ⟨List.mem_append_left _ (h3 a (by omega)).1,(h3 a (by omega)).2⟩
     ·rcases List.mem_append.1 hx with hx | hx
      ·obtain ⟨a,ha,e⟩:=h4 x hx;exact ⟨a,by omega,e⟩
      ·exact ⟨i,by omega,(List.mem_singleton.1 hx).symm⟩
end Go.AM
namespace Go.AM
section
variable {κ:Type} [DecidableEq κ]
def esG (enc:κ→Value) (ks:List κ) (f:κ→V):List (Value × V):=ks.map fun k=>(enc k,f k)
theorem findA_g {kd:TypeDesc} {enc:κ→Value} (hs:∀ a b,Instr.sameNow kd (enc a) (enc b)=some (decide (a=b))) (f:κ→V) (k:κ):∀ (ks:List κ) (i:Nat),findA kd (enc k) (esG enc ks f) i=some (if k∈ks then some (i+ks.idxOf k,f k) else none):=by
 intro ks
 induction ks with
 | nil=>intro i;rfl
 | cons x ks ih=>
   intro i
   have e:esG enc (x :: ks) f=(enc x,f x) :: esG enc ks f:=rfl
   rw [e]
   simp only [findA,hs]
   by_cases h:k=x
   ·subst h
    simp
   ·have h2:(x == k)=false:=by simpa using Ne.symm h
    rw [decide_eq_false h]
    simp only [ih]
    by_cases hk:k∈ks
    ·rw [if_pos hk,if_pos (List.mem_cons_of_mem _ hk),List.idxOf_cons,h2]
     simp only [cond_false]
     congr 3
     omega
    ·rw [if_neg hk,if_neg (by simp [h,hk])]
theorem get_g {H:Heap} {j:Nat} {kd:TypeDesc} {enc:κ→Value} (hs:∀ a b,Instr.sameNow kd (enc a) (enc b)=some (decide (a=b))) (hko:∀ a,keyOk kd (enc a)=true) {ks:List κ} {f:κ→V} (hH:H[j]?=some (.map (esG enc ks f))) (z:V) (ok:Bool) (k:κ):
 xMapGet H kd z ok (.mp j) (.s (enc k))=some (if ok then .tup [if k∈ks then f k else z,bl (decide (k∈ks))] else if k∈ks then f k else z):=by
 have hf:=findA_g hs f k ks 0
 simp only [xMapGet,evOp,ev,List.getD_cons_zero,List.getD_cons_succ,hko,if_true,hH,hf]
 by_cases hk:k∈ks
 ·simp only [if_pos hk,decide_eq_true hk,Option.map_some]
 ·simp only [if_neg hk,decide_eq_false hk,Option.map_some]
theorem upd_g {H:Heap} {base j:Nat} {kd:TypeDesc} {enc:κ→Value} (hs:∀ a b,Instr.sameNow kd (enc a) (enc b)=some (decide (a=b))) (hko:∀ a,keyOk kd (enc a)=true) (hb:base≤j) {ks:List κ} {f:κ→V} (hH:H[j]?=some (.map (esG enc ks f))) (k:κ) (v:V):
 updMV H base kd (.mp j) (.s (enc k)) v=some (und,H.set j (.map (if k∈ks then (esG enc ks f).set (ks.idxOf k) (enc k,v) else esG enc ks f ++ [(enc k,v)]))):=by
 have hf:=findA_g hs f k ks 0
 simp only [updMV,hb,hko,and_self,if_true,hH,hf]
 by_cases hk:k∈ks
 ·simp only [if_pos hk,Nat.zero_add]
 ·simp only [if_neg hk]
theorem len_g {H:Heap} {j:Nat} {enc:κ→Value} {ks:List κ} {f:κ→V} (hH:H[j]?=some (.map (esG enc ks f))):xLen H .m (.mp j)=some (.s (.int .i64 ks.length)):=by
 simp only [xLen,hH,esG,List.length_map,i64]
theorem esG_new {enc:κ→Value} {ks:List κ} {f g:κ→V} {k:κ} (hfg:∀ x∈ks,g x=f x):esG enc ks f ++ [(enc k,g k)]=esG enc (ks ++ [k]) g:=by
 have:ks.map (fun x=>(enc x,f x))=ks.map (fun x=>(enc x,g x)):=List.map_congr_left fun x hx=>by rw [hfg x hx]
 rw [esG,esG,List.map_append,this]
 rfl
end
theorem same_i64 (a b:Int):Instr.sameNow (.int .i64) (.int .i64 a) (.int .i64 b)=some (decide (a=b)):=by rw [sameNow_int];rfl
theorem key_i64 (a:Int):keyOk (.int .i64) (.int .i64 a)=true:=by simp [keyOk]
end Go.AM
set_option maxRecDepth 100000
namespace Go.Proofs.Ytchekhggdbcbbaa
open Go.AM
open Tar (Ok mes)
structure CS (m0 n i iw il ic:Nat) (vr:V) (H:Heap) (vt:V) (s:Tar.St):Prop where
 hi:getC H i 0=some [vr,.sl iw 0 0 n 1,.sl il 0 0 n 1,vt,.sl ic 0 0 n 1,I s.clock]
 cw:getC H iw 0=some (fV n s.when)
 cl:getC H il 0=some (fV n s.low)
 cc:getC H ic 0=some (cV n s.comp)
 ot:OwnC 1 H vt (s.wait.map fun (v:Nat)=>[I v])
 nd:[i,iw,il,ic].Nodup
 ft:∀ x∈[i,iw,il,ic],Off vt x
 bs:∀ x∈[i,iw,il,ic],m0≤x
 bt:Past vt m0
 lt:∀ x∈[i,iw,il,ic],x < H.length
theorem past_off {v:V} {m x:Nat} (hv:∀ id g k w,v=.sl id g 0 k w→id < x):Off v x:=fun id g n w e e0=>by have:=hv id g n w e;omega
theorem ownC_ltw {w:Nat} {H:Heap} {v:V} {R:List (List V)} (h:OwnC w H v R):∀ id g n u,v=.sl id g 0 n u→id < H.length:=by
 intro id g n u e
 obtain ⟨_,⟨_,rfl | rfl⟩ | ⟨id2,g2,c2,rfl,hc2,_⟩⟩:=h
 ·cases e
 ·cases e
 ·cases e;exact getC_lt hc2
theorem CS.ts {m0 n i iw il ic:Nat} {vr:V} {H:Heap} {vt:V} {s:Tar.St} (c:CS m0 n i iw il ic vr H vt s) (hw:s.way=[]):TS m0 n ⟨i,H.length,H.length+2,iw,il,ic⟩ vr (H ++ [.cells 0 [.ref i 0 0]] ++ [.cells 0 []] ++ [.cells 0 [.esl]]) vt .esl s:=by
 have hm:m0≤H.length:=by
  have h1:=c.bs i (by simp)
  have h2:=c.lt i (by simp)
  omega
 have li:=c.lt i (by simp)
 have lw:=c.lt iw (by simp)
 have ll:=c.lt il (by simp)
 have lc:=c.lt ic (by simp)
 have nd:=c.nd
 simp only [List.nodup_cons,List.mem_cons,List.not_mem_nil,or_false,not_or,List.nodup_nil,and_true,not_false_eq_true] at nd
 obtain ⟨⟨n1,n2,n3⟩,⟨n4,n5⟩,n6⟩:=nd
 refine ⟨getC_app (getC_app (getC_new _ _ _)),getC_app (getC_app (getC_app c.hi)),?_,getC_app (getC_app (getC_app c.cw)),getC_app (getC_app (getC_app c.cl)),getC_app (getC_app (getC_app c.cc)),((c.ot.app _).app _).app _,?_,?_,?_,?_,?_,?_,c.bt,?_,?_⟩
 ·have:=getC_new (H ++ [Ob.cells 0 [V.ref i 0 0]] ++ [Ob.cells 0 []]) 0 [V.esl]
  rwa [List.length_append,List.length_append] at this
 ·rw [hw]
  exact ⟨fun r hr=>by simp at hr,.inl ⟨rfl,.inr rfl⟩⟩
 ·simp only [Ids.all,List.nodup_cons,List.mem_cons,List.not_mem_nil,or_false,not_or,List.nodup_nil,and_true,not_false_eq_true]
  omega
 ·intro x hx
  simp only [Ids.all,List.mem_cons,List.not_mem_nil,or_false] at hx
  rcases hx with rfl | rfl | rfl | rfl | rfl | rfl
  ·exact c.ft _ (by simp)
  ·exact past_off (m:=0) (ownC_ltw c.ot)
  ·exact past_off (m:=0) fun id g k w e=>Nat.lt_add_right 2 (ownC_ltw c.ot id g k w e)
  ·exact c.ft _ (by simp)
  ·exact c.ft _ (by simp)
  ·exact c.ft _ (by simp)
 ·intro x _ id g k w e;cases e
 ·intro _ _ _ _ _ id g k w e;cases e
 ·intro x hx
  simp only [Ids.all,List.mem_cons,List.not_mem_nil,or_false] at hx
  rcases hx with rfl | rfl | rfl | rfl | rfl | rfl
  ·exact c.bs _ (by simp)
  ·exact hm
  ·omega
  ·exact c.bs _ (by simp)
  ·exact c.bs _ (by simp)
  ·exact c.bs _ (by simp)
 ·intro id g k w e;cases e
 ·intro x hx
  simp only [Ids.all,List.mem_cons,List.not_mem_nil,or_false] at hx
  simp only [List.length_append,List.length_cons,List.length_nil]
  omega
theorem TS.cs {m0 n i b y iw il ic:Nat} {vr:V} {H:Heap} {vt vy:V} {s:Tar.St} (t:TS m0 n ⟨i,b,y,iw,il,ic⟩ vr H vt vy s):CS m0 n i iw il ic vr H vt s:=by
 have nd:=t.nds
 refine ⟨t.hi,t.cw,t.cl,t.cc,t.ot,?_,fun x hx=>t.ft x ?_,fun x hx=>t.bs x ?_,t.bt,fun x hx=>t.lt x ?_⟩
 ·simp only [List.nodup_cons,List.mem_cons,List.not_mem_nil,or_false,not_or,List.nodup_nil,and_true,not_false_eq_true]
  simp only at nd
  omega
 all_goals simp only [Ids.all,List.mem_cons,List.not_mem_nil,or_false] at hx ⊢
 all_goals omega
section
variable {CT:Nat→Option CFun}
theorem walk_enter (hE:CT k_f27=some (.code s_f27)) (hT:CT k_f44=some (.code s_f44)) (hX:CT k_f35=some (.code s_f35)) {base m0 n:Nat} (hbm:base≤m0) {i iw il ic:Nat} {vr:V} {G:Nat→List Nat} {H0:Heap} (hrow:∀ H,KeepD m0 [] H0 H→RdRows H vr (rowsN n G)) (hn:n < 2 ^ 38) (hG:∀ v,(G v).length < 2 ^ 40) (hin:∀ v,∀ u∈G v,u < n)
 {H:Heap} {vt:V} {s:Tar.St} (c:CS m0 n i iw il ic vr H vt s) (ok:Ok G n s) (hw:s.way=[]) (hk:KeepD m0 [] H0 H) {root:Nat} (hr:root < n) (h0:s.when root=0):
 ∃ vt' H' s',callW CT (.fn k_f27 [] []) [.ref i 0 0,I root] base H=some (.tup [],H')∧CS m0 n i iw il ic vr H' vt' s'∧Ok G n s'∧s'.way=[]∧KeepD m0 [] H H'∧H.length≤H'.length∧(∀ v,s.when v≠0→s'.when v≠0)∧s'.when root≠0:=by
 have t:=c.ts hw
 have hcl:=ok.clock
 have hwt:=ok.wait
 have hwy:=ok.way
 have hm:m0≤H.length:=by
  have h1:=c.bs i (by simp)
  have h2:=c.lt i (by simp)
  omega
 obtain ⟨vt1,vy1,H1,e1,t1,l1,k1⟩:=begin_fun hT hbm t hr (by omega) (by omega) (by omega)
 have o1:=Tar.ok_root ok hw h0 hr
 have kH0:KeepD m0 [] H (H ++ [.cells 0 [.ref i 0 0]] ++ [.cells 0 []] ++ [.cells 0 [.esl]]):=⟨by simp;omega,fun x hx _=>by rw [List.getElem?_append_left (by simp;omega),List.getElem?_append_left (by simp;omega),List.getElem?_append_left (by omega)]⟩
 have kH1:KeepD m0 [] H H1:=kH0.trans ⟨by simp at l1;omega,fun x hx _=>k1 x (by simp;omega) (fun hd=>by have:=t.bs x hd;omega) (fun id g k w e e0=>by have:=t.bt id g k w e;omega) (fun id g k w e e0=>by have:=t.by' id g k w e;omega)⟩ (Nat.le_refl _)
 obtain ⟨vt',vy',H',s',e2,t2,ok2,w2,k2,l2,m2⟩:=enter_loop (L:=H1.length) hT hX hbm t1.lt (by simp at l1;omega) hrow hn hG hin _ H1 vt1 vy1 _ (Nat.lt_succ_self _) (hk.trans kH1 (Nat.le_refl _)) (Nat.le_refl _) t1 o1
 have hlen1:∀ ob,(H ++ [ob]).length=H.length+1:=fun ob=>by simp
 refine ⟨vt',H',s',callW_fnA (c:=s_f27) (k:=2) hE rfl (by decide) s_f27_first ?_,t2.cs,ok2,w2,kH1.trans k2 (Nat.le_refl _),?_,fun v hv=>m2 v ?_,m2 root ?_⟩
 ·simp only [entE,I] at e1 e2
  have hb2:base≤H.length+2:=by omega
  simp only [s_f27,a_f27,s_f27_l0_b,s_f27_l1_b,aa,bl,i64,reduceIte,reduceCtorEq,Nat.reduceEqDiff,Nat.reduceLT,Nat.reduceLeDiff,Nat.reduceBEq,Nat.reduceAdd,fillA,splice,Nat.reduceMul,amY,op_eqP,I,hb2,hlen1,xsub_mkFn,List.map_nil,List.map_cons,ev,List.getD_cons_zero,List.getD_cons_succ,e1,e2,resultV,List.mapM_nil]
  rfl
 ·simp at l1;omega
 ·show Tar.upd s.when root (s.clock+1) v≠0
  by_cases ev:v=root
  ·rw [ev,Tar.upd_self];omega
  ·rw [Tar.upd_ne _ _ ev];exact hv
 ·show Tar.upd s.when root (s.clock+1) root≠0
  rw [Tar.upd_self];omega
end
end Go.Proofs.Ytchekhggdbcbbaa
set_option maxRecDepth 100000
namespace Go.Proofs.Ytchekhggdbcbbaa
open Go.AM
open Tar (Ok mes)
theorem CS.trim {m0 n i iw il ic L:Nat} {vr:V} {H:Heap} {vt:V} {s:Tar.St} (t:CS m0 n i iw il ic vr H vt s) (hL:∀ x∈[i,iw,il,ic],x < L) (fr:List V):CS m0 n i iw il ic vr (Go.AM.trim L fr H) vt s:=by
 have hu:∀ id g k w,vt=.sl id g 0 k w→(Go.AM.trim L fr H)[id]?=H[id]?:=by
  intro id g k w e
  rcases trim_cells L fr H with e0 | ⟨e0,_,h0⟩
  ·rw [e0]
  ·have:=h0 i 0 _ (hL i (by simp)) t.hi vt (by simp)
   rw [e] at this
   simp only [idsUnder,decide_eq_true_eq] at this
   rw [e0,List.getElem?_take_of_lt this]
 refine ⟨trim_get t.hi (hL _ (by simp)),trim_get t.cw (hL _ (by simp)),trim_get t.cl (hL _ (by simp)),trim_get t.cc (hL _ (by simp)),t.ot.keep fun id g k e=>hu id g k 1 e,t.nd,t.ft,t.bs,t.bt,fun x hx=>?_⟩
 rcases trim_cells L fr H with e0 | ⟨e0,_,_⟩
 ·rw [e0];exact t.lt x hx
 ·rw [e0,List.length_take]
  have:=hL x hx
  have:=t.lt x hx
  omega
def gN (G:List (List Int)) (v:Nat):List Nat:=((normG G).getD v []).map Int.toNat
theorem gN_in (G:List (List Int)) (v:Nat):∀ u∈gN G v,u < G.length:=by
 intro u hu
 obtain ⟨x,hx,rfl⟩:=List.mem_map.1 hu
 have:=(normG_get G v x).1 hx
 omega
theorem gN_mem (G:List (List Int)) (v u:Nat):u∈gN G v↔(u:Int)∈G.getD v []∧u < G.length:=by
 constructor
 ·intro hu
  obtain ⟨x,hx,rfl⟩:=List.mem_map.1 hu
  obtain ⟨h1,h2,h3⟩:=(normG_get G v x).1 hx
  rw [Int.toNat_of_nonneg h2]
  exact ⟨h1,by omega⟩
 ·intro h
  exact List.mem_map.2 ⟨(u:Int),(normG_get G v u).2 ⟨h.1,by omega,by omega⟩,by omega⟩
theorem gN_rows (G:List (List Int)):rowsN G.length (gN G)=rowsV (normG G):=by
 have hl:=normG_len G
 apply List.ext_getElem?
 intro i
 unfold rowsN rowsV
 rw [List.getElem?_map,List.getElem?_map]
 by_cases hi:i < G.length
 ·have hi':i < (normG G).length:=by omega
  have hgi:(normG G)[i]?=some ((normG G).getD i []):=some_getD hi' []
  rw [List.getElem?_range hi,hgi]
  simp only [Option.map_some,gN,List.map_map]
  congr 1
  apply List.map_congr_left
  intro x hx
  have:=(normG_get G i x).1 hx
  show I ((x.toNat:Nat):Int)=iV x
  rw [Int.toNat_of_nonneg this.2.1]
  rfl
 ·rw [List.getElem?_eq_none (by simpa using hi),List.getElem?_eq_none (by omega)]
  rfl
theorem gN_small {G:List (List Int)} {b:Nat} (hr:∀ r∈G,r.length < b) (hb:0 < b) (v:Nat):(gN G v).length < b:=by
 unfold gN
 rw [List.length_map]
 by_cases hv:v < (normG G).length
 ·exact normG_small hr _ (List.mem_of_getElem? (some_getD hv []))
 ·rw [List.getD,List.getElem?_eq_none (by omega)];exact hb
theorem rc_rch (G:List (List Int)) (a:Nat) (ha:a < G.length) (b:Nat):Tar.Rc (gN G) a b↔Rch G [(a:Int)] b:=by
 constructor
 ·intro h
  induction h with
  | refl=>exact .base a (by simp) ha
  | tail _ e ih=>
    rename_i x c _
    have:=(gN_mem G x c).1 e
    exact .step x c ih this.1 this.2
 ·intro h
  induction h with
  | base k h1 h2=>
    simp only [List.mem_singleton] at h1
    obtain rfl:k=a:=by omega
    exact .refl _
  | step i k _ h1 h2 ih=>exact ih.tail ((gN_mem G i k).2 ⟨h1,h2⟩)
noncomputable def eqG (G:List (List Int)) (a b:Nat):Bool:=leadsB G a b && leadsB G b a
theorem eqG_iff (G:List (List Int)) (a b:Nat):eqG G a b=true↔Rch G [(a:Int)] b∧Rch G [(b:Int)] a:=by
 unfold eqG
 rw [Bool.and_eq_true,leadsB_nat,leadsB_nat]
theorem eqG_rc (G:List (List Int)) {a b:Nat} (ha:a < G.length) (hb:b < G.length):eqG G a b=true↔Tar.Rc (gN G) a b∧Tar.Rc (gN G) b a:=by
 rw [eqG_iff,rc_rch G a ha,rc_rch G b hb]
theorem eqG_on (G:List (List Int)):EqOn (eqG G) G.length:=by
 refine ⟨fun a ha=>?_,fun a b ha hb h=>?_,fun a b c ha hb hc h1 h2=>?_⟩
 ·rw [eqG_rc G ha ha];exact ⟨.refl _,.refl _⟩
 ·rw [eqG_rc G ha hb] at h;rw [eqG_rc G hb ha];exact ⟨h.2,h.1⟩
 ·rw [eqG_rc G ha hb] at h1;rw [eqG_rc G hb hc] at h2;rw [eqG_rc G ha hc];exact ⟨h1.1.trans h2.1,h2.2.trans h1.2⟩
noncomputable def compsG (G:List (List Int)):List Int:=(numE (eqG G) G.length).1
noncomputable def cntG (G:List (List Int)):Nat:=(numE (eqG G) G.length).2
theorem compsG_ok (G:List (List Int)):NumOk (eqG G) G.length (compsG G) (cntG G):=numE_ok (eqG_on G) _ (Nat.le_refl _)
theorem compsG_len (G:List (List Int)):(compsG G).length=G.length:=(compsG_ok G).len
theorem cntG_le (G:List (List Int)):cntG G≤G.length:=numE_le _ _
def kap (f:Nat→Option Nat) (v:Nat):Int:=match f v with
 | some r=>(r:Int)
 | none=>-1
theorem cV_kap (n:Nat) (f:Nat→Option Nat):cV n f=((List.range n).map (kap f)).map iV:=by
 unfold cV
 rw [List.map_map]
 apply List.map_congr_left
 intro v _
 show oV (f v)=iV (kap f v)
 unfold kap oV
 cases f v <;> rfl
def fillZ (n:Nat) (l:List Int):List Int:=l ++ List.replicate (n - l.length) 0
theorem fillZ_set {n:Nat} {l:List Int} (h:l.length < n) (x:Int):(fillZ n l).set l.length x=fillZ n (l ++ [x]):=by
 unfold fillZ
 rw [List.set_append_right _ _ (Nat.le_refl _),Nat.sub_self]
 obtain ⟨m,hm⟩:∃ m,n - l.length=m+1:=⟨n - l.length - 1,by omega⟩
 have:n - (l ++ [x]).length=m:=by simp;omega
 rw [hm,this,List.replicate_succ,List.set_cons_zero,List.append_assoc]
 rfl
theorem fillZ_len {n:Nat} {l:List Int} (h:l.length≤n):(fillZ n l).length=n:=by unfold fillZ;simp;omega
theorem fillZ_full {n:Nat} {l:List Int} (h:l.length=n):fillZ n l=l:=by unfold fillZ;rw [h];simp
theorem fillZ_nil (n:Nat):fillZ n []=List.replicate n 0:=by simp [fillZ]
section
variable {CT:Nat→Option CFun}
structure CC (CT:Nat→Option CFun):Prop where
 g:CG CT
 comps:CT k_f11=some (.code s_f11)
 nodes:CT k_f25=some (.code s_f25)
 rep:CT k_f26=some (.code s_f26)
 mul:CT k_f43=some (.code s_f43)
 mul64:CT k_f50=some (.code s_f50)
 enter:CT k_f27=some (.code s_f27)
 enter1:CT k_f44=some (.code s_f44)
 index:CT k_f35=some (.code s_f35)
theorem comps_l0 (h:CC CT) {base m0 n L:Nat} (hbm:base≤m0) {i iw il ic:Nat} {vr:V} {G:Nat→List Nat} {H0:Heap} (hrow:∀ H,KeepD m0 [] H0 H→RdRows H vr (rowsN n G)) (hn:n < 2 ^ 38) (hG:∀ v,(G v).length < 2 ^ 40) (hin:∀ v,∀ u∈G v,u < n) (hL:∀ x∈[i,iw,il,ic],x < L) (hmL:m0≤L)
 {H:Heap} {vt:V} {s:Tar.St} (c:CS m0 n i iw il ic vr H vt s) (ok:Ok G n s) (hw:s.way=[]) (hk:KeepD m0 [] H0 H) (hLH:L≤H.length):
 ∃ vt' H' s',itW (evC (callW CT) itW base s_f11_l0) [] L (frOf 85 [(3,.ref i 0 0),(4,I n),(37,I n),(38,I 0)]) H=some (.ext 0,frOf 85 [(3,.ref i 0 0),(4,I n),(37,I n),(38,I n),(39,bl false)],H')∧CS m0 n i iw il ic vr H' vt' s'∧Ok G n s'∧s'.way=[]∧KeepD m0 [] H0 H'∧L≤H'.length∧∀ v,v < n→s'.when v≠0:=by
 obtain ⟨⟨H1,vt1,s1⟩,e1,c1,ok1,w1,k1,l1,d1⟩:=it_rel n (fun j (x:Heap × V × Tar.St)=>CS m0 n i iw il ic vr x.1 x.2.1 x.2.2∧Ok G n x.2.2∧x.2.2.way=[]∧KeepD m0 [] H0 x.1∧L≤x.1.length∧∀ v,v < j→x.2.2.when v≠0) (fun j x=>itW (evC (callW CT) itW base s_f11_l0) [] L (frOf 85 [(3,.ref i 0 0),(4,I n),(37,I n),(38,I j)]) x.1) (by
  rintro j ⟨H,vt,s⟩ hj ⟨c,ok,hw,hk,hLH,hd⟩
  simp only at c ok hw hk hLH hd ⊢
  have hlt':((j:Int) < (n:Int)):=by omega
  have hwk:=w64 (n:=j) (by omega)
  have hi:=c.hi
  have cw:=c.cw
  have hix:(0≤(j:Int)∧(j:Int) < (n:Int)∧1=1):=by omega
  have wi:=take1_of (fV_get s.when hj)
  by_cases h0:s.when j=0
  ·obtain ⟨vt',H',s',q1,q2,q3,q4,q5,q6,q7,q8⟩:=walk_enter h.enter h.enter1 h.index hbm hrow hn hG hin c ok hw hk hj h0
   refine ⟨(Go.AM.trim L (frOf 85 [(3,.ref i 0 0),(4,I n),(37,I n),(38,I (j+1:Nat))]) H',vt',s'),?_,q2.trim hL _,q3,q4,KeepD.trim (hk.trans q5 (Nat.le_refl _)) hmL _,trim_le (by omega),fun v hv=>?_⟩
   ·have hz:(((s.when j:Nat):Int) == 0)=true:=by rw [h0];rfl
    rw [itW_step]
    simp only [I] at q1 hi wi
    simp only [I,a_f11,s_f11_l0_b,s_f11_l1_b,aa,bl,i64,reduceIte,reduceCtorEq,Nat.reduceEqDiff,Nat.reduceLT,Nat.reduceLeDiff,Nat.reduceBEq,Nat.reduceAdd,fillA,splice,Nat.reduceMul,amY,op_eqP,hlt',hi,cw,hix,wi,hz,q1,hwk]
   ·by_cases ev:v=j
    ·rw [ev];exact q8
    ·exact q7 v (hd v (by omega))
  ·refine ⟨(Go.AM.trim L (frOf 85 [(3,.ref i 0 0),(4,I n),(37,I n),(38,I (j+1:Nat))]) H,vt,s),?_,c.trim hL _,ok,hw,KeepD.trim hk hmL _,trim_le hLH,fun v hv=>?_⟩
   ·have hz:(((s.when j:Nat):Int) == 0)=false:=by rw [beq_eq_false_iff_ne];omega
    rw [itW_step]
    simp only [I] at hi wi
    simp only [I,a_f11,s_f11_l0_b,s_f11_l1_b,aa,bl,i64,reduceIte,reduceCtorEq,Nat.reduceEqDiff,Nat.reduceLT,Nat.reduceLeDiff,Nat.reduceBEq,Nat.reduceAdd,fillA,splice,Nat.reduceMul,amY,op_eqP,hlt',hi,cw,hix,wi,hz,hwk]
   ·by_cases ev:v=j
    ·rw [ev];exact h0
    ·exact hd v (by omega)) 0 (H,vt,s) (Nat.zero_le _) ⟨c,ok,hw,hk,hLH,fun v hv=>absurd hv (by omega)⟩
 simp only at e1 c1 ok1 w1 k1 l1 d1
 refine ⟨vt1,Go.AM.trim L (frOf 85 [(3,.ref i 0 0),(4,I n),(37,I n),(38,I n),(39,bl false)]) H1,s1,e1.trans ?_,c1.trim hL _,ok1,w1,KeepD.trim k1 hmL _,trim_le l1,d1⟩
 rw [itW_step]
 simp only [I,bl,a_f11,s_f11_l0_b,s_f11_l1_b,aa,bl,i64,reduceIte,reduceCtorEq,Nat.reduceEqDiff,Nat.reduceLT,Nat.reduceLeDiff,Nat.reduceBEq,Nat.reduceAdd,fillA,splice,Nat.reduceMul,amY,op_eqP,Int.lt_irrefl]
theorem set_two (A:Heap) (m o x:Ob):(A ++ [m] ++ [o]).set A.length x=A ++ [x] ++ [o]:=by simp
theorem get_two (A:Heap) (m o:Ob):(A ++ [m] ++ [o])[A.length]?=some m:=by simp
def mapOb (ks:List Int):Ob:=.map (esG (fun (k:Int)=>Value.int .i64 k) ks fun k=>iV (ks.idxOf k:Nat))
theorem mapOb_new {ks:List Int} {k:Int} (hk:k ∉ ks):Ob.map (esG (fun (k:Int)=>Value.int .i64 k) ks (fun k=>iV (ks.idxOf k:Nat)) ++ [(.int .i64 k,iV (ks.length:Nat))])=mapOb (ks ++ [k]):=by
 have h1:iV (ks.length:Nat)=(fun x=>iV ((ks ++ [k]).idxOf x:Nat)) k:=by
  have:(ks ++ [k]).idxOf k=ks.length:=by rw [List.idxOf_append,if_neg hk];simp
  simp only [this]
 have:=esG_new (enc:=fun (k:Int)=>Value.int .i64 k) (ks:=ks) (f:=fun k=>iV (ks.idxOf k:Nat)) (g:=fun x=>iV ((ks ++ [k]).idxOf x:Nat)) (k:=k) (fun x hx=>by simp only [idxOf_snoc hx])
 rw [mapOb,← this,h1]
theorem comps_l1 (base:Nat) {A:Heap} {cv:V} {n:Nat} {κ:Nat→Int} (hb:base≤A.length) (hn:n < 2 ^ 38) (hr:Rd A cv (((List.range n).map κ).map iV)) (hw:Wide1 cv):
 itW (evC (callW CT) itW base s_f11_l1) [] (A.length+2) (frOf 85 [(6,.mp A.length),(7,.sl (A.length+1) 0 0 n 1),(59,cv),(60,I n),(61,I 0)]) (A ++ [mapOb []] ++ [.cells 0 ((fillZ n []).map iV)])=some (.ext 2,frOf 85 [(6,.mp A.length),(7,.sl (A.length+1) 0 0 n 1),(59,cv),(60,I n),(61,I n),(62,bl false)],A ++ [mapOb (numK κ n).2] ++ [.cells 0 ((numK κ n).1.map iV)]):=by
 have ts:∀ (fr:List V) (m o:Ob),Go.AM.trim (A.length+2) fr (A ++ [m] ++ [o])=A ++ [m] ++ [o]:=fun fr m o=>trim_same (by simp)
 have hlen:∀ i,(numK κ i).1.length=i:=by
  intro i
  induction i with
  | zero=>rfl
  | succ i ih=>rw [numK];split <;> simp [ih]
 have hst:∀ i,i < n→itW (evC (callW CT) itW base s_f11_l1) [] (A.length+2) (frOf 85 [(6,.mp A.length),(7,.sl (A.length+1) 0 0 n 1),(59,cv),(60,I n),(61,I i)]) (A ++ [mapOb (numK κ i).2] ++ [.cells 0 ((fillZ n (numK κ i).1).map iV)])=itW (evC (callW CT) itW base s_f11_l1) [] (A.length+2) (frOf 85 [(6,.mp A.length),(7,.sl (A.length+1) 0 0 n 1),(59,cv),(60,I n),(61,I (i+1:Nat))]) (A ++ [mapOb (numK κ (i+1)).2] ++ [.cells 0 ((fillZ n (numK κ (i+1)).1).map iV)]):=by
  intro i hi
  have hlt':((i:Int) < (n:Int)):=by omega
  have hwk:=w64 (n:=i) (by omega)
  have hx:((List.range n).map κ).getD i 0=κ i:=by simp [hi]
  obtain ⟨a,a1,a2⟩:=iV_get ((hr.ext (Ext.app A [mapOb (numK κ i).2])).ext (Ext.app _ [.cells 0 ((fillZ n (numK κ i).1).map iV)])) hw (k:=i) (by simp [hi])
  rw [hx] at a2
  have hixi:(0≤(i:Int)∧(i:Int) < (n:Int)∧1=1):=by omega
  have hH:=get_two A (mapOb (numK κ i).2) (.cells 0 ((fillZ n (numK κ i).1).map iV))
  have hg:=get_g (enc:=fun (k:Int)=>Value.int .i64 k) same_i64 key_i64 hH (.s (.int .i64 0)) true (κ i)
  have hll:=len_g hH
  have hl2:∀ m o,(A ++ [m] ++ [o]).length=A.length+2:=fun m o=>by simp
  have hcell:∀ m c,getC (A ++ [m] ++ [.cells 0 c]) (A.length+1) 0=some c:=fun m c=>by
   have:=getC_new (A ++ [m]) 0 c
   rwa [List.length_append] at this
  have hset:∀ m c c',(A ++ [m] ++ [Ob.cells 0 c]).set (A.length+1) (.cells 0 c')=A ++ [m] ++ [.cells 0 c']:=fun m c c'=>by
   have:=set_snoc (A ++ [m]) (Ob.cells 0 c) (.cells 0 c')
   rwa [List.length_append] at this
  have hfl:(fillZ n (numK κ i).1).length=n:=fillZ_len (by rw [hlen];omega)
  have hst:∀ m (x:Int),storeV (A ++ [m] ++ [Ob.cells 0 ((fillZ n (numK κ i).1).map iV)]) base 1 (.s (.int .i64 x)) (.ref (A.length+1) 0 i)=some (A ++ [m] ++ [.cells 0 ((fillZ n ((numK κ i).1 ++ [x])).map iV)]):=by
   intro m x
   have e:=fillZ_set (n:=n) (l:=(numK κ i).1) (by rw [hlen];omega) x
   rw [hlen] at e
   rw [← e,List.map_set,storeV_at (hcell m _) (by omega) rfl (by rw [List.length_map,hfl];exact hi),hset]
   rfl
  by_cases hm:κ i∈(numK κ i).2
  ·have hm':decide (κ i∈(numK κ i).2)=true:=decide_eq_true hm
   rw [numK_old hm,itW_step]
   simp only [if_true,hm,hm',bl,iV] at hg
   simp only [I,a_f11,s_f11_l0_b,s_f11_l1_b,aa,bl,i64,reduceIte,reduceCtorEq,Nat.reduceEqDiff,Nat.reduceLT,Nat.reduceLeDiff,Nat.reduceBEq,Nat.reduceAdd,fillA,splice,Nat.reduceMul,amY,op_eqP,hlt',a1,a2,hg,hixi,hst,hwk,ts]
  ·have hm':decide (κ i∈(numK κ i).2)=false:=decide_eq_false hm
   have hu:=upd_g (base:=base) (enc:=fun (k:Int)=>Value.int .i64 k) same_i64 key_i64 hb hH (κ i) (iV ((numK κ i).2.length:Nat))
   rw [if_neg hm,mapOb_new hm,set_two] at hu
   rw [numK_new hm,itW_step]
   simp only [if_false,if_true,hm,hm',bl] at hg
   simp only [iV] at hu
   simp only [I,a_f11,s_f11_l0_b,s_f11_l1_b,aa,bl,i64,reduceIte,reduceCtorEq,Nat.reduceEqDiff,Nat.reduceLT,Nat.reduceLeDiff,Nat.reduceBEq,Nat.reduceAdd,fillA,splice,Nat.reduceMul,amY,op_eqP,hlt',a1,a2,hg,hll,op_mapUpd,hu,hixi,hst,hwk,ts]
 have h2:=it_fun n (fun i=>itW (evC (callW CT) itW base s_f11_l1) [] (A.length+2) (frOf 85 [(6,.mp A.length),(7,.sl (A.length+1) 0 0 n 1),(59,cv),(60,I n),(61,I i)]) (A ++ [mapOb (numK κ i).2] ++ [.cells 0 ((fillZ n (numK κ i).1).map iV)])) hst 0 (Nat.zero_le _)
 refine h2.trans ?_
 rw [itW_step,fillZ_full (hlen n)]
 simp only [I,bl,a_f11,s_f11_l0_b,s_f11_l1_b,aa,bl,i64,reduceIte,reduceCtorEq,Nat.reduceEqDiff,Nat.reduceLT,Nat.reduceLeDiff,Nat.reduceBEq,Nat.reduceAdd,fillA,splice,Nat.reduceMul,amY,op_eqP,Int.lt_irrefl,ts]
end
end Go.Proofs.Ytchekhggdbcbbaa
set_option maxRecDepth 100000
namespace Go.Proofs.Ytchekhggdbcbbaa
open Go.AM
open Tar (Ok mes)
section
variable {CT:Nat→Option CFun}
theorem nodes_fun (hN:CT k_f25=some (.code s_f25)) (base:Nat) {H:Heap} {v:V} {n:Nat} (hl:∀ H',xLen H' .s v=some (.s (.int .i64 n))):callW CT (.fn k_f25 [] []) [v] base H=some (.s (.int .i64 n),H):=by
 refine callW_fn (c:=s_f25) hN (by simp [s_f25]) ?_
 simp only [s_f25,a_f25,aa,bl,i64,reduceIte,reduceCtorEq,Nat.reduceEqDiff,Nat.reduceLT,Nat.reduceLeDiff,Nat.reduceBEq,Nat.reduceAdd,fillA,splice,Nat.reduceMul,amY,op_eqP,hl]
theorem own_len {m:Nat} {H:Heap} {v:V} {R:List (List V)} (h:OwnRows m H v R):(∃ id g,v=.sl id g 0 R.length 1∧m≤id)∧v.one=true:=by
 obtain ⟨id,g,vs,rfl,hc,hm,_⟩:=h
 exact ⟨⟨id,g,rfl,hm⟩,rfl⟩
theorem comps_f (h:CC CT) (base:Nat) (H:Heap) (v:V) (G:List (List Int)) (hv:RdRows H v (rowsV G)) (hb:base≤H.length) (hn:G.length < 2 ^ 32) (hr:∀ r∈G,r.length < 2 ^ 40):
 ∃ v' H',callW CT (.fn k_f11 [] []) [v] base H=some (v',H')∧Ext H H'∧OwnN H.length H' v' ((compsG G).map iV):=by
 obtain ⟨vr,N,p1,p2,p3⟩:=norm_f h.g base H v G hv hb (by omega) hr
 obtain ⟨⟨idr,gr,evr,_⟩,hvr1⟩:=own_len p3
 have hle:=p2.le
 have hnl:=fun H'=>rows_lenV p3.rd H'
 rw [normG_len] at hnl
 have hvrc:vr.cells=[vr]:=by rw [evr];rfl
 obtain ⟨n,hnn⟩:∃ n,G.length=n:=⟨_,rfl⟩
 rw [hnn] at hnl hn
 have hnd:=nodes_fun (CT:=CT) h.nodes base (H:=N ++ [.cells 0 [vr,nilS,nilS,nilS,nilS,.s (.int .i64 0)]]) hnl
 have hmk:=fun H=>make_n (H:=H) (zero:=[.s (.int .i64 0)]) (sz:=1) (bytes:=8) (k:=.i64) (k':=.i64) (n:=n) (by omega)
 simp only [flat_one] at hmk
 obtain ⟨Z,hZ⟩:∃ Z,List.replicate n (V.s (.int .i64 0))=Z:=⟨_,rfl⟩
 have hrp:=repeat_fun h.rep h.mul h.mul64 (N.length+4) (N ++ [.cells 0 [vr,nilS,nilS,nilS,nilS,.s (.int .i64 0)]] ++ [.cells 0 Z] ++ [.cells 0 Z] ++ [.cells 0 [iV (-1)]]) (.sl (N.length+3) 0 0 1 1) (by
  have:=one_rd (N ++ [.cells 0 [vr,nilS,nilS,nilS,nilS,.s (.int .i64 0)]] ++ [.cells 0 Z] ++ [.cells 0 Z]) (iV (-1))
  have e:(N ++ [.cells 0 [vr,nilS,nilS,nilS,nilS,.s (.int .i64 0)]] ++ [.cells 0 Z] ++ [.cells 0 Z]:Heap).length=N.length+3:=by simp
  rwa [e] at this) n hn (by simp)
 have e4:(N ++ [.cells 0 [vr,nilS,nilS,nilS,nilS,.s (.int .i64 0)]] ++ [.cells 0 Z] ++ [.cells 0 Z] ++ [.cells 0 [iV (-1)]]:Heap).length=N.length+4:=by simp
 rw [e4] at hrp
 obtain ⟨F,hF⟩:∃ F:List V→Heap,∀ c,N ++ [.cells 0 c] ++ [.cells 0 Z] ++ [.cells 0 Z] ++ [.cells 0 [iV (-1)]] ++ [.cells 0 (List.replicate n (iV (-1)))]=F c:=⟨_,fun _=>rfl⟩
 have hFs:∀ c c',(F c).set N.length (.cells 0 c')=F c':=fun c c'=>by rw [← hF,← hF];simp
 have hFg:∀ c,getC (F c) N.length 0=some c:=fun c=>by rw [← hF];exact getC_app (getC_app (getC_app (getC_app (getC_new _ _ _))))
 have hFl:∀ c,(F c).length=N.length+5:=fun c=>by rw [← hF];simp
 obtain ⟨C,hC⟩:∃ C:Heap,F [vr,.sl (N.length+1) 0 0 n 1,.sl (N.length+2) 0 0 n 1,nilS,.sl (N.length+4) 0 0 n 1,.s (.int .i64 0)]=C:=⟨_,rfl⟩
 have hC0:=hFg [vr,.sl (N.length+1) 0 0 n 1,.sl (N.length+2) 0 0 n 1,nilS,.sl (N.length+4) 0 0 n 1,.s (.int .i64 0)]
 have hCl:C.length=N.length+5:=by rw [← hC];exact hFl _
 rw [hC] at hC0
 rw [hF] at hrp
 have hbN:base≤N.length:=by omega
 have hi1:getC C (N.length+1) 0=some Z:=by
  rw [← hC,← hF]
  have:=getC_new (N ++ [.cells 0 [vr,.sl (N.length+1) 0 0 n 1,.sl (N.length+2) 0 0 n 1,nilS,.sl (N.length+4) 0 0 n 1,.s (.int .i64 0)]]) 0 Z
  rw [List.length_append] at this
  exact getC_app (getC_app (getC_app this))
 have hi2:getC C (N.length+2) 0=some Z:=by
  rw [← hC,← hF]
  have:=getC_new (N ++ [.cells 0 [vr,.sl (N.length+1) 0 0 n 1,.sl (N.length+2) 0 0 n 1,nilS,.sl (N.length+4) 0 0 n 1,.s (.int .i64 0)]] ++ [.cells 0 Z]) 0 Z
  rw [List.length_append,List.length_append] at this
  exact getC_app (getC_app this)
 have hi4:getC C (N.length+4) 0=some (List.replicate n (iV (-1))):=by
  rw [← hC,← hF]
  have:=getC_new (N ++ [.cells 0 [vr,.sl (N.length+1) 0 0 n 1,.sl (N.length+2) 0 0 n 1,nilS,.sl (N.length+4) 0 0 n 1,.s (.int .i64 0)]] ++ [.cells 0 Z] ++ [.cells 0 Z] ++ [.cells 0 [iV (-1)]]) 0 (List.replicate n (iV (-1)))
  simp only [List.length_append,List.length_cons,List.length_nil] at this
  exact this
 have hZf:Z=fV n (fun _=>0):=by rw [← hZ];unfold fV;rw [List.map_const',List.length_range];rfl
 have hcs:CS N.length n N.length (N.length+1) (N.length+2) (N.length+4) vr C nilS Tar.St.start:=by
  refine ⟨hC0,by rw [hi1,hZf];rfl,by rw [hi2,hZf];rfl,by rw [hi4];unfold cV;rw [show (fun v=>oV (Tar.St.start.comp v))=fun _=>iV (-1) from rfl,List.map_const',List.length_range],⟨fun r hr=>by simp [Tar.St.start] at hr,.inl ⟨rfl,.inl rfl⟩⟩,?_,fun x _ id g k w e=>by (cases e),?_,fun id g k w e=>by (cases e),?_⟩
  ·simp only [List.nodup_cons,List.mem_cons,List.not_mem_nil,or_false,not_or,List.nodup_nil,and_true,not_false_eq_true];omega
  ·intro x hx;simp only [List.mem_cons,List.not_mem_nil,or_false] at hx;omega
  ·intro x hx;simp only [List.mem_cons,List.not_mem_nil,or_false] at hx;omega
 have hkC:KeepD N.length [] N C:=⟨by omega,fun x hx _=>by rw [← hC,← hF];simp only [List.append_assoc];rw [List.getElem?_append_left hx]⟩
 have hrow:∀ H,KeepD N.length [] N H→RdRows H vr (rowsN n (gN G)):=fun H k=>by
  rw [← hnn,gN_rows]
  exact p3.rd.ext (KeepD.ext k)
 obtain ⟨vt',D,s',q1,q2,q3,q4,q5,q6,q7⟩:=comps_l0 h (L:=C.length) (m0:=N.length) (by omega) hrow (by omega) (fun v=>gN_small hr (by omega) v) (fun v u hu=>by rw [← hnn];exact gN_in G v u hu) hcs.lt (by omega) hcs (Tar.ok_start (gN G) n) rfl hkC (Nat.le_refl _)
 have hrd:Rd D (.sl (N.length+4) 0 0 n 1) (((List.range n).map (kap s'.comp)).map iV):=by
  have:=getC_sl q2.cc
  rw [cV_kap] at this
  simpa using this
 have hkap:∀ a b,a < n→b < n→(eqG G a b=true↔kap s'.comp a=kap s'.comp b):=by
  intro a b ha hb'
  rw [eqG_rc G (by omega) (by omega),← Tar.comp_same q3 q4 q7 ha hb']
  obtain ⟨r,hr1⟩:=Tar.comp_end q3 q4 q7 a ha
  obtain ⟨q,hq1⟩:=Tar.comp_end q3 q4 q7 b hb'
  unfold kap
  rw [hr1,hq1]
  simp only [Option.some.injEq]
  omega
 have hnum:=(numK_num hkap n (Nat.le_refl _)).1
 have hl1:=comps_l1 (CT:=CT) base (A:=D) (cv:=.sl (N.length+4) 0 0 n 1) (n:=n) (κ:=kap s'.comp) (by omega) (by omega) hrd trivial
 have hDl:∀ ob,(D ++ [ob]).length=D.length+1:=fun ob=>by simp
 have hD2:∀ ob ob2,(D ++ [ob] ++ [ob2]).length=D.length+2:=fun ob ob2=>by simp
 have hfz:(fillZ n []).map iV=Z:=by rw [fillZ_nil,← hZ,List.map_replicate];rfl
 rw [hfz] at hl1
 have hm0:mapOb []=.map []:=rfl
 rw [hm0] at hl1
 have hDi:=getC_app q2.hi (G:=[mapOb []])
 have hDi2:=getC_app hDi (G:=[.cells 0 Z])
 rw [hm0] at hDi hDi2
 refine ⟨.sl (D.length+1) 0 0 n 1,D ++ [mapOb (numK (kap s'.comp) n).2] ++ [.cells 0 ((numK (kap s'.comp) n).1.map iV)],callW_fn (c:=s_f11) h.comps (by simp [s_f11]) ?_,?_,?_⟩
 ·simp only [nilS] at hnd hrp hC
  simp only [I] at q1 hl1 hDi hDi2
  simp only [iV,show ((0:Nat):Int)=0 from rfl] at hrp
  have hi2:=q2.hi
  simp only [I] at hi2
  simp only [s_f11,a_f11,s_f11_l0_b,s_f11_l1_b,aa,bl,i64,reduceIte,reduceCtorEq,Nat.reduceEqDiff,Nat.reduceLT,Nat.reduceLeDiff,Nat.reduceBEq,Nat.reduceAdd,fillA,splice,Nat.reduceMul,amY,op_eqP,p1,hvrc,hvr1,hnd,op_mkSl,hmk,hZ,hrp,hFg,hFs,hbN,hC,q1,hDl,hDi,hDi2,hi2,hD2,bl,hl1]
 ·exact ((p2.trans (KeepD.ext q5)).trans (Ext.app _ _)).trans (Ext.app _ _)
 ·have e1:(numK (kap s'.comp) n).1=compsG G:=by rw [hnum,compsG,hnn]
  have e2:=compsG_len G
  have hg:=getC_new (D ++ [mapOb (numK (kap s'.comp) n).2]) 0 ((numK (kap s'.comp) n).1.map iV)
  rw [hDl,e1] at hg
  rw [e1]
  have hle2:=(KeepD.ext q5).le
  refine .inr ⟨D.length+1,0,(compsG G).map iV,?_,hg,Nat.le_refl _,List.take_length,by omega⟩
  rw [List.length_map,e2,hnn]
end
end Go.Proofs.Ytchekhggdbcbbaa
set_option maxRecDepth 100000
namespace Go.Proofs.Ytchekhggdbcbbaa
open Go.AM
def fillV (n:Nat) (z:V) (l:List V):List V:=l ++ List.replicate (n - l.length) z
theorem fillV_set {n:Nat} {z:V} {l:List V} (h:l.length < n) (x:V):(fillV n z l).set l.length x=fillV n z (l ++ [x]):=by
 unfold fillV
 rw [List.set_append_right _ _ (Nat.le_refl _),Nat.sub_self]
 obtain ⟨m,hm⟩:∃ m,n - l.length=m+1:=⟨n - l.length - 1,by omega⟩
 have:n - (l ++ [x]).length=m:=by simp;omega
 rw [hm,this,List.replicate_succ,List.set_cons_zero,List.append_assoc]
 rfl
theorem fillV_len {n:Nat} {z:V} {l:List V} (h:l.length≤n):(fillV n z l).length=n:=by unfold fillV;simp;omega
theorem fillV_full {n:Nat} {z:V} {l:List V} (h:l.length=n):fillV n z l=l:=by unfold fillV;rw [h];simp
noncomputable def cycG (G:List (List Int)) (i:Nat):Bool:=decide (∃ k∈(normG G).getD i [],leadsB G k i=true)
noncomputable def cycL (G:List (List Int)):List Bool:=(List.range G.length).map (cycG G)
noncomputable def cycA (G:List (List Int)) (i:Nat):Bool:=decide ((((compsG G).count ((compsG G).getD i 0):Nat):Int) > 1) || decide ((i:Int)∈G.getD i [])
theorem rc_head {G:Nat→List Nat} {a b:Nat} (h:Tar.Rc G a b):a=b∨∃ k∈G a,Tar.Rc G k b:=by
 induction h with
 | refl=>exact .inl rfl
 | tail h1 e ih=>
   rename_i x c
   rcases ih with rfl | ⟨k,hk,hr⟩
   ·exact .inr ⟨c,e,.refl _⟩
   ·exact .inr ⟨k,hk,hr.tail e⟩
theorem count_two {l:List Int} {i j:Nat} (hij:i≠j) (hi:i < l.length) (hj:j < l.length) (h:l.getD i 0=l.getD j 0):1 < l.count (l.getD i 0):=by
 have key:∀ (l:List Int) (x:Int) (i j:Nat),i < j→l[i]?=some x→l[j]?=some x→1 < l.count x:=by
  intro l
  induction l with
  | nil=>intro x i j _ h;simp at h
  | cons y l ih=>
    intro x i j hlt h1 h2
    cases j with
    | zero=>omega
    | succ j=>
      rw [List.getElem?_cons_succ] at h2
      cases i with
      | zero=>
        simp only [List.getElem?_cons_zero,Option.some.injEq] at h1
        subst h1
        have:=List.count_pos_iff.2 (List.mem_of_getElem? h2)
        rw [List.count_cons_self]
        omega
      | succ i=>
        rw [List.getElem?_cons_succ] at h1
        have:=ih x i j (by omega) h1 h2
        rw [List.count_cons]
        omega
 have h1:=some_getD hi (0:Int)
 have h2:=some_getD hj (0:Int)
 rw [← h] at h2
 rcases Nat.lt_or_gt_of_ne hij with hlt | hlt
 ·exact key l _ i j hlt h1 h2
 ·exact key l _ j i hlt h2 h1
theorem two_count {l:List Int} {i:Nat} (hi:i < l.length) (h:1 < l.count (l.getD i 0)):∃ j,j≠i∧j < l.length∧l.getD j 0=l.getD i 0:=by
 have h1:=some_getD hi (0:Int)
 obtain ⟨x,hx⟩:∃ x,l.getD i 0=x:=⟨_,rfl⟩
 rw [hx] at h h1
 have hs:l=l.take i ++ x :: l.drop (i+1):=by
  have hd:l.drop i=x :: l.drop (i+1):=by rw [List.drop_eq_getElem_cons hi,(List.getElem?_eq_some_iff.1 h1).2]
  rw [← hd,List.take_append_drop]
 have hc:0 < (l.take i).count x∨0 < (l.drop (i+1)).count x:=by
  rw [hs,List.count_append,List.count_cons_self] at h
  omega
 rcases hc with hc | hc
 ·obtain ⟨j,hj⟩:=List.mem_iff_getElem?.1 (List.count_pos_iff.1 hc)
  have hji:j < i:=by
   have:=(List.getElem?_eq_some_iff.1 hj).1
   rw [List.length_take] at this
   omega
  rw [List.getElem?_take_of_lt hji] at hj
  exact ⟨j,by omega,by omega,by rw [hx];exact getD_some hj 0⟩
 ·obtain ⟨j,hj⟩:=List.mem_iff_getElem?.1 (List.count_pos_iff.1 hc)
  rw [List.getElem?_drop] at hj
  exact ⟨i+1+j,by omega,(List.getElem?_eq_some_iff.1 hj).1,by rw [hx];exact getD_some hj 0⟩
theorem cycA_eq (G:List (List Int)) {i:Nat} (hi:i < G.length):cycA G i=cycG G i:=by
 have ok:=compsG_ok G
 have hl:=compsG_len G
 rw [Bool.eq_iff_iff]
 unfold cycA cycG
 rw [Bool.or_eq_true,decide_eq_true_iff,decide_eq_true_iff,decide_eq_true_iff]
 constructor
 ·rintro (h | h)
  ·obtain ⟨j,hji,hj,e⟩:=two_count (l:=compsG G) (i:=i) (by omega) (by omega)
   have:=(ok.same j i (by omega) hi).1 e
   rw [eqG_rc G (by omega) hi] at this
   rcases rc_head this.2 with e0 | ⟨k,hk,hr⟩
   ·exact absurd e0.symm hji
   ·have hk':=(gN_mem G i k).1 hk
    refine ⟨(k:Int),(normG_get G i k).2 ⟨hk'.1,by omega,by omega⟩,?_⟩
    rw [leadsB_nat,← rc_rch G k hk'.2]
    exact hr.trans this.1
  ·refine ⟨(i:Int),(normG_get G i i).2 ⟨h,by omega,by omega⟩,?_⟩
   rw [leadsB_nat]
   exact .base i (by simp) hi
 ·rintro ⟨k,hk,hr⟩
  obtain ⟨h1,h2,h3⟩:=(normG_get G i k).1 hk
  obtain ⟨q,rfl⟩:=Int.eq_ofNat_of_zero_le h2
  rw [leadsB_nat,← rc_rch G q (by omega)] at hr
  by_cases e:q=i
  ·subst e;exact .inr h1
  ·left
   have he:=(ok.same i q hi (by omega)).2 ((eqG_rc G hi (by omega)).2 ⟨Tar.Rc.one ((gN_mem G i q).2 ⟨h1,by omega⟩),hr⟩)
   have:=count_two (l:=compsG G) (Ne.symm e) (by omega) (by omega) he
   omega
theorem cntZ_eq {l:List Int} {c:Nat} (h1:∀ x∈l,0≤x∧x < c) (h2:∀ j,j < c→(j:Int)∈l):cntZ l=c:=by
 have hle:∀ (l:List Int) (a:Int),a≤c→(∀ x∈l,x < c)→l.foldl (fun n k=>if n < k+1 then k+1 else n) a≤c:=by
  intro l
  induction l with
  | nil=>intro a h _;exact h
  | cons x l ih=>
    intro a ha h
    rw [List.foldl_cons]
    refine ih _ ?_ fun y hy=>h y (List.mem_cons_of_mem _ hy)
    have:=h x List.mem_cons_self
    split <;> omega
 have hge:∀ (l:List Int) (a:Int),a≤l.foldl (fun n k=>if n < k+1 then k+1 else n) a∧∀ x∈l,x+1≤l.foldl (fun n k=>if n < k+1 then k+1 else n) a:=by
  intro l
  induction l with
  | nil=>intro a;exact ⟨Int.le_refl _,fun x hx=>by cases hx⟩
  | cons y l ih=>
    intro a
    rw [List.foldl_cons]
    obtain ⟨i1,i2⟩:=ih (if a < y+1 then y+1 else a)
    have hya:y+1≤(if a < y+1 then y+1 else a)∧a≤(if a < y+1 then y+1 else a):=by split <;> omega
    refine ⟨by omega,fun x hx=>?_⟩
    rcases List.mem_cons.1 hx with rfl | hx
    ·omega
    ·exact i2 x hx
 have a1:=hle l 0 (by omega) fun x hx=>(h1 x hx).2
 have a2:=hge l 0
 unfold cntZ
 cases c with
 | zero=>have:=a2.1;omega
 | succ c=>
   have:=a2.2 (c:Int) (h2 c (by omega))
   omega
theorem comps_bound (G:List (List Int)):∀ x∈compsG G,0≤x∧x < cntG G:=by
 intro x hx
 obtain ⟨a,ha⟩:=List.mem_iff_getElem?.1 hx
 have hl:=compsG_len G
 have:=(compsG_ok G).lt a (by have:=(List.getElem?_eq_some_iff.1 ha).1;omega)
 rwa [getD_some ha 0] at this
theorem comps_cnt (G:List (List Int)):cntZ (compsG G)=cntG G:=cntZ_eq (comps_bound G) fun j hj=>by
 have hl:=compsG_len G
 obtain ⟨a,ha,e⟩:=(compsG_ok G).onto j hj
 exact List.mem_iff_getElem?.2 ⟨a,by rw [some_getD (by omega) (0:Int),e]⟩
section
variable {CT:Nat→Option CFun}
def cntV (m:Nat) (l:List Int):List Int:=(List.range m).map fun (k:Nat)=>((l.count (k:Int):Nat):Int)
theorem cntV_len (m:Nat) (l:List Int):(cntV m l).length=m:=by simp [cntV]
theorem cntV_get {m k:Nat} (l:List Int) (hk:k < m):(cntV m l)[k]?=some ((l.count (k:Int):Nat):Int):=by simp [cntV,hk]
theorem cntV_snoc {m k:Nat} (l:List Int) (hk:k < m):(cntV m l).set k (((l.count (k:Int):Nat):Int)+1)=cntV m (l ++ [(k:Int)]):=by
 apply List.ext_getElem?
 intro i
 rw [List.getElem?_set,cntV_len]
 by_cases hi:i < m
 ·rw [cntV_get _ hi,cntV_get _ hi,List.count_append]
  by_cases e:k=i
  ·subst e;simp [hk]
  ·rw [if_neg e]
   have e':¬ ((k:Int)=(i:Int)):=by omega
   simp [List.count_cons,e']
 ·rw [List.getElem?_eq_none (by rw [cntV_len];omega),List.getElem?_eq_none (by rw [cntV_len];omega),if_neg (by omega)]
theorem cntV_nil (m:Nat):cntV m []=List.replicate m 0:=by
 unfold cntV
 rw [show (fun (k:Nat)=>(((([]:List Int).count (k:Int)):Nat):Int))=fun _=>0 by funext k;rfl,List.map_const',List.length_range]
theorem cyc_l0 (base:Nat) {A:Heap} {v cv:V} {l:List Int} {m:Nat} (hb:base≤A.length) (hr:Rd A cv (l.map iV)) (hw:Wide1 cv) (hn:l.length < 2 ^ 40) (hl:∀ x∈l,0≤x∧x < (m:Int)):
 itW (evC (callW CT) itW base s_f14_l0) [] (A.length+1) (frOf 56 [(0,v),(3,cv),(4,.sl A.length 0 0 m 1),(15,cv),(16,.s (.int .i64 l.length)),(17,.s (.int .i64 0))]) (A ++ [.cells 0 ((cntV m []).map iV)])=some (.ext 0,frOf 56 [(0,v),(3,cv),(4,.sl A.length 0 0 m 1),(15,cv),(16,.s (.int .i64 l.length)),(17,.s (.int .i64 l.length)),(18,bl false)],A ++ [.cells 0 ((cntV m l).map iV)]):=by
 have ts:∀ (fr:List V) (o:Ob),Go.AM.trim (A.length+1) fr (A ++ [o])=A ++ [o]:=fun fr o=>trim_same (by simp)
 have hst:∀ i,i < l.length→itW (evC (callW CT) itW base s_f14_l0) [] (A.length+1) (frOf 56 [(0,v),(3,cv),(4,.sl A.length 0 0 m 1),(15,cv),(16,.s (.int .i64 l.length)),(17,.s (.int .i64 i))]) (A ++ [.cells 0 ((cntV m (l.take i)).map iV)])=itW (evC (callW CT) itW base s_f14_l0) [] (A.length+1) (frOf 56 [(0,v),(3,cv),(4,.sl A.length 0 0 m 1),(15,cv),(16,.s (.int .i64 l.length)),(17,.s (.int .i64 (i+1:Nat)))]) (A ++ [.cells 0 ((cntV m (l.take (i+1))).map iV)]):=by
  intro i hi
  have hlt':((i:Int) < (l.length:Int)):=by omega
  have hwk:=w64 (n:=i) (by omega)
  obtain ⟨a,a1,a2⟩:=iV_get (hr.ext (Ext.app A [.cells 0 ((cntV m (l.take i)).map iV)])) hw hi
  have hx:=hl (l.getD i 0) (List.mem_of_getElem? (some_getD hi 0))
  obtain ⟨k,hk⟩:=Int.eq_ofNat_of_zero_le hx.1
  rw [hk] at hx a2
  have hkm:k < m:=by omega
  have hc:getC (A ++ [.cells 0 ((cntV m (l.take i)).map iV)]) A.length 0=some ((cntV m (l.take i)).map iV):=getC_new _ _ _
  obtain ⟨b1,b2⟩:=at_sl (n:=m) hc hkm (w:=iV (((l.take i).count (k:Int):Nat):Int)) (by rw [List.getElem?_map,cntV_get _ hkm];rfl)
  have htk:l.take (i+1)=l.take i ++ [(k:Int)]:=by rw [List.take_add_one,some_getD hi 0,hk];rfl
  have hct:(l.take i).count (k:Int)≤i:=Nat.le_trans List.count_le_length (by rw [List.length_take];omega)
  have hw2:IntKind.i64.wrap ((((l.take i).count (k:Int):Nat):Int)+1)=(((l.take i).count (k:Int):Nat):Int)+1:=by rw [IntKind.wrap_i64];omega
  have st:=storeV_at (v:=iV ((((l.take i).count (k:Int):Nat):Int)+1)) (base:=base) hc hb rfl (off:=k) (by rw [List.length_map,cntV_len];exact hkm)
  rw [set_snoc,← List.map_set,cntV_snoc _ hkm,← htk] at st
  rw [itW_step]
  simp only [iV] at b2 st
  simp only [a_f14,s_f14_l0_b,s_f14_l1_b,aa,bl,i64,reduceIte,reduceCtorEq,Nat.reduceEqDiff,Nat.reduceLT,Nat.reduceLeDiff,Nat.reduceBEq,Nat.reduceAdd,fillA,splice,Nat.reduceMul,amY,op_eqP,hlt',a1,a2,b1,b2,hw2,st,hwk,ts]
 have h2:=it_fun l.length (fun i=>itW (evC (callW CT) itW base s_f14_l0) [] (A.length+1) (frOf 56 [(0,v),(3,cv),(4,.sl A.length 0 0 m 1),(15,cv),(16,.s (.int .i64 l.length)),(17,.s (.int .i64 i))]) (A ++ [.cells 0 ((cntV m (l.take i)).map iV)])) hst 0 (Nat.zero_le _)
 refine h2.trans ?_
 rw [itW_step,List.take_length]
 simp only [bl,a_f14,s_f14_l0_b,s_f14_l1_b,aa,bl,i64,reduceIte,reduceCtorEq,Nat.reduceEqDiff,Nat.reduceLT,Nat.reduceLeDiff,Nat.reduceBEq,Nat.reduceAdd,fillA,splice,Nat.reduceMul,amY,op_eqP,Int.lt_irrefl,ts]
theorem cyc_l1 (hC:CT k_f30=some (.code s_f30)) (hT:CT k_f35=some (.code s_f35)) (base:Nat) {A:Heap} {v cv sv:V} {G:List (List Int)} {m:Nat} (hb:base≤A.length) (hv:RdRows A v (rowsV G)) (hr:Rd A cv ((compsG G).map iV)) (hw:Wide1 cv) (hs:Rd A sv ((cntV m (compsG G)).map iV)) (hsw:Wide1 sv) (hn:G.length < 2 ^ 40) (hrr:∀ r∈G,r.length < 2 ^ 40) (hl:∀ x∈compsG G,0≤x∧x < (m:Int)):
 itW (evC (callW CT) itW base s_f14_l1) [] (A.length+1) (frOf 56 [(0,v),(4,sv),(7,.sl A.length 0 0 G.length 1),(31,cv),(32,.s (.int .i64 G.length)),(33,.s (.int .i64 0))]) (A ++ [.cells 0 (fillV G.length (bV false) [])])=some (.ext 2,frOf 56 [(0,v),(4,sv),(7,.sl A.length 0 0 G.length 1),(31,cv),(32,.s (.int .i64 G.length)),(33,.s (.int .i64 G.length)),(34,bl false)],A ++ [.cells 0 ((cycL G).map bV)]):=by
 have ts:∀ (fr:List V) (o:Ob),Go.AM.trim (A.length+1) fr (A ++ [o])=A ++ [o]:=fun fr o=>trim_same (by simp)
 have hlc:=compsG_len G
 have hst:∀ i,i < G.length→itW (evC (callW CT) itW base s_f14_l1) [] (A.length+1) (frOf 56 [(0,v),(4,sv),(7,.sl A.length 0 0 G.length 1),(31,cv),(32,.s (.int .i64 G.length)),(33,.s (.int .i64 i))]) (A ++ [.cells 0 (fillV G.length (bV false) (((List.range i).map (cycG G)).map bV))])=itW (evC (callW CT) itW base s_f14_l1) [] (A.length+1) (frOf 56 [(0,v),(4,sv),(7,.sl A.length 0 0 G.length 1),(31,cv),(32,.s (.int .i64 G.length)),(33,.s (.int .i64 (i+1:Nat)))]) (A ++ [.cells 0 (fillV G.length (bV false) (((List.range (i+1)).map (cycG G)).map bV))]):=by
  intro i hi
  obtain ⟨o,ho⟩:∃ o,fillV G.length (bV false) (((List.range i).map (cycG G)).map bV)=o:=⟨_,rfl⟩
  have hol:o.length=G.length:=by rw [← ho];exact fillV_len (by simp;omega)
  have hos:∀ x,o.set i x=fillV G.length (bV false) ((((List.range i).map (cycG G)).map bV) ++ [x]):=fun x=>by
   have:=fillV_set (n:=G.length) (z:=bV false) (l:=((List.range i).map (cycG G)).map bV) (by simp;omega) x
   rwa [ho,List.length_map,List.length_map,List.length_range] at this
  have hrs:(((List.range (i+1)).map (cycG G)).map bV)=(((List.range i).map (cycG G)).map bV) ++ [bV (cycG G i)]:=by rw [List.range_succ];simp
  rw [ho,hrs]
  have hlt':((i:Int) < (G.length:Int)):=by omega
  have hwk:=w64 (n:=i) (by omega)
  have he:Ext A (A ++ [.cells 0 o]):=Ext.app _ _
  obtain ⟨a,a1,a2⟩:=iV_get (hr.ext he) hw (k:=i) (by omega)
  have hx:=hl ((compsG G).getD i 0) (List.mem_of_getElem? (some_getD (by omega) 0))
  obtain ⟨k,hk⟩:=Int.eq_ofNat_of_zero_le hx.1
  rw [hk] at hx a2
  obtain ⟨b,b1,b2⟩:=iV_get (hs.ext he) hsw (k:=k) (by rw [cntV_len];omega)
  rw [getD_some (cntV_get _ (by omega)) 0] at b2
  have hc:getC (A ++ [.cells 0 o]) A.length 0=some o:=getC_new _ _ _
  have hixi:(0≤(i:Int)∧(i:Int) < (G.length:Int)∧1=1):=by omega
  have hst:∀ b,storeV (A ++ [.cells 0 o]) base 1 (.s (.bool b)) (.ref A.length 0 i)=some (A ++ [.cells 0 (fillV G.length (bV false) ((((List.range i).map (cycG G)).map bV) ++ [bV b]))]):=fun b=>by
   rw [storeV_at hc hb rfl (by rw [hol];exact hi),set_snoc]
   rw [show (V.s (.bool b))=bV b from rfl,hos]
  have hcy:=cycA_eq G hi
  unfold cycA at hcy
  rw [hk] at hcy
  rw [itW_step]
  cases hcc:decide ((((compsG G).count (k:Int):Nat):Int) > 1) with
  | true=>
    rw [hcc,Bool.true_or] at hcy
    rw [← hcy]
    simp only [a_f14,s_f14_l0_b,s_f14_l1_b,aa,bl,i64,reduceIte,reduceCtorEq,Nat.reduceEqDiff,Nat.reduceLT,Nat.reduceLeDiff,Nat.reduceBEq,Nat.reduceAdd,fillA,splice,Nat.reduceMul,amY,op_eqP,hlt',a1,a2,b1,b2,hcc,hixi,hst,hwk,ts]
  | false=>
    rw [hcc,Bool.false_or] at hcy
    rw [← hcy]
    obtain ⟨ra,rx,r1,r2,r3,r4⟩:=rows_at (hv.ext he) (some_getD hi [])
    have hct:=contains_fun hC hT base r3 r4 (by have:=hrr _ (List.mem_of_getElem? (some_getD hi []));omega) (i:Int)
    simp only [a_f14,s_f14_l0_b,s_f14_l1_b,aa,bl,i64,reduceIte,reduceCtorEq,Nat.reduceEqDiff,Nat.reduceLT,Nat.reduceLeDiff,Nat.reduceBEq,Nat.reduceAdd,fillA,splice,Nat.reduceMul,amY,op_eqP,hlt',a1,a2,b1,b2,hcc,hixi,r1,r2,hct,hst,hwk,ts]
 have h2:=it_fun G.length (fun i=>itW (evC (callW CT) itW base s_f14_l1) [] (A.length+1) (frOf 56 [(0,v),(4,sv),(7,.sl A.length 0 0 G.length 1),(31,cv),(32,.s (.int .i64 G.length)),(33,.s (.int .i64 i))]) (A ++ [.cells 0 (fillV G.length (bV false) (((List.range i).map (cycG G)).map bV))])) hst 0 (Nat.zero_le _)
 refine h2.trans ?_
 rw [itW_step,fillV_full (by simp)]
 simp only [bl,a_f14,s_f14_l0_b,s_f14_l1_b,aa,bl,i64,reduceIte,reduceCtorEq,Nat.reduceEqDiff,Nat.reduceLT,Nat.reduceLeDiff,Nat.reduceBEq,Nat.reduceAdd,fillA,splice,Nat.reduceMul,amY,op_eqP,Int.lt_irrefl,ts,cycL]
structure CY (CT:Nat→Option CFun):Prop where
 c:CC CT
 cyc:CT k_f14=some (.code s_f14)
 cnt:CT k_f29=some (.code s_f29)
 con:CT k_f30=some (.code s_f30)
theorem cyclic_f (h:CY CT) (base:Nat) (H:Heap) (v:V) (G:List (List Int)) (hv:RdRows H v (rowsV G)) (hb:base≤H.length) (hn:G.length < 2 ^ 32) (hr:∀ r∈G,r.length < 2 ^ 40):
 ∃ v' H',callW CT (.fn k_f14 [] []) [v] base H=some (v',H')∧Ext H H'∧OwnN H.length H' v' ((cycL G).map bV):=by
 obtain ⟨cv,A,p1,p2,p3⟩:=comps_f h.c base H v G hv hb hn hr
 have hle:=p2.le
 have hlc:=compsG_len G
 have hbd:=comps_bound G
 have hcl:=cntG_le G
 have hcnt:=count_fun h.cnt base p3.rd p3.wide (by omega) (fun x hx=>by have:=hbd x hx;omega)
 rw [comps_cnt] at hcnt
 have hmk:=fun H=>make_n (H:=H) (zero:=[.s (.int .i64 0)]) (sz:=1) (bytes:=8) (k:=.i64) (k':=.i64) (n:=cntG G) (by omega)
 have hmk2:=fun H=>make_n (H:=H) (zero:=[.s (.bool false)]) (sz:=1) (bytes:=1) (k:=.i64) (k':=.i64) (n:=G.length) (by omega)
 simp only [flat_one] at hmk hmk2
 have hl0:=cyc_l0 (CT:=CT) base (v:=v) (m:=cntG G) (by omega) p3.rd p3.wide (by omega) hbd
 have hz:(cntV (cntG G) []).map iV=List.replicate (cntG G) (.s (.int .i64 0)):=by rw [cntV_nil,List.map_replicate];rfl
 have hz2:fillV G.length (bV false) []=List.replicate G.length (.s (.bool false)):=by simp [fillV,bV]
 have hcvl:=fun H'=>iV_len (p3.rd.ext (Ext.app A H'))
 have hcvl2:=fun o H'=>iV_len ((p3.rd.ext (Ext.app A [o])).ext (Ext.app (A ++ [o]) H'))
 have hvl:=rows_lenV hv
 have e1:∀ ob:Ob,(A ++ [ob]).length=A.length+1:=fun ob=>by simp
 have e2:∀ ob ob2:Ob,(A ++ [ob] ++ [ob2]).length=A.length+2:=fun ob ob2=>by simp
 have hsv:Rd (A ++ [.cells 0 ((cntV (cntG G) (compsG G)).map iV)]) (.sl A.length 0 0 (cntG G) 1) ((cntV (cntG G) (compsG G)).map iV):=by
  have:=getC_sl (getC_new A 0 ((cntV (cntG G) (compsG G)).map iV))
  rwa [List.length_map,cntV_len] at this
 have hl1:=cyc_l1 h.con h.c.index base (A:=A ++ [.cells 0 ((cntV (cntG G) (compsG G)).map iV)]) (v:=v) (cv:=cv) (sv:=.sl A.length 0 0 (cntG G) 1) (G:=G) (m:=cntG G) (by rw [e1];omega) (hv.ext (p2.trans (Ext.app _ _))) (p3.rd.ext (Ext.app _ _)) p3.wide hsv trivial (by omega) hr hbd
 rw [e1,hz2] at hl1
 rw [hz,hlc] at hl0
 simp only [hlc] at hcvl hcvl2
 refine ⟨.sl (A.length+1) 0 0 G.length 1,A ++ [.cells 0 ((cntV (cntG G) (compsG G)).map iV)] ++ [.cells 0 ((cycL G).map bV)],callW_fn (c:=s_f14) h.cyc (by simp [s_f14]) ?_,(p2.trans (Ext.app _ _)).trans (Ext.app _ _),?_⟩
 ·simp only [bl] at hl0 hl1
  simp only [s_f14,a_f14,s_f14_l0_b,s_f14_l1_b,aa,bl,i64,reduceIte,reduceCtorEq,Nat.reduceEqDiff,Nat.reduceLT,Nat.reduceLeDiff,Nat.reduceBEq,Nat.reduceAdd,fillA,splice,Nat.reduceMul,amY,op_eqP,p1,hcnt,op_mkSl,hmk,hcvl,e1,hl0,hvl,hmk2,hcvl2,e2,hl1]
  trace_state
 ·have hg:=getC_new (A ++ [Ob.cells 0 ((cntV (cntG G) (compsG G)).map iV)]) 0 ((cycL G).map bV)
  rw [e1] at hg
  have hll:(cycL G).length=G.length:=by simp [cycL]
  refine .inr ⟨A.length+1,0,(cycL G).map bV,?_,hg,Nat.le_refl _,List.take_length,by omega⟩
  rw [List.length_map,hll]
end
end Go.Proofs.Ytchekhggdbcbbaa
set_option maxRecDepth 100000
namespace Go.Proofs.Ytchekhggdbcbbaa
open Go.AM
def fStep (c:List Int) (i:Nat) (R:List (List Int)) (k:Int):List (List Int):=bif c.getD i 0 == c.getD k.toNat 0 then R else bump (c.getD k.toNat 0) R (c.getD i 0)
def fRow (c:List Int) (i:Nat) (r:List Int) (R:List (List Int)):List (List Int):=r.foldl (fStep c i) R
def fFrom (c:List Int):Nat→List (List Int)→List (List Int)→List (List Int)
 | _,[],R=>R
 | i,r :: N,R=>fFrom c (i+1) N (fRow c i r R)
theorem fStep_len (c:List Int) (i:Nat) (R:List (List Int)) (k:Int):(fStep c i R k).length=R.length:=by
 unfold fStep
 cases c.getD i 0 == c.getD k.toNat 0 <;> simp [bump_len]
theorem fRow_len (c:List Int) (i:Nat):∀ (r:List Int) (R:List (List Int)),(fRow c i r R).length=R.length:=by
 intro r
 induction r with
 | nil=>intro R;rfl
 | cons k r ih=>intro R;exact (ih _).trans (fStep_len c i R k)
theorem fFrom_len (c:List Int):∀ (N:List (List Int)) (i:Nat) (R:List (List Int)),(fFrom c i N R).length=R.length:=by
 intro N
 induction N with
 | nil=>intro i R;rfl
 | cons r N ih=>intro i R;rw [fFrom,ih,fRow_len]
theorem fStep_le {c:List Int} {i:Nat} {R:List (List Int)} {k:Int} {B:Nat} (h:∀ q∈R,q.length+1≤B) (hk:(c.getD i 0).toNat < R.length):∀ q∈fStep c i R k,q.length≤B:=by
 unfold fStep
 cases c.getD i 0 == c.getD k.toNat 0 with
 | true=>intro q hq;have:=h q hq;omega
 | false=>exact bump_le h hk
theorem fRow_le (c:List Int) (i:Nat):∀ (r:List Int) (R:List (List Int)) (B:Nat),(c.getD i 0).toNat < R.length→(∀ q∈R,q.length+r.length≤B)→∀ q∈fRow c i r R,q.length≤B:=by
 intro r
 induction r with
 | nil=>intro R B _ h q hq;have:=h q hq;simp at this;exact this
 | cons k r ih=>
   intro R B hk h q hq
   refine ih (fStep c i R k) B (by rw [fStep_len];exact hk) (fun q hq=>?_) q hq
   have h0:r.length+1≤B:=by
    have:=h _ (List.mem_of_getElem? (some_getD hk []))
    simp only [List.length_cons] at this
    omega
   have:=fStep_le (B:=B - r.length) (k:=k) (fun q hq=>by have:=h q hq;simp only [List.length_cons] at this;omega) hk q hq
   omega
theorem late_f10 (call:CallF) (base:Nat) (fr:List V) (H:Heap) (f:List V) (h:apartO (V.obj? (ev f (.t 40))) (V.appObj (ev f (.t 48)))=true):lateOk call base s_f17_r10 fr H f (4,17)=true:=by
 unfold lateOk
 rw [apartAt_eq]
 simp only [s_f17_r10,List.getD_cons_zero,List.getD_cons_succ,apartP_load_app,h,Bool.true_or]
theorem fold_inner (call:CallF) (base i o m L n q:Nat) (nv row cv:V) (c r:List Int) (A:Heap) (hA:A.length=m) (ho:o < m) (hb:base≤o) (hL:m≤L) (hrow:∀ ob,Rd (A.set o ob) row (r.map iV)) (hw:Wide1 row) (hcv:∀ ob,Rd (A.set o ob) cv (c.map iV)) (hcw:Wide1 cv) (hi:i < c.length) (hin:∀ x∈r,0≤x∧x < (c.length:Int)) (hcb:∀ x∈c,0≤x∧x < (q:Int)) (hr:r.length < 2 ^ 40):
 ∀ (rest:List Int) (k:Nat) (H:Heap) (vs:List V) (R:List (List Int)),r.drop k=rest→k≤r.length→L≤H.length→Ext (A.set o (.cells 0 vs)) H→getC H o 0=some vs→Bag m H vs (rowsV R)→R.length=q→(∀ q∈R,q.length+rest.length≤2 ^ 43)→
 ∃ H' vs',itW (evC call itW base s_f17_l0) [] L (frOf 60 [(3,cv),(4,.sl o 0 0 q 1),(5,.s (.int .i64 i)),(15,nv),(16,.s (.int .i64 n)),(17,.s (.int .i64 i)),(22,row),(23,.s (.int .i64 r.length)),(24,.s (.int .i64 k))]) H=
   some (.ext 2,frOf 60 [(3,cv),(4,.sl o 0 0 q 1),(5,.s (.int .i64 i)),(15,nv),(16,.s (.int .i64 n)),(17,.s (.int .i64 i)),(22,row),(23,.s (.int .i64 r.length)),(24,.s (.int .i64 r.length)),(25,.s (.bool false))],H')∧
   L≤H'.length∧Ext (A.set o (.cells 0 vs')) H'∧getC H' o 0=some vs'∧Bag m H' vs' (rowsV (fRow c i rest R)):=by
 intro rest
 induction rest with
 | nil=>
   intro k H vs R hd hk hLH he hc hB hR hq
   obtain rfl:=drop_nil hd hk
   refine ⟨trim L (frOf 60 [(3,cv),(4,.sl o 0 0 q 1),(5,.s (.int .i64 i)),(15,nv),(16,.s (.int .i64 n)),(17,.s (.int .i64 i)),(22,row),(23,.s (.int .i64 r.length)),(24,.s (.int .i64 r.length)),(25,.s (.bool false))]) H,vs,?_,trim_le hLH,he.trim (by rw [List.length_set];omega) _,trim_get hc (by omega),hB.trim hc (by omega) _⟩
   rw [itW_step]
   simp only [a_f17,s_f17_l0_b,s_f17_l1_b,aa,bl,i64,reduceIte,reduceCtorEq,Nat.reduceEqDiff,Nat.reduceLT,Nat.reduceLeDiff,Nat.reduceBEq,Nat.reduceAdd,fillA,splice,Nat.reduceMul,amY,op_eqP,Int.lt_irrefl]
 | cons x rest ih=>
   intro k H vs R hd hk hLH he hc hB hR hq
   obtain ⟨hx,hlt,hd'⟩:=drop_cons hd
   obtain ⟨hx0,hxn⟩:=hin x (List.mem_of_getElem? hx)
   obtain ⟨y,rfl⟩:=Int.eq_ofNat_of_zero_le hx0
   have hyn:y < c.length:=by omega
   have hAH:=he.le
   rw [List.length_set] at hAH
   have hwk:=wrap_pos (n:=k) (by omega)
   have hlt':(k:Int) < (r.length:Int):=by omega
   obtain ⟨a,a1,a2⟩:=iV_at ((hrow _).ext he) hw hx
   obtain ⟨b,b1,b2,b3⟩:=(hcv _).look he hcw (i:=i) (x:=iV (c.getD i 0)) (by rw [List.getElem?_map,some_getD hi 0];rfl)
   obtain ⟨d,d1,d2⟩:=iV_get ((hcv _).ext he) hcw (k:=y) (by omega)
   obtain ⟨ci,hci⟩:=Int.eq_ofNat_of_zero_le (hcb _ (List.mem_of_getElem? (some_getD hi (0:Int)))).1
   have hciq:=hcb _ (List.mem_of_getElem? (some_getD hi (0:Int)))
   rw [hci] at hciq b2
   have hcq:ci < q:=by omega
   rw [List.length_set,hA] at b3
   have hstep:fRow c i ((y:Int) :: rest) R=fRow c i rest (fStep c i R y):=rfl
   cases hne:(c.getD i 0 == c.getD y 0) with
   | true=>
     have hs:fStep c i R y=R:=by unfold fStep;rw [Int.toNat_natCast,hne];rfl
     have hcc:(((ci:Nat):Int) != c.getD y 0)=false:=by rw [← hci,bne,hne];rfl
     obtain ⟨H',vs',p1,p2,p3,p4,p5⟩:=ih (k+1) (trim L (frOf 60 [(3,cv),(4,.sl o 0 0 q 1),(5,.s (.int .i64 i)),(15,nv),(16,.s (.int .i64 n)),(17,.s (.int .i64 i)),(22,row),(23,.s (.int .i64 r.length)),(24,.s (.int .i64 ((k+1:Nat):Int)))]) H) vs R hd' (by omega) (trim_le hLH) (he.trim (by rw [List.length_set];omega) _) (trim_get hc (by omega)) (hB.trim hc (by omega) _) hR (fun q0 h0=>by have:=hq q0 h0;rw [List.length_cons] at this;omega)
     refine ⟨H',vs',?_,p2,p3,p4,by rw [hstep,hs];exact p5⟩
     rw [itW_step]
     simp only [iV] at b2
     simp only [a_f17,s_f17_l0_b,s_f17_l1_b,aa,bl,i64,reduceIte,reduceCtorEq,Nat.reduceEqDiff,Nat.reduceLT,Nat.reduceLeDiff,Nat.reduceBEq,Nat.reduceAdd,fillA,splice,Nat.reduceMul,amY,op_eqP,hlt',a1,a2,b1,b2,d1,d2,hcc,hwk]
     exact p1
   | false=>
     have hs:fStep c i R y=bump (c.getD y 0) R (c.getD i 0):=by unfold fStep;rw [Int.toNat_natCast,hne];rfl
     have hcc:(((ci:Nat):Int) != c.getD y 0)=true:=by rw [← hci,bne,hne];rfl
     have hRj:R[ci]?=some (R.getD ci []):=some_getD (by omega) []
     have hmem:R.getD ci []∈R:=List.mem_of_getElem? hRj
     have hqj:=hq _ hmem
     rw [List.length_cons] at hqj
     obtain ⟨w,v',H1,hw1,happ,hv1,hc1,hm1,hB1,hE1⟩:=hB.append (base:=base) (bytes:=8) (x:=iV (c.getD y 0)) hc ho (by omega) (by omega) (rowsV_get hRj) rfl (by rw [List.length_map];omega)
     obtain ⟨hb1,hb2⟩:=at_sl (n:=q) hc hcq hw1
     have hst:=storeV_at (v:=v') (base:=base) hc1 hb hv1 (off:=ci) (by rw [hB.1,rowsV_len];omega)
     have he1:=hE1 _ (by rw [List.length_set];omega) he
     have he2:=he1.set_both (o:=o) (by rw [List.length_set];omega) (.cells 0 (vs.set ci v'))
     rw [List.set_set] at he2
     have hc2:=getC_put (c':=vs.set ci v') hc1
     have hbp:bump (c.getD y 0) R (c.getD i 0)=R.set ci (R.getD ci [] ++ [c.getD y 0]):=by rw [hci];unfold bump;rw [Int.toNat_natCast]
     rw [← rowsV_set,← hbp] at hB1
     obtain ⟨H',vs',p1,p2,p3,p4,p5⟩:=ih (k+1) (trim L (frOf 60 [(3,cv),(4,.sl o 0 0 q 1),(5,.s (.int .i64 i)),(15,nv),(16,.s (.int .i64 n)),(17,.s (.int .i64 i)),(22,row),(23,.s (.int .i64 r.length)),(24,.s (.int .i64 ((k+1:Nat):Int)))]) (H1.set o (.cells 0 (vs.set ci v')))) (vs.set ci v') (bump (c.getD y 0) R (c.getD i 0)) hd' (by omega) (trim_le (by rw [List.length_set];omega)) (he2.trim (by rw [List.length_set];omega) _) (trim_get hc2 (by omega)) (hB1.trim hc2 (by omega) _) (by rw [bump_len];exact hR) (by
      intro q0 hqm
      have:=bump_le (i:=c.getD y 0) (R:=R) (k:=c.getD i 0) (B:=2 ^ 43 - rest.length) (fun q hq1=>by have:=hq q hq1;rw [List.length_cons] at this;omega) (by rw [hci,Int.toNat_natCast];omega) q0 hqm
      omega)
     refine ⟨H',vs',?_,p2,p3,p4,by rw [hstep,hs];exact p5⟩
     obtain ⟨hw2,hw3⟩:=hB.own hw1
     have hl2:=b3 w hw2 hw3
     have hixq:(0≤(ci:Int)∧(ci:Int) < (q:Int)∧1=1):=by omega
     rw [itW_step]
     simp only [iV] at b2 happ
     simp only [a_f17,s_f17_l0_b,s_f17_l1_b,aa,bl,i64,reduceIte,reduceCtorEq,Nat.reduceEqDiff,Nat.reduceLT,Nat.reduceLeDiff,Nat.reduceBEq,Nat.reduceAdd,fillA,splice,Nat.reduceMul,amY,op_eqP,hlt',a1,a2,b1,b2,d1,d2,hcc,hwk,s_f17_r10_x,hb1,hb2,happ,hixq,hst,opsK_some,late_f10,hl2]
     exact p1
theorem fold_outer (call:CallF) (base o m L n q:Nat) (nv cv:V) (c:List Int) (N:List (List Int)) (A:Heap) (hA:A.length=m) (ho:o < m) (hb:base≤o) (hL:m≤L) (hnv:OwnRows (o+1) A nv (rowsV N)) (hN:N.length=n) (hcn:c.length=n) (hcv:∀ ob,Rd (A.set o ob) cv (c.map iV)) (hcw:Wide1 cv) (hin:∀ r∈N,∀ x∈r,0≤x∧x < (n:Int)) (hcb:∀ x∈c,0≤x∧x < (q:Int)) (hr:∀ r∈N,r.length < 2 ^ 40) (hn:n < 2 ^ 40):
 ∀ (rest:List (List Int)) (i:Nat) (H:Heap) (vs:List V) (R:List (List Int)),N.drop i=rest→i≤n→L≤H.length→Ext (A.set o (.cells 0 vs)) H→getC H o 0=some vs→Bag m H vs (rowsV R)→R.length=q→(∀ q∈R,q.length+sumLen rest≤2 ^ 43)→
 ∃ H' vs',itW (evC call itW base s_f17_l1) [] L (frOf 60 [(3,cv),(4,.sl o 0 0 q 1),(15,nv),(16,.s (.int .i64 n)),(17,.s (.int .i64 i))]) H=
   some (.ext 0,frOf 60 [(3,cv),(4,.sl o 0 0 q 1),(15,nv),(16,.s (.int .i64 n)),(17,.s (.int .i64 n)),(18,.s (.bool false))],H')∧
   L≤H'.length∧Ext (A.set o (.cells 0 vs')) H'∧getC H' o 0=some vs'∧Bag m H' vs' (rowsV (fFrom c i rest R)):=by
 intro rest
 induction rest with
 | nil=>
   intro i H vs R hd hi hLH he hc hB hR hq
   have hin:=drop_nil hd (by omega)
   rw [hN] at hin
   subst hin
   refine ⟨trim L (frOf 60 [(3,cv),(4,.sl o 0 0 q 1),(15,nv),(16,.s (.int .i64 i)),(17,.s (.int .i64 i)),(18,.s (.bool false))]) H,vs,?_,trim_le hLH,he.trim (by rw [List.length_set];omega) _,trim_get hc (by omega),hB.trim hc (by omega) _⟩
   rw [itW_step]
   simp only [a_f17,s_f17_l0_b,s_f17_l1_b,aa,bl,i64,reduceIte,reduceCtorEq,Nat.reduceEqDiff,Nat.reduceLT,Nat.reduceLeDiff,Nat.reduceBEq,Nat.reduceAdd,fillA,splice,Nat.reduceMul,amY,op_eqP,Int.lt_irrefl]
 | cons r rest ih=>
   intro i H vs R hd hi hLH he hc hB hR hq
   obtain ⟨hx,hlt,hd'⟩:=drop_cons hd
   rw [hN] at hlt
   have hmem:r∈N:=List.mem_of_getElem? hx
   obtain ⟨nid,ng,nvs,rfl,hnc,hnm,hnl,hnr⟩:=hnv
   obtain ⟨x,hx1,hx2⟩:=hnr i _ (rowsV_get hx)
   have hni:nid≠o:=by omega
   have hAH:=he.le
   rw [List.length_set] at hAH
   have hnc':getC H nid ng=some nvs:=getC_ext (by rw [getC_other hni];exact hnc) he
   obtain ⟨ha1,ha2⟩:=at_sl hnc' (n:=N.length) (by omega) hx1
   rw [hN] at ha1
   have hxl:xLen H .s x=some (.s (.int .i64 r.length)):=by
    have:=((hx2.set (by omega) (.cells 0 vs)).ext he).rd.len
    rwa [List.length_map] at this
   have hs:sumLen (r :: rest)=r.length+sumLen rest:=rfl
   obtain ⟨H1,vs1,p1,p2,p3,p4,p5⟩:=fold_inner call base i o m H.length n q (.sl nid ng 0 n 1) x cv c r A hA ho hb (by omega) (fun ob=>(hx2.set (by omega) ob).rd) hx2.wide hcv hcw (by omega) (fun x hx=>by rw [hcn];exact hin r hmem x hx) hcb (hr r hmem) r 0 H vs R rfl (Nat.zero_le _) (Nat.le_refl _) he hc hB hR (fun q hqm=>by have:=hq q hqm;omega)
   rw [cast0] at p1
   have hw:=wrap_pos (n:=i) (by omega)
   have hlt':(i:Int) < (n:Int):=by omega
   have hciq:=hcb _ (List.mem_of_getElem? (some_getD (show i < c.length by omega) (0:Int)))
   obtain ⟨H',vs',q1,q2,q3,q4,q5⟩:=ih (i+1) (trim L (frOf 60 [(3,cv),(4,.sl o 0 0 q 1),(15,.sl nid ng 0 n 1),(16,.s (.int .i64 n)),(17,.s (.int .i64 ((i+1:Nat):Int)))]) H1) vs1 (fRow c i r R) hd' (by omega) (trim_le (by omega)) (p3.trim (by rw [List.length_set];omega) _) (trim_get p4 (by omega)) (p5.trim p4 (by omega) _) (by rw [fRow_len];exact hR) (fun q0 hqm=>by
    have:=fRow_le c i r R (2 ^ 43 - sumLen rest) (by rw [hR];omega) (fun q hq1=>by have:=hq q hq1;omega) q0 hqm
    have h0:sumLen rest≤2 ^ 43:=by
     match R,hR with
     | [],h=>simp at h;omega
     | q0 :: _,_=>have:=hq q0 List.mem_cons_self;omega
    omega)
   refine ⟨H',vs',?_,q2,q3,q4,q5⟩
   rw [rowsV_len,hN] at *
   rw [itW_step]
   simp only [a_f17,s_f17_l0_b,s_f17_l1_b,aa,bl,i64,reduceIte,reduceCtorEq,Nat.reduceEqDiff,Nat.reduceLT,Nat.reduceLeDiff,Nat.reduceBEq,Nat.reduceAdd,fillA,splice,Nat.reduceMul,amY,op_eqP,hlt',hw,ha1,ha2,hxl,p1]
   exact q1
noncomputable def rawG (G:List (List Int)):List (List Int):=fFrom (compsG G) 0 (normG G) (List.replicate (cntG G) [])
noncomputable def foldG (G:List (List Int)):List (List Int):=normG (rawG G)
theorem rawG_len (G:List (List Int)):(rawG G).length=cntG G:=by rw [rawG,fFrom_len,List.length_replicate]
theorem foldG_len (G:List (List Int)):(foldG G).length=cntG G:=by rw [foldG,normG_len,rawG_len]
theorem fFrom_le (c:List Int) (q:Nat) (hcb:∀ x∈c,0≤x∧x < (q:Int)):∀ (N:List (List Int)) (i:Nat) (R:List (List Int)) (B:Nat),i+N.length≤c.length→R.length=q→(∀ q∈R,q.length+sumLen N≤B)→∀ q∈fFrom c i N R,q.length≤B:=by
 intro N
 induction N with
 | nil=>intro i R B _ _ h q hq;have:=h q hq;simp [sumLen] at this;exact this
 | cons r N ih=>
   intro i R B hi hR h q0 hq
   have hil:i < c.length:=by simp at hi;omega
   have hc:=hcb _ (List.mem_of_getElem? (some_getD hil (0:Int)))
   have h0:r.length+sumLen N≤B:=by
    have:=h _ (List.mem_of_getElem? (some_getD (show 0 < R.length by omega) []))
    have e:sumLen (r :: N)=r.length+sumLen N:=rfl
    omega
   refine ih (i+1) (fRow c i r R) B (by simp at hi;omega) (by rw [fRow_len];exact hR) (fun q hq=>?_) q0 hq
   have:=fRow_le c i r R (B - sumLen N) (by rw [hR];omega) (fun q hq=>by
    have:=h q hq
    have e:sumLen (r :: N)=r.length+sumLen N:=rfl
    omega) q hq
   omega
theorem rawG_le (G:List (List Int)):∀ q∈rawG G,q.length≤sumLen (normG G):=fFrom_le (compsG G) (cntG G) (comps_bound G) (normG G) 0 _ _ (by rw [normG_len,compsG_len];omega) (by simp) (fun q hq=>by rw [(List.mem_replicate.1 hq).2];simp)
section
variable {CT:Nat→Option CFun}
structure CO (CT:Nat→Option CFun):Prop where
 y:CY CT
 fold:CT k_f17=some (.code s_f17)
theorem fold_f (h:CO CT) (base:Nat) (H:Heap) (v:V) (G:List (List Int)) (hv:RdRows H v (rowsV G)) (hb:base≤H.length) (hn:G.length < 2 ^ 18) (hr:∀ r∈G,r.length < 2 ^ 18):
 ∃ v' H',callW CT (.fn k_f17 [] []) [v] base H=some (v',H')∧Ext H H'∧OwnRows H.length H' v' (rowsV (foldG G)):=by
 have hr40:∀ r∈G,r.length < 2 ^ 40:=fun r h=>by have:=hr r h;omega
 obtain ⟨cv,A,p1,p2,p3⟩:=comps_f h.y.c base H v G hv hb (by omega) hr40
 have hle:=p2.le
 have hlc:=compsG_len G
 have hbd:=comps_bound G
 have hcl:=cntG_le G
 have hcnt:=count_fun h.y.cnt base p3.rd p3.wide (by omega) (fun x hx=>by have:=hbd x hx;omega)
 rw [comps_cnt] at hcnt
 have hmk:=fun H=>make_n (H:=H) (zero:=[nilS]) (sz:=1) (bytes:=24) (k:=.i64) (k':=.i64) (n:=cntG G) (by omega)
 simp only [flat_one] at hmk
 have e1:∀ ob:Ob,(A ++ [ob]).length=A.length+1:=fun ob=>by simp
 obtain ⟨nv,B,n1,n2,n3⟩:=norm_f h.y.c.g base (A ++ [.cells 0 (List.replicate (cntG G) nilS)]) v G (hv.ext (p2.trans (Ext.app _ _))) (by rw [e1];omega) (by omega) hr40
 rw [e1] at n3
 have hBl:=n2.le
 rw [e1] at hBl
 have hc:getC B A.length 0=some (List.replicate (cntG G) nilS):=getC_ext (getC_new A 0 _) n2
 have hN:=normG_len G
 have hcvB:∀ ob,Rd (B.set A.length ob) cv ((compsG G).map iV):=fun ob=>p3.rd.ext (((Ext.app _ _).trans n2).set (Nat.le_refl _) _)
 have hsl:=sumLen_le (b:=2 ^ 18) (normG G) (fun r hr'=>Nat.le_of_lt (normG_small hr r hr'))
 rw [hN] at hsl
 have hsl2:sumLen (normG G)≤2 ^ 36:=Nat.le_trans hsl (Nat.le_trans (Nat.mul_le_mul_right _ (Nat.le_of_lt hn)) (by decide))
 obtain ⟨C,vs,q1,q2,q3,q4,q5⟩:=fold_outer (callW CT) base A.length B.length B.length G.length (cntG G) nv cv (compsG G) (normG G) B rfl (by omega) (by omega) (Nat.le_refl _) n3 hN hlc hcvB p3.wide (fun r hr' x hx=>normG_in hr' hx) hbd (normG_small hr40) (by omega) (normG G) 0 B (List.replicate (cntG G) nilS) (List.replicate (cntG G) []) rfl (Nat.zero_le _) (Nat.le_refl _) (by rw [getC_same hc];exact Ext.refl B) hc (by have:=Bag.start B.length B (cntG G);rwa [show rowsV (List.replicate (cntG G) [])=List.replicate (cntG G) [] by simp [rowsV]]) (by simp) (fun q hq=>by
  rw [(List.mem_replicate.1 hq).2,List.length_nil]
  omega)
 rw [cast0] at q1
 have hraw:RdRows C (.sl A.length 0 0 (cntG G) 1) (rowsV (rawG G)):=by
  have:=q5.rows q4
  rwa [rowsV_len,show (fFrom (compsG G) 0 (normG G) (List.replicate (cntG G) [])).length=cntG G from rawG_len G] at this
 have hAB:Ext A (B.set A.length (.cells 0 vs)):=((Ext.app _ _).trans n2).set (Nat.le_refl _) _
 have hHC:Ext H C:=(p2.trans hAB).trans q3
 have hCl:=q3.le
 rw [List.length_set] at hCl
 obtain ⟨ov,D,m1,m2,m3⟩:=norm_f h.y.c.g base C (.sl A.length 0 0 (cntG G) 1) (rawG G) hraw (by omega) (by rw [rawG_len];omega) (fun r hr'=>by have:=rawG_le G r hr';omega)
 have hnl:xLen B .s nv=some (.s (.int .i64 G.length)):=by have:=n3.rd.len;rwa [rowsV_len,hN] at this
 refine ⟨ov,D,callW_fn (c:=s_f17) h.fold (by simp [s_f17]) ?_,hHC.trans m2,?_⟩
 ·simp only [nilS] at hmk n1
  simp only [s_f17,a_f17,s_f17_l0_b,s_f17_l1_b,aa,bl,i64,reduceIte,reduceCtorEq,Nat.reduceEqDiff,Nat.reduceLT,Nat.reduceLeDiff,Nat.reduceBEq,Nat.reduceAdd,fillA,splice,Nat.reduceMul,amY,op_eqP,p1,hcnt,op_mkSl,hmk,n1,hnl,q1,m1]
  trace_state
 ·obtain ⟨id,g,vs,h1,h2,h3,h4⟩:=m3
  exact ⟨id,g,vs,h1,h2,by have:=hHC.le;omega,h4⟩
end
end Go.Proofs.Ytchekhggdbcbbaa
namespace Go.AM
def freeF (F:List (List Int)) (S:List Int) (c:Nat):Bool:=!(S.contains (c:Int)) && (List.range F.length).all fun i=>!((F.getD i []).contains (c:Int)) || S.contains (i:Int)
def nxtF (F:List (List Int)) (S:List Int):Option Nat:=(List.range F.length).find? (freeF F S)
def ordN (F:List (List Int)):Nat→List Int→List Int
 | 0,S=>S
 | m+1,S=>match nxtF F S with
   | none=>S
   | some c=>ordN F m (S ++ [(c:Int)])
def ordG (F:List (List Int)):List Int:=ordN F F.length []
theorem freeF_iff (F:List (List Int)) (S:List Int) (c:Nat):freeF F S c=true↔(c:Int) ∉ S∧∀ i,i < F.length→(c:Int)∈F.getD i []→(i:Int)∈S:=by
 unfold freeF
 rw [Bool.and_eq_true,List.all_eq_true]
 simp only [Bool.not_eq_true',List.contains_eq_mem,decide_eq_false_iff_not,List.mem_range,Bool.or_eq_true,decide_eq_true_iff]
 refine and_congr_right fun _=>forall_congr' fun i=>forall_congr' fun _=>?_
 constructor
 ·rintro (h | h) h2
  ·exact absurd h2 h
  ·exact h
 ·intro h
  by_cases h2:(c:Int)∈F.getD i []
  ·exact .inr (h h2)
  ·exact .inl h2
theorem nxtF_some {F:List (List Int)} {S:List Int} {c:Nat} (h:nxtF F S=some c):c < F.length∧freeF F S c=true∧∀ j,j < c→freeF F S j=false:=by
 unfold nxtF at h
 have h1:=List.find?_some h
 have h2:=List.mem_range.1 (List.mem_of_find?_eq_some h)
 refine ⟨h2,h1,fun j hj=>?_⟩
 obtain ⟨_,u1,u2,e,hn⟩:=List.find?_eq_some_iff_append.1 h
 have hjm:j∈u1:=by
  have hl:(List.range F.length)[j]?=some j:=List.getElem?_range (by omega)
  have hc:(List.range F.length)[u1.length]?=some c:=by rw [e,List.getElem?_append_right (Nat.le_refl _)];simp
  rw [List.getElem?_range (by have:=(List.getElem?_eq_some_iff.1 hc).1;simpa using this)] at hc
  have hc':u1.length=c:=by simpa using hc
  rw [e,List.getElem?_append_left (by omega)] at hl
  exact List.mem_of_getElem? hl
 have:=hn j hjm
 simpa using this
theorem nxtF_none {F:List (List Int)} {S:List Int} (h:nxtF F S=none):∀ c,c < F.length→freeF F S c=false:=by
 intro c hc
 have:=List.find?_eq_none.1 h c (List.mem_range.2 hc)
 simpa using this
theorem nxtF_of {F:List (List Int)} {S:List Int} {c:Nat} (h1:c < F.length) (h2:freeF F S c=true) (h3:∀ j,j < c→freeF F S j=false):nxtF F S=some c:=by
 cases h:nxtF F S with
 | none=>have:=nxtF_none h c h1;rw [h2] at this;cases this
 | some d=>
   obtain ⟨d1,d2,d3⟩:=nxtF_some h
   rcases Nat.lt_trichotomy c d with hlt | rfl | hlt
   ·have:=d3 c hlt;rw [h2] at this;cases this
   ·rfl
   ·have:=h3 d hlt;rw [d2] at this;cases this
theorem nxtF_no {F:List (List Int)} {S:List Int} (h:∀ c,c < F.length→freeF F S c=false):nxtF F S=none:=by
 cases h1:nxtF F S with
 | none=>rfl
 | some d=>
   obtain ⟨d1,d2,_⟩:=nxtF_some h1
   rw [h d d1] at d2;cases d2
structure OrdOk (F:List (List Int)) (S:List Int):Prop where
 nd:S.Nodup
 inn:∀ x∈S,0≤x∧x < (F.length:Int)
 cl:∀ k∈S,∀ i,i < F.length→k∈F.getD i []→(i:Int)∈S
theorem ordOk_nil (F:List (List Int)):OrdOk F []:=⟨List.nodup_nil,fun x h=>(by cases h),fun k h=>(by cases h)⟩
theorem ordOk_snoc {F:List (List Int)} {S:List Int} {c:Nat} (h:OrdOk F S) (h1:c < F.length) (h2:freeF F S c=true):OrdOk F (S ++ [(c:Int)]):=by
 obtain ⟨f1,f2⟩:=(freeF_iff F S c).1 h2
 refine ⟨?_,fun x hx=>?_,fun k hk i hi hm=>?_⟩
 ·rw [List.nodup_append]
  exact ⟨h.nd,by simp,fun a ha b hb e=>by rw [List.mem_singleton] at hb;subst hb;subst e;exact f1 ha⟩
 ·rcases List.mem_append.1 hx with hx | hx
  ·exact h.inn x hx
  ·rw [List.mem_singleton] at hx;omega
 ·rcases List.mem_append.1 hk with hk | hk
  ·exact List.mem_append_left _ (h.cl k hk i hi hm)
  ·rw [List.mem_singleton] at hk
   subst hk
   exact List.mem_append_left _ (f2 i hi hm)
theorem ordOk_len {F:List (List Int)} {S:List Int} (h:OrdOk F S):S.length≤F.length:=by
 have:=Tar.nodup_le (n:=F.length) (l:=S.map Int.toNat) (by
  rw [List.Nodup,List.pairwise_map]
  exact h.nd.imp_of_mem fun {a b} ha hb hab e=>hab (by have:=h.inn a ha;have:=h.inn b hb;omega)) (fun x hx=>by
  obtain ⟨y,hy,rfl⟩:=List.mem_map.1 hx
  have:=h.inn y hy
  omega)
 rwa [List.length_map] at this
theorem ordOk_full {F:List (List Int)} {S:List Int} (h:OrdOk F S) (hl:F.length≤S.length):nxtF F S=none:=by
 refine nxtF_no fun c hc=>?_
 cases hf:freeF F S c with
 | false=>rfl
 | true=>
   have:=ordOk_len (ordOk_snoc h hc hf)
   simp at this
   omega
def sumR (n:Nat) (f:Nat→Int):Int:=((List.range n).map f).sum
theorem sumR_succ (n:Nat) (f:Nat→Int):sumR (n+1) f=sumR n f+f n:=by simp [sumR,List.range_succ,List.sum_append]
theorem sumR_congr:∀ {n:Nat} {f g:Nat→Int},(∀ v,v < n→g v=f v)→sumR n g=sumR n f:=by
 intro n
 induction n with
 | zero=>intro f g _;rfl
 | succ n ih=>intro f g h;rw [sumR_succ,sumR_succ,ih fun v hv=>h v (by omega),h n (by omega)]
theorem sumR_upd:∀ {n k:Nat} {f g:Nat→Int},k < n→(∀ v,v≠k→g v=f v)→sumR n g=sumR n f - f k+g k:=by
 intro n
 induction n with
 | zero=>intro k f g hk;omega
 | succ n ih=>
   intro k f g hk h
   rw [sumR_succ,sumR_succ]
   by_cases e:k=n
   ·subst e
    rw [sumR_congr fun v hv=>h v (by omega)]
    omega
   ·rw [ih (k:=k) (by omega) h,h n (Ne.symm e)]
    omega
theorem sumR_nonneg:∀ {n:Nat} {f:Nat→Int},(∀ v,v < n→0≤f v)→0≤sumR n f:=by
 intro n
 induction n with
 | zero=>intro f _;exact Int.le_refl _
 | succ n ih=>intro f h;rw [sumR_succ];have:=ih fun v hv=>h v (by omega);have:=h n (by omega);omega
theorem sumR_zero:∀ {n:Nat} {f:Nat→Int},(∀ v,v < n→0≤f v)→(sumR n f=0↔∀ v,v < n→f v=0):=by
 intro n
 induction n with
 | zero=>intro f _;exact ⟨fun _ v hv=>by omega,fun _=>rfl⟩
 | succ n ih=>
   intro f h
   rw [sumR_succ]
   have h1:=sumR_nonneg (n:=n) (f:=f) fun v hv=>h v (by omega)
   have h2:=h n (by omega)
   have h3:=ih (f:=f) fun v hv=>h v (by omega)
   constructor
   ·intro e v hv
    by_cases ev:v=n
    ·rw [ev];omega
    ·exact h3.1 (by omega) v (by omega)
   ·intro e
    rw [h3.2 fun v hv=>e v (by omega),e n (by omega)]
    rfl
theorem sumR_le:∀ {n:Nat} {f:Nat→Int} {b:Int},(∀ v,v < n→f v≤b)→sumR n f≤n * b:=by
 intro n
 induction n with
 | zero=>intro f b _;simp [sumR]
 | succ n ih=>
   intro f b h
   rw [sumR_succ]
   have h1:=ih (f:=f) (b:=b) fun v hv=>h v (by omega)
   have h2:=h n (by omega)
   have:((n+1:Nat):Int) * b=n * b+b:=by rw [Int.natCast_succ,Int.add_mul,Int.one_mul]
   omega
def cntR (F:List (List Int)) (i c:Nat):Int:=(((F.getD i []).count (c:Int):Nat):Int)
def leftZ (F:List (List Int)) (S:List Int) (c:Nat):Int:=if (c:Int)∈S then -1 else sumR F.length fun i=>if (i:Int)∈S then 0 else cntR F i c
def leftL (F:List (List Int)) (S:List Int):List Int:=(List.range F.length).map (leftZ F S)
theorem leftL_len (F:List (List Int)) (S:List Int):(leftL F S).length=F.length:=by simp [leftL]
theorem leftL_get (F:List (List Int)) (S:List Int) {c:Nat} (hc:c < F.length):(leftL F S)[c]?=some (leftZ F S c):=by simp [leftL,hc]
theorem leftZ_free (F:List (List Int)) (S:List Int) (c:Nat):leftZ F S c=0↔freeF F S c=true:=by
 rw [freeF_iff]
 unfold leftZ
 by_cases hc:(c:Int)∈S
 ·rw [if_pos hc]
  exact ⟨fun h=>by omega,fun h=>absurd hc h.1⟩
 ·rw [if_neg hc,sumR_zero fun i _=>by split <;> simp [cntR]]
  constructor
  ·intro h
   refine ⟨hc,fun i hi hm=>?_⟩
   have:=h i hi
   split at this
   ·assumption
   ·have hp:=List.count_pos_iff.2 hm
    unfold cntR at this
    omega
  ·intro h i hi
   split
   ·rfl
   ·rename_i hs
    unfold cntR
    have:(F.getD i []).count (c:Int)=0:=List.count_eq_zero.2 fun hm=>hs (h.2 i hi hm)
    omega
theorem leftZ_step {F:List (List Int)} {S:List Int} {c:Nat} (h:OrdOk F S) (hc:c < F.length) (hf:freeF F S c=true) (k:Nat):leftZ F (S ++ [(c:Int)]) k=(if k=c then -1 else leftZ F S k) - cntR F c k:=by
 obtain ⟨f1,f2⟩:=(freeF_iff F S c).1 hf
 have hno:∀ k:Nat,(k:Int)∈S ++ [(c:Int)]→cntR F c k=0:=by
  intro k hk
  unfold cntR
  have:(F.getD c []).count (k:Int)=0:=List.count_eq_zero.2 fun hm=>by
   rcases List.mem_append.1 hk with hk | hk
   ·exact f1 (h.cl _ hk c hc hm)
   ·rw [List.mem_singleton] at hk
    rw [hk] at hm
    exact f1 (f2 c hc hm)
  omega
 unfold leftZ
 by_cases hk:k=c
 ·subst hk
  rw [if_pos (by simp),if_pos rfl,hno k (by simp)]
  rfl
 ·rw [if_neg hk]
  by_cases hs:(k:Int)∈S
  ·rw [if_pos (List.mem_append_left _ hs),if_pos hs,hno k (List.mem_append_left _ hs)]
   rfl
  ·have hs2:(k:Int) ∉ S ++ [(c:Int)]:=by
    intro hm
    rcases List.mem_append.1 hm with hm | hm
    ·exact hs hm
    ·rw [List.mem_singleton] at hm;omega
   rw [if_neg hs2,if_neg hs,sumR_upd (k:=c) (f:=fun i=>if (i:Int)∈S then 0 else cntR F i k) hc (fun v hv=>by
    have:((v:Int)∈S ++ [(c:Int)])↔(v:Int)∈S:=by
     rw [List.mem_append,List.mem_singleton]
     exact ⟨fun h=>h.resolve_right (by omega),.inl⟩
    simp only [this])]
   rw [if_neg f1,if_pos (by simp)]
   omega
def addAll (d:Int) (r:List Int) (L:List Int):List Int:=r.foldl (fun L k=>L.set k.toNat (L.getD k.toNat 0+d)) L
theorem addAll_len (d:Int):∀ (r L:List Int),(addAll d r L).length=L.length:=by
 intro r
 induction r with
 | nil=>intro L;rfl
 | cons k r ih=>intro L;show (addAll d r _).length=_;rw [ih,List.length_set]
theorem addAll_get (d:Int):∀ (r L:List Int),(∀ x∈r,0≤x∧x < (L.length:Int))→∀ c,c < L.length→(addAll d r L).getD c 0=L.getD c 0+d * ((r.count (c:Int):Nat):Int):=by
 intro r
 induction r with
 | nil=>intro L _ c _;simp [addAll]
 | cons k r ih=>
   intro L hr c hc
   have hk:=hr k List.mem_cons_self
   show (addAll d r (L.set k.toNat (L.getD k.toNat 0+d))).getD c 0=_
   rw [ih _ (fun x hx=>by rw [List.length_set];exact hr x (List.mem_cons_of_mem _ hx)) c (by rw [List.length_set];exact hc),List.count_cons]
   by_cases e:k=(c:Int)
   ·subst e
    rw [Int.toNat_natCast,beq_self_eq_true,if_pos rfl,List.getD,List.getElem?_set_self hc,Option.getD_some,Int.natCast_add,Int.mul_add]
    simp only [Int.natCast_one,Int.mul_one]
    omega
   ·have:(k == (c:Int))=false:=by simpa using e
    rw [this,List.getD,List.getElem?_set_ne (by omega)]
    rfl
theorem leftL_step {F:List (List Int)} {S:List Int} {c:Nat} (h:OrdOk F S) (hF:∀ r∈F,∀ x∈r,0≤x∧x < (F.length:Int)) (hc:c < F.length) (hf:freeF F S c=true):addAll (-1) (F.getD c []) ((leftL F S).set c (-1))=leftL F (S ++ [(c:Int)]):=by
 apply List.ext_getElem?
 intro k
 have hl:((leftL F S).set c (-1)).length=F.length:=by rw [List.length_set,leftL_len]
 by_cases hk:k < F.length
 ·have h1:=addAll_get (-1) (F.getD c []) ((leftL F S).set c (-1)) (fun x hx=>by rw [hl];exact hF _ (List.mem_of_getElem? (some_getD hc [])) x hx) k (by omega)
  rw [some_getD (l:=addAll (-1) _ _) (by rw [addAll_len];omega) 0,h1,leftL_get _ _ hk,leftZ_step h hc hf k,List.getD]
  congr 1
  by_cases e:k=c
  ·subst e
   rw [List.getElem?_set_self (by rw [leftL_len];exact hc),if_pos rfl,Option.getD_some]
   unfold cntR;omega
  ·rw [List.getElem?_set_ne (Ne.symm e),leftL_get _ _ hk,if_neg e,Option.getD_some]
   unfold cntR;omega
 ·rw [List.getElem?_eq_none (by rw [addAll_len];omega),List.getElem?_eq_none (by rw [leftL_len];omega)]
theorem leftL_nxt (F:List (List Int)) (S:List Int):(if (0:Int)∈leftL F S then (((leftL F S).idxOf 0:Nat):Int) else -1)=match nxtF F S with
 | some c=>(c:Int)
 | none=>-1:=by
 have hl:=leftL_len F S
 by_cases h0:(0:Int)∈leftL F S
 ·rw [if_pos h0]
  have h1:=List.idxOf_lt_length_of_mem h0
  have h2:(leftL F S)[(leftL F S).idxOf 0]?=some 0:=by rw [List.getElem?_eq_getElem h1,List.getElem_idxOf h1]
  rw [leftL_get _ _ (by omega),Option.some.injEq,leftZ_free] at h2
  rw [nxtF_of (by omega) h2 (fun j hj=>by
   cases hf:freeF F S j with
   | false=>rfl
   | true=>
     have h3:=(leftZ_free F S j).2 hf
     have h4:=leftL_get F S (c:=j) (by omega)
     rw [h3] at h4
     have:=List.not_of_lt_findIdx (xs:=leftL F S) (p:=(· == 0)) (i:=j) hj
     rw [List.getElem?_eq_getElem (by omega),Option.some.injEq] at h4
     rw [h4] at this
     simp at this)]
 ·rw [if_neg h0,nxtF_no fun c hc=>by
   cases hf:freeF F S c with
   | false=>rfl
   | true=>
     have h3:=(leftZ_free F S c).2 hf
     have h4:=leftL_get F S hc
     rw [h3] at h4
     exact absurd (List.mem_of_getElem? h4) h0]
theorem range_find {p:Nat→Bool} {n k:Nat} (hk:k < n) (h1:p k=true) (h2:∀ j,j < k→p j=false):(List.range n).find? p=some k:=by
 have hs:List.range n=List.range k ++ k :: (List.range n).drop (k+1):=by
  have e1:(List.range n).take k=List.range k:=by rw [List.take_range,Nat.min_eq_left (by omega)]
  have e2:(List.range n).drop k=k :: (List.range n).drop (k+1):=by
   rw [List.drop_eq_getElem_cons (by simpa using hk)]
   simp
  rw [← e2,← e1,List.take_append_drop]
 rw [hs,List.find?_append,List.find?_eq_none.2 (fun j hj=>by rw [h2 j (List.mem_range.1 hj)];simp),List.find?_cons,h1]
 rfl
theorem range_first {p:Nat→Bool} {n k:Nat} (h:(List.range n).find? p=some k):k < n∧∀ j,j < k→p j=false:=by
 have hk:=List.mem_range.1 (List.mem_of_find?_eq_some h)
 refine ⟨hk,fun j hj=>?_⟩
 cases hp:p j with
 | false=>rfl
 | true=>
   have:∀ d j,d+j < k→p j=true→∃ i,i < k∧p i=true∧∀ a,a < i→p a=false:=by
    intro d j
    induction j using Nat.strongRecOn with
    | ind j ih=>
      intro hj hp
      by_cases hx:∃ a,a < j∧p a=true
      ·obtain ⟨a,ha,hpa⟩:=hx
       exact ih a ha (by omega) hpa
      ·refine ⟨j,by omega,hp,fun a ha=>?_⟩
       cases hpa:p a with
       | false=>rfl
       | true=>exact absurd ⟨a,ha,hpa⟩ hx
   obtain ⟨i,hi,h1,h2⟩:=this 0 j (by omega) hp
   have h3:=range_find (n:=n) (by omega) h1 h2
   rw [h] at h3
   cases h3
   omega
theorem range_none {p:Nat→Bool} {n:Nat} (h:∀ j,j < n→p j=false):(List.range n).find? p=none:=List.find?_eq_none.2 fun j hj=>by rw [h j (List.mem_range.1 hj)];simp
end Go.AM
set_option maxRecDepth 100000
namespace Go.Proofs.Ytchekhggdbcbbaa
open Go.AM
def incL (F:List (List Int)) (i:Nat):List Int:=(List.range F.length).map fun c=>sumR i fun j=>cntR F j c
theorem incL_len (F:List (List Int)) (i:Nat):(incL F i).length=F.length:=by simp [incL]
theorem incL_get (F:List (List Int)) (i:Nat) {c:Nat} (hc:c < F.length):(incL F i)[c]?=some (sumR i fun j=>cntR F j c):=by simp [incL,hc]
theorem incL_zero (F:List (List Int)):incL F 0=List.replicate F.length 0:=by
 unfold incL
 rw [show (fun c=>sumR 0 fun j=>cntR F j c)=fun _=>(0:Int) by funext c;rfl,List.map_const',List.length_range]
theorem incL_all (F:List (List Int)):incL F F.length=leftL F []:=by
 unfold incL leftL
 apply List.map_congr_left
 intro c _
 unfold leftZ
 rw [if_neg List.not_mem_nil]
 exact sumR_congr fun v _=>by rw [if_neg List.not_mem_nil]
theorem incL_step {F:List (List Int)} (hF:∀ r∈F,∀ x∈r,0≤x∧x < (F.length:Int)) {i:Nat} (hi:i < F.length):addAll 1 (F.getD i []) (incL F i)=incL F (i+1):=by
 apply List.ext_getElem?
 intro k
 by_cases hk:k < F.length
 ·have h1:=addAll_get 1 (F.getD i []) (incL F i) (fun x hx=>by rw [incL_len];exact hF _ (List.mem_of_getElem? (some_getD hi [])) x hx) k (by rw [incL_len];exact hk)
  rw [some_getD (l:=addAll 1 _ _) (by rw [addAll_len,incL_len];exact hk) 0,h1,incL_get _ _ hk,List.getD,incL_get _ _ hk,Option.getD_some,sumR_succ,Int.one_mul]
  rfl
 ·rw [List.getElem?_eq_none (by rw [addAll_len,incL_len];omega),List.getElem?_eq_none (by rw [incL_len];omega)]
theorem cntR_le {F:List (List Int)} {B:Nat} (hB:∀ r∈F,r.length≤B) (i c:Nat):0≤cntR F i c∧cntR F i c≤B:=by
 unfold cntR
 have:=List.count_le_length (a:=(c:Int)) (l:=F.getD i [])
 by_cases hi:i < F.length
 ·have:=hB _ (List.mem_of_getElem? (some_getD hi []))
  omega
 ·have:F.getD i []=[]:=by rw [List.getD,List.getElem?_eq_none (by omega)];rfl
  rw [this]
  simp
theorem addAll_take (d:Int) {r L:List Int} {k:Nat} {x:Int} (hx:r[k]?=some x):addAll d (r.take (k+1)) L=(addAll d (r.take k) L).set x.toNat ((addAll d (r.take k) L).getD x.toNat 0+d):=by
 rw [List.take_add_one,hx]
 unfold addAll
 rw [List.foldl_append]
 rfl
theorem get_in2 (A:Heap) (c:List V) (o:Ob):getC (A ++ [.cells 0 c] ++ [o]) A.length 0=some c:=getC_app (getC_new _ _ _)
theorem get_in2' (A:Heap) (o:Ob) (c:List V):getC (A ++ [o] ++ [.cells 0 c]) (A.length+1) 0=some c:=by
 have:=getC_new (A ++ [o]) 0 c
 rwa [List.length_append] at this
section
variable {CT:Nat→Option CFun}
theorem ord_l0 (base:Nat) {A:Heap} {fv row:V} {n i:Nat} {r L:List Int} (hb:base≤A.length) (hr:Rd A row (r.map iV)) (hw:Wide1 row) (hn:r.length < 2 ^ 20) (hin:∀ x∈r,0≤x∧x < (n:Int)) (hL:L.length=n) (hLb:∀ c,c < n→0≤L.getD c 0∧L.getD c 0 < 2 ^ 50):
 itW (evC (callW CT) itW base s_f19_l0) [] (A.length+2) (frOf 70 [(3,fv),(4,.ref (A.length+1) 0 0),(19,fv),(20,.s (.int .i64 n)),(21,.s (.int .i64 i)),(25,row),(26,.s (.int .i64 r.length)),(27,.s (.int .i64 0))]) (A ++ [.cells 0 (L.map iV)] ++ [.cells 0 [.sl A.length 0 0 n 1]])=some (.ext 2,frOf 70 [(3,fv),(4,.ref (A.length+1) 0 0),(19,fv),(20,.s (.int .i64 n)),(21,.s (.int .i64 i)),(25,row),(26,.s (.int .i64 r.length)),(27,.s (.int .i64 r.length)),(28,bl false)],A ++ [.cells 0 ((addAll 1 r L).map iV)] ++ [.cells 0 [.sl A.length 0 0 n 1]]):=by
 have ts:∀ (fr:List V) (m o:Ob),Go.AM.trim (A.length+2) fr (A ++ [m] ++ [o])=A ++ [m] ++ [o]:=fun fr m o=>trim_same (by simp)
 have hst:∀ k,k < r.length→itW (evC (callW CT) itW base s_f19_l0) [] (A.length+2) (frOf 70 [(3,fv),(4,.ref (A.length+1) 0 0),(19,fv),(20,.s (.int .i64 n)),(21,.s (.int .i64 i)),(25,row),(26,.s (.int .i64 r.length)),(27,.s (.int .i64 k))]) (A ++ [.cells 0 ((addAll 1 (r.take k) L).map iV)] ++ [.cells 0 [.sl A.length 0 0 n 1]])=itW (evC (callW CT) itW base s_f19_l0) [] (A.length+2) (frOf 70 [(3,fv),(4,.ref (A.length+1) 0 0),(19,fv),(20,.s (.int .i64 n)),(21,.s (.int .i64 i)),(25,row),(26,.s (.int .i64 r.length)),(27,.s (.int .i64 (k+1:Nat)))]) (A ++ [.cells 0 ((addAll 1 (r.take (k+1)) L).map iV)] ++ [.cells 0 [.sl A.length 0 0 n 1]]):=by
  intro k hk
  have hlt':((k:Int) < (r.length:Int)):=by omega
  have hwk:=w64 (n:=k) (by omega)
  have hxk:=some_getD hk (0:Int)
  have hx:=hin _ (List.mem_of_getElem? hxk)
  obtain ⟨y,hy⟩:=Int.eq_ofNat_of_zero_le hx.1
  rw [hy] at hx hxk
  have hyn:y < n:=by omega
  have hat:=addAll_take 1 (L:=L) hxk
  rw [Int.toNat_natCast] at hat
  have hg:=addAll_get 1 (r.take k) L (fun x hx=>by rw [hL];exact hin x (List.mem_of_mem_take hx)) y (by omega)
  have hcl:(r.take k).count (y:Int)≤k:=Nat.le_trans List.count_le_length (by rw [List.length_take];omega)
  have hb2:=hLb y hyn
  obtain ⟨M,hM⟩:∃ M,addAll 1 (r.take k) L=M:=⟨_,rfl⟩
  rw [hM] at hat hg
  have hMl:M.length=n:=by rw [← hM,addAll_len,hL]
  rw [hat,hM]
  obtain ⟨a,a1,a2⟩:=iV_at ((hr.ext (Ext.app A [.cells 0 (M.map iV)])).ext (Ext.app _ [.cells 0 [.sl A.length 0 0 n 1]])) hw hxk
  have g1:=get_in2 A (M.map iV) (.cells 0 [.sl A.length 0 0 n 1])
  have g2:=get_in2' A (.cells 0 (M.map iV)) [.sl A.length 0 0 n 1]
  obtain ⟨b1,b2⟩:=at_sl (n:=n) g1 hyn (w:=iV (M.getD y 0)) (by rw [List.getElem?_map,some_getD (by omega) 0];rfl)
  have hwk2:IntKind.i64.wrap (M.getD y 0+1)=M.getD y 0+1:=by rw [IntKind.wrap_i64];omega
  have st:=storeV_at (v:=iV (M.getD y 0+1)) (base:=base) g1 hb rfl (off:=y) (by rw [List.length_map];omega)
  rw [set_two,← List.map_set] at st
  have hld:=getC_load g2
  rw [itW_step]
  simp only [iV] at b2 st
  simp only [a_f19,s_f19_l0_b,s_f19_l1_b,s_f19_l2_b,s_f19_l3_b,aa,bl,i64,reduceIte,reduceCtorEq,Nat.reduceEqDiff,Nat.reduceLT,Nat.reduceLeDiff,Nat.reduceBEq,Nat.reduceAdd,fillA,splice,Nat.reduceMul,amY,op_eqP,hlt',a1,a2,g2,b1,b2,hwk2,st,hwk,ts]
 have h2:=it_fun r.length (fun k=>itW (evC (callW CT) itW base s_f19_l0) [] (A.length+2) (frOf 70 [(3,fv),(4,.ref (A.length+1) 0 0),(19,fv),(20,.s (.int .i64 n)),(21,.s (.int .i64 i)),(25,row),(26,.s (.int .i64 r.length)),(27,.s (.int .i64 k))]) (A ++ [.cells 0 ((addAll 1 (r.take k) L).map iV)] ++ [.cells 0 [.sl A.length 0 0 n 1]])) hst 0 (Nat.zero_le _)
 refine h2.trans ?_
 rw [itW_step,List.take_length]
 simp only [bl,a_f19,s_f19_l0_b,s_f19_l1_b,s_f19_l2_b,s_f19_l3_b,aa,bl,i64,reduceIte,reduceCtorEq,Nat.reduceEqDiff,Nat.reduceLT,Nat.reduceLeDiff,Nat.reduceBEq,Nat.reduceAdd,fillA,splice,Nat.reduceMul,amY,op_eqP,Int.lt_irrefl,ts]
theorem ord_l1 (base:Nat) {A:Heap} {fv:V} {F:List (List Int)} (hb:base≤A.length) (hf:RdRows A fv (rowsV F)) (hn:F.length < 2 ^ 20) (hr:∀ r∈F,r.length < 2 ^ 20) (hin:∀ r∈F,∀ x∈r,0≤x∧x < (F.length:Int)):
 itW (evC (callW CT) itW base s_f19_l1) [] (A.length+2) (frOf 70 [(3,fv),(4,.ref (A.length+1) 0 0),(19,fv),(20,.s (.int .i64 F.length)),(21,.s (.int .i64 0))]) (A ++ [.cells 0 ((incL F 0).map iV)] ++ [.cells 0 [.sl A.length 0 0 F.length 1]])=some (.ext 0,frOf 70 [(3,fv),(4,.ref (A.length+1) 0 0),(19,fv),(20,.s (.int .i64 F.length)),(21,.s (.int .i64 F.length)),(22,bl false)],A ++ [.cells 0 ((leftL F []).map iV)] ++ [.cells 0 [.sl A.length 0 0 F.length 1]]):=by
 have ts:∀ (fr:List V) (m o:Ob),Go.AM.trim (A.length+2) fr (A ++ [m] ++ [o])=A ++ [m] ++ [o]:=fun fr m o=>trim_same (by simp)
 have e2:∀ (m o:Ob),(A ++ [m] ++ [o]).length=A.length+2:=fun m o=>by simp
 have hst:∀ i,i < F.length→itW (evC (callW CT) itW base s_f19_l1) [] (A.length+2) (frOf 70 [(3,fv),(4,.ref (A.length+1) 0 0),(19,fv),(20,.s (.int .i64 F.length)),(21,.s (.int .i64 i))]) (A ++ [.cells 0 ((incL F i).map iV)] ++ [.cells 0 [.sl A.length 0 0 F.length 1]])=itW (evC (callW CT) itW base s_f19_l1) [] (A.length+2) (frOf 70 [(3,fv),(4,.ref (A.length+1) 0 0),(19,fv),(20,.s (.int .i64 F.length)),(21,.s (.int .i64 (i+1:Nat)))]) (A ++ [.cells 0 ((incL F (i+1)).map iV)] ++ [.cells 0 [.sl A.length 0 0 F.length 1]]):=by
  intro i hi
  have hlt':((i:Int) < (F.length:Int)):=by omega
  have hwk:=w64 (n:=i) (by omega)
  have hgi:=some_getD hi ([]:List Int)
  have hmem:=List.mem_of_getElem? hgi
  obtain ⟨ra,rx,r1,q3,q4,r5⟩:=rows_ext hf (rowsV_get hgi)
  have he:Ext A (A ++ [.cells 0 ((incL F i).map iV)] ++ [.cells 0 [.sl A.length 0 0 F.length 1]]):=(Ext.app _ _).trans (Ext.app _ _)
  have r2:=r5 _ he
  have r3:=q3.ext he
  have hl0:=ord_l0 (CT:=CT) base (fv:=fv) (n:=F.length) (i:=i) hb q3 q4 (hr _ hmem) (hin _ hmem) (incL_len F i) (fun c hc=>by
   rw [getD_some (incL_get F i hc) 0]
   have:=sumR_nonneg (n:=i) (f:=fun j=>cntR F j c) fun v _=>(cntR_le (B:=2 ^ 20) (fun r hr'=>Nat.le_of_lt (hr r hr')) v c).1
   have:=sumR_le (n:=i) (f:=fun j=>cntR F j c) (b:=((2 ^ 20:Nat):Int)) fun v _=>(cntR_le (B:=2 ^ 20) (fun r hr'=>Nat.le_of_lt (hr r hr')) v c).2
   omega)
  rw [incL_step hin hi] at hl0
  have hll:=iV_len r3
  rw [itW_step]
  simp only [bl] at hl0
  simp only [a_f19,s_f19_l0_b,s_f19_l1_b,s_f19_l2_b,s_f19_l3_b,aa,bl,i64,reduceIte,reduceCtorEq,Nat.reduceEqDiff,Nat.reduceLT,Nat.reduceLeDiff,Nat.reduceBEq,Nat.reduceAdd,fillA,splice,Nat.reduceMul,amY,op_eqP,hlt',r1,r2,hll,e2,hl0,hwk,ts]
 have h2:=it_fun F.length (fun i=>itW (evC (callW CT) itW base s_f19_l1) [] (A.length+2) (frOf 70 [(3,fv),(4,.ref (A.length+1) 0 0),(19,fv),(20,.s (.int .i64 F.length)),(21,.s (.int .i64 i))]) (A ++ [.cells 0 ((incL F i).map iV)] ++ [.cells 0 [.sl A.length 0 0 F.length 1]])) hst 0 (Nat.zero_le _)
 refine h2.trans ?_
 rw [itW_step,incL_all]
 simp only [bl,a_f19,s_f19_l0_b,s_f19_l1_b,s_f19_l2_b,s_f19_l3_b,aa,bl,i64,reduceIte,reduceCtorEq,Nat.reduceEqDiff,Nat.reduceLT,Nat.reduceLeDiff,Nat.reduceBEq,Nat.reduceAdd,fillA,splice,Nat.reduceMul,amY,op_eqP,Int.lt_irrefl,ts]
theorem ord_l2 (base:Nat) {C:Heap} {fv bv ov kv row:V} {o b n:Nat} {r L:List Int} (hbv:bv=.ref b 0 0) (hb:base≤o) (hr:∀ ob,Rd (C.set o ob) row (r.map iV)) (hw:Wide1 row) (hn:r.length < 2 ^ 20) (hin:∀ x∈r,0≤x∧x < (n:Int)) (hL:L.length=n) (hLb:∀ c,c < n→-1≤L.getD c 0∧L.getD c 0 < 2 ^ 50) (hg:getC C o 0=some (L.map iV)) (hbo:b≠o) (hgb:getC C b 0=some [.sl o 0 0 n 1]):
 itW (evC (callW CT) itW base s_f19_l2) [] C.length (frOf 70 [(3,fv),(4,bv),(9,ov),(10,kv),(56,row),(57,.s (.int .i64 r.length)),(58,.s (.int .i64 0))]) C=some (.ext 6,frOf 70 [(3,fv),(4,bv),(9,ov),(10,kv),(56,row),(57,.s (.int .i64 r.length)),(58,.s (.int .i64 r.length)),(59,bl false)],C.set o (.cells 0 ((addAll (-1) r L).map iV))):=by
 subst hbv
 have ts:∀ (fr:List V) (ob:Ob),Go.AM.trim C.length fr (C.set o ob)=C.set o ob:=fun fr ob=>trim_same (by simp)
 have hst:∀ k,k < r.length→itW (evC (callW CT) itW base s_f19_l2) [] C.length (frOf 70 [(3,fv),(4,.ref b 0 0),(9,ov),(10,kv),(56,row),(57,.s (.int .i64 r.length)),(58,.s (.int .i64 k))]) (C.set o (.cells 0 ((addAll (-1) (r.take k) L).map iV)))=itW (evC (callW CT) itW base s_f19_l2) [] C.length (frOf 70 [(3,fv),(4,.ref b 0 0),(9,ov),(10,kv),(56,row),(57,.s (.int .i64 r.length)),(58,.s (.int .i64 (k+1:Nat)))]) (C.set o (.cells 0 ((addAll (-1) (r.take (k+1)) L).map iV))):=by
  intro k hk
  have hlt':((k:Int) < (r.length:Int)):=by omega
  have hwk:=w64 (n:=k) (by omega)
  have hxk:=some_getD hk (0:Int)
  have hx:=hin _ (List.mem_of_getElem? hxk)
  obtain ⟨y,hy⟩:=Int.eq_ofNat_of_zero_le hx.1
  rw [hy] at hx hxk
  have hyn:y < n:=by omega
  have hat:=addAll_take (-1) (L:=L) hxk
  rw [Int.toNat_natCast] at hat
  have hgt:=addAll_get (-1) (r.take k) L (fun x hx=>by rw [hL];exact hin x (List.mem_of_mem_take hx)) y (by omega)
  have hcl:(r.take k).count (y:Int)≤k:=Nat.le_trans List.count_le_length (by rw [List.length_take];omega)
  have hb2:=hLb y hyn
  obtain ⟨M,hM⟩:∃ M,addAll (-1) (r.take k) L=M:=⟨_,rfl⟩
  rw [hM] at hat hgt
  have hMl:M.length=n:=by rw [← hM,addAll_len,hL]
  rw [hat,hM]
  obtain ⟨a,a1,a2⟩:=iV_at (hr (.cells 0 (M.map iV))) hw hxk
  have g1:getC (C.set o (.cells 0 (M.map iV))) o 0=some (M.map iV):=getC_set hg 0
  have g2:getC (C.set o (.cells 0 (M.map iV))) b 0=some [.sl o 0 0 n 1]:=by rw [getC_set_ne _ hbo];exact hgb
  obtain ⟨b1,b2⟩:=at_sl (n:=n) g1 hyn (w:=iV (M.getD y 0)) (by rw [List.getElem?_map,some_getD (by omega) 0];rfl)
  have hwk2:IntKind.i64.wrap (M.getD y 0 - 1)=M.getD y 0+-1:=by rw [IntKind.wrap_i64];omega
  have st:=storeV_at (v:=iV (M.getD y 0+-1)) (base:=base) g1 hb rfl (off:=y) (by rw [List.length_map];omega)
  rw [List.set_set,← List.map_set] at st
  rw [itW_step]
  simp only [iV] at b2 st
  simp only [a_f19,s_f19_l0_b,s_f19_l1_b,s_f19_l2_b,s_f19_l3_b,aa,bl,i64,reduceIte,reduceCtorEq,Nat.reduceEqDiff,Nat.reduceLT,Nat.reduceLeDiff,Nat.reduceBEq,Nat.reduceAdd,fillA,splice,Nat.reduceMul,amY,op_eqP,hlt',a1,a2,g2,b1,b2,hwk2,st,hwk,ts]
 have h2:=it_fun r.length (fun k=>itW (evC (callW CT) itW base s_f19_l2) [] C.length (frOf 70 [(3,fv),(4,.ref b 0 0),(9,ov),(10,kv),(56,row),(57,.s (.int .i64 r.length)),(58,.s (.int .i64 k))]) (C.set o (.cells 0 ((addAll (-1) (r.take k) L).map iV)))) hst 0 (Nat.zero_le _)
 simp only [List.take_zero] at h2
 have h0:C.set o (.cells 0 ((addAll (-1) [] L).map iV))=C:=set_same_ob (getC_ob' hg)
 rw [h0,cast0] at h2
 refine h2.trans ?_
 rw [itW_step,List.take_length]
 simp only [bl,a_f19,s_f19_l0_b,s_f19_l1_b,s_f19_l2_b,s_f19_l3_b,aa,bl,i64,reduceIte,reduceCtorEq,Nat.reduceEqDiff,Nat.reduceLT,Nat.reduceLeDiff,Nat.reduceBEq,Nat.reduceAdd,fillA,splice,Nat.reduceMul,amY,op_eqP,Int.lt_irrefl,ts]
def zN:Option Nat→Int
 | some c=>(c:Int)
 | none=>-1
theorem next_fun (hN:CT k_f34=some (.code s_f34)) (hX:CT k_f35=some (.code s_f35)) (base:Nat) {C:Heap} {o b:Nat} {F:List (List Int)} {S:List Int} (hg:getC C o 0=some ((leftL F S).map iV)) (hgb:getC C b 0=some [.sl o 0 0 F.length 1]) (hn:F.length < 2 ^ 20):
 callW CT (.fn k_f34 [] [.ref b 0 0]) [] base C=some (.s (.int .i64 (zN (nxtF F S))),C):=by
 have hrd:=getC_sl hg
 rw [List.length_map,leftL_len] at hrd
 have hi:=indexI_fun hX base hrd trivial (by rw [leftL_len];omega) 0
 have e:(if (0:Int)∈leftL F S then (((leftL F S).idxOf 0:Nat):Int) else -1)=zN (nxtF F S):=by
  rw [leftL_nxt]
  cases nxtF F S <;> rfl
 rw [e] at hi
 refine callW_fn (c:=s_f34) hN (by simp [s_f34]) ?_
 simp only [s_f34,a_f34,aa,bl,i64,reduceIte,reduceCtorEq,Nat.reduceEqDiff,Nat.reduceLT,Nat.reduceLeDiff,Nat.reduceBEq,Nat.reduceAdd,fillA,splice,Nat.reduceMul,amY,op_eqP,hgb,hi]
structure OS (A C:Heap) (F:List (List Int)) (S:List Int) (ov:V):Prop where
 ext:Ext A C
 left:getC C A.length 0=some ((leftL F S).map iV)
 box:getC C (A.length+1) 0=some [.sl A.length 0 0 F.length 1]
 out:OwnN (A.length+2) C ov (S.map iV)
 le:A.length+2≤C.length
theorem OS.trim {A C:Heap} {F:List (List Int)} {S:List Int} {ov:V} (h:OS A C F S ov) {fr:List V} (hv:ov∈fr):OS A (Go.AM.trim (A.length+2) fr C) F S ov:=
 ⟨h.ext.trim (by omega) fr,trim_get h.left (by omega),trim_get h.box (by omega),h.out.trim_fr hv,trim_le h.le⟩
theorem ord_l3 (hN:CT k_f34=some (.code s_f34)) (hX:CT k_f35=some (.code s_f35)) (base:Nat) {A:Heap} {fv:V} {F:List (List Int)} (hb:base≤A.length) (hf:RdRows A fv (rowsV F)) (hn:F.length < 2 ^ 20) (hr:∀ r∈F,r.length < 2 ^ 20) (hin:∀ r∈F,∀ x∈r,0≤x∧x < (F.length:Int)):
 ∀ (m:Nat) (C:Heap) (S:List Int) (ov:V),F.length≤S.length+m→OrdOk F S→OS A C F S ov→
 ∃ ov' C',itW (evC (callW CT) itW base s_f19_l3) [] (A.length+2) (frOf 70 [(3,fv),(4,.ref (A.length+1) 0 0),(9,ov),(10,.fn k_f34 [] [.ref (A.length+1) 0 0]),(11,.s (.int .i64 (zN (nxtF F S))))]) C=some (.ext 4,frOf 70 [(3,fv),(4,.ref (A.length+1) 0 0),(9,ov'),(10,.fn k_f34 [] [.ref (A.length+1) 0 0]),(11,.s (.int .i64 (-1))),(43,bl false)],C')∧OS A C' F (ordN F m S) ov':=by
 have stop:∀ (m:Nat) (C:Heap) (S:List Int) (ov:V),OS A C F S ov→nxtF F S=none→ordN F m S=S→∃ ov' C',itW (evC (callW CT) itW base s_f19_l3) [] (A.length+2) (frOf 70 [(3,fv),(4,.ref (A.length+1) 0 0),(9,ov),(10,.fn k_f34 [] [.ref (A.length+1) 0 0]),(11,.s (.int .i64 (zN (nxtF F S))))]) C=some (.ext 4,frOf 70 [(3,fv),(4,.ref (A.length+1) 0 0),(9,ov'),(10,.fn k_f34 [] [.ref (A.length+1) 0 0]),(11,.s (.int .i64 (-1))),(43,bl false)],C')∧OS A C' F (ordN F m S) ov':=by
  intro m C S ov os hnx hm
  refine ⟨ov,_,?_,by rw [hm];exact os.trim (fr:=frOf 70 [(3,fv),(4,.ref (A.length+1) 0 0),(9,ov),(10,.fn k_f34 [] [.ref (A.length+1) 0 0]),(11,.s (.int .i64 (-1))),(43,bl false)]) (frOf_mem (s:=9) (by omega) rfl)⟩
  have hz:decide ((-1:Int) ≥ 0)=false:=by decide
  rw [hnx,itW_step]
  simp only [zN,bl,a_f19,s_f19_l0_b,s_f19_l1_b,s_f19_l2_b,s_f19_l3_b,aa,bl,i64,reduceIte,reduceCtorEq,Nat.reduceEqDiff,Nat.reduceLT,Nat.reduceLeDiff,Nat.reduceBEq,Nat.reduceAdd,fillA,splice,Nat.reduceMul,amY,op_eqP,hz]
 intro m
 induction m with
 | zero=>
   intro C S ov hm ok os
   exact stop 0 C S ov os (ordOk_full ok (by omega)) rfl
 | succ m ih=>
   intro C S ov hm ok os
   cases hnx:nxtF F S with
   | none=>
     rw [← hnx]
     exact stop (m+1) C S ov os hnx (by rw [ordN,hnx])
   | some c=>
     obtain ⟨c1,c2,_⟩:=nxtF_some hnx
     have ok2:=ordOk_snoc ok c1 c2
     have hSl:=ordOk_len ok
     obtain ⟨ov2,C2,ap,o2,l2,k2⟩:=os.out.append (base:=base) (bytes:=8) (x:=iV (c:Int)) (by omega) rfl os.le (by rw [List.length_map];omega)
     have g1:getC C2 A.length 0=some ((leftL F S).map iV):=by have:=os.left;unfold getC at this ⊢;rw [k2 _ (by omega)];exact this
     have g2:getC C2 (A.length+1) 0=some [.sl A.length 0 0 F.length 1]:=by have:=os.box;unfold getC at this ⊢;rw [k2 _ (by omega)];exact this
     have e2:Ext A C2:=Ext.of_get (by have:=os.le;omega) fun id hid=>by rw [k2 id (by omega)];exact os.ext.get hid
     have hll:(leftL F S).length=F.length:=leftL_len F S
     obtain ⟨C3,hC3⟩:∃ C3,C2.set A.length (.cells 0 (((leftL F S).set c (-1)).map iV))=C3:=⟨_,rfl⟩
     have st:storeV C2 base 1 (.s (.int .i64 (-1))) (.ref A.length 0 c)=some C3:=by
      rw [storeV_at g1 hb rfl (by rw [List.length_map];omega),← hC3,List.map_set]
      rfl
     have e3:Ext A C3:=by rw [← hC3];exact e2.set (Nat.le_refl _) _
     have g31:getC C3 A.length 0=some (((leftL F S).set c (-1)).map iV):=by rw [← hC3];exact getC_set g1 0
     have g32:getC C3 (A.length+1) 0=some [.sl A.length 0 0 F.length 1]:=by rw [← hC3,getC_set_ne _ (by omega)];exact g2
     have l3:C3.length=C2.length:=by rw [← hC3,List.length_set]
     have hgi:=some_getD c1 ([]:List Int)
     have hmem:=List.mem_of_getElem? hgi
     obtain ⟨ra,rx,r1,q3,q4,r5⟩:=rows_ext hf (rowsV_get hgi)
     have r2:=r5 _ e3
     have rl:=iV_len (q3.ext e3)
     have hl2:=ord_l2 (CT:=CT) base (C:=C3) (fv:=fv) (bv:=.ref (A.length+1) 0 0) (ov:=ov2) (kv:=.fn k_f34 [] [.ref (A.length+1) 0 0]) (o:=A.length) (b:=A.length+1) (n:=F.length) (r:=F.getD c []) (L:=(leftL F S).set c (-1)) rfl hb (fun ob=>q3.ext (e3.set (Nat.le_refl _) ob)) q4 (hr _ hmem) (hin _ hmem) (by rw [List.length_set];exact hll) (fun k hk=>by
      have hlz:-1≤leftZ F S k∧leftZ F S k < 2 ^ 49:=by
       unfold leftZ
       split
       ·omega
       ·have h1:=sumR_nonneg (n:=F.length) (f:=fun i=>if (i:Int)∈S then 0 else cntR F i k) fun v _=>by
         have:=cntR_le (B:=2 ^ 20) (fun r hr'=>Nat.le_of_lt (hr r hr')) v k
         split <;> omega
        have h2:=sumR_le (n:=F.length) (f:=fun i=>if (i:Int)∈S then 0 else cntR F i k) (b:=((2 ^ 20:Nat):Int)) fun v _=>by
         have:=cntR_le (B:=2 ^ 20) (fun r hr'=>Nat.le_of_lt (hr r hr')) v k
         split <;> omega
        omega
      by_cases e:k=c
      ·subst e;rw [List.getD,List.getElem?_set_self (by omega),Option.getD_some];omega
      ·rw [List.getD,List.getElem?_set_ne (Ne.symm e),leftL_get F S hk,Option.getD_some];omega) g31 (by omega) g32
     rw [leftL_step ok hin c1 c2] at hl2
     obtain ⟨C4,hC4⟩:∃ C4,C3.set A.length (.cells 0 ((leftL F (S ++ [(c:Int)])).map iV))=C4:=⟨_,rfl⟩
     rw [hC4] at hl2
     have g41:getC C4 A.length 0=some ((leftL F (S ++ [(c:Int)])).map iV):=by rw [← hC4];exact getC_set g31 0
     have g42:getC C4 (A.length+1) 0=some [.sl A.length 0 0 F.length 1]:=by rw [← hC4,getC_set_ne _ (by omega)];exact g32
     have hnf:=next_fun hN hX base g41 g42 hn
     have l4:C4.length=C3.length:=by rw [← hC4,List.length_set]
     have hle:=os.le
     have os4:OS A C4 F (S ++ [(c:Int)]) ov2:=⟨by rw [← hC4];exact e3.set (Nat.le_refl _) _,g41,g42,by
      rw [List.map_append,← hC4,← hC3]
      exact (o2.set (by omega) _).set (by omega) _,by omega⟩
     have hm2:F.length≤(S ++ [(c:Int)]).length+m:=by simp;omega
     obtain ⟨ov',C',p1,p2⟩:=ih (Go.AM.trim (A.length+2) (frOf 70 [(3,fv),(4,.ref (A.length+1) 0 0),(9,ov2),(10,.fn k_f34 [] [.ref (A.length+1) 0 0]),(11,.s (.int .i64 (zN (nxtF F (S ++ [(c:Int)])))))]) C4) (S ++ [(c:Int)]) ov2 hm2 ok2 (os4.trim (frOf_mem (s:=9) (by omega) rfl))
     have hord:ordN F (m+1) S=ordN F m (S ++ [(c:Int)]):=by rw [ordN,hnx]
     refine ⟨ov',C',?_,by rw [hord];exact p2⟩
     have hz:decide ((c:Int) ≥ 0)=true:=by rw [decide_eq_true_iff];omega
     have hixc:(0≤(c:Int)∧(c:Int) < (F.length:Int)∧1=1):=by omega
     rw [itW_step]
     simp only [iV] at ap
     simp only [bl] at hl2
     simp only [zN,a_f19,s_f19_l0_b,s_f19_l1_b,s_f19_l2_b,s_f19_l3_b,aa,bl,i64,reduceIte,reduceCtorEq,Nat.reduceEqDiff,Nat.reduceLT,Nat.reduceLeDiff,Nat.reduceBEq,Nat.reduceAdd,fillA,splice,Nat.reduceMul,amY,op_eqP,hz,ap,g2,hixc,st,r1,r2,rl,hl2,hnf]
     exact p1
structure CF (CT:Nat→Option CFun):Prop where
 o:CO CT
 order:CT k_f19=some (.code s_f19)
 order1:CT k_f34=some (.code s_f34)
theorem foldG_in (G:List (List Int)):∀ r∈foldG G,∀ x∈r,0≤x∧x < ((foldG G).length:Int):=by
 intro r hr x hx
 have:=normG_in (G:=rawG G) hr hx
 rw [rawG_len] at this
 rw [foldG_len]
 exact this
theorem up_len:∀ {n:Nat} {r:List Int},Up r→(∀ x∈r,0≤x∧x < (n:Int))→r.length≤n:=by
 intro n r hu hr
 have key:∀ (r:List Int),Up r→r.Pairwise (· < ·):=by
  intro r
  induction r with
  | nil=>intro _;exact .nil
  | cons a r ih=>intro h;exact List.pairwise_cons.2 ⟨h.1,ih h.2⟩
 have hnd:(r.map Int.toNat).Nodup:=by
  rw [List.Nodup,List.pairwise_map]
  exact (key r hu).imp_of_mem fun {a b} ha hb hab e=>by have:=hr a ha;have:=hr b hb;omega
 have:=Tar.nodup_le (n:=n) hnd (fun x hx=>by
  obtain ⟨y,hy,rfl⟩:=List.mem_map.1 hx
  have:=hr y hy
  omega)
 rwa [List.length_map] at this
theorem foldG_row (G:List (List Int)):∀ r∈foldG G,Up r∧r.length≤cntG G:=by
 intro r hr
 have h1:Up r:=normG_up hr
 refine ⟨h1,?_⟩
 have:=up_len (n:=(foldG G).length) h1 (foldG_in G r hr)
 rwa [foldG_len] at this
theorem order_f (h:CF CT) (base:Nat) (H:Heap) (v:V) (G:List (List Int)) (hv:RdRows H v (rowsV G)) (hb:base≤H.length) (hn:G.length < 2 ^ 18) (hr:∀ r∈G,r.length < 2 ^ 18):
 ∃ v' H',callW CT (.fn k_f19 [] []) [v] base H=some (v',H')∧Ext H H'∧OwnN H.length H' v' ((ordG (foldG G)).map iV):=by
 obtain ⟨fv,A,p1,p2,p3⟩:=fold_f h.o base H v G hv hb hn hr
 have hle:=p2.le
 have hcl:=cntG_le G
 have hfl:=foldG_len G
 obtain ⟨F,hF⟩:∃ F,foldG G=F:=⟨_,rfl⟩
 have hrow:=foldG_row G
 have hin:=foldG_in G
 rw [hF] at p3 hfl hrow hin ⊢
 have hmk:=fun H=>make_n (H:=H) (zero:=[.s (.int .i64 0)]) (sz:=1) (bytes:=8) (k:=.i64) (k':=.i64) (n:=F.length) (by omega)
 simp only [flat_one] at hmk
 have e1:∀ ob:Ob,(A ++ [ob]).length=A.length+1:=fun ob=>by simp
 have e2:∀ ob ob2:Ob,(A ++ [ob] ++ [ob2]).length=A.length+2:=fun ob ob2=>by simp
 have hfv:=rows_lenV p3.rd
 have hr20:∀ r∈F,r.length < 2 ^ 20:=fun r hr'=>by have:=(hrow r hr').2;omega
 have hl1:=ord_l1 (CT:=CT) base (fv:=fv) (F:=F) (by omega) p3.rd (by omega) hr20 hin
 have hz:(incL F 0).map iV=List.replicate F.length (.s (.int .i64 0)):=by rw [incL_zero,List.map_replicate];rfl
 rw [hz] at hl1
 obtain ⟨C,hC⟩:∃ C:Heap,A ++ [.cells 0 ((leftL F []).map iV)] ++ [.cells 0 [.sl A.length 0 0 F.length 1]]=C:=⟨_,rfl⟩
 have os:OS A C F [] nilS:=by
  rw [← hC]
  exact ⟨(Ext.app _ _).trans (Ext.app _ _),get_in2 _ _ _,get_in2' _ _ _,.inl ⟨rfl,.inl rfl⟩,by rw [e2];exact Nat.le_refl _⟩
 have hnf:=next_fun h.order1 h.o.y.c.index base os.left os.box (by omega)
 obtain ⟨ov,D,q1,q2⟩:=ord_l3 h.order1 h.o.y.c.index base (A:=A) (fv:=fv) (F:=F) (by omega) p3.rd (by omega) hr20 hin F.length C [] nilS (by simp) (ordOk_nil F) os
 have hCl:C.length=A.length+2:=by rw [← hC,e2]
 rw [hC] at hl1
 have hst:∀ c c':List V,(A ++ [Ob.cells 0 c] ++ [Ob.cells 0 [nilS]]).set (A.length+1) (.cells 0 c')=A ++ [Ob.cells 0 c] ++ [Ob.cells 0 c']:=fun c c'=>by
  have:=set_snoc (A ++ [Ob.cells 0 c]) (Ob.cells 0 [nilS]) (.cells 0 c')
  rwa [e1] at this
 have hb1:base≤A.length+1:=by omega
 refine ⟨ov,D,callW_fn (c:=s_f19) h.order (by simp [s_f19]) ?_,p2.trans q2.ext,q2.out.mono (by omega)⟩
 simp only [nilS] at hst q1
 simp only [bl] at hl1 q1
 simp only [s_f19,a_f19,s_f19_l0_b,s_f19_l1_b,s_f19_l2_b,s_f19_l3_b,aa,bl,i64,reduceIte,reduceCtorEq,Nat.reduceEqDiff,Nat.reduceLT,Nat.reduceLeDiff,Nat.reduceBEq,Nat.reduceAdd,fillA,splice,Nat.reduceMul,amY,op_eqP,p1,hfv,op_mkSl,hmk,e1,hb1,e2,hst,hl1,xsub_mkFn,List.map_nil,List.map_cons,ev,List.getD_cons_zero,hnf,hCl,q1]
end
end Go.Proofs.Ytchekhggdbcbbaa
