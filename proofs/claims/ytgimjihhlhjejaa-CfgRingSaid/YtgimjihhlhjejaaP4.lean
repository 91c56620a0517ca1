/- Texts of the proof: CfgA4, CfgA5, CfgA6, CfgA7, CgS3, CfgU1, CfgU2, CfgU3, AmR, CfgArg, CfgX. -/
import Derived.Test.YtgimjihhlhjejaaP0
import Derived.Test.YtgimjihhlhjejaaP1
import Derived.Test.YtgimjihhlhjejaaP2
import Derived.Test.YtgimjihhlhjejaaP3
import Derived.DataReads
import Derived.ChangeOld
import Derived.ChangeArms
import Derived.ProofKit
import Derived.Test.YtgimjihhlhjejaaRows
set_option linter.all false
set_option maxRecDepth 100000
namespace Go.Proofs.Ytgimjihhlhjejaa
open Go.AM
structure SO (A D:Heap) (o:Nat) (vs:List V) (R:List (List Int)):Prop where
 ext:Ext (A.set o (.cells 0 vs)) D
 get:getC D o 0=some vs
 bag:BagO (o+1) D vs (rowsV R)
theorem SO.le {A D:Heap} {o:Nat} {vs:List V} {R:List (List Int)} (h:SO A D o vs R):A.length≤D.length:=by
 have:=h.ext.le
 rwa [List.length_set] at this
theorem SO.trim {A D:Heap} {o:Nat} {vs:List V} {R:List (List Int)} (h:SO A D o vs R) (hA:A.length=o+1) {L:Nat} (hL:o+1≤L) (fr:List V):SO A (trim L fr D) o vs R:=
 ⟨h.ext.trim (by rw [List.length_set];omega) _,trim_get h.get (by omega),h.bag.trim h.get (by omega) _⟩
theorem SO.other {A D:Heap} {o:Nat} {vs:List V} {R:List (List Int)} (h:SO A D o vs R) {id:Nat} (hid:id < A.length) (hne:id≠o):D[id]?=A[id]?:=by
 rw [h.ext.get (by rw [List.length_set];exact hid),List.getElem?_set_ne (Ne.symm hne)]
theorem SO.getO {A D:Heap} {o:Nat} {vs:List V} {R:List (List Int)} (h:SO A D o vs R) {id g:Nat} {c:List V} (hg:getC A id g=some c) (hne:id≠o):getC D id g=some c:=by
 have:=getC_lt hg
 simp only [getC] at hg ⊢
 rw [h.other this hne];exact hg
theorem SO.old {A D H:Heap} {o:Nat} {vs:List V} {R:List (List Int)} (h:SO A D o vs R) (hH:Ext H A) (ho:H.length≤o):Ext H D:=(hH.set ho _).trans h.ext
theorem SO.app {A D:Heap} {o:Nat} {vs:List V} {R:List (List Int)} (h:SO A D o vs R) (G:Heap):SO A (D ++ G) o vs R:=by
 refine ⟨h.ext.trans (Ext.app _ _),getC_app h.get,h.bag.1,fun j r hr=>?_,h.bag.2.2⟩
 obtain ⟨x,h1,h2⟩:=h.bag.2.1 j r hr
 exact ⟨x,h1,h2.ext (Ext.app _ _)⟩
theorem SO.push {A D:Heap} {o base:Nat} {vs:List V} {R:List (List Int)} (h:SO A D o vs R) (hA:A.length=o+1) (hb:base≤o) {i:Nat} (hi:i < R.length) (z:Int) (hs:(R.getD i []).length < 2 ^ 40):
 ∃ w v' D1,xIndexAddr 1 (.sl o 0 0 R.length 1) (.s (.int .i64 i))=some (.ref o 0 i)∧xLoad D false 1 (.ref o 0 i)=some w∧appendV (D ++ [.cells 0 [.s (.int .i64 z)]]) base 1 8 w (.sl D.length 0 0 1 1)=some (v',D1)∧storeV D1 base 1 v' (.ref o 0 i)=some (D1.set o (.cells 0 (vs.set i v')))∧SO A (D1.set o (.cells 0 (vs.set i v'))) o (vs.set i v') (R.set i (R.getD i [] ++ [z])):=by
 have hri:=rowsV_get (some_getD hi [])
 have hle:=h.le
 obtain ⟨w,v',D1,hw,hap,hv1,hc1,hm1,hB1,hE1⟩:=h.bag.append (base:=base) (bytes:=8) (x:=.s (.int .i64 z)) h.get (by omega) (by omega) (by omega) hri rfl (by rw [List.length_map];omega)
 obtain ⟨a1,a2⟩:=at_sl (n:=R.length) h.get hi hw
 have hvl:vs.length=R.length:=by rw [h.bag.1,rowsV_len]
 have hst:=storeV_at (v:=v') (base:=base) hc1 hb hv1 (off:=i) (by omega)
 have he1:=hE1 _ (by rw [List.length_set];omega) h.ext
 have he2:=he1.set_both (o:=o) (by rw [List.length_set];omega) (.cells 0 (vs.set i v'))
 rw [List.set_set] at he2
 refine ⟨w,v',D1,a1,a2,hap,hst,he2,getC_put hc1,?_⟩
 rwa [rowsV_set]
section
variable {CT:Nat→Option CFun}
theorem of_l1 (base:Nat) {H A:Heap} {o:Nat} {labs:List ByteArray} {M:Ob} {bv lv:V} {i:Nat} {ls:List ByteArray} {n:Nat} (hA:A.length=o+1) (hHo:H.length+4≤o) (hH:Ext H A) (hb:base≤H.length) (hM:A[H.length+2]?=some M) (hFA:FirstAt eS labs 0 M) (h4:getC A (H.length+3) 0=some [.mp (H.length+2)]) (h2:getC A (H.length+1) 0=some [nilS,nilS]) (hl:Rd H lv (ls.map Sb)) (hw:Wide1 lv) (hll:ls.length < 2 ^ 30) {L:Nat} (hL:o+1≤L) (hi:i < n):
 ∀ (rest:List ByteArray) (k:Nat) (D:Heap) (vs:List V) (R:List (List Int)),ls.drop k=rest→k≤ls.length→SO A D o vs R→R.length=n→(R.getD i []).length+rest.length < 2 ^ 31→
 ∃ D',(((∀ l∈rest,memD labs l=true)∧itW (evC (callW CT) itW base s_f13_l1) [] L (frOf 103 [(2,.ref (H.length+1) 0 0),(4,.ref (H.length+3) 0 0),(7,.sl o 0 0 n 1),(8,Iz i),(30,bv),(31,Iz n),(32,Iz i),(57,lv),(58,Iz ls.length),(59,Iz k)]) D=some (.ext 5,frOf 103 [(2,.ref (H.length+1) 0 0),(4,.ref (H.length+3) 0 0),(7,.sl o 0 0 n 1),(8,Iz i),(30,bv),(31,Iz n),(32,Iz i),(57,lv),(58,Iz ls.length),(59,Iz ls.length),(60,bl false)],D')∧∃ vs',SO A D' o vs' (R.set i (R.getD i [] ++ rest.map fun l=>(fidx labs l:Int))))∨
  ((∃ l∈rest,memD labs l=false)∧itW (evC (callW CT) itW base s_f13_l1) [] L (frOf 103 [(2,.ref (H.length+1) 0 0),(4,.ref (H.length+3) 0 0),(7,.sl o 0 0 n 1),(8,Iz i),(30,bv),(31,Iz n),(32,Iz i),(57,lv),(58,Iz ls.length),(59,Iz k)]) D=some (.ret,frOf 103 [(2,.ref (H.length+1) 0 0),(3,Iz 4)],D')∧Ext H D'∧getC D' (H.length+1) 0=some [nilS,nilS])):=by
 intro rest
 induction rest with
 | nil=>
   intro k D vs R hd hk hS hR hs
   obtain rfl:=drop_nil hd hk
   refine ⟨trim L (frOf 103 [(2,.ref (H.length+1) 0 0),(4,.ref (H.length+3) 0 0),(7,.sl o 0 0 n 1),(8,Iz i),(30,bv),(31,Iz n),(32,Iz i),(57,lv),(58,Iz ls.length),(59,Iz ls.length),(60,bl false)]) D,.inl ⟨fun l hl=>(by cases hl),?_,vs,?_⟩⟩
   ·rw [itW_step]
    simp only [bl,Iz,a_f13,s_f13_l1_b,s_f13_l2_b,aa,bl,i64,reduceIte,reduceCtorEq,Nat.reduceEqDiff,Nat.reduceLT,Nat.reduceLeDiff,Nat.reduceBEq,Nat.reduceAdd,fillA,splice,Nat.reduceMul,amY,op_eqP,Int.lt_irrefl]
   ·rw [List.map_nil,List.append_nil]
    have e:R.set i (R.getD i [])=R:=by
     apply List.ext_getElem?
     intro j
     by_cases e:i=j
     ·subst e;rw [List.getElem?_set_self (by omega),some_getD (show i < R.length by omega) []]
     ·rw [List.getElem?_set_ne e]
    rw [e]
    exact hS.trim hA hL _
 | cons l rest ih=>
   intro k D vs R hd hk hS hR hs
   obtain ⟨hx,hlt,hd'⟩:=drop_cons hd
   have hlt':(k:Int) < (ls.length:Int):=by omega
   have hwk:=w64 (n:=k) (by omega)
   have hHD:=hS.old hH (by omega)
   obtain ⟨a,a1,a2⟩:=(hl.ext hHD).at' hw (i:=k) (x:=Sb l) (by rw [List.getElem?_map,hx];rfl)
   have g4:=hS.getO h4 (by omega)
   have g2:=hS.getO h2 (by omega)
   have gM:D[H.length+2]?=some M:=by rw [hS.other (by omega) (by omega)];exact hM
   have gm:=firstAt_get same_str key_str hFA gM (.s (.int .i64 0)) l
   have hb1:base≤H.length+1:=by omega
   cases hm:memD labs l with
   | false=>
     rw [hm,if_neg Bool.false_ne_true] at gm
     refine ⟨trim L (frOf 103 [(2,.ref (H.length+1) 0 0),(3,Iz 4)]) (D.set (H.length+1) (.cells 0 [nilS,nilS])),.inr ⟨⟨l,List.mem_cons_self,hm⟩,?_,?_,?_⟩⟩
     ·rw [itW_step]
      simp only [bl,eS,nilS] at gm g2
      simp only [bl,Iz,nilS,a_f13,s_f13_l1_b,s_f13_l2_b,aa,bl,i64,reduceIte,reduceCtorEq,Nat.reduceEqDiff,Nat.reduceLT,Nat.reduceLeDiff,Nat.reduceBEq,Nat.reduceAdd,fillA,splice,Nat.reduceMul,amY,op_eqP,hlt',a1,a2,g4,gm,g2,hb1]
     ·exact (hHD.set (id:=H.length+1) (by omega) (.cells 0 [nilS,nilS])).trim (m:=L) (by omega) _
     ·exact trim_get (getC_put g2) (by omega)
   | true=>
     rw [hm,if_pos rfl] at gm
     obtain ⟨w,v',D1,p1,p2,p3,p4,p5⟩:=hS.push (base:=base) hA (by omega) (i:=i) (by omega) (fidx labs l:Int) (by rw [List.length_cons] at hs;omega)
     rw [hR] at p1
     have hgs:(R.set i (R.getD i [] ++ [(fidx labs l:Int)])).getD i []=R.getD i [] ++ [(fidx labs l:Int)]:=by rw [List.getD,List.getElem?_set_self (by omega)];rfl
     obtain ⟨D',hD⟩:=ih (k+1) (trim L (frOf 103 [(2,.ref (H.length+1) 0 0),(4,.ref (H.length+3) 0 0),(7,.sl o 0 0 n 1),(8,Iz i),(30,bv),(31,Iz n),(32,Iz i),(57,lv),(58,Iz ls.length),(59,Iz (k+1:Nat))]) (D1.set o (.cells 0 (vs.set i v')))) (vs.set i v') (R.set i (R.getD i [] ++ [(fidx labs l:Int)])) hd' (by omega) (p5.trim hA hL _) (by rw [List.length_set];exact hR) (by
      rw [hgs,List.length_append,List.length_singleton]
      rw [List.length_cons] at hs
      omega)
     rw [hgs,List.set_set,List.append_assoc] at hD
     refine ⟨D',?_⟩
     have hstep:itW (evC (callW CT) itW base s_f13_l1) [] L (frOf 103 [(2,.ref (H.length+1) 0 0),(4,.ref (H.length+3) 0 0),(7,.sl o 0 0 n 1),(8,Iz i),(30,bv),(31,Iz n),(32,Iz i),(57,lv),(58,Iz ls.length),(59,Iz k)]) D=itW (evC (callW CT) itW base s_f13_l1) [] L (frOf 103 [(2,.ref (H.length+1) 0 0),(4,.ref (H.length+3) 0 0),(7,.sl o 0 0 n 1),(8,Iz i),(30,bv),(31,Iz n),(32,Iz i),(57,lv),(58,Iz ls.length),(59,Iz (k+1:Nat))]) (trim L (frOf 103 [(2,.ref (H.length+1) 0 0),(4,.ref (H.length+3) 0 0),(7,.sl o 0 0 n 1),(8,Iz i),(30,bv),(31,Iz n),(32,Iz i),(57,lv),(58,Iz ls.length),(59,Iz (k+1:Nat))]) (D1.set o (.cells 0 (vs.set i v')))):=by
      rw [itW_step]
      simp only [bl,eS] at gm
      simp only [bl,Iz,a_f13,s_f13_l1_b,s_f13_l2_b,aa,bl,i64,reduceIte,reduceCtorEq,Nat.reduceEqDiff,Nat.reduceLT,Nat.reduceLeDiff,Nat.reduceBEq,Nat.reduceAdd,fillA,splice,Nat.reduceMul,amY,op_eqP,hlt',a1,a2,g4,gm,p1,p2,p3,p4,hwk]
     rcases hD with ⟨h1,h2,h3⟩ | ⟨h1,h2,h3⟩
     ·refine .inl ⟨fun x hx=>?_,hstep.trans h2,by rw [List.map_cons];exact h3⟩
      rcases List.mem_cons.1 hx with e | e
      ·rw [e];exact hm
      ·exact h1 x e
     ·obtain ⟨x,x1,x2⟩:=h1
      exact .inr ⟨⟨x,List.mem_cons_of_mem _ x1,x2⟩,hstep.trans h2,h3⟩
end
end Go.Proofs.Ytgimjihhlhjejaa
set_option maxRecDepth 100000
namespace Go.Proofs.Ytgimjihhlhjejaa
open Go.AM
theorem RdBlks.at2 {H:Heap} {bv:V} {bs:List BlkD} (h:RdBlks H bv bs) {i:Nat} {b:BlkD} (hb:bs[i]?=some b):∃ (a la ca cv:V),xIndexAddr 2 bv (.s (.int .i64 i))=some a∧xFieldAddr 0 a=some la∧xFieldAddr 1 a=some ca∧cv.one=true∧(∀ H',Ext H H'→xLoad H' true 2 a=some (.agg [Sb b.label,cv])∧xLoad H' false 1 la=some (Sb b.label)∧xLoad H' false 1 ca=some cv∧xLen H' .s cv=some (.s (.int .i64 b.n)))∧(0 < b.n→∃ (x:InsC) (e oa va:V),xIndexAddr 8 cv (.s (.int .i64 (b.n - 1:Nat)))=some e∧x.op=b.op∧x.av.one=true∧Rd H x.lv (b.labs.map Sb)∧Wide1 x.lv∧xFieldAddr 0 e=some oa∧xFieldAddr 7 e=some va∧∀ H',Ext H H'→xLoad H' true 8 e=some (.agg x.cells)∧xLoad H' false 1 oa=some (.s (.int .u8 b.op))∧xLoad H' false 1 va=some x.lv):=by
 obtain ⟨⟨R,h1,h2,h3⟩,h4⟩:=h
 obtain ⟨r,r1,r2⟩:=h3 i b hb
 obtain ⟨⟨cv,Q,q1,q2,q3,q4⟩,q5,q6⟩:=r2
 subst q1
 obtain ⟨a,a1,a2,a3⟩:=h1.at' i _ r1
 obtain ⟨la,l1,l2⟩:=a3 0 (Sb b.label) rfl
 obtain ⟨ca,c1,c2⟩:=a3 1 cv rfl
 refine ⟨a,la,ca,cv,a1,l1,c1,q2.one,fun H' k=>⟨xLoad_ext k a2,xLoad_ext k l2,xLoad_ext k c2,by rw [(q2.ext2 k).len,q3]⟩,fun hn=>?_⟩
 obtain ⟨x,x1,x2,x3,x4,x5⟩:=q4 hn
 obtain ⟨e,e1,e2,e3⟩:=q2.at' _ _ x1
 obtain ⟨oa,o1,o2⟩:=e3 0 (.s (.int .u8 x.op)) rfl
 obtain ⟨va,v1,v2⟩:=e3 7 x.lv rfl
 rw [x2] at o2
 exact ⟨x,e,oa,va,e1,x2,x3,x4,x5,o1,v1,fun H' k=>⟨xLoad_ext k e2,xLoad_ext k o2,xLoad_ext k v2⟩⟩
theorem RdBlks.small {H:Heap} {bv:V} {bs:List BlkD} (h:RdBlks H bv bs) {i:Nat} {b:BlkD} (hb:bs[i]?=some b):b.n < 2 ^ 63∧b.labs.length < 2 ^ 63:=by
 obtain ⟨⟨R,h1,h2,h3⟩,h4⟩:=h
 obtain ⟨r,r1,r2⟩:=h3 i b hb
 exact ⟨r2.bn,r2.bl⟩
def badD (labs:List ByteArray) (b:BlkD):Bool:=b.n == 0 || (!(b.op == 12) && !(b.op == 13) && !(b.op == 14)) || ((b.op == 12 || b.op == 13) && b.labs.any fun l=>!memD labs l)
def succR (labs:List ByteArray) (b:BlkD):List Int:=if b.op=14 then [] else b.labs.map fun l=>(fidx labs l:Int)
def rowsTo (labs:List ByteArray) (bs:List BlkD) (i:Nat):List (List Int):=(bs.take i).map (fun b=>fin (succR labs b)) ++ List.replicate (bs.length - i) []
theorem rowsTo_len (labs:List ByteArray) (bs:List BlkD) {i:Nat} (hi:i≤bs.length):(rowsTo labs bs i).length=bs.length:=by
 rw [rowsTo,List.length_append,List.length_map,List.length_take,List.length_replicate];omega
theorem rowsTo_get (labs:List ByteArray) (bs:List BlkD) {i:Nat} (hi:i < bs.length):(rowsTo labs bs i).getD i []=[]:=by
 rw [List.getD,rowsTo,List.getElem?_append_right (by rw [List.length_map,List.length_take];omega),List.getElem?_replicate]
 split <;> rfl
theorem rowsTo_step (labs:List ByteArray) (bs:List BlkD) {i:Nat} {b:BlkD} (hb:bs[i]?=some b):(rowsTo labs bs i).set i (fin (succR labs b))=rowsTo labs bs (i+1):=by
 have hi:=(List.getElem?_eq_some_iff.1 hb).1
 rw [rowsTo,rowsTo,List.set_append_right _ _ (by rw [List.length_map,List.length_take];omega),List.take_succ,hb]
 obtain ⟨d,hd⟩:∃ d,bs.length - i=d+1:=⟨bs.length - i - 1,by omega⟩
 rw [hd,List.replicate_succ,List.length_map,List.length_take,Nat.min_eq_left (by omega),Nat.sub_self,List.set_cons_zero,show bs.length - (i+1)=d by omega]
 simp
theorem fin_nil:fin []=[]:=by simp [fin,sortZ,compactZ]
theorem SO.tidy {CT:Nat→Option CFun} (hS:CT k_f22=some (.prim sortG)) (hK:CT k_f23=some (.code s_f23)) {A D:Heap} {o base:Nat} {vs:List V} {R:List (List Int)} (h:SO A D o vs R) (hA:A.length=o+1) (hb:base≤o) {i:Nat} (hi:i < R.length) (hs:(R.getD i []).length < 2 ^ 60):
 ∃ w v' D1 D2,xIndexAddr 1 (.sl o 0 0 R.length 1) (.s (.int .i64 i))=some (.ref o 0 i)∧xLoad D false 1 (.ref o 0 i)=some w∧callW CT (.fn k_f22 [] []) [w] base D=some (und,D1)∧xLoad D1 false 1 (.ref o 0 i)=some w∧callW CT (.fn k_f23 [] []) [w] base D1=some (v',D2)∧storeV D2 base 1 v' (.ref o 0 i)=some (D2.set o (.cells 0 (vs.set i v')))∧SO A (D2.set o (.cells 0 (vs.set i v'))) o (vs.set i v') (R.set i (fin (R.getD i [])))∧D1.length=D.length∧D2.length=D.length∧(∀ id g c,id < o→getC D id g=some c→getC D1 id g=some c):=by
 have hgi:=rowsV_get (some_getD hi [])
 obtain ⟨x,hx,hox⟩:=h.bag.2.1 i _ hgi
 obtain ⟨H1,s1,s2,s3⟩:=sort_own2 hS base (o+1) D x _ hox (by omega) (by omega)
 have hsl:(sortZ (R.getD i [])).length=(R.getD i []).length:=by rw [sortZ,List.length_mergeSort]
 obtain ⟨v',H2,c1,c2,c3⟩:=compact_own2 hK base (o+1) H1 x _ s2 (by omega) (by omega)
 have hc1:getC H1 o 0=some vs:=by rw [s3.get (by omega) (own_at hox)];exact h.get
 have hT:=s3.trans c3
 obtain ⟨hc2,hB2,hE⟩:=h.bag.touch (r':=(fin (R.getD i [])).map iV) (by omega) h.get hx hT (own_at hox) c2
 rw [← rowsV_put] at hB2
 obtain ⟨a1,a2⟩:=at_sl (n:=R.length) h.get hi hx
 obtain ⟨b1,b2⟩:=at_sl (n:=R.length) hc1 hi hx
 have hvl:vs.length=R.length:=by rw [h.bag.1,rowsV_len]
 have hst:=storeV_at (v:=v') (base:=base) hc2 hb c2.one (off:=i) (by omega)
 have he1:=hE _ (by rw [List.length_set];omega) h.ext
 have he2:=he1.set_both (o:=o) (by rw [List.length_set];omega) (.cells 0 (vs.set i v'))
 rw [List.set_set] at he2
 exact ⟨x,v',H1,H2,a1,a2,s1,b2,c1,hst,⟨he2,getC_put hc2,hB2⟩,s3.len,hT.len,fun id g c hid hg=>by rw [s3.get (by omega) (own_at hox)];exact hg⟩
end Go.Proofs.Ytgimjihhlhjejaa
set_option maxRecDepth 100000
namespace Go.Proofs.Ytgimjihhlhjejaa
open Go.AM
theorem set_same {R:List (List Int)} {i:Nat} (hi:i < R.length):R.set i (R.getD i [])=R:=by
 apply List.ext_getElem?
 intro j
 by_cases e:i=j
 ·subst e;rw [List.getElem?_set_self hi,some_getD hi []]
 ·rw [List.getElem?_set_ne e]
section
variable {CT:Nat→Option CFun}
set_option maxHeartbeats 1000000 in
theorem of_l2 (hSo:CT k_f22=some (.prim sortG)) (hKo:CT k_f23=some (.code s_f23)) (base:Nat) {H A:Heap} {o:Nat} {M:Ob} {bv:V} {bs:List BlkD} (hv:RdBlks H bv bs) (hn:bs.length < 2 ^ 30) (hll:∀ b∈bs,b.labs.length < 2 ^ 30) (hA:A.length=o+1) (hHo:H.length+4≤o) (hH:Ext H A) (hb:base≤H.length) (hM:A[H.length+2]?=some M) (hFA:FirstAt eS (bs.map (·.label)) 0 M) (h4:getC A (H.length+3) 0=some [.mp (H.length+2)]) (h2:getC A (H.length+1) 0=some [nilS,nilS]) {L:Nat} (hL:o+1≤L):
 ∀ (rest:List BlkD) (i:Nat) (D:Heap) (vs:List V),bs.drop i=rest→i≤bs.length→SO A D o vs (rowsTo (bs.map (·.label)) bs i)→
 ∃ D',((rest.any (badD (bs.map (·.label)))=false∧itW (evC (callW CT) itW base s_f13_l2) [] L (frOf 103 [(2,.ref (H.length+1) 0 0),(4,.ref (H.length+3) 0 0),(7,.sl o 0 0 bs.length 1),(30,bv),(31,Iz bs.length),(32,Iz i)]) D=some (.ext 2,frOf 103 [(2,.ref (H.length+1) 0 0),(4,.ref (H.length+3) 0 0),(7,.sl o 0 0 bs.length 1),(30,bv),(31,Iz bs.length),(32,Iz bs.length),(33,bl false)],D')∧∃ vs',SO A D' o vs' (rowsTo (bs.map (·.label)) bs bs.length))∨
  (rest.any (badD (bs.map (·.label)))=true∧itW (evC (callW CT) itW base s_f13_l2) [] L (frOf 103 [(2,.ref (H.length+1) 0 0),(4,.ref (H.length+3) 0 0),(7,.sl o 0 0 bs.length 1),(30,bv),(31,Iz bs.length),(32,Iz i)]) D=some (.ret,frOf 103 [(2,.ref (H.length+1) 0 0),(3,Iz 4)],D')∧Ext H D'∧getC D' (H.length+1) 0=some [nilS,nilS])):=by
 intro rest
 induction rest with
 | nil=>
   intro i D vs hd hi hS
   obtain rfl:=drop_nil hd hi
   refine ⟨trim L (frOf 103 [(2,.ref (H.length+1) 0 0),(4,.ref (H.length+3) 0 0),(7,.sl o 0 0 bs.length 1),(30,bv),(31,Iz bs.length),(32,Iz bs.length),(33,bl false)]) D,.inl ⟨rfl,?_,vs,hS.trim hA hL _⟩⟩
   rw [itW_step]
   simp only [bl,Iz,a_f13,s_f13_l1_b,s_f13_l2_b,aa,bl,i64,reduceIte,reduceCtorEq,Nat.reduceEqDiff,Nat.reduceLT,Nat.reduceLeDiff,Nat.reduceBEq,Nat.reduceAdd,fillA,splice,Nat.reduceMul,amY,op_eqP,Int.lt_irrefl]
 | cons b rest ih=>
   intro i D vs hd hi hS
   obtain ⟨hx,hlt,hd'⟩:=drop_cons hd
   have hlt':(i:Int) < (bs.length:Int):=by omega
   have hwk:=w64 (n:=i) (by omega)
   have hHD:=hS.old hH (by omega)
   have hDl:=hS.le
   have hlb:=hll b (List.mem_of_getElem? hx)
   obtain ⟨a,la,ca,cv,a1,a2,a3,cvo,rd,hq⟩:=hv.at2 hx
   have r1:=rd D hHD
   have hb0:base≤D.length:=by omega
   have hb1:base≤H.length+1:=by omega
   have hb2:base≤D.length+1:=by omega
   have e1:Ext H (D ++ [Ob.cells 0 [Sb b.label,cv]]):=hHD.trans (Ext.app _ _)
   have g9:xLoad (D ++ [Ob.cells 0 [Sb b.label,cv]]) false 1 (.ref D.length 0 1)=some cv:=by rw [xo_ref,getC_new];rfl
   have g9l:=(rd _ e1).2.2.2
   have g2:=getC_app (G:=[Ob.cells 0 [Sb b.label,cv]]) (hS.getO h2 (by omega))
   have bad0:∀ (G:Heap),Ext H (trim L (frOf 103 [(2,.ref (H.length+1) 0 0),(3,Iz 4)]) ((D ++ G).set (H.length+1) (.cells 0 [nilS,nilS])))∧getC (trim L (frOf 103 [(2,.ref (H.length+1) 0 0),(3,Iz 4)]) ((D ++ G).set (H.length+1) (.cells 0 [nilS,nilS]))) (H.length+1) 0=some [nilS,nilS]:=fun G=>
    ⟨((hHD.trans (Ext.app _ G)).set (by omega) _).trim (by omega) _,trim_get (getC_put (getC_app (hS.getO h2 (by omega)))) (by omega)⟩
   by_cases hn0:b.n=0
   ·have e0:((b.n:Int) == 0)=true:=by rw [hn0];rfl
    have hbad:badD (bs.map (·.label)) b=true:=by unfold badD;rw [hn0];rfl
    have hbz:=bad0 [Ob.cells 0 [Sb b.label,cv]]
    refine ⟨_,.inr ⟨by rw [List.any_cons,hbad,Bool.true_or],?_,hbz.1,hbz.2⟩⟩
    rw [itW_step]
    simp only [nilS] at g2
    simp only [bl,Iz,nilS,a_f13,s_f13_l1_b,s_f13_l2_b,aa,bl,i64,reduceIte,reduceCtorEq,Nat.reduceEqDiff,Nat.reduceLT,Nat.reduceLeDiff,Nat.reduceBEq,Nat.reduceAdd,fillA,splice,Nat.reduceMul,amY,op_eqP,hlt',a1,r1.1,hb0,cvo,Bool.and_self,g9,g9l,e0,g2,hb1]
   ·have e0:((b.n:Int) == 0)=false:=by rw [beq_eq_false_iff_ne];omega
    have hb0':(b.n == 0)=false:=by rw [beq_eq_false_iff_ne];omega
    have hbn:=(hv.small hx).1
    have hwm:IntKind.i64.wrap ((b.n:Int) - 1)=((b.n - 1:Nat):Int):=by rw [IntKind.wrap_i64];omega
    obtain ⟨x,e,oa,va,x1,xop,xav,xl,xw,x2,x3,xr⟩:=hq (by omega)
    have xr1:=xr _ e1
    have e2:Ext H (D ++ [Ob.cells 0 [Sb b.label,cv]] ++ [Ob.cells 0 x.cells]):=e1.trans (Ext.app _ _)
    have g10:xLoad (D ++ [Ob.cells 0 [Sb b.label,cv]] ++ [Ob.cells 0 x.cells]) false 1 (.ref (D.length+1) 0 0)=some (.s (.int .u8 b.op)):=by
     have:=getC_new (D ++ [Ob.cells 0 [Sb b.label,cv]]) 0 x.cells
     rw [len_snoc] at this
     rw [xo_ref,this,← xop];rfl
    have g17:xLoad (D ++ [Ob.cells 0 [Sb b.label,cv]] ++ [Ob.cells 0 x.cells]) false 1 (.ref (D.length+1) 0 7)=some x.lv:=by
     have:=getC_new (D ++ [Ob.cells 0 [Sb b.label,cv]]) 0 x.cells
     rw [len_snoc] at this
     rw [xo_ref,this];rfl
    have g17l:=Sb_len (xl.ext e2)
    have hS2:=(hS.app [Ob.cells 0 [Sb b.label,cv]]).app [Ob.cells 0 x.cells]
    have hl2:(D ++ [Ob.cells 0 [Sb b.label,cv]] ++ [Ob.cells 0 x.cells]).length=D.length+2:=by simp
    have g2':=getC_app (G:=[Ob.cells 0 x.cells]) g2
    have hrl:=rowsTo_len (bs.map (·.label)) bs hi
    have hrg:=rowsTo_get (bs.map (·.label)) bs hlt
    have hstep0:=rowsTo_step (bs.map (·.label)) bs hx
    simp only [InsC.cells] at xr1 g10 g17 g17l hS2 hl2 g2'
    obtain ⟨D2,hD2⟩:∃ D2,D ++ [Ob.cells 0 [Sb b.label,cv]] ++ [Ob.cells 0 [V.s (.int .u8 x.op),Sb x.d,Sb x.a,Sb x.b,V.s (.int .i64 x.k),Sb x.f,x.av,x.lv]]=D2:=⟨_,rfl⟩
    have hD2s:∀ c,(D2.set (D.length+1) c)=D ++ [Ob.cells 0 [Sb b.label,cv]] ++ [c]:=fun c=>by rw [← hD2];simp
    rw [hD2] at g10 g17 g17l hS2 hl2 g2'
    have go:∀ (D3:Heap) (vs3:List V) (ls:List Int),ls.length < 2 ^ 40→SO A D3 o vs3 ((rowsTo (bs.map (·.label)) bs i).set i ls)→fin ls=fin (succR (bs.map (·.label)) b)→∃ w v' D4 D5,xIndexAddr 1 (.sl o 0 0 bs.length 1) (.s (.int .i64 i))=some (.ref o 0 i)∧xLoad D3 false 1 (.ref o 0 i)=some w∧callW CT (.fn k_f22 [] []) [w] base D3=some (und,D4)∧xLoad D4 false 1 (.ref o 0 i)=some w∧callW CT (.fn k_f23 [] []) [w] base D4=some (v',D5)∧storeV D5 base 1 v' (.ref o 0 i)=some (D5.set o (.cells 0 (vs3.set i v')))∧SO A (D5.set o (.cells 0 (vs3.set i v'))) o (vs3.set i v') (rowsTo (bs.map (·.label)) bs (i+1)):=by
     intro D3 vs3 ls hls hS3 hfin
     have hset:((rowsTo (bs.map (·.label)) bs i).set i ls).getD i []=ls:=by rw [List.getD,List.getElem?_set_self (by omega)];rfl
     obtain ⟨w,v',D4,D5,q1,q2,q3,q4,q5,q6,q7,_⟩:=SO.tidy (base:=base) hSo hKo hS3 hA (by omega) (i:=i) (by rw [List.length_set];omega) (by rw [hset];omega)
     rw [List.length_set,hrl] at q1
     rw [hset,List.set_set,hfin,hstep0] at q7
     exact ⟨w,v',D4,D5,q1,q2,q3,q4,q5,q6,q7⟩
    have fin1:∀ (D5:Heap) (vs5:List V),SO A D5 o vs5 (rowsTo (bs.map (·.label)) bs (i+1))→badD (bs.map (·.label)) b=false→itW (evC (callW CT) itW base s_f13_l2) [] L (frOf 103 [(2,.ref (H.length+1) 0 0),(4,.ref (H.length+3) 0 0),(7,.sl o 0 0 bs.length 1),(30,bv),(31,Iz bs.length),(32,Iz i)]) D=itW (evC (callW CT) itW base s_f13_l2) [] L (frOf 103 [(2,.ref (H.length+1) 0 0),(4,.ref (H.length+3) 0 0),(7,.sl o 0 0 bs.length 1),(30,bv),(31,Iz bs.length),(32,Iz (i+1:Nat))]) (trim L (frOf 103 [(2,.ref (H.length+1) 0 0),(4,.ref (H.length+3) 0 0),(7,.sl o 0 0 bs.length 1),(30,bv),(31,Iz bs.length),(32,Iz (i+1:Nat))]) D5)→
     ∃ D',(((b :: rest).any (badD (bs.map (·.label)))=false∧itW (evC (callW CT) itW base s_f13_l2) [] L (frOf 103 [(2,.ref (H.length+1) 0 0),(4,.ref (H.length+3) 0 0),(7,.sl o 0 0 bs.length 1),(30,bv),(31,Iz bs.length),(32,Iz i)]) D=some (.ext 2,frOf 103 [(2,.ref (H.length+1) 0 0),(4,.ref (H.length+3) 0 0),(7,.sl o 0 0 bs.length 1),(30,bv),(31,Iz bs.length),(32,Iz bs.length),(33,bl false)],D')∧∃ vs',SO A D' o vs' (rowsTo (bs.map (·.label)) bs bs.length))∨
      ((b :: rest).any (badD (bs.map (·.label)))=true∧itW (evC (callW CT) itW base s_f13_l2) [] L (frOf 103 [(2,.ref (H.length+1) 0 0),(4,.ref (H.length+3) 0 0),(7,.sl o 0 0 bs.length 1),(30,bv),(31,Iz bs.length),(32,Iz i)]) D=some (.ret,frOf 103 [(2,.ref (H.length+1) 0 0),(3,Iz 4)],D')∧Ext H D'∧getC D' (H.length+1) 0=some [nilS,nilS])):=by
     intro D5 vs5 hS5 hgd hst
     obtain ⟨D',hD⟩:=ih (i+1) (trim L (frOf 103 [(2,.ref (H.length+1) 0 0),(4,.ref (H.length+3) 0 0),(7,.sl o 0 0 bs.length 1),(30,bv),(31,Iz bs.length),(32,Iz (i+1:Nat))]) D5) vs5 hd' (by omega) (hS5.trim hA hL _)
     refine ⟨D',?_⟩
     rw [List.any_cons,hgd,Bool.false_or]
     rcases hD with ⟨p1,p2,p3⟩ | ⟨p1,p2,p3⟩
     ·exact .inl ⟨p1,hst.trans p2,p3⟩
     ·exact .inr ⟨p1,hst.trans p2,p3⟩
    by_cases hop:b.op=12∨b.op=13
    ·obtain ⟨D3,h3⟩:=of_l1 (CT:=CT) (bv:=bv) (n:=bs.length) base hA hHo hH hb hM hFA h4 h2 xl xw (by omega) (L:=D2.length) (by omega) hlt b.labs 0 D2 vs (rowsTo (bs.map (·.label)) bs i) rfl (Nat.zero_le _) hS2 hrl (by rw [hrg];simp;omega)
     rw [hrg,List.nil_append,cast0] at h3
     have hne14:¬ b.op=14:=by omega
     have hsucc:succR (bs.map (·.label)) b=b.labs.map fun l=>(fidx (bs.map (·.label)) l:Int):=by rw [succR,if_neg hne14]
     have hop2:(b.op == 12 || b.op == 13)=true:=by
      rcases hop with e | e <;> rw [e] <;> rfl
     have hbe:badD (bs.map (·.label)) b=b.labs.any fun l=>!memD (bs.map (·.label)) l:=by
      unfold badD
      rw [hb0',hop2,Bool.false_or,Bool.true_and]
      rcases hop with e | e <;> rw [e] <;> simp
     rcases h3 with ⟨k1,k2,vs3,k3⟩ | ⟨k1,k2,k3,k4⟩
     ·have hgd:badD (bs.map (·.label)) b=false:=by
       rw [hbe,List.any_eq_false]
       intro l hl
       rw [k1 l hl];simp
      obtain ⟨w,v',D4,D5,q1,q2,q3,q4,q5,q6,q7⟩:=go D3 vs3 _ (by rw [List.length_map];omega) k3 (by rw [hsucc])
      refine fin1 _ _ q7 hgd ?_
      rw [itW_step]
      rw [hl2] at k2
      simp only [bl,Iz] at k2
      rcases hop with e | e
      ·rw [e] at g10
       simp only [bl,Iz,nilS,a_f13,s_f13_l1_b,s_f13_l2_b,aa,bl,i64,reduceIte,reduceCtorEq,Nat.reduceEqDiff,Nat.reduceLT,Nat.reduceLeDiff,Nat.reduceBEq,Nat.reduceAdd,fillA,splice,Nat.reduceMul,amY,op_eqP,hlt',a1,r1.1,hb0,hb2,cvo,xav,xl.one,Bool.and_self,g9,g9l,e0,hwm,x1,xr1.1,hD2,g10,g17,g17l,hl2,k2,q1,q2,q3,q4,q5,q6,hwk,beq_self_eq_true]
      ·rw [e] at g10
       have hz:((13:Int) == 12)=false:=rfl
       simp only [bl,Iz,nilS,a_f13,s_f13_l1_b,s_f13_l2_b,aa,bl,i64,reduceIte,reduceCtorEq,Nat.reduceEqDiff,Nat.reduceLT,Nat.reduceLeDiff,Nat.reduceBEq,Nat.reduceAdd,fillA,splice,Nat.reduceMul,amY,op_eqP,hlt',a1,r1.1,hb0,hb2,cvo,xav,xl.one,Bool.and_self,g9,g9l,e0,hwm,x1,xr1.1,hD2,g10,hz,g17,g17l,hl2,k2,q1,q2,q3,q4,q5,q6,hwk,beq_self_eq_true]
     ·have hgd:badD (bs.map (·.label)) b=true:=by
       rw [hbe,List.any_eq_true]
       obtain ⟨l,l1,l2⟩:=k1
       exact ⟨l,l1,by rw [l2];rfl⟩
      refine ⟨trim L (frOf 103 [(2,.ref (H.length+1) 0 0),(3,Iz 4)]) D3,.inr ⟨by rw [List.any_cons,hgd,Bool.true_or],?_,k3.trim (by omega) _,trim_get k4 (by omega)⟩⟩
      rw [itW_step]
      rw [hl2] at k2
      simp only [bl,Iz] at k2
      rcases hop with e | e
      ·rw [e] at g10
       simp only [bl,Iz,nilS,a_f13,s_f13_l1_b,s_f13_l2_b,aa,bl,i64,reduceIte,reduceCtorEq,Nat.reduceEqDiff,Nat.reduceLT,Nat.reduceLeDiff,Nat.reduceBEq,Nat.reduceAdd,fillA,splice,Nat.reduceMul,amY,op_eqP,hlt',a1,r1.1,hb0,hb2,cvo,xav,xl.one,Bool.and_self,g9,g9l,e0,hwm,x1,xr1.1,hD2,g10,g17,g17l,hl2,k2,beq_self_eq_true]
      ·rw [e] at g10
       have hz:((13:Int) == 12)=false:=rfl
       simp only [bl,Iz,nilS,a_f13,s_f13_l1_b,s_f13_l2_b,aa,bl,i64,reduceIte,reduceCtorEq,Nat.reduceEqDiff,Nat.reduceLT,Nat.reduceLeDiff,Nat.reduceBEq,Nat.reduceAdd,fillA,splice,Nat.reduceMul,amY,op_eqP,hlt',a1,r1.1,hb0,hb2,cvo,xav,xl.one,Bool.and_self,g9,g9l,e0,hwm,x1,xr1.1,hD2,g10,hz,g17,g17l,hl2,k2,beq_self_eq_true]
    ·have n12:(b.op == 12)=false:=by rw [beq_eq_false_iff_ne];exact fun e=>hop (.inl e)
     have n13:(b.op == 13)=false:=by rw [beq_eq_false_iff_ne];exact fun e=>hop (.inr e)
     by_cases h14:b.op=14
     ·have hgd:badD (bs.map (·.label)) b=false:=by
       unfold badD
       rw [hb0',n12,n13,h14];rfl
      have hsucc:succR (bs.map (·.label)) b=[]:=by rw [succR,if_pos h14]
      have hsame:(rowsTo (bs.map (·.label)) bs i).set i []=rowsTo (bs.map (·.label)) bs i:=by
       have:=set_same (R:=rowsTo (bs.map (·.label)) bs i) (i:=i) (by omega)
       rwa [hrg] at this
      obtain ⟨w,v',D4,D5,q1,q2,q3,q4,q5,q6,q7⟩:=go D2 vs [] (by simp) (by rw [hsame];exact hS2) (by rw [hsucc])
      refine fin1 _ _ q7 hgd ?_
      rw [itW_step]
      rw [h14] at g10 n12 n13
      simp only [bl,Iz,nilS,a_f13,s_f13_l1_b,s_f13_l2_b,aa,bl,i64,reduceIte,reduceCtorEq,Nat.reduceEqDiff,Nat.reduceLT,Nat.reduceLeDiff,Nat.reduceBEq,Nat.reduceAdd,fillA,splice,Nat.reduceMul,amY,op_eqP,hlt',a1,r1.1,hb0,hb2,cvo,xav,xl.one,Bool.and_self,g9,g9l,e0,hwm,x1,xr1.1,hD2,g10,n12,n13,hl2,q1,q2,q3,q4,q5,q6,hwk,beq_self_eq_true]
     ·have n14:(b.op == 14)=false:=by rw [beq_eq_false_iff_ne];exact h14
      have hgd:badD (bs.map (·.label)) b=true:=by
       unfold badD
       rw [hb0',n12,n13,n14];rfl
      have hbz:=bad0 ([Ob.cells 0 [Sb b.label,cv]] ++ [Ob.cells 0 [V.s (.int .u8 x.op),Sb x.d,Sb x.a,Sb x.b,V.s (.int .i64 x.k),Sb x.f,x.av,x.lv]])
      rw [← List.append_assoc,hD2] at hbz
      refine ⟨_,.inr ⟨by rw [List.any_cons,hgd,Bool.true_or],?_,hbz.1,hbz.2⟩⟩
      rw [itW_step]
      simp only [nilS] at g2'
      simp only [bl,Iz,nilS,a_f13,s_f13_l1_b,s_f13_l2_b,aa,bl,i64,reduceIte,reduceCtorEq,Nat.reduceEqDiff,Nat.reduceLT,Nat.reduceLeDiff,Nat.reduceBEq,Nat.reduceAdd,fillA,splice,Nat.reduceMul,amY,op_eqP,hlt',a1,r1.1,hb0,hb1,hb2,cvo,xav,xl.one,Bool.and_self,g9,g9l,e0,hwm,x1,xr1.1,hD2,g10,n12,n13,n14,g2']
end
end Go.Proofs.Ytgimjihhlhjejaa
set_option maxRecDepth 100000
namespace Go.Proofs.Ytgimjihhlhjejaa
open Go.AM
def OwnB (m:Nat) (H:Heap) (v:V) (R:List (List V)):Prop:=∃ o vs m',v=.sl o 0 0 R.length 1∧m≤o∧o < m'∧getC H o 0=some vs∧BagO m' H vs R
theorem BagO.keep {m:Nat} {H D:Heap} {vs:List V} {R:List (List V)} (h:BagO m H vs R) (hk:∀ id g c,m≤id→getC H id g=some c→getC D id g=some c):BagO m D vs R:=by
 refine ⟨h.1,fun j r hr=>?_,h.2.2⟩
 obtain ⟨x,h1,h2⟩:=h.2.1 j r hr
 refine ⟨x,h1,?_⟩
 rcases h2 with h2 | ⟨id,g,c,rfl,k1,k2,k3,k4⟩
 ·exact .inl h2
 ·exact .inr ⟨id,g,c,rfl,hk id g c k4 k1,k2,k3,k4⟩
theorem OwnB.rd {m:Nat} {H:Heap} {v:V} {R:List (List V)} (h:OwnB m H v R):RdRows H v R:=by
 obtain ⟨o,vs,m',rfl,_,_,hc,hB⟩:=h
 exact hB.rows hc
theorem OwnB.mono {m k:Nat} {H:Heap} {v:V} {R:List (List V)} (h:OwnB m H v R) (hk:k≤m):OwnB k H v R:=by
 obtain ⟨o,vs,m',e,h1,h2,hc,hB⟩:=h
 exact ⟨o,vs,m',e,by omega,h2,hc,hB⟩
theorem OwnB.keep {m:Nat} {H D:Heap} {v:V} {R:List (List V)} (h:OwnB m H v R) (hk:∀ id g c,m≤id→getC H id g=some c→getC D id g=some c):OwnB m D v R:=by
 obtain ⟨o,vs,m',e,h1,h2,hc,hB⟩:=h
 exact ⟨o,vs,m',e,h1,h2,hk _ _ _ h1 hc,hB.keep fun id g c hid hg=>hk id g c (by omega) hg⟩
theorem OwnB.ext {m:Nat} {H D:Heap} {v:V} {R:List (List V)} (h:OwnB m H v R) (k:Ext H D):OwnB m D v R:=h.keep fun _ _ _ _ hg=>getC_ext hg k
theorem OwnB.one {m:Nat} {H:Heap} {v:V} {R:List (List V)} (h:OwnB m H v R):v.one=true:=by
 obtain ⟨o,vs,m',rfl,_⟩:=h
 rfl
def OwnT (lo hi:Nat) (H:Heap) (v:V) (R:List (List V)):Prop:=∃ o vs m',v=.sl o 0 0 R.length 1∧lo≤o∧o < m'∧m'≤hi∧getC H o 0=some vs∧BagO m' H vs R∧∀ (j id g k:Nat),vs[j]?=some (.sl id g 0 k 1)→id < hi
theorem OwnT.b {lo hi:Nat} {H:Heap} {v:V} {R:List (List V)} (h:OwnT lo hi H v R):OwnB lo H v R:=by
 obtain ⟨o,vs,m',e,h1,h2,_,hc,hB,_⟩:=h
 exact ⟨o,vs,m',e,h1,h2,hc,hB⟩
theorem OwnT.keep {lo hi:Nat} {H D:Heap} {v:V} {R:List (List V)} (h:OwnT lo hi H v R) (hk:∀ id g c,lo≤id→getC H id g=some c→getC D id g=some c):OwnT lo hi D v R:=by
 obtain ⟨o,vs,m',e,h1,h2,h3,hc,hB,h4⟩:=h
 exact ⟨o,vs,m',e,h1,h2,h3,hk _ _ _ h1 hc,hB.keep fun id g c hid hg=>hk id g c (by omega) hg,h4⟩
theorem OwnT.mono {lo hi k:Nat} {H:Heap} {v:V} {R:List (List V)} (h:OwnT lo hi H v R) (hk:k≤lo):OwnT k hi H v R:=by
 obtain ⟨o,vs,m',e,h1,h2,h3,hc,hB,h4⟩:=h
 exact ⟨o,vs,m',e,by omega,h2,h3,hc,hB,h4⟩
theorem BagO.lt {m:Nat} {H:Heap} {vs:List V} {R:List (List V)} (h:BagO m H vs R):∀ (j id g k:Nat),vs[j]?=some (.sl id g 0 k 1)→id < H.length:=by
 intro j id g k hj
 have hl:=(List.getElem?_eq_some_iff.1 hj).1
 obtain ⟨x,h1,h2⟩:=h.2.1 j _ (List.getElem?_eq_getElem (show j < R.length by rw [← h.1];exact hl))
 rw [hj] at h1
 obtain rfl:=Option.some.inj h1
 exact own_lt h2 id g k rfl
def labsOf (bs:List BlkD):List ByteArray:=bs.map (·.label)
def ofBad (bs:List BlkD):Bool:=bs.any (badD (labsOf bs))
def ofRows (bs:List BlkD):List (List Int):=bs.map fun b=>fin (succR (labsOf bs) b)
theorem ofRows_len (bs:List BlkD):(ofRows bs).length=bs.length:=by simp [ofRows]
theorem rowsTo_all (bs:List BlkD):rowsTo (bs.map (·.label)) bs bs.length=ofRows bs:=by
 rw [rowsTo,List.take_length,Nat.sub_self,List.replicate_zero,List.append_nil]
 rfl
theorem fin_le (r:List Int):(fin r).length≤r.length:=by
 have:=compactZ_len (sortZ r)
 rw [sortZ,List.length_mergeSort] at this
 exact this
theorem ofRows_small {bs:List BlkD} {B:Nat} (hB:0 < B) (h:∀ b∈bs,b.labs.length < B):∀ r∈ofRows bs,r.length < B:=by
 intro r hr
 rw [ofRows,List.mem_map] at hr
 obtain ⟨b,hb,rfl⟩:=hr
 have h2:=h b hb
 unfold succR
 split
 ·rw [fin_nil];exact hB
 ·have h1:=fin_le (b.labs.map fun l=>(fidx (labsOf bs) l:Int))
  rw [List.length_map] at h1
  omega
def kC (H:Heap) (o1 o2 M:Ob) (bv:V):Heap:=H ++ [o1] ++ [o2] ++ [M] ++ [.cells 0 [V.mp (H.length+2)]] ++ [.cells 0 [bv]]
theorem kC_len (H:Heap) (o1 o2 M:Ob) (bv:V):(kC H o1 o2 M bv).length=H.length+5:=by simp [kC]
theorem hC_dead (H:Heap) (o1 o2 M:Ob) (bv:V) (G:Heap):(hC H o1 o2 M bv ++ G).set (H.length+5) .dead=kC H o1 o2 M bv ++ (.dead :: G):=by simp [hC,kC]
section
variable {CT:Nat→Option CFun}
structure CO (CT:Nat→Option CFun):Prop where
 g:CG CT
 of:CT k_f13=some (.code s_f13)
 bw:CT k_f21=some (.code s_f21)
 bw1:CT k_f28=some (.code s_f28)
set_option maxHeartbeats 1000000 in
theorem of_fun (h:CO CT) (base:Nat) (H:Heap) (hb:base≤H.length) {nm:ByteArray} {pv bv:V} {bs:List BlkD} (hp:pv.one=true) (hv:RdBlks H bv bs) (hn:bs.length < 2 ^ 18) (hll:∀ b∈bs,b.labs.length < 2 ^ 18):
 ∃ (H':Heap) (sv qv:V) (e:Int),callW CT (.fn k_f13 [] []) [.agg (fnC nm pv bv)] base H=some (.tup [.agg [sv,qv],.s (.int .i64 e)],H')∧Ext H H'∧sv.one=true∧qv.one=true∧((ofBad bs=true∧sv=nilS∧qv=nilS∧e=4)∨(ofBad bs=false∧e=0∧∃ mid,H.length≤mid∧mid≤H'.length∧OwnT H.length mid H' sv (rowsV (ofRows bs))∧OwnT mid H'.length H' qv (rowsV (backG (ofRows bs))))):=by
 have hbo:=hv.one
 obtain ⟨M',G',r1,r2⟩:=of_range (CT:=CT) h.bw1 base H hb (.cells 0 (fnC nm pv bv)) (.cells 0 [nilS,nilS]) hv (by omega)
 obtain ⟨G2,t1⟩:=trim_app (kC_len H (.cells 0 (fnC nm pv bv)) (.cells 0 [nilS,nilS]) M' bv) (frOf 103 [(1,V.ref H.length 0 0),(2,V.ref (H.length+1) 0 0),(4,V.ref (H.length+3) 0 0),(18,V.fn k_f28 [] [V.ref (H.length+4) 0 0])]) (.dead :: G')
 have hL:=hC_lp H (.cells 0 (fnC nm pv bv)) (.cells 0 [nilS,nilS]) M' bv G'
 have hrn:=fun fr v=>rngC_nrm (L:=H.length+5) (fr:=fr) (v:=v) hL
 obtain ⟨A0,hA0⟩:∃ A0,kC H (.cells 0 (fnC nm pv bv)) (.cells 0 [nilS,nilS]) M' bv ++ G2=A0:=⟨_,rfl⟩
 rw [hA0] at t1
 have eH0:Ext H A0:=by rw [← hA0];exact ⟨[.cells 0 (fnC nm pv bv)] ++ [.cells 0 [nilS,nilS]] ++ [M'] ++ [.cells 0 [V.mp (H.length+2)]] ++ [.cells 0 [bv]] ++ G2,by simp [kC]⟩
 have hA0l:H.length+5≤A0.length:=by rw [← hA0,List.length_append,kC_len];omega
 have g1:getC A0 H.length 0=some (fnC nm pv bv):=by rw [← hA0];simp [kC,getC]
 have g2:getC A0 (H.length+1) 0=some [nilS,nilS]:=by rw [← hA0];simp [kC,getC]
 have g4:getC A0 (H.length+3) 0=some [V.mp (H.length+2)]:=by rw [← hA0];simp [kC,getC]
 have gM:A0[H.length+2]?=some M':=by rw [← hA0];simp [kC]
 have l12:xLoad A0 false 1 (.ref H.length 0 2)=some bv:=by rw [xo_ref,g1];rfl
 have hvl0:=(hv.ext eH0).len
 have hmk:=make_n (H:=A0) (zero:=[nilS]) (sz:=1) (bytes:=24) (k:=.i64) (k':=.i64) (n:=bs.length) (by omega)
 rw [flat_one] at hmk
 obtain ⟨A,hA⟩:∃ A,A0 ++ [.cells 0 (List.replicate bs.length nilS)]=A:=⟨_,rfl⟩
 rw [hA] at hmk
 have eA:Ext A0 A:=by rw [← hA];exact Ext.app _ _
 have hAl:A.length=A0.length+1:=by rw [← hA];simp
 have hc:getC A A0.length 0=some (List.replicate bs.length nilS):=by rw [← hA];exact getC_new A0 0 _
 have hSO:SO A A A0.length (List.replicate bs.length nilS) (rowsTo (bs.map (·.label)) bs 0):=by
  refine ⟨by rw [getC_same hc];exact Ext.refl A,hc,?_⟩
  have:=bag_own (Bag.start (A0.length+1) A bs.length)
  rwa [show rowsV (rowsTo (bs.map (·.label)) bs 0)=List.replicate bs.length [] by simp [rowsTo,rowsV]]
 have l12A:=xLoad_ext eA l12
 have hvlA:=(hv.ext (eH0.trans eA)).len
 obtain ⟨D',hD⟩:=of_l2 (CT:=CT) h.g.sort h.g.comp base (A:=A) (o:=A0.length) hv (by omega) (fun b hb'=>by have:=hll b hb';omega) hAl (by omega) (eH0.trans eA) hb (by rw [← hA,List.getElem?_append_left (by omega)];exact gM) r2 (getC_ext g4 eA) (getC_ext g2 eA) (L:=A.length) (by omega) bs 0 A (List.replicate bs.length nilS) rfl (Nat.zero_le _) hSO
 rw [cast0] at hD
 simp only [hC] at r1
 simp only [lpO] at r1 hL hrn
 have hdead:=hC_dead H (.cells 0 (fnC nm pv bv)) (.cells 0 [nilS,nilS]) M' bv G'
 simp only [hC,lpO] at hrn hdead
 have h3:base≤H.length+3:=by omega
 have hbk:=backward_fun h.bw
 rcases hD with ⟨k1,k2,vs',k3⟩ | ⟨k1,k2,k3,k4⟩
 ·rw [rowsTo_all] at k3
  have hDl:=k3.le
  have hrd:RdRows D' (.sl A0.length 0 0 bs.length 1) (rowsV (ofRows bs)):=by
   have:=k3.bag.rows k3.get
   rwa [rowsV_len,ofRows_len] at this
  obtain ⟨qv,D2,b1,b2,b3,vs2,m2,b5,b8,b4,b6,b7⟩:=back_f h.g base D' _ (ofRows bs) hrd (by omega) (by rw [ofRows_len];omega) (fun r hr=>by have:=ofRows_small (B:=2 ^ 18) (by decide) hll r hr;omega)
  have g2D:=getC_ext (k3.getO (getC_ext g2 eA) (by omega)) b2
  have hb1:base≤H.length+1:=by omega
  have hk2:∀ id g c,H.length+2≤id→getC D2 id g=some c→getC (D2.set (H.length+1) (.cells 0 [.sl A0.length 0 0 bs.length 1,qv])) id g=some c:=fun id g c hid hg=>by rw [getC_set_ne _ (by omega)];exact hg
  have hq1:qv.one=true:=by rw [b4];rfl
  have hqc:=cells_of_one hq1
  refine ⟨D2.set (H.length+1) (.cells 0 [.sl A0.length 0 0 bs.length 1,qv]),.sl A0.length 0 0 bs.length 1,qv,0,?_,((k3.old (eH0.trans eA) (by omega)).trans b2).set (by omega) _,rfl,hq1,.inr ⟨k1,rfl,D'.length,by omega,by rw [List.length_set];exact b2.le,?_,?_⟩⟩
  ·refine callW_fnA (c:=s_f13) (k:=1) h.of rfl (by decide) s_f13_first ?_
   have gR:=getC_put (c':=[.sl A0.length 0 0 bs.length 1,qv]) g2D
   have xR:xLoad (D2.set (H.length+1) (.cells 0 [.sl A0.length 0 0 bs.length 1,qv])) true 2 (.ref (H.length+1) 0 0)=some (.agg [.sl A0.length 0 0 bs.length 1,qv]):=by rw [xo_ref,gR];rfl
   simp only [bl,nilS,fnC] at r1 hrn hdead t1 hmk g2D k2
   simp only [Iz] at k2
   simp only [fnC,nilS,s_f13,a_f13,s_f13_l1_b,s_f13_l2_b,aa,bl,i64,reduceIte,reduceCtorEq,Nat.reduceEqDiff,Nat.reduceLT,Nat.reduceLeDiff,Nat.reduceBEq,Nat.reduceAdd,fillA,splice,Nat.reduceMul,amY,op_eqP,op_mapNew,hp,hbo,Bool.and_self,hbk,h3,len_snoc,xo_ref,xa_ref,getC_snoc,r1,hrn,hdead,t1,l12,hvl0,op_mkSl,hmk,l12A,hvlA,k2,b1,hqc,hq1,g2D,hb1]
   rw [show loadV (D2.set (H.length+1) (.cells 0 [.sl A0.length 0 0 bs.length 1,qv])) true 2 (.ref (H.length+1) 0 0)=some (.agg [.sl A0.length 0 0 bs.length 1,qv]) from xR]
   rfl
  ·refine OwnT.mono (OwnT.keep (lo:=H.length+2) ⟨A0.length,vs',A0.length+1,by rw [rowsV_len,ofRows_len],by omega,by omega,by omega,getC_ext k3.get b2,k3.bag.keep fun id g c _ hg=>getC_ext hg b2,k3.bag.lt⟩ hk2) (by omega)
  ·rw [List.length_set]
   refine OwnT.keep ⟨D'.length,vs2,m2,by rw [b4,rowsV_len,backG_len],Nat.le_refl _,b5,b8,b6,bag_own b7,(bag_own b7).lt⟩ fun id g c hid hg=>hk2 id g c (by omega) hg
 ·refine ⟨_,nilS,nilS,4,?_,k3,rfl,rfl,.inl ⟨k1,rfl,rfl,rfl⟩⟩
  refine callW_fnA (c:=s_f13) (k:=1) h.of rfl (by decide) s_f13_first ?_
  have xR:xLoad D' true 2 (.ref (H.length+1) 0 0)=some (.agg [nilS,nilS]):=by rw [xo_ref,k4];rfl
  simp only [bl,nilS,fnC] at r1 hrn hdead t1 hmk k2 xR
  simp only [Iz] at k2
  simp only [fnC,nilS,s_f13,a_f13,s_f13_l1_b,s_f13_l2_b,aa,bl,i64,reduceIte,reduceCtorEq,Nat.reduceEqDiff,Nat.reduceLT,Nat.reduceLeDiff,Nat.reduceBEq,Nat.reduceAdd,fillA,splice,Nat.reduceMul,amY,op_eqP,op_mapNew,hp,hbo,Bool.and_self,hbk,h3,len_snoc,xo_ref,xa_ref,getC_snoc,r1,hrn,hdead,t1,l12,hvl0,op_mkSl,hmk,l12A,hvlA,k2]
  rw [show loadV D' true 2 (.ref (H.length+1) 0 0)=some (.agg [V.s (Value.slice none 0 0),V.s (Value.slice none 0 0)]) from xR]
  rfl
end
end Go.Proofs.Ytgimjihhlhjejaa
set_option maxRecDepth 100000
namespace Go.Proofs.Ytgimjihhlhjejaa
open Go.AM
abbrev k_f8:Nat:=8
def s_f8_r0_k:List Nat:=[0,2,3,4,5,6,7,8,9,10,11]
def s_f8_r0t1:List AOper:=[⟨some 2,(.move (.c (.s (.slice none 0 0)))),none⟩]
def s_f8_r0p0:List AOper:=[⟨some 1,(.box (.t 0)),none⟩]
def s_f8_r0:List AOper:=s_f8_r0p0 ++ s_f8_r0t1
def s_f8_r1t5:List AOper:=[⟨some 2,(.move (.t 11)),none⟩]
def s_f8_r1p4:List AOper:=[⟨some 11,(.call (.c (.fn 19 [] [])) [(.t 10)]),none⟩]
def s_f8_r1t4:List AOper:=s_f8_r1p4 ++ s_f8_r1t5
def s_f8_r1p3:List AOper:=[⟨some 10,(.append 1 16 (.t 7) (.t 9)),none⟩]
def s_f8_r1t3:List AOper:=s_f8_r1p3 ++ s_f8_r1t4
def s_f8_r1p2:List AOper:=[⟨some 8,(.fieldAddr 6 (.t 1)),none⟩,⟨some 9,(.load false 1 (.t 8)),none⟩]
def s_f8_r1t2:List AOper:=s_f8_r1p2 ++ s_f8_r1t3
def s_f8_r1p1:List AOper:=[⟨some 7,(.buildSl 1 2 [(.s (.string ⟨#[]⟩)),(.s (.string ⟨#[]⟩))] [(0,(.t 4)),(1,(.t 6))]),none⟩]
def s_f8_r1t1:List AOper:=s_f8_r1p1 ++ s_f8_r1t2
def s_f8_r1p0:List AOper:=[⟨some 3,(.fieldAddr 2 (.t 1)),none⟩,⟨some 4,(.load false 1 (.t 3)),none⟩,⟨some 5,(.fieldAddr 3 (.t 1)),none⟩,⟨some 6,(.load false 1 (.t 5)),none⟩]
def s_f8_r1:List AOper:=s_f8_r1p0 ++ s_f8_r1t1
def s_f8:ACFun:={ ntmps:=12,results:=[(.tmp 2)],body:=
 (.seq (.region s_f8_r0 [] s_f8_r0_k)
 (.seq (.region s_f8_r1 [] [1,3,4,5,6,7,8,9,10,11])
 .ret)) }
abbrev k_f19:Nat:=19
def s_f19_r0_k:List Nat:=[1,2,3,4]
def s_f19_r0:List AOper:=[
 ⟨some 2,(.move (.c (.s (.slice none 0 0)))),none⟩]
def s_f19_r1t2:List AOper:=[⟨some 2,(.move (.t 4)),none⟩]
def s_f19_r1p1:List AOper:=[⟨some 4,(.call (.c (.fn 26 [] [])) [(.t 3),(.c (.fn 27 [] []))]),none⟩]
def s_f19_r1t1:List AOper:=s_f19_r1p1 ++ s_f19_r1t2
def s_f19_r1p0:List AOper:=[⟨some 3,(.move (.t 0)),none⟩]
def s_f19_r1:List AOper:=s_f19_r1p0 ++ s_f19_r1t1
def s_f19:ACFun:={ ntmps:=5,results:=[(.tmp 2)],body:=
 (.seq (.regionE s_f19_r0 s_f19_r0_k [])
 (.seq (.region s_f19_r1 [] [0,3,4])
 .ret)) }
abbrev k_f26:Nat:=26
def s_f26_r0_k:List Nat:=[2,3,4,5,6,7,8,9,10,11,12,13,14,15,16,17,18,19,20,21,22,23,24,25,26,27,28,29,30,31,32,33,34,35,36,37,38,39,40,41]
def s_f26_r0:List AOper:=[
 ⟨some 4,(.move (.c (.s (.slice none 0 0)))),none⟩]
def s_f26_r1t2:List AOper:=[⟨some 5,(.move (.t 10)),none⟩]
def s_f26_r1p1:List AOper:=[⟨some 10,(.call (.c (.fn 35 [] [])) [(.t 8),(.t 9)]),none⟩]
def s_f26_r1t1:List AOper:=s_f26_r1p1 ++ s_f26_r1t2
def s_f26_r1p0:List AOper:=[⟨some 8,(.move (.t 0)),none⟩,⟨some 9,(.move (.t 1)),none⟩]
def s_f26_r1:List AOper:=s_f26_r1p0 ++ s_f26_r1t1
def s_f26_r2:List AOper:=[
 ⟨some 11,(.move (.t 5)),none⟩,
 ⟨some 12,(.bin .eql (.t 11) (.c (.s (.int .i64 (-1))))),none⟩]
def s_f26_r3:List AOper:=[
 ⟨some 13,(.move (.t 0)),none⟩,
 ⟨some 4,(.move (.t 13)),none⟩]
def s_f26_r4:List AOper:=[
 ⟨some 14,(.move (.t 5)),none⟩,
 ⟨some 15,(.bin .add (.t 14) (.c (.s (.int .i64 1)))),none⟩,
 ⟨some 6,(.move (.t 15)),none⟩]
def s_f26_r5:List AOper:=[
 ⟨some 16,(.move (.t 6)),none⟩,
 ⟨some 17,(.move (.t 0)),none⟩,
 ⟨some 18,(.lenS .s (.t 17)),none⟩,
 ⟨some 19,(.bin .lss (.t 16) (.t 18)),none⟩]
def s_f26_r6:List AOper:=[
 ⟨some 22,(.move (.t 0)),none⟩,
 ⟨some 23,(.move (.t 6)),none⟩,
 ⟨some 24,(.indexAddr 1 (.t 22) (.t 23)),none⟩,
 ⟨some 25,(.load false 1 (.t 24)),none⟩,
 ⟨some 7,(.move (.t 25)),none⟩]
def s_f26_r7t2:List AOper:=[⟨some 29,(.un .not (.t 28)),none⟩]
def s_f26_r7p1:List AOper:=[⟨some 28,(.call (.t 26) [(.t 27)]),none⟩]
def s_f26_r7t1:List AOper:=s_f26_r7p1 ++ s_f26_r7t2
def s_f26_r7p0:List AOper:=[⟨some 26,(.move (.t 1)),none⟩,⟨some 27,(.move (.t 7)),none⟩]
def s_f26_r7:List AOper:=s_f26_r7p0 ++ s_f26_r7t1
def s_f26_r8t1:List AOper:=[⟨none,(.store 1 (.t 33) (.t 32)),none⟩]
def s_f26_r8p0:List AOper:=[⟨some 30,(.move (.t 0)),none⟩,⟨some 31,(.move (.t 5)),none⟩,⟨some 32,(.move (.t 7)),none⟩,⟨some 33,(.indexAddr 1 (.t 30) (.t 31)),none⟩]
def s_f26_r8:List AOper:=s_f26_r8p0 ++ s_f26_r8t1
def s_f26_r9:List AOper:=[
 ⟨some 34,(.move (.t 5)),none⟩,
 ⟨some 35,(.bin .add (.t 34) (.c (.s (.int .i64 1)))),none⟩,
 ⟨some 5,(.move (.t 35)),none⟩]
def s_f26_r10:List AOper:=[
 ⟨some 20,(.move (.t 6)),none⟩,
 ⟨some 21,(.bin .add (.t 20) (.c (.s (.int .i64 1)))),none⟩,
 ⟨some 6,(.move (.t 21)),none⟩]
def s_f26_l0_b:ACode:=
 (.seq (.seq (.regionE s_f26_r5 [16,17,18] [19])
 (.cond (.t 19)
 .skip
 (.exit 0)))
 (.seq (.block 1
 (.seq (.regionE s_f26_r6 [19,22,23,24,25] [7])
 (.seq (.region s_f26_r7 [] [26,27,28])
 (.cond (.t 29)
 (.seq (.region s_f26_r8 [] [7,29,30,31,32,33])
 (.regionE s_f26_r9 [34,35] [5]))
 .skip))))
 (.regionE s_f26_r10 [7,20,21,29] [6])))
def s_f26_l0:ACode:=s_f26_l0_b
def s_f26_r11t1:List AOper:=[⟨none,(.clearSl 1 [(.s (.string ⟨#[]⟩))] (.t 38)),none⟩]
def s_f26_r11p0:List AOper:=[⟨some 36,(.move (.t 0)),none⟩,⟨some 37,(.move (.t 5)),none⟩,⟨some 38,(.subSl 1 (.t 36) (some (.t 37)) none none),none⟩]
def s_f26_r11:List AOper:=s_f26_r11p0 ++ s_f26_r11t1
def s_f26_r12:List AOper:=[
 ⟨some 39,(.move (.t 0)),none⟩,
 ⟨some 40,(.move (.t 5)),none⟩,
 ⟨some 41,(.subSl 1 (.t 39) none (some (.t 40)) none),none⟩,
 ⟨some 4,(.move (.t 41)),none⟩]
def s_f26:ACFun:={ ntmps:=42,results:=[(.tmp 4)],body:=
 (.seq (.regionE s_f26_r0 s_f26_r0_k [])
 (.seq (.region s_f26_r1 [] [8,9,10])
 (.seq (.seq (.regionE s_f26_r2 [11] [12])
 (.cond (.t 12)
 (.seq (.regionE s_f26_r3 [0,1,5,12,13] [4])
 .ret)
 .skip))
 (.seq (.seq (.regionE s_f26_r4 [12,14,15] [6])
 (.block 0
 (.loop [] s_f26_l0)))
 (.seq (.region s_f26_r11 [] [1,6,19,36,37,38])
 (.seq (.regionE s_f26_r12 [0,5,39,40,41] [4])
 .ret)))))) }
abbrev k_f27:Nat:=27
def s_f27_r0_k:List Nat:=[1,2,3,4,5,6,7,8]
def s_f27_r0:List AOper:=[
 ⟨some 2,(.move (.c (.s (.bool false)))),none⟩]
def s_f27_r1:List AOper:=[
 ⟨some 3,(.move (.t 0)),none⟩,
 ⟨some 4,(.bin .eql (.t 3) (.c (.s (.string ⟨#[]⟩)))),none⟩,
 ⟨some 5,(.move (.t 4)),none⟩,
 ⟨some 6,(.move (.t 0)),some (5,false)⟩,
 ⟨some 7,(.bin .eql (.t 6) (.c (.s (.string ⟨#[110,117,108,108]⟩)))),some (5,false)⟩,
 ⟨some 8,(.pick (.t 5) (.c (.s (.bool true))) (.t 7)),none⟩,
 ⟨some 2,(.move (.t 8)),none⟩]
def s_f27:ACFun:={ ntmps:=9,results:=[(.tmp 2)],body:=
 (.seq (.regionE s_f27_r0 s_f27_r0_k [])
 (.seq (.regionE s_f27_r1 [0,3,4,5,6,7,8] [2])
 .ret)) }
abbrev k_f35:Nat:=35
def s_f35_r0_k:List Nat:=[2,3,4,5,6,7,8,9,10,11,12,13,14,15,16,17,18]
def s_f35_r0:List AOper:=[
 ⟨some 4,(.move (.c (.s (.int .i64 0)))),none⟩]
def s_f35_r1:List AOper:=[
 ⟨some 6,(.move (.t 0)),none⟩,
 ⟨some 7,(.lenS .s (.t 6)),none⟩,
 ⟨some 8,(.move (.c (.s (.int .i64 0)))),none⟩]
def s_f35_r2:List AOper:=[
 ⟨some 9,(.bin .lss (.t 8) (.t 7)),none⟩]
def s_f35_r3:List AOper:=[
 ⟨some 10,(.move (.t 8)),none⟩,
 ⟨some 5,(.move (.t 10)),none⟩]
def s_f35_r4t1:List AOper:=[⟨some 16,(.call (.t 11) [(.t 15)]),none⟩]
def s_f35_r4p0:List AOper:=[⟨some 11,(.move (.t 1)),none⟩,⟨some 12,(.move (.t 0)),none⟩,⟨some 13,(.move (.t 5)),none⟩,⟨some 14,(.indexAddr 1 (.t 12) (.t 13)),none⟩,⟨some 15,(.load false 1 (.t 14)),none⟩]
def s_f35_r4:List AOper:=s_f35_r4p0 ++ s_f35_r4t1
def s_f35_r5:List AOper:=[
 ⟨some 17,(.move (.t 5)),none⟩,
 ⟨some 4,(.move (.t 17)),none⟩]
def s_f35_r6:List AOper:=[
 ⟨some 18,(.bin .add (.t 8) (.c (.s (.int .i64 1)))),none⟩,
 ⟨some 8,(.move (.t 18)),none⟩]
def s_f35_l0_b:ACode:=
 (.seq (.regionE s_f35_r2 [] [9])
 (.seq (.cond (.t 9)
 .skip
 (.exit 0))
 (.seq (.block 1
 (.seq (.regionE s_f35_r3 [9,10] [5])
 (.seq (.region s_f35_r4 [] [11,12,13,14,15])
 (.cond (.t 16)
 (.seq (.regionE s_f35_r5 [0,1,5,7,8,16,17] [4])
 .ret)
 .skip))))
 (.regionE s_f35_r6 [5,16,18] [8]))))
def s_f35_l0:ACode:=s_f35_l0_b
def s_f35_r7:List AOper:=[
 ⟨some 4,(.move (.c (.s (.int .i64 (-1))))),none⟩]
def s_f35:ACFun:={ ntmps:=19,results:=[(.tmp 4)],body:=
 (.seq (.regionE s_f35_r0 s_f35_r0_k [])
 (.seq (.seq (.regionE s_f35_r1 [6] [7,8])
 (.block 0
 (.loop [] s_f35_l0)))
 (.seq (.regionE s_f35_r7 [0,1,7,8,9] [4])
 .ret))) }
end Go.Proofs.Ytgimjihhlhjejaa
set_option maxRecDepth 100000
namespace Go.Proofs.Ytgimjihhlhjejaa
open Go.AM
end Go.Proofs.Ytgimjihhlhjejaa
set_option maxRecDepth 100000
namespace Go.Proofs.Ytgimjihhlhjejaa
open Go.AM
abbrev S (b:ByteArray):V:=.s (.string b)
end Go.Proofs.Ytgimjihhlhjejaa
set_option maxRecDepth 100000
namespace Go.Proofs.Ytgimjihhlhjejaa
open Go.AM
end Go.Proofs.Ytgimjihhlhjejaa
namespace Go.AM
open Go.RowKit
inductive Ty where
 | int (k:IntKind) | bool | str
 | sl (e:Ty)
 | st (fs:List Ty)
 deriving Inhabited
mutual
def Ty.width:Ty→Nat
 | .int _=>1
 | .bool=>1
 | .str=>1
 | .sl _=>1
 | .st fs=>widths fs
def widths:List Ty→Nat
 | []=>0
 | f :: fs=>f.width+widths fs
end
mutual
def tyOk (P:Program):Nat→Ty→TypeId→Bool
 | 0,_,_=>false
 | n+1,ty,t=>match ty,P.underlying t with
   | .int k,some (.int k')=>k == k'
   | .bool,some .bool=>true
   | .str,some .string=>true
   | .sl e,some (.slice e')=>tyOk P n e e' && P.cellsOf e' == e.width && decide (0 < e.width)
   | .st fs,some (.struct gs)=>P.cellsOf t == widths fs && tysOk P n 0 fs gs.toList
   | _,_=>false
def tysOk (P:Program):Nat→Nat→List Ty→List Field→Bool
 | 0,_,_,_=>false
 | n+1,off,fs,gs=>match fs,gs with
   | [],[]=>true
   | f :: fs,g :: gs=>g.offset == off && P.cellsOf g.type == f.width && tyOk P n f g.type && tysOk P n (off+f.width) fs gs
   | _,_=>false
end
mutual
def IsV:Ty→List V→Prop
 | .int k,cs=>∃ n,cs=[.s (.int k n)]∧k.min≤n∧n≤k.max
 | .bool,cs=>∃ b,cs=[.s (.bool b)]
 | .str,cs=>∃ b,cs=[.s (.string b)]∧b.size≤maxLen
 | .sl e,cs=>cs=[nilS]∨∃ es:List (List V),cs=[.psl es e.width]∧es.length≤maxLen∧∀ x∈es,IsV e x
 | .st fs,cs=>IsVs fs cs
def IsVs:List Ty→List V→Prop
 | [],cs=>cs=[]
 | f :: fs,cs=>∃ a b,cs=a ++ b∧IsV f a∧IsVs fs b
end
mutual
theorem IsV.len:∀ (t:Ty) {cs:List V},IsV t cs→cs.length=t.width
 | .int _,cs,h=>by obtain ⟨n,rfl,_⟩:=h;rfl
 | .bool,cs,h=>by obtain ⟨n,rfl⟩:=h;rfl
 | .str,cs,h=>by obtain ⟨n,rfl,_⟩:=h;rfl
 | .sl e,cs,h=>by rcases h with rfl | ⟨es,rfl,_⟩ <;> rfl
 | .st fs,cs,h=>IsVs.len fs h
theorem IsVs.len:∀ (fs:List Ty) {cs:List V},IsVs fs cs→cs.length=widths fs
 | [],cs,h=>by cases h;rfl
 | f :: fs,cs,h=>by
   obtain ⟨a,b,rfl,h1,h2⟩:=h
   rw [List.length_append,IsV.len f h1,IsVs.len fs h2];rfl
end
abbrev PRs (w:World) (vs:List V) (cs:List Value):Prop:=vs.length=cs.length∧∀ (i:Nat) (a:V) (b:Value),vs[i]?=some a→cs[i]?=some b→PR (fun _=>False) w a b
theorem PRs.app {w:World} {a b:List V} {c d:List Value} (h:PRs w a c) (k:PRs w b d):PRs w (a ++ b) (c ++ d):=by
 refine ⟨by simp [h.1,k.1],fun i x y hx hy=>?_⟩
 by_cases hi:i < a.length
 ·rw [List.getElem?_append_left hi] at hx
  rw [List.getElem?_append_left (by rw [← h.1];exact hi)] at hy
  exact h.2 i x y hx hy
 ·rw [List.getElem?_append_right (by omega)] at hx
  rw [List.getElem?_append_right (by rw [← h.1];omega),← h.1] at hy
  exact k.2 _ x y hx hy
theorem PRs.one {w:World} {a:V} {b:Value} (h:PR (fun _=>False) w a b):PRs w [a] [b]:=⟨rfl,fun i x y hx hy=>by
 cases i with
 | zero=>simp at hx hy;rw [← hx,← hy];exact h
 | succ i=>simp at hx⟩
theorem PRs.vrs {w:World} {vs:List V} {cs:List Value} (h:PRs w vs cs):VRs (fun _ _=>none) (fun _=>False) w vs cs:=⟨h.1,fun i a b ha hb=>(h.2 i a b ha hb).vr⟩
theorem mapM_fwd {α β:Type} {f:α→Option β} {l:List α} {us:List β} (h:l.mapM f=some us):us.length=l.length∧∀ (i:Nat) (v:α),l[i]?=some v→∃ u,us[i]?=some u∧f v=some u:=by
 obtain ⟨h1,h2⟩:=mapM_get2 h
 refine ⟨h1,fun i v hv=>?_⟩
 have hi:i < us.length:=by rw [h1];exact (List.getElem?_eq_some_iff.1 hv).1
 exact ⟨us[i],List.getElem?_eq_getElem hi,h2 i v _ hv (List.getElem?_eq_getElem hi)⟩
section
variable {H:Type} {enc:TypeId × Value→H} {P:Program} {w:World} {base:Nat} {sp:Nat→Bool} {held:Bool}
theorem add_block (a:Addr) (j:Nat):(a.add j).block=a.block:=by unfold Addr.add;split <;> rfl
theorem add_off {a:Addr} (h:a.spot=none) (j:Nat):(a.add j).off=a.off+j:=by
 unfold Addr.add
 split
 ·rename_i e;subst e;rfl
 ·rfl
theorem cells_row {a:Addr} {n:Nat} {cs:List Value} (h:w.cells? base a n=some cs) (hn:0 < n):∃ arr e fr,w.heap[a.block]?=some (.cells arr e fr)∧a.spot=none∧cs.length=n∧a.off+n≤arr.size∧∀ j,j < n→cs[j]?=arr[a.off+j]?:=by
 unfold World.cells? at h
 split at h
 ·obtain ⟨h1,h2⟩:=mapM_fwd h
  simp only [List.length_range] at h1
  have key:∀ j,j < n→∃ u,cs[j]?=some u∧w.cell? (a.add j)=some u:=fun j hj=>h2 j j (by simp [hj])
  obtain ⟨u0,_,hc0⟩:=key 0 hn
  unfold World.cell? at hc0
  split at hc0
  ·rename_i c e fr hh
   have hbl:∀ j,(a.add j).block=a.block:=fun j=>add_block a j
   rw [hbl] at hh
   split at hc0
   ·cases hc0
   ·rename_i hsp
    have hsp:a.spot=none:=by
     cases hs:a.spot with
     | none=>rfl
     | some x=>exact absurd (by show (a.add 0).spot.isSome=true;simp [Addr.add,hs]) hsp
    have all:∀ j,j < n→cs[j]?=c[a.off+j]?:=by
     intro j hj
     obtain ⟨u,hu,hc⟩:=key j hj
     unfold World.cell? at hc
     rw [hbl,hh] at hc
     simp only [] at hc
     split at hc
     ·cases hc
     ·rw [hu]
      have:(a.add j).off=a.off+j:=add_off hsp j
      rw [← this];exact hc.symm
    refine ⟨c,e,fr,hh,hsp,h1,?_,all⟩
    have hl:=all (n - 1) (by omega)
    have:cs[n - 1]?=some cs[n - 1]:=List.getElem?_eq_getElem (by omega)
    rw [this] at hl
    have:=(Array.getElem?_eq_some_iff.1 hl.symm).1
    omega
  ·cases hc0
 ·cases h
theorem tyOk_int {n:Nat} {k:IntKind} {t:TypeId} (h:tyOk P n (.int k) t=true):P.underlying t=some (.int k):=by
 cases n with
 | zero=>simp [tyOk] at h
 | succ n=>
   simp only [tyOk] at h
   split at h <;> simp_all
theorem tyOk_bool {n:Nat} {t:TypeId} (h:tyOk P n .bool t=true):P.underlying t=some .bool:=by
 cases n with
 | zero=>simp [tyOk] at h
 | succ n=>
   simp only [tyOk] at h
   split at h <;> simp_all
theorem tyOk_str {n:Nat} {t:TypeId} (h:tyOk P n .str t=true):P.underlying t=some .string:=by
 cases n with
 | zero=>simp [tyOk] at h
 | succ n=>
   simp only [tyOk] at h
   split at h <;> simp_all
theorem tyOk_sl {n:Nat} {e:Ty} {t:TypeId} (h:tyOk P n (.sl e) t=true):∃ m e',P.underlying t=some (.slice e')∧tyOk P m e e'=true∧P.cellsOf e'=e.width∧0 < e.width:=by
 cases n with
 | zero=>simp [tyOk] at h
 | succ n=>
   simp only [tyOk] at h
   split at h <;> simp_all
   exact ⟨n,h.1.1⟩
theorem tyOk_st {n:Nat} {fs:List Ty} {t:TypeId} (h:tyOk P n (.st fs) t=true):∃ m gs,P.underlying t=some (.struct gs)∧P.cellsOf t=widths fs∧tysOk P m 0 fs gs.toList=true:=by
 cases n with
 | zero=>simp [tyOk] at h
 | succ n=>
   simp only [tyOk] at h
   split at h <;> simp_all
   exact ⟨n,h.2⟩
theorem read_ty:∀ (fuel n:Nat) (ty:Ty) (t:TypeId) (cs:List Value) (x:DataW H × List MemPlace),tyOk P n ty t=true→DataW.trod enc P w base sp held fuel t cs=some x→∃ vs,IsV ty vs∧PRs w vs cs:=by
 intro fuel
 induction fuel with
 | zero=>intro n ty t cs x _ h;simp [DataW.trod] at h
 | succ fuel ih=>
   intro n ty t cs x ht h
   cases ty with
   | int k=>
     obtain ⟨m,rfl,_,hw⟩:=DataW.trod_int (tyOk_int ht) h
     simp only [Lit.wf,Bool.and_eq_true,decide_eq_true_eq] at hw
     exact ⟨[.s (.int k m)],⟨m,rfl,hw.1,hw.2⟩,PRs.one (.s _)⟩
   | bool=>
     obtain ⟨b,rfl,_⟩:=DataW.trod_bool (tyOk_bool ht) h
     exact ⟨[.s (.bool b)],⟨b,rfl⟩,PRs.one (.s _)⟩
   | str=>
     obtain ⟨b,rfl,_,hb⟩:=DataW.trod_string (tyOk_str ht) h
     exact ⟨[.s (.string b)],⟨b,rfl,hb⟩,PRs.one (.s _)⟩
   | sl e=>
     obtain ⟨m,e',hu,he,hw,h0⟩:=tyOk_sl ht
     rcases DataW.trod_slice hu h with ⟨rfl,_⟩ | ⟨a,len,cap,elems,rest,n2,hn,rfl,_,hb,hlc,hcm,hel,hall,_⟩
     ·exact ⟨[nilS],.inl rfl,PRs.one (.s _)⟩
     ·have hn2:n2=fuel:=by omega
      subst hn2
      rw [hw] at hall
      by_cases hl:len=0
      ·subst hl
       exact ⟨[.psl [] e.width],.inr ⟨[],rfl,Nat.zero_le _,fun x hx=>by cases hx⟩,PRs.one (.psl0 _ _ _)⟩
      ·
       have one:∀ i,i < len→∃ cs vs,w.cells? base (a.add (i * e.width)) e.width=some cs∧IsV e vs∧PRs w vs cs:=by
        intro i hi
        have hh:=hall i hi
        have:elems[i]?=some elems[i]:=List.getElem?_eq_getElem (by omega)
        rw [this,Option.bind_eq_some_iff] at hh
        obtain ⟨cs,h1,h2⟩:=hh
        obtain ⟨vs,h3,h4⟩:=ih m e e' cs _ he h2
        exact ⟨cs,vs,h1,h3,h4⟩
       obtain ⟨c0,_,hc0,_,_⟩:=one 0 (by omega)
       rw [Nat.zero_mul] at hc0
       have ha0:a.add 0=a:=by simp [Addr.add]
       rw [ha0] at hc0
       obtain ⟨arr,el,fr,hB,hsp,_,_,_⟩:=cells_row hc0 h0
       have pos:∀ i,i < len→∃ vs,IsV e vs∧a.off+i * e.width+e.width≤arr.size∧∀ (j:Nat) (x:V) (y:Value),vs[j]?=some x→arr[a.off+i * e.width+j]?=some y→PR (fun _=>False) w x y:=by
        intro i hi
        obtain ⟨cs,vs,h1,h2,h3⟩:=one i hi
        obtain ⟨arr',el',fr',hB',_,hcl,hsz,hcj⟩:=cells_row h1 h0
        rw [add_block,hB] at hB'
        cases hB'
        rw [add_off hsp] at hsz hcj
        refine ⟨vs,h2,hsz,fun j x y hx hy=>?_⟩
        have hj:j < e.width:=by rw [← h2.len];exact (List.getElem?_eq_some_iff.1 hx).1
        exact h3.2 j x y hx (by rw [hcj j hj];exact hy)
       obtain ⟨es,he1,he2⟩:∃ es:List (List V),es.length=len∧∀ i vs,es[i]?=some vs→IsV e vs∧a.off+i * e.width+e.width≤arr.size∧∀ (j:Nat) (x:V) (y:Value),vs[j]?=some x→arr[a.off+i * e.width+j]?=some y→PR (fun _=>False) w x y:=by
        have:∀ k,k≤len→∃ es:List (List V),es.length=k∧∀ i vs,es[i]?=some vs→IsV e vs∧a.off+i * e.width+e.width≤arr.size∧∀ (j:Nat) (x:V) (y:Value),vs[j]?=some x→arr[a.off+i * e.width+j]?=some y→PR (fun _=>False) w x y:=by
         intro k
         induction k with
         | zero=>intro _;exact ⟨[],rfl,fun i vs h=>by simp at h⟩
         | succ k ihk=>
           intro hk
           obtain ⟨es,h1,h2⟩:=ihk (by omega)
           obtain ⟨vs,h3⟩:=pos k (by omega)
           refine ⟨es ++ [vs],by simp [h1],fun i us hi=>?_⟩
           by_cases c:i < es.length
           ·rw [List.getElem?_append_left c] at hi;exact h2 i us hi
           ·rw [List.getElem?_append_right (by omega)] at hi
            have:i - es.length=0:=by
             have:=(List.getElem?_eq_some_iff.1 hi).1
             simp at this;omega
            rw [this] at hi
            simp at hi
            have hik:i=k:=by omega
            subst hik;subst hi
            exact h3
        exact this len (Nat.le_refl _)
       refine ⟨[.psl es e.width],.inr ⟨es,rfl,by omega,fun x hx=>?_⟩,PRs.one ?_⟩
       ·obtain ⟨i,hi⟩:=List.mem_iff_getElem?.1 hx
        exact (he2 i x hi).1
       ·have hslice:Value.slice (some a) len cap=.slice (some ⟨a.block,a.off,none⟩) es.length cap:=by
         rw [he1]
         congr 2
         cases a;simp at hsp;subst hsp;rfl
        rw [hslice]
        refine .psl es e.width a.block a.off cap arr el fr hB (fun h=>h) (by omega) (fun i vs hi=>(he2 i vs hi).1.len) ?_ (fun i vs j x y hi hx hy=>(he2 i vs hi).2.2 j x y hx hy)
        have hlast:=(he2 (len - 1) es[len - 1] (List.getElem?_eq_getElem (by omega))).2.1
        rw [he1]
        have:len * e.width=(len - 1) * e.width+e.width:=by
         obtain ⟨k,rfl⟩:∃ k,len=k+1:=⟨len - 1,by omega⟩
         rw [Nat.add_sub_cancel,Nat.add_mul,Nat.one_mul]
        omega
   | st fs=>
     obtain ⟨m,gs,hu,hw,hts⟩:=tyOk_st ht
     obtain ⟨xs,n2,hn,_,hcl,hxl,hall⟩:=DataW.trod_struct hu h
     have hn2:n2=fuel:=by omega
     subst hn2
     have key:∀ (fs:List Ty) (m off:Nat) (gl:List Field),tysOk P m off fs gl=true→(∀ g∈gl,∃ y,DataW.trod enc P w base sp held n2 g.type ((cs.drop g.offset).take (P.cellsOf g.type))=some y)→off+widths fs=cs.length→∃ vs,IsVs fs vs∧PRs w vs (cs.drop off):=by
      intro fs
      induction fs with
      | nil=>
        intro m off gl _ _ ho
        refine ⟨[],rfl,?_⟩
        rw [List.drop_eq_nil_of_le (by simp [widths] at ho;omega)]
        exact ⟨rfl,fun i a b h=>by simp at h⟩
      | cons f fs ihf=>
        intro m off gl htk hg ho
        cases m with
        | zero=>simp [tysOk] at htk
        | succ m=>
          cases gl with
          | nil=>simp [tysOk] at htk
          | cons g gl=>
            simp only [tysOk,Bool.and_eq_true,beq_iff_eq] at htk
            obtain ⟨⟨⟨h1,h2⟩,h3⟩,h4⟩:=htk
            obtain ⟨y,hy⟩:=hg g List.mem_cons_self
            obtain ⟨va,ha1,ha2⟩:=ih m f g.type _ y h3 hy
            obtain ⟨vb,hb1,hb2⟩:=ihf m (off+f.width) gl h4 (fun g hg'=>hg g (List.mem_cons_of_mem _ hg')) (by simp only [widths] at ho;omega)
            refine ⟨va ++ vb,⟨va,vb,rfl,ha1,hb1⟩,?_⟩
            rw [h1,h2] at ha2
            have:cs.drop off=(cs.drop off).take f.width ++ cs.drop (off+f.width):=by
             rw [← List.drop_drop,List.take_append_drop]
            rw [this]
            exact ha2.app hb2
     obtain ⟨vs,h1,h2⟩:=key fs m 0 gs.toList hts (fun g hg=>by
      obtain ⟨i,hi⟩:=List.mem_iff_getElem?.1 hg
      have hi':gs[i]?=some g:=by simpa using hi
      have h3:=hall i g hi'
      have hlt:=(Array.getElem?_eq_some_iff.1 hi').1
      exact ⟨xs[i]'(by omega),by rw [h3];exact List.getElem?_eq_getElem (by omega)⟩) (by omega)
     exact ⟨vs,h1,by simpa using h2⟩
def argV:Ty→List V→V
 | .st _,vs=>.agg vs
 | _,[v]=>v
 | _,_=>.unk
theorem read_arg {n:Nat} {ty:Ty} {t:TypeId} {v:Value} {d:DataW H} {ps:List MemPlace} (ht:tyOk P n ty t=true) (hf:(match ty with | .st _=>∃ vs,v=.agg vs | _=>v.cells.toList=[v])) (h:DataW.Trod enc P w base sp held t v d ps):
 ∃ vs,IsV ty vs∧VR (fun _ _=>none) (fun _=>False) w (argV ty vs) v:=by
 obtain ⟨fuel,h⟩:=h
 obtain ⟨vs,h1,h2⟩:=read_ty fuel n ty t _ _ ht h
 refine ⟨vs,h1,?_⟩
 have one:vs.length=1→v.cells.toList=[v]→∃ x,vs=[x]∧VR (fun _ _=>none) (fun _=>False) w x v:=by
  intro hl hc
  match vs,hl with
  | [x],_=>
    rw [hc] at h2
    exact ⟨x,rfl,(h2.2 0 x v rfl rfl).vr⟩
 cases ty with
 | st fs=>
   obtain ⟨us,rfl⟩:=hf
   exact vr_agg_mk (vs:=us.toList) h2.vrs
 | _=>
   obtain ⟨x,rfl,hx⟩:=one h1.len hf
   exact hx
end
end Go.AM
set_option maxRecDepth 100000
namespace Go.Proofs.Ytgimjihhlhjejaa
open Go.AM
end Go.Proofs.Ytgimjihhlhjejaa
set_option maxRecDepth 100000
namespace Go.Proofs.Ytgimjihhlhjejaa
open Go.ChangeShapes Go.WideShapes Go.ChangeAt Go.RowKit Go.AM
theorem mixed:Try.prog.follows .mixedOrders=true:=by kernel_rfl
theorem sort_prim:FunOk Try.prog (PXf (fun _=>none)) 22 (.prim sortG):=
 sort_ok (Go.Proofs.enters_of Try.func22 (by kernel_rfl) rfl) (fun blk off cap zs w h1 h2 h3=>Try.slices_Sort_int blk off cap zs w h1 h2 h3) (fun p cap w=>Try.slices_Sort_int_none p cap w)
theorem tells_prim:FunOk Try.prog (PXf (fun _=>none)) 11 (.prim (primC (bl true))):=prim_ok mixed CQs_ok tells_true rfl
theorem tells_fun {CT:Nat→Option CFun} (hT:CT 11=some (.prim (primC (bl true)))) (base:Nat) (H:Heap):callW CT (.fn 11 [] []) [] base H=some (.s (.bool true),H):=callW_eq (by simp only [evCall,hT];rfl)
end Go.Proofs.Ytgimjihhlhjejaa
