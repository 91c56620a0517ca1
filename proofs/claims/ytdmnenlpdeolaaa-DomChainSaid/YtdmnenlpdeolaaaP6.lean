/- Texts of the proof: DomL2. -/
import Derived.Test.YtdmnenlpdeolaaaP0
import Derived.Test.YtdmnenlpdeolaaaP1
import Derived.Test.YtdmnenlpdeolaaaP2
import Derived.Test.YtdmnenlpdeolaaaP3
import Derived.Test.YtdmnenlpdeolaaaP4
import Derived.Test.YtdmnenlpdeolaaaP5
set_option linter.all false
set_option maxRecDepth 100000
namespace Go.Proofs.Ytdmnenlpdeolaaa
open Go.AM
section
variable {CT:Nat→Option CFun}
structure CL9 (CT:Nat→Option CFun):Prop where
 t:CT9 CT
 dom:CT k_f13=some (.code s_f13)
 great:CT k_f8=some (.code s_f8)
 wakes:∀ base H,callW CT (.fn k_f9 [] []) [] base H=some (.s (.bool true),H)
set_option maxHeartbeats 4000000 in
theorem chain_l0 (h:CL9 CT) (base:Nat) {H:Heap} {v tv:V} {G:List (List Int)} {q:Int} {T:List Int} {lvl:Nat→Nat} (ok:TreeOk G q T lvl) (hv:RdRows H v (rowsV G)) (ht:Rd H tv (T.map iV)) (htw:Wide1 tv) (hn:G.length < 2 ^ 18) {x a:Nat}:
 itW (evC (callW CT) itW base s_f4_l0) [] H.length (frOf 92 [(0,v),(5,tv),(6,.s (.int .i64 x)),(7,.s (.int .i64 a)),(8,.s (.int .i64 0))]) H=some (.ext 4,frOf 92 [(0,v),(5,tv),(6,.s (.int .i64 x)),(7,.s (.int .i64 a)),(8,.s (.int .i64 G.length)),(30,bl false)],H):=by
 have hvl:=rows_lenV hv
 have hlen:=ok.len
 have hd:=fun a b=>dom_fun h.dom base H tv T a b ht htw (by omega)
 have hst:∀ i,i < G.length→itW (evC (callW CT) itW base s_f4_l0) [] H.length (frOf 92 [(0,v),(5,tv),(6,.s (.int .i64 x)),(7,.s (.int .i64 a)),(8,.s (.int .i64 i))]) H=itW (evC (callW CT) itW base s_f4_l0) [] H.length (frOf 92 [(0,v),(5,tv),(6,.s (.int .i64 x)),(7,.s (.int .i64 a)),(8,.s (.int .i64 (i+1:Nat)))]) H:=by
  intro i hi
  have hlt':((i:Int) < (G.length:Int)):=by omega
  have hwk:=w64 (n:=i) (by omega)
  have f1:=fun h1 h2=>ok.lin (a:=(a:Int)) (b:=(x:Int)) (c:=(i:Int)) h1 h2
  have f2:=fun h1 h2=>ok.tra (a:=(a:Int)) (b:=(x:Int)) (c:=(i:Int)) h1 h2
  have f3:=fun h1 h2=>ok.anti (a:=(a:Int)) (b:=(i:Int)) h1 h2
  rw [itW_step]
  by_cases e:(a:Int)=(i:Int)
  ·have e1:((a:Int) != (i:Int))=false:=by rw [e];simp
   cases hp:domB T (a:Int) (x:Int) <;> cases hq:domB T (i:Int) (x:Int) <;> cases hr:domB T (a:Int) (i:Int) <;> cases hs:domB T (i:Int) (a:Int) <;> first | exact absurd (f2 hr hq) (by rw [hp];decide) | exact absurd (f3 hr hs) e | exact (f1 hp hq).elim (fun k=>absurd k (by rw [hr];decide)) (fun k=>absurd k (by rw [hs];decide)) | simp only [a_f4,s_f4_l0_b,s_f4_l1_b,s_f4_l2_b,aa,bl,i64,reduceIte,reduceCtorEq,Nat.reduceEqDiff,Nat.reduceLT,Nat.reduceLeDiff,Nat.reduceBEq,Nat.reduceAdd,fillA,splice,Nat.reduceMul,amY,op_eqP,hvl,hlt',hd,hp,hq,hr,hs,e1,hwk,trim_same rfl]
  ·have e1:((a:Int) != (i:Int))=true:=by rw [bne_iff_ne];exact e
   cases hp:domB T (a:Int) (x:Int) <;> cases hq:domB T (i:Int) (x:Int) <;> cases hr:domB T (a:Int) (i:Int) <;> cases hs:domB T (i:Int) (a:Int) <;> first | exact absurd (f2 hr hq) (by rw [hp];decide) | exact absurd (f3 hr hs) e | exact (f1 hp hq).elim (fun k=>absurd k (by rw [hr];decide)) (fun k=>absurd k (by rw [hs];decide)) | simp only [a_f4,s_f4_l0_b,s_f4_l1_b,s_f4_l2_b,aa,bl,i64,reduceIte,reduceCtorEq,Nat.reduceEqDiff,Nat.reduceLT,Nat.reduceLeDiff,Nat.reduceBEq,Nat.reduceAdd,fillA,splice,Nat.reduceMul,amY,op_eqP,hvl,hlt',hd,hp,hq,hr,hs,e1,hwk,trim_same rfl]
 have h2:=it_fun G.length (fun i=>itW (evC (callW CT) itW base s_f4_l0) [] H.length (frOf 92 [(0,v),(5,tv),(6,.s (.int .i64 x)),(7,.s (.int .i64 a)),(8,.s (.int .i64 i))]) H) hst 0 (Nat.zero_le _)
 rw [cast0] at h2
 refine h2.trans ?_
 rw [itW_step]
 simp only [bl,a_f4,s_f4_l0_b,s_f4_l1_b,s_f4_l2_b,aa,bl,i64,reduceIte,reduceCtorEq,Nat.reduceEqDiff,Nat.reduceLT,Nat.reduceLeDiff,Nat.reduceBEq,Nat.reduceAdd,fillA,splice,Nat.reduceMul,amY,op_eqP,hvl,Int.lt_irrefl,trim_same rfl]
theorem chain_l1 (h:CL9 CT) (base:Nat) {H:Heap} {v tv:V} {G:List (List Int)} {q:Int} {T:List Int} {lvl:Nat→Nat} (ok:TreeOk G q T lvl) (hv:RdRows H v (rowsV G)) (ht:Rd H tv (T.map iV)) (htw:Wide1 tv) (hn:G.length < 2 ^ 18) {x:Nat}:
 itW (evC (callW CT) itW base s_f4_l1) [] H.length (frOf 92 [(0,v),(5,tv),(6,.s (.int .i64 x)),(7,.s (.int .i64 0))]) H=some (.ext 2,frOf 92 [(0,v),(5,tv),(6,.s (.int .i64 x)),(7,.s (.int .i64 G.length)),(24,bl false)],H):=by
 have hvl:=rows_lenV hv
 have hst:∀ i,i < G.length→itW (evC (callW CT) itW base s_f4_l1) [] H.length (frOf 92 [(0,v),(5,tv),(6,.s (.int .i64 x)),(7,.s (.int .i64 i))]) H=itW (evC (callW CT) itW base s_f4_l1) [] H.length (frOf 92 [(0,v),(5,tv),(6,.s (.int .i64 x)),(7,.s (.int .i64 (i+1:Nat)))]) H:=by
  intro i hi
  have hlt':((i:Int) < (G.length:Int)):=by omega
  have hwk:=w64 (n:=i) (by omega)
  have p:=chain_l0 h base ok hv ht htw hn (x:=x) (a:=i)
  simp only [bl] at p
  rw [itW_step]
  simp only [a_f4,s_f4_l0_b,s_f4_l1_b,s_f4_l2_b,aa,bl,i64,reduceIte,reduceCtorEq,Nat.reduceEqDiff,Nat.reduceLT,Nat.reduceLeDiff,Nat.reduceBEq,Nat.reduceAdd,fillA,splice,Nat.reduceMul,amY,op_eqP,hvl,hlt',p,hwk,trim_same rfl]
 have h2:=it_fun G.length (fun i=>itW (evC (callW CT) itW base s_f4_l1) [] H.length (frOf 92 [(0,v),(5,tv),(6,.s (.int .i64 x)),(7,.s (.int .i64 i))]) H) hst 0 (Nat.zero_le _)
 rw [cast0] at h2
 refine h2.trans ?_
 rw [itW_step]
 simp only [bl,a_f4,s_f4_l0_b,s_f4_l1_b,s_f4_l2_b,aa,bl,i64,reduceIte,reduceCtorEq,Nat.reduceEqDiff,Nat.reduceLT,Nat.reduceLeDiff,Nat.reduceBEq,Nat.reduceAdd,fillA,splice,Nat.reduceMul,amY,op_eqP,hvl,Int.lt_irrefl,trim_same rfl]
theorem chain_l2 (h:CL9 CT) (base:Nat) {H:Heap} {v tv:V} {G:List (List Int)} {q:Int} {T:List Int} {lvl:Nat→Nat} (ok:TreeOk G q T lvl) (hv:RdRows H v (rowsV G)) (ht:Rd H tv (T.map iV)) (htw:Wide1 tv) (hn:G.length < 2 ^ 18):
 itW (evC (callW CT) itW base s_f4_l2) [] H.length (frOf 92 [(0,v),(5,tv),(6,.s (.int .i64 0))]) H=some (.ext 0,frOf 92 [(0,v),(5,tv),(6,.s (.int .i64 G.length)),(18,bl false)],H):=by
 have hvl:=rows_lenV hv
 have hst:∀ i,i < G.length→itW (evC (callW CT) itW base s_f4_l2) [] H.length (frOf 92 [(0,v),(5,tv),(6,.s (.int .i64 i))]) H=itW (evC (callW CT) itW base s_f4_l2) [] H.length (frOf 92 [(0,v),(5,tv),(6,.s (.int .i64 (i+1:Nat)))]) H:=by
  intro i hi
  have hlt':((i:Int) < (G.length:Int)):=by omega
  have hwk:=w64 (n:=i) (by omega)
  have p:=chain_l1 h base ok hv ht htw hn (x:=i)
  simp only [bl] at p
  rw [itW_step]
  simp only [a_f4,s_f4_l0_b,s_f4_l1_b,s_f4_l2_b,aa,bl,i64,reduceIte,reduceCtorEq,Nat.reduceEqDiff,Nat.reduceLT,Nat.reduceLeDiff,Nat.reduceBEq,Nat.reduceAdd,fillA,splice,Nat.reduceMul,amY,op_eqP,hvl,hlt',p,hwk,trim_same rfl]
 have h2:=it_fun G.length (fun i=>itW (evC (callW CT) itW base s_f4_l2) [] H.length (frOf 92 [(0,v),(5,tv),(6,.s (.int .i64 i))]) H) hst 0 (Nat.zero_le _)
 rw [cast0] at h2
 refine h2.trans ?_
 rw [itW_step]
 simp only [bl,a_f4,s_f4_l0_b,s_f4_l1_b,s_f4_l2_b,aa,bl,i64,reduceIte,reduceCtorEq,Nat.reduceEqDiff,Nat.reduceLT,Nat.reduceLeDiff,Nat.reduceBEq,Nat.reduceAdd,fillA,splice,Nat.reduceMul,amY,op_eqP,hvl,Int.lt_irrefl,trim_same rfl]
theorem chain_law (h:CL9 CT) (hL:CT k_f4=some (.code s_f4)) (base:Nat) (H:Heap) (hb:base≤H.length) (v:V) (G:List (List Int)) (q:Int) (hv:RdRows H v (rowsV G)):
 ∃ H',callW CT (.fn k_f4 [] []) [v,.s (.int .i64 q)] base H=some (.s (.bool true),H'):=by
 have hg:=great9_fun h.great base H v G hv
 cases hgr:great9 G with
 | true=>
   rw [hgr] at hg
   have hw:=h.wakes base H
   refine ⟨H,callW_fn (c:=s_f4) hL (by simp [s_f4]) ?_⟩
   simp only [s_f4,a_f4,s_f4_l0_b,s_f4_l1_b,s_f4_l2_b,aa,bl,i64,reduceIte,reduceCtorEq,Nat.reduceEqDiff,Nat.reduceLT,Nat.reduceLeDiff,Nat.reduceBEq,Nat.reduceAdd,fillA,splice,Nat.reduceMul,amY,op_eqP,hg,hw]
 | false=>
   rw [hgr] at hg
   obtain ⟨hn,hr⟩:=great9_small hgr
   obtain ⟨tv,H1,T,lvl,a1,a2,a3,a4⟩:=tree_f h.t base H v G q hv hb (by omega) (fun r h=>by have:=hr r h;omega)
   have p:=chain_l2 h base a4 (hv.ext a2) a3.rd a3.wide (by omega)
   have hw:=h.wakes base H1
   simp only [bl] at p
   refine ⟨H1,callW_fn (c:=s_f4) hL (by simp [s_f4]) ?_⟩
   simp only [s_f4,a_f4,s_f4_l0_b,s_f4_l1_b,s_f4_l2_b,aa,bl,i64,reduceIte,reduceCtorEq,Nat.reduceEqDiff,Nat.reduceLT,Nat.reduceLeDiff,Nat.reduceBEq,Nat.reduceAdd,fillA,splice,Nat.reduceMul,amY,op_eqP,hg,a1,p,hw]
end
end Go.Proofs.Ytdmnenlpdeolaaa
