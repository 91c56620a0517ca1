/- The law DomMeet of the given program answers true for every input: where values are put at nodes and at the nodes of Iterate, every other node gets one value alone. No condition. -/
import Derived.Test.YtdmnenlpdeolaaaP0
import Derived.Test.YtdmnenlpdeolaaaP1
import Derived.Test.YtdmnenlpdeolaaaP2
import Derived.Test.YtdmnenlpdeolaaaP3
import Derived.Test.YtdmnenlpdeolaaaP4
import Derived.Test.YtdmnenlpdeolaaaP5
import Derived.Test.YtdmnenlpdeolaaaP6
set_option linter.all false
set_option maxRecDepth 100000
namespace Go.Proofs.Ytdmnenlpdeolaaa
open Go.ChangeShapes Go.WideShapes Go.ChangeAt Go.RowKit Go.AM
theorem own:ownKnob Try.prog.godebug=none:=by kernel_rfl
theorem laidOut:laidOutB Try.prog=true:=by kernel_rfl
def CT:Nat→Option CFun
 | 6=>some (.code s_f6)
 | 8=>some (.code s_f8)
 | 9=>some (.prim (primC (bl true)))
 | 10=>some (.code s_f10)
 | 13=>some (.code s_f13)
 | 16=>some (.code s_f16)
 | 18=>some (.code s_f18)
 | 19=>some (.code s_f19)
 | 20=>some (.code s_f20)
 | 21=>some (.code s_f21)
 | 24=>some (.code s_f24)
 | 25=>some (.code s_f25)
 | 26=>some (.code s_f26)
 | 29=>some (.prim sortG)
 | 30=>some (.code s_f30)
 | 33=>some (.code s_f33)
 | 34=>some (.code s_f34)
 | 35=>some (.code s_f35)
 | 36=>some (.prim (sortedG 49))
 | 37=>some (.code s_f37)
 | 38=>some (.code s_f38)
 | 39=>some (.code s_f39)
 | 40=>some (.code s_f40)
 | 41=>some (.code s_f41)
 | 42=>some (.code s_f42)
 | 51=>some (.code s_f51)
 | _=>none
theorem CT_ok:∀ k c,CT k=some c→FunOk Try.prog (PXf (fun _=>none)) k c:=by
 intro k c h
 unfold CT at h
 split at h
 ·cases h;exact funOk_f (fun _=>none) DA6_6
 ·cases h;exact funOk_f (fun _=>none) DA5_8
 ·cases h;exact wakes_prim
 ·cases h;exact funOk_f (fun _=>none) DA1_10
 ·cases h;exact funOk_f (fun _=>none) DA1_13
 ·cases h;exact funOk_f (fun _=>none) DA4_16
 ·cases h;exact funOk_f (fun _=>none) DA2_18
 ·cases h;exact funOk_f (fun _=>none) DA4_19
 ·cases h;exact funOk_f (fun _=>none) DA2_20
 ·cases h;exact funOk_f (fun _=>none) DA2_21
 ·cases h;exact funOk_f (fun _=>none) DA1_24
 ·cases h;exact funOk_f (fun _=>none) DA2_25
 ·cases h;exact funOk_f (fun _=>none) DA1_26
 ·cases h;exact sort_prim
 ·cases h;exact funOk_f (fun _=>none) DA2_30
 ·cases h;exact funOk_f (fun _=>none) DA2_33
 ·cases h;exact funOk_f (fun _=>none) DA2_34
 ·cases h;exact funOk_f (fun _=>none) DA2_35
 ·cases h;exact sorted_prim
 ·cases h;exact funOk_f (fun _=>none) DA4_37
 ·cases h;exact funOk_f (fun _=>none) DA2_38
 ·cases h;exact funOk_f (fun _=>none) DA1_39
 ·cases h;exact funOk_f (fun _=>none) DA2_40
 ·cases h;exact funOk_f (fun _=>none) DA2_41
 ·cases h;exact funOk_f (fun _=>none) DA2_42
 ·cases h;exact funOk_f (fun _=>none) DA1_51
 ·cases h
theorem cg:CG CT:=⟨rfl,rfl,rfl,rfl,rfl,rfl,rfl,rfl⟩
theorem c9:CT9 CT:=⟨cg,rfl,rfl,rfl,rfl,rfl,rfl,rfl,rfl⟩
theorem cl:CL9 CT:=⟨c9,rfl,rfl,fun base H=>wakes_fun rfl base H⟩
theorem ci:CI CT:=⟨rfl,rfl,rfl⟩
theorem law_true (v:V) (hu:∃ G:List (List Int),∀ H,RdRows H v (rowsV G)) (z:Int) (_:z < 2 ^ 63) (u:V) (l:List Int) (hl:∀ H,Rd H u (l.map iV)) (hw:Wide1 u) (_:l.length < 2 ^ 63) (_:∀ x∈l,x < 2 ^ 63):∃ m H',callN CT m (.fn 6 [] []) [v,.s (.int .i64 z),u] 0 []=some (bl true,H'):=by
 obtain ⟨G,hG⟩:=hu
 obtain ⟨H',h⟩:=meet_law cl ci rfl rfl rfl rfl 0 [] (Nat.le_refl _) v u G z l (hG []) (hl []) hw
 obtain ⟨m,hm⟩:=callW_ex h
 exact ⟨m,_,hm⟩
theorem f_lifted (os:Os) (started:os.Started) (H:Type) (enc:TypeId × Value→H):
 ReturnsInHanded {} Try.checked os 6 .any (Rows.domMeetSpec.pre6 enc Try.prog Try.f6 Rows.domMeetRow.domain false) (Rows.domMeetSpec.post enc Try.prog Try.f6 false true false false):=by
 refine returnsInHanded_of_change (C:=Try.checked) own started (by kernel_rfl) Try.func6
  (ChangeSpec.witness6 (enc:=enc) (C:=Try.checked) false ⟨#[],#[.slice none 0 0,.int .i64 0,.slice none 0 0],[]⟩ 8 (by kernel_rfl) (by kernel_rfl) (by kernel_rfl) (by kernel_rfl)) ?_
 intro W base args ds gs before hval0 hW hcnd _
 have hval:∀ (j:Nat) t v,Try.f6.params[j]?=some t→args[j]?=some v→Value.okWide Try.prog W .any base t v:=hval0
 have hW':=hW
 obtain ⟨p,q,hA0,hV,rfl,hfz,hnd⟩:=hW'
 have hA:DataW.TrodAll enc Try.prog W 0 (fun _=>true) true Try.f6.params.toList args.toList ds p:=hA0
 rw [Try.params6] at hA hval
 obtain ⟨v0,vs0,d0,ds0,p0,q0,ea0,ed0,ep0,h0,hA0⟩:=trodAll_cons hA
 obtain ⟨v1,vs1,d1,ds1,p1,q1,ea1,ed1,ep1,h1,hA1⟩:=trodAll_cons hA0
 obtain ⟨v2,vs2,d2,ds2,p2,q2,ea2,ed2,ep2,h2,hA2⟩:=trodAll_cons hA1
 obtain ⟨en,_,_⟩:=trodAll_nil hA2
 have ha:args=#[v0,v1,v2]:=by
  apply Array.ext'
  rw [ea0,ea1,ea2,en]
 have hok0:=hval 0 22 v0 (by simp) (by rw [ha];rfl)
 have hc0:v0.cells.toList=[v0]:=by
  unfold Value.okWide at hok0
  rw [Try.underlying22] at hok0
  cases v0 <;> first | rfl | exact False.elim hok0
 obtain ⟨us0,hvs0,hvr0⟩:=read_arg (ty:=tGraph) (n:=20) (by kernel_rfl) hc0 h0
 obtain ⟨u0,he0,hu0⟩:=garg_of hvs0
 have hok1:=hval 1 3 v1 (by simp) (by rw [ha];rfl)
 have hc1:v1.cells.toList=[v1]:=by
  unfold Value.okWide at hok1
  rw [Try.underlying3] at hok1
  cases v1 <;> first | rfl | exact False.elim hok1
 obtain ⟨us1,hvs1,hvr1⟩:=read_arg (ty:=(.int .i64)) (n:=20) (by kernel_rfl) hc1 h1
 obtain ⟨z1,he1,hz1⟩:=int_arg hvs1
 have hok2:=hval 2 25 v2 (by simp) (by rw [ha];rfl)
 have hc2:v2.cells.toList=[v2]:=by
  unfold Value.okWide at hok2
  rw [Try.underlying25] at hok2
  cases v2 <;> first | rfl | exact False.elim hok2
 obtain ⟨us2,hvs2,hvr2⟩:=read_arg (ty:=(.sl (.int .i64))) (n:=20) (by kernel_rfl) hc2 h2
 obtain ⟨u2,he2,l2,hl2,hw2,hn2,hx2⟩:=ints_arg hvs2
 refine law_contract (CP:=CT) (pure':=PXf (fun _=>none)) mixed CT_ok laidOut (by kernel_rfl) (by kernel_rfl) (tb:=4) rfl (by kernel_rfl) Try.underlying4 (fun t ht=>?_) (fun ds hl=>?_) hW ⟨[u0,.s (.int .i64 z1),u2],?_,law_true u0 hu0 z1 hz1 u2 l2 hl2 hw2 hn2 hx2⟩ (fun B o e=>by cases e)
 ·rw [Try.params6] at ht
  have:t∈[22,3,25]:=ht
  simp only [List.mem_cons,List.not_mem_nil,or_false] at this
  rcases this with rfl | rfl | rfl <;> exact of_decide_eq_true (by kernel_rfl)
 ·rw [Try.params6] at hl
  match ds,hl with
  | [e0,e1,e2],_=>rfl
 ·rw [ha]
  subst he0 he1 he2
  exact VRs.cons hvr0 (VRs.cons hvr1 (VRs.cons hvr2 (VRs.nil)))
theorem said:Rows.DomMeetSaid:=
 OpenClaim.holds_of_wide 6 Try.f6 rfl rfl rfl rfl rfl rfl rfl ⟨rfl,rfl,rfl,rfl,rfl⟩ rfl rfl rfl rfl rfl (by kernel_rfl) Try.func6 (by kernel_rfl)
  (of_decide_eq_true (by kernel_rfl)) (by unfold Func.isWrapper;first | (rw [if_pos (by decide +kernel)];kernel_rfl) | (rw [if_neg (by decide +kernel)];exact ⟨rfl,rfl⟩))
  (fun os started H enc _=>f_lifted os started H enc)
theorem meet_holds:Rows.DomMeetSaid:=said
end Go.Proofs.Ytdmnenlpdeolaaa
