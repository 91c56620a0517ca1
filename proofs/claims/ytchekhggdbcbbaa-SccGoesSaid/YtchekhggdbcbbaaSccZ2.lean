/- The law SccGoes of the given program answers true for every graph: in the order of components every edge goes on. No condition. -/
import Derived.Test.YtchekhggdbcbbaaP0
import Derived.Test.YtchekhggdbcbbaaP1
import Derived.Test.YtchekhggdbcbbaaP2
import Derived.Test.YtchekhggdbcbbaaP3
import Derived.Test.YtchekhggdbcbbaaP4
import Derived.Test.YtchekhggdbcbbaaP5
import Derived.Test.YtchekhggdbcbbaaP6
set_option linter.all false
set_option maxRecDepth 100000
namespace Go.Proofs.Ytchekhggdbcbbaa
open Go.ChangeShapes Go.WideShapes Go.ChangeAt Go.RowKit Go.AM
theorem own:ownKnob Try.prog.godebug=none:=by kernel_rfl
theorem laidOut:laidOutB Try.prog=true:=by kernel_rfl
def CT:Nat→Option CFun
 | 4=>some (.code s_f4)
 | 8=>some (.code s_f8)
 | 9=>some (.prim (primC (bl true)))
 | 10=>some (.code s_f10)
 | 11=>some (.code s_f11)
 | 12=>some (.code s_f12)
 | 13=>some (.code s_f13)
 | 14=>some (.code s_f14)
 | 15=>some (.code s_f15)
 | 16=>some (.code s_f16)
 | 17=>some (.code s_f17)
 | 18=>some (.code s_f18)
 | 19=>some (.code s_f19)
 | 20=>some (.code s_f20)
 | 21=>some (.code s_f21)
 | 22=>some (.code s_f22)
 | 23=>some (.code s_f23)
 | 25=>some (.code s_f25)
 | 26=>some (.code s_f26)
 | 27=>some (.code s_f27)
 | 28=>some (.code s_f28)
 | 29=>some (.code s_f29)
 | 30=>some (.code s_f30)
 | 31=>some (.code s_f31)
 | 32=>some (.code s_f32)
 | 33=>some (.code s_f33)
 | 34=>some (.code s_f34)
 | 35=>some (.code s_f35)
 | 36=>some (.code s_f36)
 | 37=>some (.code s_f37)
 | 38=>some (.code s_f38)
 | 39=>some (.code s_f39)
 | 40=>some (.prim sortG)
 | 41=>some (.code s_f41)
 | 42=>some (.code s_f42)
 | 43=>some (.code s_f43)
 | 44=>some (.code s_f44)
 | 45=>some (.code s_f45)
 | 48=>some (.code s_f48)
 | 50=>some (.code s_f50)
 | _=>none
theorem CT_ok:∀ k c,CT k=some c→FunOk Try.prog (PXf (fun _=>none)) k c:=by
 intro k c h
 unfold CT at h
 split at h
 ·cases h;exact funOk_f (fun _=>none) SA7_4
 ·cases h;exact funOk_f (fun _=>none) SA2_8
 ·cases h;exact wakes_prim
 ·cases h;exact funOk_f (fun _=>none) SA4_10
 ·cases h;exact funOk_f (fun _=>none) SA1_11
 ·cases h;exact funOk_f (fun _=>none) SA5_12
 ·cases h;exact funOk_f (fun _=>none) SA4_13
 ·cases h;exact funOk_f (fun _=>none) SA2_14
 ·cases h;exact funOk_f (fun _=>none) SA5_15
 ·cases h;exact funOk_f (fun _=>none) SA4_16
 ·cases h;exact funOk_f (fun _=>none) SA6_17
 ·cases h;exact funOk_f (fun _=>none) SA5_18
 ·cases h;exact funOk_f (fun _=>none) SA6_19
 ·cases h;exact funOk_f (fun _=>none) SA5_20
 ·cases h;exact funOk_f (fun _=>none) SA3_21
 ·cases h;exact funOk_f (fun _=>none) SA3_22
 ·cases h;exact funOk_f (fun _=>none) SA3_23
 ·cases h;exact funOk_f (fun _=>none) SA1_25
 ·cases h;exact funOk_f (fun _=>none) SA1_26
 ·cases h;exact funOk_f (fun _=>none) SA1_27
 ·cases h;exact funOk_f (fun _=>none) SA4_28
 ·cases h;exact funOk_f (fun _=>none) SA2_29
 ·cases h;exact funOk_f (fun _=>none) SA2_30
 ·cases h;exact funOk_f (fun _=>none) SA4_31
 ·cases h;exact funOk_f (fun _=>none) SA4_32
 ·cases h;exact funOk_f (fun _=>none) SA4_33
 ·cases h;exact funOk_f (fun _=>none) SA6_34
 ·cases h;exact funOk_f (fun _=>none) SA1_35
 ·cases h;exact funOk_f (fun _=>none) SA4_36
 ·cases h;exact funOk_f (fun _=>none) SA3_37
 ·cases h;exact funOk_f (fun _=>none) SA3_38
 ·cases h;exact funOk_f (fun _=>none) SA3_39
 ·cases h;exact sort_prim
 ·cases h;exact funOk_f (fun _=>none) SA3_41
 ·cases h;exact funOk_f (fun _=>none) SA3_42
 ·cases h;exact funOk_f (fun _=>none) SA1_43
 ·cases h;exact funOk_f (fun _=>none) SA1_44
 ·cases h;exact funOk_f (fun _=>none) SA3_45
 ·cases h;exact funOk_f (fun _=>none) SA3_48
 ·cases h;exact funOk_f (fun _=>none) SA1_50
 ·cases h
theorem cg:CG CT:=⟨rfl,rfl,rfl,rfl,rfl,rfl,rfl,rfl⟩
theorem cc:CC CT:=⟨cg,rfl,rfl,rfl,rfl,rfl,rfl,rfl,rfl⟩
theorem cf:CF CT:=⟨⟨⟨cc,rfl,rfl,rfl⟩,rfl⟩,rfl,rfl⟩
theorem cl:CL CT:=⟨cf,rfl,fun base H=>wakes_fun rfl base H,rfl⟩
theorem law_true (v:V) (hu:∃ G:List (List Int),∀ H,RdRows H v (rowsV G)):∃ m H',callN CT m (.fn 4 [] []) [v] 0 []=some (bl true,H'):=by
 obtain ⟨G,hG⟩:=hu
 obtain ⟨H',h⟩:=goes_law cl rfl 0 [] (Nat.le_refl _) v G (hG [])
 obtain ⟨m,hm⟩:=callW_ex h
 exact ⟨m,_,hm⟩
theorem f_lifted (os:Os) (started:os.Started) (H:Type) (enc:TypeId × Value→H):
 ReturnsInHanded {} Try.checked os 4 .any (Rows.sccGoesSpec.pre6 enc Try.prog Try.f4 Rows.sccGoesRow.domain false) (Rows.sccGoesSpec.post enc Try.prog Try.f4 false true false false):=by
 refine returnsInHanded_of_change (C:=Try.checked) own started (by kernel_rfl) Try.func4
  (ChangeSpec.witness6 (enc:=enc) (C:=Try.checked) false ⟨#[],#[.slice none 0 0],[]⟩ 8 (by kernel_rfl) (by kernel_rfl) (by kernel_rfl) (by kernel_rfl)) ?_
 intro W base args ds gs before hval0 hW hcnd _
 have hval:∀ (j:Nat) t v,Try.f4.params[j]?=some t→args[j]?=some v→Value.okWide Try.prog W .any base t v:=hval0
 have hW':=hW
 obtain ⟨p,q,hA0,hV,rfl,hfz,hnd⟩:=hW'
 have hA:DataW.TrodAll enc Try.prog W 0 (fun _=>true) true Try.f4.params.toList args.toList ds p:=hA0
 rw [Try.params4] at hA hval
 obtain ⟨v0,vs0,d0,ds0,p0,q0,ea0,ed0,ep0,h0,hA0⟩:=trodAll_cons hA
 obtain ⟨en,_,_⟩:=trodAll_nil hA0
 have ha:args=#[v0]:=by
  apply Array.ext'
  rw [ea0,en]
 have hok0:=hval 0 22 v0 (by simp) (by rw [ha];rfl)
 have hc0:v0.cells.toList=[v0]:=by
  unfold Value.okWide at hok0
  rw [Try.underlying22] at hok0
  cases v0 <;> first | rfl | exact False.elim hok0
 obtain ⟨us0,hvs0,hvr0⟩:=read_arg (ty:=tGraph) (n:=20) (by kernel_rfl) hc0 h0
 obtain ⟨u0,he0,hu0⟩:=garg_of hvs0
 refine law_contract (CP:=CT) (pure':=PXf (fun _=>none)) mixed CT_ok laidOut (by kernel_rfl) (by kernel_rfl) (tb:=4) rfl (by kernel_rfl) Try.underlying4 (fun t ht=>?_) (fun ds hl=>?_) hW ⟨[u0],?_,law_true u0 hu0⟩ (fun B o e=>by cases e)
 ·rw [Try.params4] at ht
  have:t∈[22]:=ht
  simp only [List.mem_cons,List.not_mem_nil,or_false] at this
  rcases this with rfl <;> exact of_decide_eq_true (by kernel_rfl)
 ·rw [Try.params4] at hl
  match ds,hl with
  | [e0],_=>rfl
 ·rw [ha]
  subst he0
  exact VRs.cons hvr0 (VRs.nil)
theorem said:Rows.SccGoesSaid:=
 OpenClaim.holds_of_wide 4 Try.f4 rfl rfl rfl rfl rfl rfl rfl ⟨rfl,rfl,rfl,rfl,rfl⟩ rfl rfl rfl rfl rfl (by kernel_rfl) Try.func4 (by kernel_rfl)
  (of_decide_eq_true (by kernel_rfl)) (by unfold Func.isWrapper;first | (rw [if_pos (by decide +kernel)];kernel_rfl) | (rw [if_neg (by decide +kernel)];exact ⟨rfl,rfl⟩))
  (fun os started H enc _=>f_lifted os started H enc)
theorem goes_holds:Rows.SccGoesSaid:=said
end Go.Proofs.Ytchekhggdbcbbaa
