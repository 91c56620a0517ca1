/- The law NamesRenamed of the given program answers true for every input: what variables are called plays no part: with a letter more ahead of each the same rule is broken at the same point. No condition. -/
import Derived.Test.YtamlbkalopefgaaRP0
import Derived.Test.YtamlbkalopefgaaRP1
import Derived.Test.YtamlbkalopefgaaRP2
import Derived.Test.YtamlbkalopefgaaRP3
import Derived.Test.YtamlbkalopefgaaRP4
import Derived.Test.YtamlbkalopefgaaRP5
import Derived.Test.YtamlbkalopefgaaRP6
set_option linter.all false
set_option maxRecDepth 100000
namespace Go.Proofs.YtamlbkalopefgaaR
open Go.ChangeShapes Go.WideShapes Go.ChangeAt Go.RowKit Go.AM
theorem own:ownKnob Try.prog.godebug=none:=by kernel_rfl
theorem laidOut:laidOutB Try.prog=true:=by kernel_rfl
def CT:Nat→Option CFun
 | 6=>some (.code s_f6)
 | 7=>some (.code s_f7)
 | 9=>some (.code s_f9)
 | 10=>some (.code s_f10)
 | 11=>some (.code s_f11)
 | 12=>some (.code s_f12)
 | 18=>some (.code s_f18)
 | 19=>some (.code s_f19)
 | 20=>some (.code s_f20)
 | 21=>some (.code s_f21)
 | 22=>some (.code s_f22)
 | 23=>some (.code s_f23)
 | 24=>some (.code s_f24)
 | 25=>some (.code s_f25)
 | 26=>some (.code s_f26)
 | 27=>some (.code s_f27)
 | 28=>some (.code s_f28)
 | 29=>some (.code s_f29)
 | 30=>some (.code s_f30)
 | 31=>some (.code s_f31)
 | 32=>some (.code s_f32)
 | 33=>some (.code s_f33)
 | 34=>some (.code s_f34)
 | 35=>some (.code s_f35)
 | 36=>some (.code s_f36)
 | 37=>some (.code s_f37)
 | 38=>some (.code s_f38)
 | 39=>some (.code s_f39)
 | 40=>some (.code s_f40)
 | 41=>some (.code s_f41)
 | 42=>some (.code s_f42)
 | 43=>some (.code s_f43)
 | 44=>some (.code s_f44)
 | 45=>some (.code s_f45)
 | 46=>some (.code s_f46)
 | 47=>some (.code s_f47)
 | 48=>some (.code s_f48)
 | 49=>some (.code s_f49)
 | 50=>some (.code s_f50)
 | 51=>some (.code s_f51)
 | 52=>some (.code s_f52)
 | 53=>some (.code s_f53)
 | 54=>some (.code s_f54)
 | 55=>some (.code s_f55)
 | 56=>some (.code s_f56)
 | 57=>some (.code s_f57)
 | 58=>some (.code s_f58)
 | 59=>some (.code s_f59)
 | 60=>some (.code s_f60)
 | 61=>some (.code s_f61)
 | 62=>some (.code s_f62)
 | 63=>some (.code s_f63)
 | 64=>some (.code s_f64)
 | 65=>some (.code s_f65)
 | 66=>some (.code s_f66)
 | 67=>some (.code s_f67)
 | 68=>some (.code s_f68)
 | 69=>some (.code s_f69)
 | 70=>some (.code s_f70)
 | _=>none
theorem CT_ok:∀ k c,CT k=some c→FunOk Try.prog (PXf (fun _=>none)) k c:=by
 intro k c h
 unfold CT at h
 split at h
 ·cases h;exact funOk_f (fun _=>none) NA6_6
 ·cases h;exact funOk_f (fun _=>none) NA1_7
 ·cases h;exact funOk_f (fun _=>none) NA7_9
 ·cases h;exact funOk_f (fun _=>none) NA1_10
 ·cases h;exact funOk_f (fun _=>none) NA3_11
 ·cases h;exact funOk_f (fun _=>none) NA3_12
 ·cases h;exact funOk_f (fun _=>none) NA6_18
 ·cases h;exact funOk_f (fun _=>none) NA6_19
 ·cases h;exact funOk_f (fun _=>none) NA1_20
 ·cases h;exact funOk_f (fun _=>none) NA1_21
 ·cases h;exact funOk_f (fun _=>none) NA1_22
 ·cases h;exact funOk_f (fun _=>none) NA2_23
 ·cases h;exact funOk_f (fun _=>none) NA1_24
 ·cases h;exact funOk_f (fun _=>none) NA1_25
 ·cases h;exact funOk_f (fun _=>none) NA1_26
 ·cases h;exact funOk_f (fun _=>none) NA1_27
 ·cases h;exact funOk_f (fun _=>none) NA1_28
 ·cases h;exact funOk_f (fun _=>none) NA1_29
 ·cases h;exact funOk_f (fun _=>none) NA2_30
 ·cases h;exact funOk_f (fun _=>none) NA1_31
 ·cases h;exact funOk_f (fun _=>none) NA1_32
 ·cases h;exact funOk_f (fun _=>none) NA1_33
 ·cases h;exact funOk_f (fun _=>none) NA1_34
 ·cases h;exact funOk_f (fun _=>none) NA1_35
 ·cases h;exact funOk_f (fun _=>none) NA1_36
 ·cases h;exact funOk_f (fun _=>none) NA1_37
 ·cases h;exact funOk_f (fun _=>none) NA6_38
 ·cases h;exact funOk_f (fun _=>none) NA2_39
 ·cases h;exact funOk_f (fun _=>none) NA2_40
 ·cases h;exact funOk_f (fun _=>none) NA2_41
 ·cases h;exact funOk_f (fun _=>none) NA2_42
 ·cases h;exact funOk_f (fun _=>none) NA2_43
 ·cases h;exact funOk_f (fun _=>none) NA2_44
 ·cases h;exact funOk_f (fun _=>none) NA2_45
 ·cases h;exact funOk_f (fun _=>none) NA2_46
 ·cases h;exact funOk_f (fun _=>none) NA2_47
 ·cases h;exact funOk_f (fun _=>none) NA2_48
 ·cases h;exact funOk_f (fun _=>none) NA2_49
 ·cases h;exact funOk_f (fun _=>none) NA2_50
 ·cases h;exact funOk_f (fun _=>none) NA2_51
 ·cases h;exact funOk_f (fun _=>none) NA2_52
 ·cases h;exact funOk_f (fun _=>none) NA2_53
 ·cases h;exact funOk_f (fun _=>none) NA2_54
 ·cases h;exact funOk_f (fun _=>none) NA3_55
 ·cases h;exact funOk_f (fun _=>none) NA3_56
 ·cases h;exact funOk_f (fun _=>none) NA3_57
 ·cases h;exact funOk_f (fun _=>none) NA3_58
 ·cases h;exact funOk_f (fun _=>none) NA3_59
 ·cases h;exact funOk_f (fun _=>none) NA3_60
 ·cases h;exact funOk_f (fun _=>none) NA3_61
 ·cases h;exact funOk_f (fun _=>none) NA3_62
 ·cases h;exact funOk_f (fun _=>none) NA3_63
 ·cases h;exact funOk_f (fun _=>none) NA3_64
 ·cases h;exact funOk_f (fun _=>none) NA3_65
 ·cases h;exact funOk_f (fun _=>none) NA3_66
 ·cases h;exact funOk_f (fun _=>none) NA3_67
 ·cases h;exact funOk_f (fun _=>none) NA3_68
 ·cases h;exact funOk_f (fun _=>none) NA3_69
 ·cases h;exact funOk_f (fun _=>none) NA3_70
 ·cases h
theorem tf:FindT CT:=by constructor <;> rfl
theorem tb:BadT CT:=by constructor <;> rfl
theorem tn:ConT CT:=by constructor <;> rfl
theorem tr:RulT CT:=by constructor <;> first | exact tf | exact tb | exact tn | rfl
theorem tl:LawT CT:=⟨tr,rfl,rfl,rfl,rfl,rfl⟩
theorem law_true (u0:V) (hu0:∃ (fv:V) (fs:List FunD),u0=.agg [fv]∧∀ H,RdProg H fv fs):∃ m H',callN CT m (.fn 6 [] []) [u0] 0 []=some (bl true,H'):=by
 obtain ⟨fv,fs,rfl,h1⟩:=hu0
 obtain ⟨H',h⟩:=renamed_law tl rfl rfl rfl rfl 0 (A:=[]) (Nat.le_refl _) (h1 [])
 obtain ⟨m,hm⟩:=callW_ex h
 exact ⟨m,_,hm⟩
theorem f_lifted (os:Os) (started:os.Started) (H:Type) (enc:TypeId × Value→H):
 ReturnsInHanded {} Try.checked os 6 .any (Rows.namesRenamedSpec.pre6 enc Try.prog Try.f6 Rows.namesRenamedRow.domain false) (Rows.namesRenamedSpec.post enc Try.prog Try.f6 false true false false):=by
 refine returnsInHanded_of_change (C:=Try.checked) own started (by kernel_rfl) Try.func6
  (ChangeSpec.witness6 (enc:=enc) (C:=Try.checked) false ⟨#[],#[.agg #[.slice none 0 0]],[]⟩ 8 (by kernel_rfl) (by kernel_rfl) (by kernel_rfl) (by kernel_rfl)) ?_
 intro W base args ds gs before hval0 hW hcnd _
 have hval:∀ (j:Nat) t v,Try.f6.params[j]?=some t→args[j]?=some v→Value.okWide Try.prog W .any base t v:=hval0
 have hW':=hW
 obtain ⟨p,q,hA0,hV,rfl,hfz,hnd⟩:=hW'
 have hA:DataW.TrodAll enc Try.prog W 0 (fun _=>true) true Try.f6.params.toList args.toList ds p:=hA0
 rw [Try.params6] at hA hval
 obtain ⟨v0,vs0,d0,ds0,p0,q0,ea0,ed0,ep0,h0,hA0⟩:=trodAll_cons hA
 obtain ⟨en,_,_⟩:=trodAll_nil hA0
 have ha:args=#[v0]:=by
  apply Array.ext'
  rw [ea0,en]
 have hok0:=hval 0 26 v0 (by simp) (by rw [ha];rfl)
 have hc0:∃ vs,v0=.agg vs:=by
  unfold Value.okWide at hok0
  rw [Try.underlying26] at hok0
  obtain ⟨cs,rfl,_⟩:=hok0
  exact ⟨cs,rfl⟩
 obtain ⟨us0,hvs0,hvr0⟩:=read_arg (ty:=tProg) (n:=40) (by kernel_rfl) hc0 h0
 obtain ⟨u0,he0,hu0⟩:=prog_of hvs0
 refine law_contract (CP:=CT) (pure':=PXf (fun _=>none)) mixed CT_ok laidOut (by kernel_rfl) (by kernel_rfl) (tb:=4) rfl (by kernel_rfl) Try.underlying4 (fun t ht=>?_) (fun ds hl=>?_) hW ⟨[u0],?_,law_true u0 hu0⟩ (fun B o e=>by cases e)
 ·rw [Try.params6] at ht
  have:t∈[26]:=ht
  simp only [List.mem_cons,List.not_mem_nil,or_false] at this
  rcases this with rfl <;> exact of_decide_eq_true (by kernel_rfl)
 ·rw [Try.params6] at hl
  match ds,hl with
  | [e0],_=>rfl
 ·rw [ha]
  subst he0
  exact VRs.cons hvr0 (VRs.nil)
theorem said:Rows.NamesRenamedSaid:=
 OpenClaim.holds_of_wide 6 Try.f6 rfl rfl rfl rfl rfl rfl rfl ⟨rfl,rfl,rfl,rfl,rfl⟩ rfl rfl rfl rfl rfl (by kernel_rfl) Try.func6 (by kernel_rfl)
  (of_decide_eq_true (by kernel_rfl)) (by unfold Func.isWrapper;first | (rw [if_pos (by decide +kernel)];kernel_rfl) | (rw [if_neg (by decide +kernel)];exact ⟨rfl,rfl⟩))
  (fun os started H enc _=>f_lifted os started H enc)
theorem renamed_holds:Rows.NamesRenamedSaid:=said
end Go.Proofs.YtamlbkalopefgaaR
