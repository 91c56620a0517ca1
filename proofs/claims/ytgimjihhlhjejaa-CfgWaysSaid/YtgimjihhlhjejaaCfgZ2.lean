/- The law CfgWays of the given program answers true for every input: Succ and Pred tell the same ways, and just those that blocks have; in Loops are just the blocks from which a walk comes back. No condition. -/
import Derived.Test.YtgimjihhlhjejaaP0
import Derived.Test.YtgimjihhlhjejaaP1
import Derived.Test.YtgimjihhlhjejaaP2
import Derived.Test.YtgimjihhlhjejaaP3
import Derived.Test.YtgimjihhlhjejaaP4
import Derived.Test.YtgimjihhlhjejaaP5
import Derived.Test.YtgimjihhlhjejaaP6
set_option linter.all false
set_option maxRecDepth 100000
namespace Go.Proofs.Ytgimjihhlhjejaa
open Go.ChangeShapes Go.WideShapes Go.ChangeAt Go.RowKit Go.AM
theorem own:ownKnob Try.prog.godebug=none:=by kernel_rfl
theorem laidOut:laidOutB Try.prog=true:=by kernel_rfl
def CT:Nat→Option CFun
 | 5=>some (.code s_f5)
 | 11=>some (.prim (primC (bl true)))
 | 12=>some (.code s_f12)
 | 13=>some (.code s_f13)
 | 15=>some (.code s_f15)
 | 16=>some (.code s_f16)
 | 21=>some (.code s_f21)
 | 22=>some (.prim sortG)
 | 23=>some (.code s_f23)
 | 24=>some (.code s_f24)
 | 25=>some (.code s_f25)
 | 28=>some (.code s_f28)
 | 31=>some (.code s_f31)
 | 32=>some (.code s_f32)
 | 33=>some (.code s_f33)
 | 34=>some (.code s_f34)
 | 47=>some (.code s_f47)
 | 48=>some (.code s_f48)
 | 49=>some (.code s_f49)
 | 50=>some (.code s_f50)
 | 51=>some (.code s_f51)
 | 52=>some (.code s_f52)
 | 53=>some (.code s_f53)
 | 60=>some (.code s_f60)
 | 61=>some (.code s_f61)
 | 62=>some (.code s_f62)
 | 65=>some (.code s_f65)
 | _=>none
theorem CT_ok:∀ k c,CT k=some c→FunOk Try.prog (PXf (fun _=>none)) k c:=by
 intro k c h
 unfold CT at h
 split at h
 ·cases h;exact funOk_f (fun _=>none) GA6_5
 ·cases h;exact tells_prim
 ·cases h;exact funOk_f (fun _=>none) GA2_12
 ·cases h;exact funOk_f (fun _=>none) GA2_13
 ·cases h;exact funOk_f (fun _=>none) GA5_15
 ·cases h;exact funOk_f (fun _=>none) GA6_16
 ·cases h;exact funOk_f (fun _=>none) GA2_21
 ·cases h;exact sort_prim
 ·cases h;exact funOk_f (fun _=>none) GA1_23
 ·cases h;exact funOk_f (fun _=>none) GA1_24
 ·cases h;exact funOk_f (fun _=>none) GA5_25
 ·cases h;exact funOk_f (fun _=>none) GA2_28
 ·cases h;exact funOk_f (fun _=>none) GA1_31
 ·cases h;exact funOk_f (fun _=>none) GA5_32
 ·cases h;exact funOk_f (fun _=>none) GA5_33
 ·cases h;exact funOk_f (fun _=>none) GA5_34
 ·cases h;exact funOk_f (fun _=>none) GA1_47
 ·cases h;exact funOk_f (fun _=>none) GA1_48
 ·cases h;exact funOk_f (fun _=>none) GA1_49
 ·cases h;exact funOk_f (fun _=>none) GA5_50
 ·cases h;exact funOk_f (fun _=>none) GA5_51
 ·cases h;exact funOk_f (fun _=>none) GA5_52
 ·cases h;exact funOk_f (fun _=>none) GA5_53
 ·cases h;exact funOk_f (fun _=>none) GA1_60
 ·cases h;exact funOk_f (fun _=>none) GA5_61
 ·cases h;exact funOk_f (fun _=>none) GA5_62
 ·cases h;exact funOk_f (fun _=>none) GA5_65
 ·cases h
theorem cg:CG CT:=⟨rfl,rfl,rfl,rfl,rfl,rfl,rfl,rfl⟩
theorem co:CO CT:=⟨cg,rfl,rfl,rfl⟩
theorem cz:CZ CT:=⟨co,⟨⟨cg,rfl,rfl,rfl,rfl,rfl,rfl,rfl,rfl⟩,rfl,rfl,rfl⟩,rfl⟩
theorem law_true (u:V) (hu:∃ (nm:ByteArray) (pv bv:V) (bs:List BlkD),u=.agg (fnC nm pv bv)∧pv.one=true∧(∀ H,RdBlks H bv bs)∧∀ b∈bs,b.n=0→b.labs=[]):∃ m H',callN CT m (.fn 5 [] []) [u] 0 []=some (bl true,H'):=by
 obtain ⟨nm,pv,bv,bs,rfl,h1,h2,h3⟩:=hu
 obtain ⟨H',h⟩:=ways_law cz rfl rfl rfl (fun base H=>tells_fun rfl base H) 0 [] (Nat.le_refl _) h1 (h2 []) h3
 obtain ⟨m,hm⟩:=callW_ex h
 exact ⟨m,_,hm⟩
theorem f_lifted (os:Os) (started:os.Started) (H:Type) (enc:TypeId × Value→H):
 ReturnsInHanded {} Try.checked os 5 .any (Rows.cfgWaysSpec.pre6 enc Try.prog Try.f5 Rows.cfgWaysRow.domain false) (Rows.cfgWaysSpec.post enc Try.prog Try.f5 false true false false):=by
 refine returnsInHanded_of_change (C:=Try.checked) own started (by kernel_rfl) Try.func5
  (ChangeSpec.witness6 (enc:=enc) (C:=Try.checked) false ⟨#[],#[.agg #[.string ⟨#[]⟩,.slice none 0 0,.slice none 0 0]],[]⟩ 8 (by kernel_rfl) (by kernel_rfl) (by kernel_rfl) (by kernel_rfl)) ?_
 intro W base args ds gs before hval0 hW hcnd _
 have hval:∀ (j:Nat) t v,Try.f5.params[j]?=some t→args[j]?=some v→Value.okWide Try.prog W .any base t v:=hval0
 have hW':=hW
 obtain ⟨p,q,hA0,hV,rfl,hfz,hnd⟩:=hW'
 have hA:DataW.TrodAll enc Try.prog W 0 (fun _=>true) true Try.f5.params.toList args.toList ds p:=hA0
 rw [Try.params5] at hA hval
 obtain ⟨v0,vs0,d0,ds0,p0,q0,ea0,ed0,ep0,h0,hA0⟩:=trodAll_cons hA
 obtain ⟨en,_,_⟩:=trodAll_nil hA0
 have ha:args=#[v0]:=by
  apply Array.ext'
  rw [ea0,en]
 have hok0:=hval 0 32 v0 (by simp) (by rw [ha];rfl)
 have hc0:∃ vs,v0=.agg vs:=by
  unfold Value.okWide at hok0
  rw [Try.underlying32] at hok0
  obtain ⟨cs,rfl,_⟩:=hok0
  exact ⟨cs,rfl⟩
 obtain ⟨us0,hvs0,hvr0⟩:=read_arg (ty:=tFunc) (n:=20) (by kernel_rfl) hc0 h0
 obtain ⟨u0,he0,hu0⟩:=func_of hvs0
 refine law_contract (CP:=CT) (pure':=PXf (fun _=>none)) mixed CT_ok laidOut (by kernel_rfl) (by kernel_rfl) (tb:=4) rfl (by kernel_rfl) Try.underlying4 (fun t ht=>?_) (fun ds hl=>?_) hW ⟨[u0],?_,law_true u0 hu0⟩ (fun B o e=>by cases e)
 ·rw [Try.params5] at ht
  have:t∈[32]:=ht
  simp only [List.mem_cons,List.not_mem_nil,or_false] at this
  rcases this with rfl <;> exact of_decide_eq_true (by kernel_rfl)
 ·rw [Try.params5] at hl
  match ds,hl with
  | [e0],_=>rfl
 ·rw [ha]
  subst he0
  exact VRs.cons hvr0 (VRs.nil)
theorem said:Rows.CfgWaysSaid:=
 OpenClaim.holds_of_wide 5 Try.f5 rfl rfl rfl rfl rfl rfl rfl ⟨rfl,rfl,rfl,rfl,rfl⟩ rfl rfl rfl rfl rfl (by kernel_rfl) Try.func5 (by kernel_rfl)
  (of_decide_eq_true (by kernel_rfl)) (by unfold Func.isWrapper;first | (rw [if_pos (by decide +kernel)];kernel_rfl) | (rw [if_neg (by decide +kernel)];exact ⟨rfl,rfl⟩))
  (fun os started H enc _=>f_lifted os started H enc)
theorem ways_holds:Rows.CfgWaysSaid:=said
end Go.Proofs.Ytgimjihhlhjejaa
